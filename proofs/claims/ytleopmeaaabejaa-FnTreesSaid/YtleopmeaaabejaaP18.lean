/-
  The wrap of a row that lists variables, with the world's shape handed on; the library's variable MaxLen holds some integer. No condition.
  TagOf of both in one word; marks of one token; the walk of the law of TagOf. Condition: the library's MaxLen holds some integer.
  Contract of FeedText of the reference. Condition: strings of at most 2^30 bytes.
  The walk of the generated law of the function EndText. No condition.
  The walk of the generated law of the function FeedText. Condition: the library's MaxLen holds some integer.
-/
import Derived.Test.YtleopmeaaabejaaRows
import Derived.HandedShaped
import Derived.Shelf.Vars
import Derived.LaidHandle
import Derived.KernelRfl
import Derived.Below
import Derived.Lib.Strings
import Derived.Lib.Walk
import Derived.Lib.Bytealg
import Derived.Deep.RegionWith
import Derived.Test.YtleopmeaaabejaaP17
import Derived.Test.YtleopmeaaabejaaP15
import Derived.Test.YtleopmeaaabejaaP08
import Derived.Test.YtleopmeaaabejaaP01
import Derived.Test.YtleopmeaaabejaaP16
import Derived.Test.YtleopmeaaabejaaP05
import Derived.Deep.RegionHeld3
namespace Go.Proofs.Ytleopmeaaabejaa
set_option linter.unusedVariables false
set_option maxRecDepth 100000
open Go.RowKit
section
variable {H : Type} {enc : TypeId × Value → H}
theorem handed_shaped_and {a : Assume} {C : Checked} {os : Os} {f : FuncId} {fn : Func} {s : ChangeSpec} {conds : List PathCond} {apart fresh handsOn again : Bool} {X : World → Array Value → Prop}
    (hX : ∀ (w w' : World) (args : Array Value), w.heap = w'.heap → X w args → X w' args)
    (own : ownKnob C.prog.godebug = none) (started : os.Started) (noInit : C.prog.inits.idxOf? f = none) (hfn : C.prog.funcs[f]? = some fn)
    (witness : ∃ (w : World) (tape : Tape) (i : Input), w.os = os ∧ (w.forCall tape i).Shaped C.prog ∧ i.vars = [] ∧ Input.okWide C.prog (w.forCall tape i) .any w.heap.size f i ∧
      ((s.pre enc C.prog fn conds apart (w.forCall tape i).memory i.args ∧ X (w.forCall tape i).memory i.args) ∧ sizedMet enc C.prog fn (OpenSpec.ofChange s) apart (w.forCall tape i).memory i.args) ∧ a.holds C.prog (lone (Frame.enter C.prog f i.args .normal) [] (w.forCall tape i)))
    (contract : ∀ (W : World) (base : Nat) (args : Array Value) (ds gs : List (DataW H)) (before : List MemPlace),
      (∀ (j : Nat) t v, fn.params[j]? = some t → args[j]? = some v → Value.okWide C.prog W .any base t v) →
      DataW.Whole enc C.prog fn.params.toList s.vars apart W args.toList ds gs before →
      conds.all (PathCond.test C.prog ⟨fn.params.toList, ds, s.plain.varTypes C.prog, gs⟩) = true →
      X W args → W.ShapedOpen C.prog →
      Calls C.prog f args W fun e W' => ∃ v, e = .returned v ∧ s.post enc C.prog fn apart fresh handsOn again W args v W') :
    ReturnsInHanded a C os f .any (fun w args => (s.pre enc C.prog fn conds apart w args ∧ X w args) ∧ sizedMet enc C.prog fn (OpenSpec.ofChange s) apart w args) (s.post enc C.prog fn apart fresh handsOn again) := by
  refine returnsInHanded_of_calls own started noInit witness ?_
  rintro w tape i - hsh - ⟨_, _, _, fn', hfn', _, _, _, _, hval⟩ ⟨⟨⟨ds, gs, before, hw, hc⟩, hx⟩, hz⟩ -
  obtain rfl := Option.some.inj (hfn'.symm.trans hfn)
  refine (contract (w.forCall tape i) w.heap.size i.args ds gs before hval (DataW.Whole.of_heap (by rfl) hw) hc (hX _ _ _ (by rfl) hx) hsh).mono ?_
  rintro e W' ⟨v, rfl, hp⟩
  exact ChangeSpec.post_blind hp
end
end Go.Proofs.Ytleopmeaaabejaa

namespace Go.Proofs.Ytleopmeaaabejaa
set_option linter.unusedVariables false
set_option linter.unusedSimpArgs false
set_option maxRecDepth 100000
open Go.ChangeShapes Go.WideShapes Go.ChangeAt Go.RowKit Go.Deep

theorem BoxAt.keep {S : Nat → Prop} {w w' : World} {g : Nat} {vs : List Value} {t : TypeId} (h : BoxAt w g vs t) (hb : Keeps S w w') (hs : ¬ S g) : BoxAt w' g vs t := (hb.block g h.lt hs).trans h
theorem tagOf_spec (w : World) (s : ByteArray) (hs : s.size ≤ 1073741824) : Calls Try.prog 77 #[.string s] w (GotTag w 104 (tagT s)) := by
  by_cases h1 : 60 < s.size
  · exact tagOf_spec_long w s hs h1
  · cases h2 : slashB s
    · exact tagOf_spec_open w s (by omega) h2
    · refine tagOf_spec_slash w s (by omega) ?_ h2
      rcases Nat.eq_zero_or_pos s.size with h3 | h3
      · rw [slashB_nil h3] at h2; cases h2
      · exact h3
end Go.Proofs.Ytleopmeaaabejaa

namespace Go.Proofs.Ytleopmeaaabejaa
set_option linter.unusedVariables false
set_option linter.unusedSimpArgs false
set_option maxRecDepth 100000
open Go.ChangeShapes Go.WideShapes Go.ChangeAt Go.RowKit Go.Deep

set_option maxHeartbeats 400000 in
theorem l5Index_any (w : World) (s : ByteArray) (c : UInt8) (hs : s.size ≤ 1073741824) : Calls Try.prog 76 #[.string s, .int .u8 c.toNat] w fun e w' => e = .returned (.int .i64 (ixS s c)) ∧ w = w' := by
  go_enter Try.func76, Try.ntmps76
  go_wp2
  go_loop [5] (fun i => ∃ k : Nat, k ≤ s.size ∧ i = .int .i64 k ∧ Hid (∀ j (hj : j < s.size), j < k → s[j] ≠ c)) (fun i => s.size - (intOf i).toNat)
  case atStart => exact ⟨0, Nat.zero_le _, rfl, fun _ _ h => absurd h (by omega)⟩
  case round =>
    obtain ⟨k, hk, rfl, hno⟩ := hrel
    by_cases hlt : k < s.size
    · have hltI : (k : Int) < (s.size : Int) := by omega
      by_cases hc : s[k] = c
      · have hcI := byte_eq hc
        have hr : Hid (ixS s c = k) := by
          have h1 := ixB_at hlt hc fun j hj => hno.out j (by omega) hj
          show _ = _
          unfold ixS
          rw [h1, if_neg (by omega)]
        clear hno hc
        go_wp2
        go_ret
        exact ⟨ret_int hr.out.symm, rfl⟩
      · have hcI := byte_ne hc
        have hn : Hid (∀ j (hj : j < s.size), j < k + 1 → s[j] ≠ c) := fun j hj h => by
          by_cases e : j = k
          · subst e; exact hc
          · exact hno.out j hj (by omega)
        clear hno hc
        go_wp2
        go_round
        case rel => exact ⟨k + 1, by omega, by go_num, hn⟩
        case measure => simp [intOf]; omega
    · obtain rfl : k = s.size := by omega
      have hr : Hid (ixS s c = s.size) := by
        have h1 := ixB_none fun i hi => hno.out i hi hi
        show _ = _
        unfold ixS
        rw [h1, if_pos rfl]
      clear hno
      go_wp2
      go_ret
      exact ⟨ret_int hr.out.symm, rfl⟩
theorem Reads.four4 (w : World) (a b c d : Value) (t : TypeId) : Reads (w.alloc (.cells #[a, b, c, d] t)) (w.heap.size + 1) 4 (some ⟨w.heap.size, 0, none⟩) 1 [a, b, c, d] := by
  refine ⟨rfl, fun _ => ⟨_, rfl, by simp, fun j x hx => ?_⟩⟩
  have hadd : (⟨w.heap.size, 0, none⟩ : Addr).add j = ⟨w.heap.size, j, none⟩ := by unfold Addr.add; split <;> simp_all
  rw [hadd, World.cell?_alloc_at _ _ _ _ rfl]
  simpa using hx
def GotFeed (w : World) (e ek : TypeId) (r1 : List Tok × ByteArray) (r : Ending) (w' : World) : Prop :=
  ∃ A c L, r = .returned (.tuple #[.slice A r1.1.length c, .agg #[.string r1.2]]) ∧ L.map (·.1) = r1.1 ∧ OwnN tokN w' w.heap.size w'.heap.size e ek A r1.1.length c L ∧ Below w.heap.size w w'
theorem GotFeed.of {w w' : World} {e ek : TypeId} {x0 y : ByteArray} {L : List (Tok × Hd)} {A : Option Addr} {c lo : Nat} (hf : feed x0 = (L.map (·.1), y)) (ho : OwnN tokN w' lo w'.heap.size e ek A L.length c L) (hlo : w.heap.size ≤ lo) (hb : Below w.heap.size w w') :
    GotFeed w e ek (feed x0) (.returned (.tuple #[.slice A L.length c, .agg #[.string y]])) w' := by
  rw [hf]
  exact ⟨A, c, L, by simp, rfl, by simpa using ho.wide hlo (Nat.le_refl _), hb⟩
theorem BoxAt.one {w : World} {g : Nat} {a : Value} {t : TypeId} (h : BoxAt w g [a] t) : w.cell? ⟨g, 0, none⟩ = some a ∧ w.frozen? ⟨g, 0, none⟩ = false := ⟨h.cell 0 _ rfl, h.open_ 0⟩
/-- the state of the loop of FeedText: what is owned, the box of the result, what is left -/
structure FeedAt (w wr : World) (e ek eb : TypeId) (x0 : ByteArray) (L : List (Tok × Hd)) (A : Option Addr) (c : Nat) (y : ByteArray) : Prop where
  fed : Hid (Feeds x0 (L.map (·.1)) y)
  own : OwnN tokN wr (w.heap.size + 2) wr.heap.size e ek A L.length c L
  box : BoxAt wr (w.heap.size + 1) [.string ⟨#[]⟩] eb
  bel : Below w.heap.size w wr
  len : L.length + y.size ≤ x0.size
theorem FeedAt.gt {w wr : World} {e ek eb : TypeId} {x0 y : ByteArray} {L : List (Tok × Hd)} {A : Option Addr} {c : Nat} (h : FeedAt w wr e ek eb x0 L A c y) : w.heap.size + 2 ≤ wr.heap.size := h.box.lt
/-- one token more -/
theorem FeedAt.push {w wr W w' : World} {e ek eb : TypeId} {x0 y z : ByteArray} {L : List (Tok × Hd)} {A A' : Option Addr} {c c' : Nat} {x : Tok × Hd} (h : FeedAt w wr e ek eb x0 L A c y) (hW : Below wr.heap.size wr W)
    (hs : stepF y = some (z, [x.1])) (ho : OwnN tokN w' (w.heap.size + 2) w'.heap.size e ek A' (L.length + 1) c' (L ++ [x])) (hk : Keeps (fun b => (Value.slice A L.length c).ownBlock = some b) W w') :
    FeedAt w w' e ek eb x0 (L ++ [x]) A' c' z := by
  have hg := h.gt
  have hge : ∀ k, (Value.slice A L.length c).ownBlock = some k → w.heap.size + 2 ≤ k := fun k hk => h.own.row.geb k hk
  refine ⟨?_, by rw [List.length_append]; exact ho, (h.box.next hW).keep hk (fun hS => by have := hge _ hS; omega), (h.bel.trans (hW.mono (by omega))).trans (hk.below (Nat.le_trans (by omega) hW.size) fun k hS => by have := hge _ hS; omega), ?_⟩
  · show Feeds _ _ _
    rw [List.map_append]
    exact h.fed.out.step hs
  · have := stepF_less hs
    have := h.len
    rw [List.length_append]
    simp
    omega
theorem FeedAt.skip {w wr w' : World} {e ek eb : TypeId} {x0 y z : ByteArray} {L : List (Tok × Hd)} {A : Option Addr} {c : Nat} (h : FeedAt w wr e ek eb x0 L A c y) (hW : Below wr.heap.size wr w') (hs : stepF y = some (z, [])) :
    FeedAt w w' e ek eb x0 L A c z := by
  have hg := h.gt
  refine ⟨?_, (h.own.below hW).wide (Nat.le_refl _) hW.size, h.box.next hW, h.bel.trans (hW.mono (by omega)), ?_⟩
  · have := h.fed.out.step hs
    rw [List.append_nil] at this
    exact this
  · have := stepF_less hs
    have := h.len
    omega
theorem lt_first {y : ByteArray} (h : headLt y = true) : ∃ h0 : 0 < y.size, y[0] = 60 := by
  rcases Nat.eq_zero_or_pos y.size with h1 | h1
  · rw [headLt_nil h1] at h; cases h
  · rw [headLt_at h1] at h
    exact ⟨h1, by simpa using h⟩
theorem ix_first {y : ByteArray} (h : headLt y = true) : ixB y 60 = ((0 : Nat) : Int) := by
  obtain ⟨h0, h1⟩ := lt_first h
  exact ixB_at h0 h1 fun j hj => absurd hj (by omega)
theorem ix_gt {y : ByteArray} (h : headLt y = true) {j : Nat} (hj : ixB y 62 = j) : ∃ h : j < y.size, 1 ≤ j := by
  obtain ⟨h0, h1⟩ := lt_first h
  rcases ix_range y 62 with hx | ⟨i, hx, hi, he⟩
  · rw [hx] at hj; omega
  · have hij : i = j := by rw [hx] at hj; omega
    subst hij
    refine ⟨hi, ?_⟩
    rcases Nat.eq_zero_or_pos i with h2 | h2
    · subst h2
      rw [h1] at he
      exact absurd he (by decide)
    · exact h2
theorem ix_lt {y : ByteArray} (h : headLt y = false) {j : Nat} (hj : ixB y 60 = j) : ∃ h : j < y.size, 1 ≤ j := by
  rcases ix_range y 60 with hx | ⟨i, hx, hi, he⟩
  · rw [hx] at hj; omega
  · have hij : i = j := by rw [hx] at hj; omega
    subst hij
    refine ⟨hi, ?_⟩
    rcases Nat.eq_zero_or_pos i with h2 | h2
    · subst h2
      rw [headLt_at hi] at h
      simp [he] at h
    · exact h2
set_option maxHeartbeats 4000000 in
theorem feedText_spec (w : World) (r s : ByteArray) (hr : r.size ≤ 536870912) (hs : s.size ≤ 536870912) : Calls Try.prog 64 #[.agg #[.string r], .string s] w (GotFeed w 40 104 (feed (r ++ s))) := by
  have hx0 : (r ++ s).size ≤ 1073741824 := by rw [ByteArray.size_append]; omega
  have hb := (((Below.refl w.heap.size w).alloc (Nat.le_refl _) (.cells #[.string r] 96)).alloc (by simp) (.cells #[.string ⟨#[]⟩] 96)).alloc (by simp; omega) (.cells #[] 40)
  have hB : BoxAt (((w.alloc (.cells #[.string r] 96)).alloc (.cells #[.string ⟨#[]⟩] 96)).alloc (.cells #[] 40)) (w.heap.size + 1) [.string ⟨#[]⟩] 96 := (BoxAt.new (by simp) [.string ⟨#[]⟩] 96).alloc _
  have h00 := Own.of_row (own_empty ((w.alloc (.cells #[.string r] 96)).alloc (.cells #[.string ⟨#[]⟩] 96)) 40 4)
  have hsz0 : ((w.alloc (.cells #[.string r] 96)).alloc (.cells #[.string ⟨#[]⟩] 96)).heap.size = w.heap.size + 2 := by simp
  rw [hsz0] at h00
  generalize hX : r ++ s = x0 at *
  go_enter Try.func64, Try.ntmps64
  go_wp2
  go_loopw [6, 7] (fun o x wr => ∃ (L : List (Tok × Hd)) (A : Option Addr) (c : Nat) (y : ByteArray), o = .slice A L.length c ∧ x = .string y ∧ FeedAt w wr 40 104 96 x0 L A c y) (fun _ x _ => strLen x)
  case atStart => exact ⟨[], _, _, x0, rfl, rfl, Feeds.start x0, ⟨h00, by simp, by simp, by simp⟩, hB, hb, by simp⟩
  case round =>
    clear hb hB h00 hsz0 hX
    obtain ⟨L, A, c, y, rfl, rfl, h⟩ := hrel
    have hgt := h.gt
    have hlen := h.len
    have hbel := h.bel
    have hix := l5Index_any wr y 60 (by omega)
    have hiy := l5Index_any wr y 62 (by omega)
    cases hh : headLt y
    · rcases ix_range y 60 with hk | ⟨k, hk, -⟩
      · have hfin := Lib.hid (h.fed.out.stop (stepF_rest hh hk))
        have e60 : ixS y 60 = y.size := by unfold ixS; rw [if_pos hk]
        rw [e60] at hix
        rcases Nat.eq_zero_or_pos y.size with hy | hy
        · have e62 : ixS y 62 = 0 := by
            unfold ixS
            rw [if_pos (ixB_none fun i hi => absurd hi (by omega)), hy]
            rfl
          rw [e62] at hiy
          rw [hy] at hix
          clear e60 e62 hk hh
          obtain rfl := bytes_nil hy
          clear hy
          go_wp2_with (fail)
          go_at_call 76
          refine hix.mono ?_
          rintro e w5 ⟨rfl, rfl⟩
          go_wp2_with (fail)
          go_at_call 76
          refine hiy.mono ?_
          rintro e w5 ⟨rfl, rfl⟩
          obtain ⟨z0, y0⟩ := h.box.one
          have f0 := (h.box.put (j := 0) (.string ⟨#[]⟩)).one.1
          have ho9 := (h.own.keep (keeps_set (S := fun k => k = w.heap.size + 1) wr (p := ⟨w.heap.size + 1, 0, none⟩) (.string ⟨#[]⟩) rfl) (fun k hk => .inl (by omega))).wide (Nat.le_refl _) (show wr.heap.size ≤ (wr.setCell ⟨w.heap.size + 1, 0, none⟩ (.string ⟨#[]⟩)).heap.size by simp [World.setCell])
          have hb9 := hbel.setCell (p := ⟨w.heap.size + 1, 0, none⟩) (Nat.le_succ _) (.string ⟨#[]⟩)
          clear h
          go_wp2
          exact bodyPost_ret (v := .tuple #[.slice A L.length c, .agg #[.string ⟨#[]⟩]]) (by simp [results, Try.results64, go_sem, f0]) rfl (GotFeed.of hfin.out ho9 (by omega) hb9)
        · have hyI : (0 : Int) < (y.size : Int) := by omega
          have hyE : ¬ y = ByteArray.empty := by
            rintro rfl
            exact absurd hy (by decide)
          clear e60 hk hh
          generalize ixS y 62 = E at *
          go_wp2_with (fail)
          go_at_call 76
          refine hix.mono ?_
          rintro e w5 ⟨rfl, rfl⟩
          go_wp2_with (fail)
          go_at_call 76
          refine hiy.mono ?_
          rintro e w5 ⟨rfl, rfl⟩
          obtain ⟨z0, y0⟩ := h.box.one
          have f0 := (h.box.put (j := 0) (.string y)).one.1
          have ho9 := (h.own.keep (keeps_set (S := fun k => k = w.heap.size + 1) wr (p := ⟨w.heap.size + 1, 0, none⟩) (.string y) rfl) (fun k hk => .inl (by omega))).wide (Nat.le_refl _) (show wr.heap.size ≤ (wr.setCell ⟨w.heap.size + 1, 0, none⟩ (.string y)).heap.size by simp [World.setCell])
          have hb9 := hbel.setCell (p := ⟨w.heap.size + 1, 0, none⟩) (Nat.le_succ _) (.string y)
          clear h
          go_wp2
          exact bodyPost_ret (v := .tuple #[.slice A L.length c, .agg #[.string y]]) (by simp [results, Try.results64, go_sem, f0]) rfl (GotFeed.of hfin.out ho9 (by omega) hb9)
      · have e60 : ixS y 60 = k := by unfold ixS; rw [if_neg (by omega), hk]
        rw [e60] at hix
        clear e60 hiy
        obtain ⟨hks, hk1⟩ := ix_lt hh hk
        have hst := Lib.hid (stepF_text hh hk)
        have hkI : (k : Int) < (y.size : Int) := by omega
        have hkJ : (k : Int) ≤ (y.size : Int) := by omega
        have hk0 : (0 : Int) < (k : Int) := by omega
        have hk0' : (0 : Int) ≤ (k : Int) := by omega
        have hless := stepF_less hst.out
        generalize hTX : y.extract 0 k = tx at *
        generalize hZ : y.extract k y.size = z at *
        have hl1 := (Below.refl wr.heap.size wr).alloc (Nat.le_refl _) (.cells #[.int .i64 3, .string ⟨#[]⟩, .slice none 0 0, .string tx] 40)
        have hr4 := Reads.four4 wr (.int .i64 3) (.string ⟨#[]⟩) (.slice none 0 0) (.string tx) 40
        clear hh hk
        go_wp2_with (first
          | (go_at_call 76; refine hix.mono ?_; rintro e w5 ⟨rfl, rfl⟩)
          | (at_builtin
             refine wpList_push (N := tokN) (bytes := 64) row_Token rfl (.tmp 27) (.tmp 32) rfl (lo := w.heap.size + 2) (m := wr.heap.size) (ek := 104) (L := L) (A := A) (n := L.length) (c := c) (h.own.below hl1) (by simp) hgt (⟨3, ⟨#[]⟩, [], tx⟩, (none, 0)) (own_zero _ _ _ _ _) rfl (some ⟨wr.heap.size, 0, none⟩) 1 _ rfl hr4 (by omega) (by omega) ?_
             intro A2 c2 w2 ho2 hk2
             have h2 := h.push (x := (⟨3, ⟨#[]⟩, [], tx⟩, (none, 0))) hl1 hst.out ho2 hk2))
        go_roundw
        case rel => exact ⟨L ++ [(⟨3, ⟨#[]⟩, [], tx⟩, (none, 0))], A2, c2, z, by rw [List.length_append]; rfl, rfl, h2⟩
        case measure => simp [strLen]; omega
    · have e60 : ixS y 60 = 0 := by unfold ixS; rw [if_neg (by have := ix_first hh; omega), ix_first hh]; rfl
      rw [e60] at hix
      clear e60
      rcases ix_range y 62 with hj | ⟨j, hj, -⟩
      · have hfin := Lib.hid (h.fed.out.stop (stepF_open hh hj))
        have e62 : ixS y 62 = y.size := by unfold ixS; rw [if_pos hj]
        rw [e62] at hiy
        clear e62 hj hh
        go_wp2_with (fail)
        go_at_call 76
        refine hix.mono ?_
        rintro e w5 ⟨rfl, rfl⟩
        go_wp2_with (fail)
        go_at_call 76
        refine hiy.mono ?_
        rintro e w5 ⟨rfl, rfl⟩
        obtain ⟨z0, y0⟩ := h.box.one
        have f0 := (h.box.put (j := 0) (.string y)).one.1
        have ho9 := (h.own.keep (keeps_set (S := fun k => k = w.heap.size + 1) wr (p := ⟨w.heap.size + 1, 0, none⟩) (.string y) rfl) (fun k hk => .inl (by omega))).wide (Nat.le_refl _) (show wr.heap.size ≤ (wr.setCell ⟨w.heap.size + 1, 0, none⟩ (.string y)).heap.size by simp [World.setCell])
        have hb9 := hbel.setCell (p := ⟨w.heap.size + 1, 0, none⟩) (Nat.le_succ _) (.string y)
        clear h
        go_wp2
        exact bodyPost_ret (v := .tuple #[.slice A L.length c, .agg #[.string y]]) (by simp [results, Try.results64, go_sem, f0]) rfl (GotFeed.of hfin.out ho9 (by omega) hb9)
      · have e62 : ixS y 62 = j := by unfold ixS; rw [if_neg (by omega), hj]
        rw [e62] at hiy
        clear e62
        obtain ⟨hjs, hj1⟩ := ix_gt hh hj
        have hst1 := fun (t : Tok) => stepF_tag (t := t) hh hj
        have hst0 := fun (t : Tok) => stepF_skip (t := t) hh hj
        have hjI : (j : Int) < (y.size : Int) := by omega
        have hjJ : (j : Int) + 1 ≤ (y.size : Int) := by omega
        have hjK : (1 : Int) ≤ (j : Int) := by omega
        have hjL : (j : Int) ≤ (y.size : Int) := by omega
        have hsz : (y.extract 1 j).size ≤ 1073741824 := by rw [ByteArray.size_extract]; omega
        have hzl : (y.extract (j + 1) y.size).size < y.size := by rw [ByteArray.size_extract]; omega
        generalize hTX : y.extract 1 j = tx at *
        generalize hZ : y.extract (j + 1) y.size = z at *
        have hT := tagOf_spec wr tx hsz
        generalize hTT : tagT tx = T at *
        obtain ⟨t, ok⟩ := T
        have hS1 := Lib.hid hst1
        have hS0 := Lib.hid hst0
        clear hst1 hst0 hh hj hTT
        go_wp2_with (fail)
        go_at_call 76
        refine hix.mono ?_
        rintro e w5 ⟨rfl, rfl⟩
        go_wp2_with (fail)
        go_at_call 76
        refine hiy.mono ?_
        rintro e w5 ⟨rfl, rfl⟩
        go_wp2_with (fail)
        go_at_call 77
        refine hT.mono ?_
        clear hT
        rintro e w3 ⟨A3, c3, rfl, o3, b3⟩
        simp only at o3
        have hl3 := (Below.refl w3.heap.size w3).alloc (Nat.le_refl _) (.cells #[.int .i64 t.kind, .string t.name, .slice A3 t.attrs.length c3, .string t.text] 40)
        have hb3 := b3.trans (hl3.mono b3.size)
        cases ok
        · have h2 := h.skip hb3 (hS0.out t rfl)
          go_wp2
          go_roundw
          case rel => exact ⟨L, A, c, z, rfl, rfl, h2⟩
          case measure => simp [strLen]; omega
        · have hst := hS1.out t rfl
          have hX3 := BoxAt.new (w := w3) rfl [.int .i64 t.kind, .string t.name, .slice A3 t.attrs.length c3, .string t.text] 40
          obtain ⟨⟨t0, t1, t2, t3⟩, -⟩ := hX3.four
          have hz3 := b3.size
          have hl4 := (Below.refl (w3.alloc (.cells #[.int .i64 t.kind, .string t.name, .slice A3 t.attrs.length c3, .string t.text] 40)).heap.size (w3.alloc (.cells #[.int .i64 t.kind, .string t.name, .slice A3 t.attrs.length c3, .string t.text] 40))).alloc (Nat.le_refl _) (.cells #[.int .i64 t.kind, .string t.name, .slice A3 t.attrs.length c3, .string t.text] 40)
          have hb4 := hb3.trans (hl4.mono hb3.size)
          have hr4 := Reads.four4 (w3.alloc (.cells #[.int .i64 t.kind, .string t.name, .slice A3 t.attrs.length c3, .string t.text] 40)) (.int .i64 t.kind) (.string t.name) (.slice A3 t.attrs.length c3) (.string t.text) 40
          have hkd := ((o3.below hl3).below hl4).wide (Nat.le_refl _) (show w3.heap.size ≤ ((w3.alloc (.cells #[.int .i64 t.kind, .string t.name, .slice A3 t.attrs.length c3, .string t.text] 40)).alloc (.cells #[.int .i64 t.kind, .string t.name, .slice A3 t.attrs.length c3, .string t.text] 40)).heap.size by simp; omega)
          have hsz3 : (w3.alloc (.cells #[.int .i64 t.kind, .string t.name, .slice A3 t.attrs.length c3, .string t.text] 40)).heap.size = w3.heap.size + 1 := by simp
          go_wp2_with (at_builtin
                       refine wpList_push (N := tokN) (bytes := 64) row_Token rfl (.tmp 58) (.tmp 60) rfl (lo := w.heap.size + 2) (m := wr.heap.size) (ek := 104) (L := L) (A := A) (n := L.length) (c := c) (h.own.below hb4) (Nat.le_trans (Nat.le_refl _) hb4.size) hgt (t, (A3, c3)) hkd rfl _ 1 _ ?_ hr4 (by omega) (by omega) ?_
                       · first | rfl | (rw [hsz3]; rfl) | (simp [Act.eval, Act.put]; done)
                       intro A2 c2 w2 ho2 hk2
                       have h2 := h.push (x := (t, (A3, c3))) hb4 hst ho2 hk2)
          go_roundw
          case rel => exact ⟨L ++ [(t, (A3, c3))], A2, c2, z, by rw [List.length_append]; rfl, rfl, h2⟩
          case measure => simp [strLen]; omega
end Go.Proofs.Ytleopmeaaabejaa

namespace Go.Proofs.Ytleopmeaaabejaa
set_option linter.unusedVariables false
set_option linter.unusedSimpArgs false
set_option maxRecDepth 100000
open Go.ChangeShapes Go.WideShapes Go.ChangeAt Go.RowKit Go.Deep

theorem OwnN.rd {α : Type} {N : Nest α} {w : World} {lo hi n c : Nat} {e ek : TypeId} {A : Option Addr} {L : List (α × Hd)} {l : List α} (h : OwnN N w lo hi e ek A n c L) (hL : L.map (·.1) = l) (hh : hi ≤ w.heap.size) : ReadsN N w w.heap.size A n l := by
  subst hL
  exact (h.reads hh).more hh
theorem nums_of {α : Type} {N : Nest α} {L : List (α × Hd)} {l : List α} (hL : L.map (·.1) = l) : N.nums L = l.map N.num := by
  subst hL
  simp [Nest.nums]
theorem endToks_len (s : ByteArray) : (endToks s).length ≤ 1 := by unfold endToks; split <;> simp
theorem endToks_attrs (s : ByteArray) : ∀ a ∈ endToks s, a.attrs.length ≤ 1073741824 := by
  unfold endToks
  split
  · simp
  · intro a ha; simp at ha; subst ha; simp
theorem endToks_tot (s : ByteArray) : totN ((endToks s).map tokN.num) ≤ 3 := by
  unfold endToks
  split
  · simp [totN]
  · simp [totN, tokN]


end Go.Proofs.Ytleopmeaaabejaa

namespace Go.Proofs.Ytleopmeaaabejaa
set_option linter.unusedVariables false
set_option linter.unusedSimpArgs false
set_option maxRecDepth 100000
open Go.ChangeShapes Go.WideShapes Go.ChangeAt Go.RowKit Go.Deep

theorem stepF_toks {x y : ByteArray} {l : List Tok} (h : stepF x = some (y, l)) : l.length ≤ 1 ∧ ∀ a ∈ l, a.attrs.length ≤ 4 := by
  unfold stepF at h
  split at h
  · split at h
    · injection h with h
      injection h with _ h
      subst h
      split
      · exact ⟨by simp, fun a ha => by simp at ha; subst ha; exact tagT_attrs _⟩
      · exact ⟨by simp, by simp⟩
    · cases h
  · split at h
    · injection h with h
      injection h with _ h
      subst h
      exact ⟨by simp, by simp⟩
    · cases h
theorem feedN_toks : ∀ (f : Nat) (x : ByteArray), (feedN f x).1.length ≤ x.size ∧ (∀ a ∈ (feedN f x).1, a.attrs.length ≤ 4) ∧ (feedN f x).2.size ≤ x.size
  | 0, x => ⟨by simp [feedN], by simp [feedN], by simp [feedN]⟩
  | f + 1, x => by
    cases h : stepF x with
    | none => rw [feedN_stop h]; exact ⟨by simp, by simp, by simp⟩
    | some r =>
      obtain ⟨y, l⟩ := r
      rw [feedN_step h]
      have h1 := stepF_less h
      obtain ⟨h2, h3⟩ := stepF_toks h
      obtain ⟨h4, h5, h6⟩ := feedN_toks f y
      refine ⟨by rw [List.length_append]; omega, fun a ha => ?_, by show (feedN f y).2.size ≤ _; omega⟩
      rcases List.mem_append.1 ha with h7 | h7
      · exact h3 a h7
      · exact h5 a h7
theorem tot_le : ∀ (l : List Tok), (∀ a ∈ l, a.attrs.length ≤ 4) → totN (l.map tokN.num) ≤ 11 * (l.length : Int)
  | [], _ => by simp [totN]
  | t :: l, h => by
    rw [List.map_cons, totN_cons]
    have h1 := tot_le l fun a ha => h a (List.mem_cons_of_mem _ ha)
    have h2 : (tokN.num t : Nat) ≤ 4 := h t (by simp)
    rw [List.length_cons]
    omega


end Go.Proofs.Ytleopmeaaabejaa
