/-
  Contract of JoinSheets of the program. Conditions: at most 2^30 elements.
-/
import Derived.Deep.Cut
import Derived.Deep.CutRange
import Derived.Test.YtleopmeaaabejaaJ09
namespace Go.Proofs.Ytleopmeaaabejaa
set_option linter.unusedVariables false
set_option linter.unusedSimpArgs false
set_option maxRecDepth 100000
open Go.ChangeShapes Go.WideShapes Go.ChangeAt Go.RowKit Go.Deep Go.Sort

/-- the state of the loops that gather the names -/
structure JsA (w : World) (T es : TypeId) (x : List ByteArray) (A : Option Addr) (c : Nat) (W : World) : Prop where
  box : BoxAt W w.heap.size [.slice none 0 0] T
  own : Own W (w.heap.size + 1) W.heap.size es 1 (.slice A x.length c) x.length (strV x)
  bel : Below w.heap.size w W
section
variable {w W W' : World} {T es : TypeId} {x : List ByteArray} {A : Option Addr} {c : Nat}
theorem JsA.big (h : JsA w T es x A c W) : w.heap.size + 1 ≤ W.heap.size := by have := h.box.lt; omega
theorem JsA.next (h : JsA w T es x A c W) (hb : Below W.heap.size W W') : JsA w T es x A c W' :=
  ⟨h.box.next hb, (h.own.below hb).wide (Nat.le_refl _) hb.size, h.bel.trans (hb.mono h.bel.size)⟩
theorem JsA.push {nm : ByteArray} {A' : Option Addr} {c' : Nat} (h : JsA w T es x A c W) (ho : W'.ownsRow (w.heap.size + 1) es 1 (.slice A' (x.length + 1) c') (x.length + 1) (strV (x ++ [nm]))) (hb : Below (w.heap.size + 1) W W') :
    JsA w T es (x ++ [nm]) A' c' W' :=
  ⟨h.box.below hb (by omega), by have := Own.of_row ho; rw [show (x ++ [nm]).length = x.length + 1 by simp]; exact this, h.bel.trans (hb.mono (by omega))⟩
end
/-- the state of the loop that lays the rules: behind W3, the sheet's box at g8 -/
structure JsB (w W3 : World) (g8 : Nat) (T er : TypeId) (l : List (List Rul)) (x : List ByteArray) (A : Option Addr) (c : Nat) (W : World) : Prop where
  box : BoxAt W g8 [.slice A x.length c] T
  own : Own W (g8 + 1) W.heap.size er 2 (.slice A x.length c) x.length (rulV (jsR l x))
  bel : Below g8 W3 W
section
variable {w W3 W W' : World} {g8 : Nat} {T er : TypeId} {l : List (List Rul)} {x : List ByteArray} {A : Option Addr} {c : Nat}
theorem JsB.big (h : JsB w W3 g8 T er l x A c W) : g8 + 1 ≤ W.heap.size := by have := h.box.lt; omega
theorem JsB.next (h : JsB w W3 g8 T er l x A c W) (hb : Below W.heap.size W W') : JsB w W3 g8 T er l x A c W' :=
  ⟨h.box.next hb, (h.own.below hb).wide (Nat.le_refl _) hb.size, h.bel.trans (hb.mono (by have := h.big; omega))⟩
theorem JsB.drew (h : JsB w W3 g8 T er l x A c W) : JsB w W3 g8 T er l x A c W.drew := h.next ⟨rfl, rfl, rfl, Nat.le_refl _, fun _ _ => rfl⟩
theorem JsB.push {nm : ByteArray} {A' : Option Addr} {c' : Nat} (h : JsB w W3 g8 T er l x A c W) (ho : W'.ownsRow (g8 + 1) er 2 (.slice A' (x.length + 1) c') (x.length + 1) (rulV (jsR l (x ++ [nm])))) (hb : Below (g8 + 1) W W') :
    JsB w W3 g8 T er l (x ++ [nm]) A' c' (W'.setCell ⟨g8, 0, none⟩ (.slice A' (x.length + 1) c')) := by
  have e : (x ++ [nm]).length = x.length + 1 := by simp
  refine ⟨?_, ?_, ?_⟩
  · have := (h.box.below hb (by omega)).put (j := 0) (.slice A' (x.length + 1) c')
    rw [e]
    exact this
  · rw [e]
    exact ((Own.of_row ho).keep (keeps_set (S := fun k => k = g8) W' (p := ⟨g8, 0, none⟩) _ rfl) (fun k hk => by omega)).wide (Nat.le_refl _) (by simp [World.setCell])
  · exact (h.bel.trans (hb.mono (by omega))).setCell (p := ⟨g8, 0, none⟩) (Nat.le_refl _) _
end
theorem rul_lit (w : World) (a b : Value) (t : TypeId) : Reads (w.alloc (.cells #[a, b] t)) (w.heap.size + 1) 2 (some ⟨w.heap.size, 0, none⟩) 1 [a, b] := Reads.pair2 w a b t
set_option maxHeartbeats 4000000 in
theorem joinSheets_impl {A : Option Addr} {n c : Nat} {l : List (List Rul)} (w : World) (hx : ReadsN shN w w.heap.size A n l) (hn : n ≤ 1073741824) (hm : ∀ a ∈ l, a.length ≤ 1073741824) (hN : (nmsL l).length ≤ 1073741824) :
    Calls Try.prog 27 #[.slice A n c] w (GotJs w 84 l) := by
  have lx := Lib.hid hx.len
  have hcall := fun (W : World) (nm : ByteArray) (h : Below w.heap.size w W) => colorOf_impl (c := c) nm W ((hx.below h).more h.size) hn hm
  have HC := Lib.hid hcall
  clear hcall
  have hpre : Hid (∀ k, k ≤ l.length → (nmsL (l.take k)).length ≤ (nmsL l).length) := Lib.hid fun k hk => by
    have : nmsL l = nmsL (l.take k) ++ nmsL (l.drop k) := by unfold nmsL; rw [← List.flatMap_append, List.take_append_drop]
    rw [this, List.length_append]; omega
  go_enter Try.func27, Try.ntmps27
  go_wp2_with (fail)
  go_loopw [14, 3] (fun i s wr => ∃ (k : Nat) (Al : Option Addr) (cl : Nat), k ≤ n ∧ i = .int .i64 k ∧ s = .slice Al (nmsL (l.take k)).length cl ∧ JsA w 54 9 (nmsL (l.take k)) Al cl wr) (fun i _ _ => n - (intOf i).toNat)
  case atStart =>
    refine ⟨0, some ⟨w.heap.size + 1, 0, none⟩, 0, Nat.zero_le _, rfl, by simp [nmsL], ?_⟩
    have b0 := BoxAt.new (w := w) rfl [.slice none 0 0] 54
    have o0 := own_empty (w.alloc (.cells #[.slice none 0 0] 54)) 9 1
    have e0 : (w.alloc (.cells #[.slice none 0 0] 54)).heap.size = w.heap.size + 1 := by simp
    rw [e0] at o0
    exact ⟨b0.alloc _, Own.of_row o0, ((Below.refl _ _).alloc (Nat.le_refl _) _).alloc (by simp) _⟩
  case round =>
    obtain ⟨k, Al, cl, hk, rfl, rfl, hA⟩ := hrel
    by_cases hlt : k < n
    · obtain ⟨b0, off0, rfl, hab, hcx⟩ := hx.sheet hlt
      have hl1 : k < l.length := by rw [lx.out]; exact hlt
      obtain ⟨A1, c1, hr, hc0⟩ := hcx hl1
      replace hc0 := (hA.bel.cell (p := ⟨b0, off0 + k, none⟩) hab).trans hc0
      have hsucc : Hid (nmsL (l.take (k + 1)) = nmsL (l.take k) ++ nmR l[k]) := Lib.hid (nmsL_succ hl1)
      have htot : (nmsL (l.take k)).length + (nmR l[k]).length ≤ 1073741824 := by
        have h1 := hpre.out (k + 1) (by omega)
        rw [hsucc.out, List.length_append] at h1
        omega
      have hk0 : (0 : Int) ≤ (k : Int) := Int.natCast_nonneg _
      have hk9 : (k : Int) < (n : Int) := by omega
      have hm1 := hm l[k] (List.getElem_mem _)
      generalize nmsL (l.take k) = x0 at *
      generalize l[k] = r at *
      clear hcx
      go_wp2_with (fail)
      go_loopw [21, 3] (fun i s wq => ∃ (m : Nat) (Am : Option Addr) (cm : Nat), m ≤ r.length ∧ i = .int .i64 m ∧ s = .slice Am (x0 ++ nmR (r.take m)).length cm ∧ JsA w 54 9 (x0 ++ nmR (r.take m)) Am cm wq) (fun i _ _ => r.length - (intOf i).toNat)
      case atStart =>
        refine ⟨0, Al, cl, Nat.zero_le _, rfl, by simp [nmR], ?_⟩
        have := hA.next ((Below.refl wr.heap.size wr).alloc (Nat.le_refl _) (.cells #[.slice A1 r.length c1] 54))
        simpa [nmR] using this
      case round =>
        clear hA hc0
        obtain ⟨m, Am, cm, hm2, rfl, rfl, hB⟩ := hrel
        by_cases hml : m < r.length
        · obtain ⟨b1, off1, rfl, hb1, hcy⟩ := hr.rul hml
          obtain ⟨hd0, hd1⟩ := hcy hml
          replace hd0 := (hB.bel.cell (p := ⟨b1, off1 + m * 2, none⟩) hb1).trans hd0
          replace hd1 := (hB.bel.cell (p := ⟨b1, off1 + m * 2 + 1, none⟩) hb1).trans hd1
          have hs2 : Hid (x0 ++ nmR (r.take (m + 1)) = x0 ++ nmR (r.take m) ++ [r[m].1]) := by show _ = _; rw [nmR_succ hml, List.append_assoc]
          have hyl : (x0 ++ nmR (r.take m)).length ≤ 1073741824 := by
            rw [List.length_append]
            have : (nmR (r.take m)).length ≤ (nmR r).length := by unfold nmR; rw [List.length_map, List.length_map, List.length_take]; omega
            omega
          have hm0 : (0 : Int) ≤ (m : Int) := Int.natCast_nonneg _
          have hm9 : (m : Int) < (r.length : Int) := by omega
          generalize x0 ++ nmR (r.take m) = y at *
          generalize r[m] = a at *
          obtain ⟨nm, co⟩ := a
          simp only at hd0 hd1 hs2
          have hB1 := hB.next ((Below.refl wr.heap.size wr).alloc (Nat.le_refl _) (.cells #[.string nm, .int .i64 co] 84))
          have hB2 := hB1.next ((Below.refl _ _).alloc (Nat.le_refl _) (.cells #[.string nm] 9))
          have hbig := hB.big
          have hr2 := Reads.one (wr.alloc (.cells #[.string nm, .int .i64 co] 84)) (.string nm) 9
          rw [World.size_alloc] at hr2
          clear hr hcy hB hB1
          go_wp2_with (at_builtin
                       refine wpList_app row_StrJ rfl (.tmp 25) (.tmp 28) rfl (w.heap.size + 1) Am y.length cm (strV y) rfl hB2.own.1 _ _ 1 1 [.string nm] rfl hr2 (strV_one [nm]) (y.length + 1) (strV (y ++ [nm])) rfl (by simp [strV]) ⟨by omega, by omega⟩ (by simp; omega) ?_
                       intro A2 c2 w2 ho2 hb2)
          have hfin := hB2.push ho2 hb2
          go_roundw
          case rel => exact ⟨m + 1, A2, c2, by omega, by go_num, by rw [hs2.out]; simp, by rw [hs2.out]; exact hfin⟩
          case measure => simp [intOf]; omega
        · obtain rfl : m = r.length := by omega
          have ht : Hid (x0 ++ nmR (r.take r.length) = nmsL (l.take (k + 1))) := by show _ = _; rw [hsucc.out, List.take_length]
          go_wp2
          go_roundw
          case rel => exact ⟨k + 1, Am, cm, by omega, by go_num, by rw [← ht.out], by rw [← ht.out]; exact hB⟩
          case measure => simp [intOf]; omega
    · obtain rfl : k = n := by omega
      have hall : Hid (l.take k = l) := by show _ = _; exact List.take_of_length_le (by rw [lx.out]; exact Nat.le_refl _)
      rw [hall.out] at hA ⊢
      have hbig := hA.big
      have hcs := compact_sorted (nmsL l)
      go_wp2_with (fail)
      go_at_call 55
      refine (js_sort _ hA.own (Nat.le_refl _) hN).mono ?_
      rintro e W1 ⟨rfl, y, hyl, hyc, oy, ky⟩
      have hky : Below (w.heap.size + 1) wr W1 := ky.below (by omega) (fun k hk => hk.1)
      have bx := hA.box.below hky (by omega)
      have hb1 := hA.bel.trans (hky.mono (by omega))
      have hz1 := ky.size
      have al : Below W1.heap.size W1 (W1.alloc (.cells #[.slice none 0 0] 54)) := (Below.refl _ _).alloc (Nat.le_refl _) _
      have b8 := BoxAt.new (w := W1) rfl [.slice none 0 0] 54
      replace bx := bx.next al
      replace oy := oy.below al
      replace hb1 := hb1.trans (al.mono hb1.size)
      have hz2 := al.size
      rw [← hyc] at hcs
      clear hyc hky ky
      go_wp2_with (fail)
      generalize W1.alloc (.cells #[.slice none 0 0] 54) = W2 at *
      go_at_call 56
      refine (js_compact _ oy (by omega) hN).mono ?_
      rintro e W3 ⟨z, hz, hzl, rfl, rz, kz⟩
      rw [← hz] at hcs
      have hkz : Below (w.heap.size + 1) W2 W3 := kz.below (by omega) (fun k hk => hk.1)
      have b8' : BoxAt W3 W1.heap.size [.slice none 0 0] 54 := (kz.block W1.heap.size b8.lt (fun hk => by omega)).trans b8
      replace bx := bx.below hkz (by omega)
      replace hb1 := hb1.trans (hkz.mono (by omega))
      have hB0 : JsB w W3 W1.heap.size 54 84 l (z.take 0) none 0 W3 := ⟨b8', own_zero _ _ _ _ _, Below.refl _ _⟩
      have hz3 := kz.size
      have hb8 := b8'.lt
      have hW3 := hb1.size
      clear b8 b8' hkz kz oy al hA hz hyl
      obtain ⟨wo, rfl⟩ : ∃ x : World, x = wr := ⟨wr, rfl⟩
      go_wp2_with (fail)
      go_loopw [38] (fun i wq => ∃ (k : Nat) (A1 : Option Addr) (c1 : Nat), k ≤ z.length ∧ i = .int .i64 k ∧ JsB w W3 W1.heap.size 54 84 l (z.take k) A1 c1 wq) (fun i _ => z.length - (intOf i).toNat)
      case atStart => exact ⟨0, none, 0, Nat.zero_le _, rfl, hB0⟩
      case round =>
        clear hB0
        obtain ⟨k, A1, c1, hk, rfl, hB⟩ := hrel
        by_cases hlt : k < z.length
        · have hzs : Hid (z.take (k + 1) = z.take k ++ [z[k]]) := Lib.hid (List.take_succ_eq_append_getElem hlt)
          have hxl : Hid ((z.take k).length = k) := by show _ = _; rw [List.length_take]; omega
          obtain ⟨bz, oz, rfl, hbz, hcz⟩ := rz.place (by omega) (by omega)
          have hcz0 := (hB.bel.cell (p := ⟨bz, oz + k, none⟩) (by show bz < W1.heap.size; omega)).trans (hcz k (.string z[k]) (by unfold strV; rw [List.getElem?_map, List.getElem?_eq_getElem hlt]; rfl))
          have hk0 : (0 : Int) ≤ (k : Int) := Int.natCast_nonneg _
          have hk9 : (k : Int) < (z.length : Int) := by omega
          have hxN : (z.take k).length ≤ 1073741824 := by rw [hxl.out]; omega
          have hCC := Lib.hid (fun (V : World) (hV : Below W1.heap.size W3 V) => HC.out V z[k] (hb1.trans (hV.mono (by omega))))
          generalize z.take k = x at *
          generalize z[k] = nm at *
          clear hcz HC hpre
          go_upto_region 16 with fail
          refine wp_region_key (fun v : World => v.cell? ⟨W1.heap.size, 0, none⟩ = some (.slice A1 x.length c1)) 8 (JsB w W3 W1.heap.size 54 84 l x A1 c1) (by kernel_rfl) hB.drew ?_
          intro V0 s0
          try simp only [List.replicate, Array.replicate]
          clear hB hcz0
          refine wpAnyK_take (i := 0) (v := ?_) rfl (by kernel_rfl) (by kernel_rfl) (by kernel_rfl) rfl (fun _ _ _ h => h) (fun _ => s0.box.cell 0 _ rfl) (Or.inl ⟨by rfl, ?_⟩) ?_
          rotate_left 1
          · intro wS _; go_simp
            all_goals with_reducible rfl
          try simp only [Act.put, List.getElem_toArray, List.getElem_cons_succ, List.getElem_cons_zero, List.setIfInBounds_toArray, List.set_cons_zero, List.set_cons_succ]
          refine wpAnyK_load (i := 1) (v := ?_) rfl (by kernel_rfl) (by kernel_rfl) (by kernel_rfl) rfl (by kernel_rfl) (by kernel_rfl) (fun _ _ _ h => h) (s0.box.cell 0 _ rfl) (Or.inl ⟨by rfl, ?_⟩) ?_
          rotate_left 1
          · intro wS hSw; (try dsimp only at hSw); go_simp
            all_goals with_reducible rfl
          try simp only [Act.put, List.getElem_toArray, List.getElem_cons_succ, List.getElem_cons_zero, List.setIfInBounds_toArray, List.set_cons_zero, List.set_cons_succ]
          refine wpAnyK_take (i := 2) (v := ?_) rfl (by kernel_rfl) (by kernel_rfl) (by kernel_rfl) rfl (fun _ _ _ h => h) (fun _ => s0.box.cell 0 _ rfl) (Or.inl ⟨by rfl, ?_⟩) ?_
          rotate_left 1
          · intro wS _; go_simp
            all_goals with_reducible rfl
          try simp only [Act.put, List.getElem_toArray, List.getElem_cons_succ, List.getElem_cons_zero, List.setIfInBounds_toArray, List.set_cons_zero, List.set_cons_succ]
          refine wpAnyK_take (i := 3) (v := ?_) rfl (by kernel_rfl) (by kernel_rfl) (by kernel_rfl) rfl (fun _ _ _ h => h) (fun _ => s0.box.cell 0 _ rfl) (Or.inl ⟨by rfl, ?_⟩) ?_
          rotate_left 1
          · intro wS _; go_simp
            all_goals with_reducible rfl
          try simp only [Act.put, List.getElem_toArray, List.getElem_cons_succ, List.getElem_cons_zero, List.setIfInBounds_toArray, List.set_cons_zero, List.set_cons_succ]
          refine wpAnyK_take (i := 4) (v := ?_) rfl (by kernel_rfl) (by kernel_rfl) (by kernel_rfl) rfl (fun _ _ _ h => h) (fun _ => s0.box.cell 0 _ rfl) (Or.inl ⟨by rfl, ?_⟩) ?_
          rotate_left 1
          · intro wS _; go_simp
            all_goals with_reducible rfl
          try simp only [Act.put, List.getElem_toArray, List.getElem_cons_succ, List.getElem_cons_zero, List.setIfInBounds_toArray, List.set_cons_zero, List.set_cons_succ]
          refine wpAnyK_ready (rs := [5]) (by kernel_rfl) (by simp) ?_
          refine AllReadyK.cons rfl (fun K hK => ?_) AllReadyK.nil
          go_simp
          refine (hCC.out V0 s0.bel).mono ?_
          rintro e V1 ⟨rfl, rfl⟩
          refine hK.out _ _ (fun _ => s0.box.cell 0 _ rfl) ?_
          clear hK K
          clear hCC
          try simp only [Act.put, List.getElem_toArray, List.getElem_cons_succ, List.getElem_cons_zero, List.setIfInBounds_toArray, List.set_cons_zero, List.set_cons_succ]
          refine wpAnyK_take (i := 6) (v := ?_) rfl (by kernel_rfl) (by kernel_rfl) (by kernel_rfl) rfl (fun _ _ _ h => h) (fun _ => s0.box.cell 0 _ rfl) (Or.inl ⟨by rfl, ?_⟩) ?_
          rotate_left 1
          · intro wS _; go_simp
            all_goals with_reducible rfl
          try simp only [Act.put, List.getElem_toArray, List.getElem_cons_succ, List.getElem_cons_zero, List.setIfInBounds_toArray, List.set_cons_zero, List.set_cons_succ]
          refine wpAnyK_ready (rs := [7]) (by kernel_rfl) (by simp) ?_
          refine AllReadyK.cons rfl (fun K hK => ?_) AllReadyK.nil
          go_simp
          have s1 := s0.next ((Below.refl _ _).alloc (Nat.le_refl _) (.cells #[.string nm, .int .i64 (colOf l nm)] 84))
          have rd := rul_lit V0 (.string nm) (.int .i64 (colOf l nm)) 84
          refine hK.out _ _ (fun _ => s1.box.cell 0 _ rfl) ?_
          clear hK K
          generalize V0.alloc (.cells #[.string nm, .int .i64 (colOf l nm)] 84) = V1 at *
          try simp only [Act.put, List.getElem_toArray, List.getElem_cons_succ, List.getElem_cons_zero, List.setIfInBounds_toArray, List.set_cons_zero, List.set_cons_succ]
          refine wpAnyK_ready (rs := [8]) (by kernel_rfl) (by simp) ?_
          refine AllReadyK.cons rfl (fun K hK => ?_) AllReadyK.nil
          refine step_app row_Rule (by rfl) (.tmp 43) (.tmp 49) (by rfl) (W1.heap.size + 1) A1 x.length c1 (rulV (jsR l x)) (by rfl) s1.own.1 _ _ 1 1 [.string nm, .int .i64 (colOf l nm)] (by rfl) rd (rul_one [(nm, colOf l nm)]) (x.length + 1) (rulV (jsR l (x ++ [nm]))) rfl (by rw [jsR_app, rulV_append]; rfl) ⟨by omega, by omega⟩ s1.big ?_
          intro A6 c6 w6 o6 b6
          refine hK.out _ _ (fun h => absurd h (by decide)) ?_
          clear hK K
          try simp only [Act.put, List.getElem_toArray, List.getElem_cons_succ, List.getElem_cons_zero, List.setIfInBounds_toArray, List.set_cons_zero, List.set_cons_succ]
          refine wpAnyK_take (i := 9) (v := ?_) rfl (by kernel_rfl) (by kernel_rfl) (by kernel_rfl) rfl (fun _ _ _ h => h) (fun h => absurd h (by decide)) (Or.inl ⟨by rfl, ?_⟩) ?_
          rotate_left 1
          · intro wS _; go_simp
            all_goals with_reducible rfl
          try simp only [Act.put, List.getElem_toArray, List.getElem_cons_succ, List.getElem_cons_zero, List.setIfInBounds_toArray, List.set_cons_zero, List.set_cons_succ]
          refine wpAnyK_ready (rs := [10]) (by kernel_rfl) (by simp) ?_
          refine AllReadyK.cons rfl (fun K hK => ?_) AllReadyK.nil
          have bx6 := s1.box.below b6 (by omega)
          have fx0 := bx6.cell 0 _ rfl
          have fx1 := bx6.open_ 0
          go_simp
          have s2 := s1.push o6 b6
          refine hK.out _ _ (fun h => absurd h (by decide)) ?_
          clear hK K
          clear fx0 fx1 bx6
          generalize w6.setCell ⟨W1.heap.size, 0, none⟩ (.slice A6 (x.length + 1) c6) = V2 at *
          refine wpAnyK_done (by kernel_rfl) ?_ _
          go_wp2
          go_roundw
          case rel => exact ⟨k + 1, A6, c6, by omega, by go_num, by rw [hzs.out]; exact s2⟩
          case measure => simp [intOf]; omega
        · obtain rfl : k = z.length := by omega
          rw [List.take_length] at hB
          have hbxf := bx.below hB.bel (by omega)
          have K8 := hB.box.cell 0 _ rfl
          have K2 := hbxf.cell 0 _ rfl
          have F2 := hbxf.open_ 0
          have bz := hbxf.put (j := 0) (.slice A1 z.length c1)
          have f0 := bz.cell 0 _ rfl
          have hof := (hB.own.keep (keeps_set (S := fun k => k = w.heap.size) wr (p := ⟨w.heap.size, 0, none⟩) (.slice A1 z.length c1) rfl) (fun k hk => by omega)).wide (lo' := w.heap.size) (hi' := (wr.setCell ⟨w.heap.size, 0, none⟩ (.slice A1 z.length c1)).heap.size) (by omega) (by simp [World.setCell])
          have hbf := (hb1.trans (hB.bel.mono (by omega))).setCell (p := ⟨w.heap.size, 0, none⟩) (Nat.le_refl _) (.slice A1 z.length c1)
          clear bz hbxf hB
          go_wp2
          exact bodyPost_ret (v := .agg #[.slice A1 z.length c1]) (by simp [results, Try.results27, go_sem, f0]) rfl ⟨z, A1, c1, hcs, hzl, rfl, hof, hbf⟩
end Go.Proofs.Ytleopmeaaabejaa
