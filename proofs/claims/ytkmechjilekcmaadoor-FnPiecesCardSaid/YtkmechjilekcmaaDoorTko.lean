/-
  Contracts of TokensOf of both, and the walk of its generated law. Conditions: strings of at most 2^29 bytes; the library's MaxLen holds some integer.
-/
import Derived.Test.YtkmechjilekcmaaDoorFdl
namespace Go.Proofs.YtkmechjilekcmaaDoor
set_option linter.unusedVariables false
set_option linter.unusedSimpArgs false
set_option maxRecDepth 100000
open Go.ChangeShapes Go.WideShapes Go.ChangeAt Go.RowKit Go.Deep

def toksOf (s : ByteArray) : List Tok := (feed s).1 ++ endToks (feed s).2
theorem run_append_zero {P : Program} (w : World) (base : Nat) (t ty e : TypeId) (i : TypeInfo) (size : Nat) (ht : P.underlying t = some (.slice e)) (hi : P.info? e = some i)
    (v : Value) (n : Nat) (xs : List Value) (hown : w.ownsRow base e size v n xs) (A : Option Addr) (c : Nat) : (Builtin.append_ #[t, t] ty #[v, .slice A 0 c]).run P w = .ok v w := by
  rcases A with _ | ad
  · exact run_append_of_nil w base t ty e i size ht hi v n xs hown c
  · rcases hown.2 with ⟨rfl, rfl⟩ | ⟨g, cap, cur, rfl, _, _, hnc, _⟩
    · simp [Builtin.append_, run_underlying ht, sizeOf, typeInfo, hi, Builtin.lenOf, Builtin.firstCells, loadCells, loadCellsFrom]
    · simp [Builtin.append_, run_underlying ht, sizeOf, typeInfo, hi, Builtin.lenOf, Builtin.firstCells, hnc, storeCells, loadCells, loadCellsFrom]
theorem wpList_append_zero {P : Program} {w : World} {T E size bytes : Nat} (R : RowT P T E size bytes) {ops : Array Oper} {rest : List Oper} {o : Oper} {a : Act} {Q : Exit → Act → World → Prop} (hgd : o.guard = none) (s x : Operand)
    (ho : o.op = .call { callee := .builtin .append, args := #[s, x], argTypes := #[T, T] })
    {lo n : Nat} {v : Value} {xs : List Value} (hown : w.ownsRow lo E size v n xs) (hs : a.eval s = v) (A : Option Addr) (c : Nat) (hx : a.eval x = .slice A 0 c)
    (h : wpList P ops Q rest (a.put o.dst v) w) : wpList P ops Q (o :: rest) a w := by
  obtain ⟨i, z, hi, _⟩ := R.inf
  have hrun := run_append_zero (P := P) w lo T o.type E i size R.und hi v n xs hown A c
  refine wpList_plain hgd fun K hK => ?_
  unfold Oper.wp execOp
  simp only [ho, resolve, invoke, builtin, Sem.run_bind, Sem.run_pure, Result.andThen_ok, List.map_toArray, List.map_cons, List.map_nil, hs, hx, hrun]
  exact hK _ _ h
theorem endToks_cases (s : ByteArray) : endToks s = [] ∨ endToks s = [⟨3, ⟨#[]⟩, [], s⟩] := by
  unfold endToks
  split
  · exact .inl rfl
  · exact .inr rfl
theorem nil_append' (s : ByteArray) : (⟨#[]⟩ : ByteArray) ++ s = s := by
  apply ByteArray.ext
  rw [ByteArray.data_append]
  simp
theorem toksOf_facts (s : ByteArray) : (toksOf s).length ≤ s.size + 1 ∧ (∀ a ∈ toksOf s, a.attrs.length ≤ 1073741824) ∧ totN ((toksOf s).map tokN.num) ≤ 11 * ((toksOf s).length : Int) := by
  obtain ⟨e1, e4, _⟩ := feedN_toks s.size s
  rw [show feedN s.size s = feed s from rfl] at e1 e4
  have h4 : ∀ a ∈ toksOf s, a.attrs.length ≤ 4 := by
    intro a ha
    unfold toksOf at ha
    rcases List.mem_append.1 ha with h | h
    · exact e4 a h
    · rcases endToks_cases (feed s).2 with h2 | h2 <;> rw [h2] at h
      · cases h
      · simp at h; subst h; simp
  refine ⟨?_, fun a ha => by have := h4 a ha; omega, tot_le _ h4⟩
  unfold toksOf
  rw [List.length_append]
  have := endToks_len (feed s).2
  omega
set_option maxHeartbeats 2000000 in
theorem tokensOf_spec (w : World) (s : ByteArray) (hs : s.size ≤ 536870912) : Calls Tryd.prog 21 #[.string s] w (GotN tokN w 24 57 (toksOf s).length (toksOf s)) := by
  have hF := feedText_spec w ⟨#[]⟩ s (by decide) hs
  rw [nil_append'] at hF
  obtain ⟨e1, -, e5⟩ := feedN_toks s.size s
  rw [show feedN s.size s = feed s from rfl] at e1 e5
  have hTO := Lib.hid (show toksOf s = (feed s).1 ++ endToks (feed s).2 from rfl)
  generalize toksOf s = TT at *
  generalize feed s = F at *
  obtain ⟨F1, F2⟩ := F
  simp only at e1 e5 hTO
  have hE := fun W => endText_spec F2 W (by omega)
  have hEc := endToks_cases F2
  generalize endToks F2 = ET at *
  go_enter Tryd.func21, Tryd.ntmps21
  go_wp2_with (fail)
  go_at_call 26
  refine hF.mono ?_
  rintro e w1 ⟨A1, c1, L1, rfl, h1, o1, b1⟩
  simp only at h1 o1
  have y1 := b1.size
  have hX := BoxAt.new (w := w1) rfl [.string F2] 40
  have a1 := (Below.refl w1.heap.size w1).alloc (Nat.le_refl _) (.cells #[.string F2] 40)
  have z1 : (w1.alloc (.cells #[.string F2] 40)).heap.size = w1.heap.size + 1 := by simp
  go_wp2_with (fail)
  go_at_call 51
  refine (hE _).mono ?_
  rintro e w2 ⟨A2, c2, L2, rfl, h2, o2, b2⟩
  have y2 := b2.size
  rw [z1] at y2
  have hb2 : Below w1.heap.size w1 w2 := a1.trans (b2.mono (by rw [z1]; omega))
  have o1' := o1.below hb2
  have cb := b1.trans (hb2.mono b1.size)
  rcases hEc with rfl | rfl
  · have hres := Lib.hid (show TT = F1 by rw [hTO.out, List.append_nil])
    clear hTO
    go_wp2_with (at_builtin
                 refine wpList_append_zero row_Token rfl (.tmp 11) (.tmp 13) rfl o1'.row.1 rfl A2 c2 rfl ?_)
    go_ret
    rw [hres.out]
    exact ⟨A1, c1, L1, rfl, h1, o1'.wide (Nat.le_refl _) (by omega), cb⟩
  · have hL2 : ∃ x : Tok × Hd, L2 = [x] ∧ x.1 = ⟨3, ⟨#[]⟩, [], F2⟩ := by
      rcases L2 with _ | ⟨x, _ | ⟨y, r⟩⟩
      · simp at h2
      · exact ⟨x, rfl, by simpa using h2⟩
      · simp at h2
    obtain ⟨x, rfl, hx1⟩ := hL2
    have hk := o2.kids x (by simp)
    have hr2 : Reads w2 w2.heap.size 4 A2 1 (tokN.cells x) := by
      have h3 := o2.row.reads (Nat.le_refl _)
      rw [Nest.flat_cons, Nest.flat_nil, List.append_nil] at h3
      exact h3
    have hl1 := Lib.hid (show F1.length = L1.length by rw [← h1, List.length_map])
    have hres := Lib.hid (show TT = (L1 ++ [x]).map (·.1) by rw [hTO.out, List.map_append, h1, List.map_cons, List.map_nil, hx1])
    clear hTO
    rw [z1] at hk
    go_wp2_with (at_builtin
                 refine wpList_push (N := tokN) (bytes := 64) row_Token rfl (.tmp 11) (.tmp 13) rfl (lo := w.heap.size) (m := w1.heap.size) (ek := 57) (L := L1) (A := A1) (n := F1.length) (c := c1) o1' (by omega) y1 x (hk.wide (by omega) (Nat.le_refl _)) rfl A2 c2 _ rfl hr2 (by omega) (by omega) ?_
                 intro A8 c8 w8 ho8 hk8)
    go_ret
    rw [hres.out]
    have hge : ∀ k, (Value.slice A1 F1.length c1).ownBlock = some k → w.heap.size ≤ k := fun k hk => o1.row.geb k hk
    exact ⟨A8, c8, L1 ++ [x], by simp [hl1.out], rfl, by simpa [hl1.out] using ho8, cb.trans (hk8.below (by omega) fun k hS => hge k hS)⟩
set_option maxHeartbeats 2000000 in
theorem tokensOf_impl (w : World) (hm : LdM w) (s : ByteArray) (hs : s.size ≤ 536870912) : Calls Tryd.prog 16 #[.string s] w (GotN tokN w 24 57 (toksOf s).length (toksOf s)) := by
  have hF := feedText_impl w hm ⟨#[]⟩ s (by decide) hs
  rw [nil_append'] at hF
  obtain ⟨e1, -, e5⟩ := feedN_toks s.size s
  rw [show feedN s.size s = feed s from rfl] at e1 e5
  have hTO := Lib.hid (show toksOf s = (feed s).1 ++ endToks (feed s).2 from rfl)
  generalize toksOf s = TT at *
  generalize feed s = F at *
  obtain ⟨F1, F2⟩ := F
  simp only at e1 e5 hTO
  have hE := fun W => endText_impl F2 W (by omega)
  have hEc := endToks_cases F2
  generalize endToks F2 = ET at *
  go_enter Tryd.func16, Tryd.ntmps16
  go_wp2_with (fail)
  go_at_call 23
  refine hF.mono ?_
  rintro e w1 ⟨A1, c1, L1, rfl, h1, o1, b1⟩
  simp only at h1 o1
  have y1 := b1.size
  have hX := BoxAt.new (w := w1) rfl [.string F2] 40
  have a1 := (Below.refl w1.heap.size w1).alloc (Nat.le_refl _) (.cells #[.string F2] 40)
  have z1 : (w1.alloc (.cells #[.string F2] 40)).heap.size = w1.heap.size + 1 := by simp
  go_wp2_with (fail)
  go_at_call 24
  refine (hE _).mono ?_
  rintro e w2 ⟨A2, c2, L2, rfl, h2, o2, b2⟩
  have y2 := b2.size
  rw [z1] at y2
  have hb2 : Below w1.heap.size w1 w2 := a1.trans (b2.mono (by rw [z1]; omega))
  have o1' := o1.below hb2
  have cb := b1.trans (hb2.mono b1.size)
  rcases hEc with rfl | rfl
  · have hres := Lib.hid (show TT = F1 by rw [hTO.out, List.append_nil])
    clear hTO
    go_wp2_with (at_builtin
                 refine wpList_append_zero row_Token rfl (.tmp 11) (.tmp 13) rfl o1'.row.1 rfl A2 c2 rfl ?_)
    go_ret
    rw [hres.out]
    exact ⟨A1, c1, L1, rfl, h1, o1'.wide (Nat.le_refl _) (by omega), cb⟩
  · have hL2 : ∃ x : Tok × Hd, L2 = [x] ∧ x.1 = ⟨3, ⟨#[]⟩, [], F2⟩ := by
      rcases L2 with _ | ⟨x, _ | ⟨y, r⟩⟩
      · simp at h2
      · exact ⟨x, rfl, by simpa using h2⟩
      · simp at h2
    obtain ⟨x, rfl, hx1⟩ := hL2
    have hk := o2.kids x (by simp)
    have hr2 : Reads w2 w2.heap.size 4 A2 1 (tokN.cells x) := by
      have h3 := o2.row.reads (Nat.le_refl _)
      rw [Nest.flat_cons, Nest.flat_nil, List.append_nil] at h3
      exact h3
    have hl1 := Lib.hid (show F1.length = L1.length by rw [← h1, List.length_map])
    have hres := Lib.hid (show TT = (L1 ++ [x]).map (·.1) by rw [hTO.out, List.map_append, h1, List.map_cons, List.map_nil, hx1])
    clear hTO
    rw [z1] at hk
    go_wp2_with (at_builtin
                 refine wpList_push (N := tokN) (bytes := 64) row_Token rfl (.tmp 11) (.tmp 13) rfl (lo := w.heap.size) (m := w1.heap.size) (ek := 57) (L := L1) (A := A1) (n := F1.length) (c := c1) o1' (by omega) y1 x (hk.wide (by omega) (Nat.le_refl _)) rfl A2 c2 _ rfl hr2 (by omega) (by omega) ?_
                 intro A8 c8 w8 ho8 hk8)
    go_ret
    rw [hres.out]
    have hge : ∀ k, (Value.slice A1 F1.length c1).ownBlock = some k → w.heap.size ≤ k := fun k hk => o1.row.geb k hk
    exact ⟨A8, c8, L1 ++ [x], by simp [hl1.out], rfl, by simpa [hl1.out] using ho8, cb.trans (hk8.below (by omega) fun k hS => hge k hS)⟩

set_option maxHeartbeats 2000000 in
theorem fnExactTokensOf_walk (w : World) (hm : LdM w) (s0 : ByteArray) (g0 : s0.size ≤ maxLen) :
    Calls Tryd.prog 7 #[.string s0] w fun e w' => e = .returned (.bool true) ∧ Below w.heap.size w w' := by
  unfold maxLen at g0
  by_cases xx : 1048576 < s0.size
  · go_enter Tryd.func7, Tryd.ntmps7
    go_wp2
    go_ret
    exact ⟨rfl, Below.refl _ _⟩
  have Xs0 : s0.size ≤ 1048576 := by omega
  clear xx
  have cb : Below w.heap.size w w := Below.refl _ _
  have hS := fun W => tokensOf_spec W s0 (by omega)
  have hI := fun W h => tokensOf_impl W h s0 (by omega)
  obtain ⟨e1, e2, e3⟩ := toksOf_facts s0
  generalize toksOf s0 = F1 at *
  go_enter Tryd.func7, Tryd.ntmps7
  go_wp2_with fail
  refine (hS _).mono ?_
  rintro e v1 ⟨Aow, Cow, Low, rfl, how, ow, bb⟩
  have zz := bb.size
  try simp only [World.size_drew, World.size_alloc] at zz
  replace cb : Below w.heap.size w v1 := by first | exact cb.trans (bb.mono cb.size) | exact cb.drew.trans (bb.mono cb.drew.size)
  clear bb
  go_wp2_with fail
  refine (hI _ (hm.below cb)).mono ?_
  rintro e v2 ⟨Aog, Cog, Log, rfl, hog, og, bb⟩
  have zz := bb.size
  try simp only [World.size_drew, World.size_alloc] at zz
  replace ow := ow.below bb
  replace cb : Below w.heap.size w v2 := by first | exact cb.trans (bb.mono cb.size) | exact cb.drew.trans (bb.mono cb.drew.size)
  clear bb
  go_wp2_with fail
  refine (eqTokenS_yes _ (OwnN.rd og hog (by first | omega | (simp; omega))) (OwnN.rd ow how (by first | omega | (simp; omega))) (by omega) e2).mono ?_
  rintro e v3 ⟨rfl, bb⟩
  have zz := bb.size
  try simp only [World.size_drew, World.size_alloc] at zz
  replace ow := ow.below bb
  replace og := og.below bb
  replace cb : Below w.heap.size w v3 := by first | exact cb.trans (bb.mono cb.size) | exact cb.drew.trans (bb.mono cb.drew.size)
  clear bb
  have en := nums_of (N := tokN) hog
  go_wp2_with fail
  refine (markTokenS_any _ og (by omega) (by omega) (by omega) (by rw [en]; omega)).mono ?_
  rintro e v4 ⟨rfl, om, bb⟩
  have zz := bb.size
  try simp only [World.size_drew, World.size_alloc] at zz
  replace cb : Below w.heap.size w v4 := cb.trans (bb.below cb.size (fun k hk => by have := hk.1; omega))
  replace ow := ow.keep bb (fun k hk => by have h1 := hk.1; have h2 := hk.2; omega)
  clear bb
  clear og
  replace om := om.more (by omega : _ ≤ v4.heap.size)
  rw [en] at om
  rw [en]
  have tn := totN_nonneg (F1.map tokN.num)
  go_wp2_with fail
  refine (heldTokenS_any _ om (by omega) (by omega) (by omega)).mono ?_
  rintro e v5 ⟨rfl, bb⟩
  have zz := bb.size
  try simp only [World.size_drew, World.size_alloc] at zz
  replace ow := ow.below bb
  replace om := om.next bb
  replace cb : Below w.heap.size w v5 := by first | exact cb.trans (bb.mono cb.size) | exact cb.drew.trans (bb.mono cb.drew.size)
  clear bb
  go_wp2_with fail
  refine (hI _ (hm.below cb)).mono ?_
  rintro e v6 ⟨Aoh, Coh, Loh, rfl, hoh, oh, bb⟩
  have zz := bb.size
  try simp only [World.size_drew, World.size_alloc] at zz
  replace ow := ow.below bb
  replace om := om.next bb
  replace cb : Below w.heap.size w v6 := by first | exact cb.trans (bb.mono cb.size) | exact cb.drew.trans (bb.mono cb.drew.size)
  clear bb
  go_wp2_with fail
  refine (eqTokenS_yes _ (OwnN.rd oh hoh (by first | omega | (simp; omega))) (OwnN.rd ow how (by first | omega | (simp; omega))) (by omega) e2).mono ?_
  rintro e v7 ⟨rfl, bb⟩
  have zz := bb.size
  try simp only [World.size_drew, World.size_alloc] at zz
  replace ow := ow.below bb
  replace oh := oh.below bb
  replace om := om.next bb
  replace cb : Below w.heap.size w v7 := by first | exact cb.trans (bb.mono cb.size) | exact cb.drew.trans (bb.mono cb.drew.size)
  clear bb
  go_wp2_with fail
  refine (heldTokenS_any _ om (by omega) (by omega) (by omega)).mono ?_
  rintro e v8 ⟨rfl, bb⟩
  have zz := bb.size
  try simp only [World.size_drew, World.size_alloc] at zz
  replace ow := ow.below bb
  replace oh := oh.below bb
  replace om := om.next bb
  replace cb : Below w.heap.size w v8 := by first | exact cb.trans (bb.mono cb.size) | exact cb.drew.trans (bb.mono cb.drew.size)
  clear bb
  go_wp2
  go_ret
  exact ⟨rfl, cb⟩

end Go.Proofs.YtkmechjilekcmaaDoor
