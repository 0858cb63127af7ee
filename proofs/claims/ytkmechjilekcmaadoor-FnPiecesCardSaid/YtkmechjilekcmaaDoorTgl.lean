/-
  TagOf of both in one word; marks of one token; the walk of the law of TagOf. Condition: the library's MaxLen holds some integer.
-/
import Derived.Test.YtkmechjilekcmaaDoorTgi
namespace Go.Proofs.YtkmechjilekcmaaDoor
set_option linter.unusedVariables false
set_option linter.unusedSimpArgs false
set_option maxRecDepth 100000
open Go.ChangeShapes Go.WideShapes Go.ChangeAt Go.RowKit Go.Deep

theorem BoxAt.keep {S : Nat → Prop} {w w' : World} {g : Nat} {vs : List Value} {t : TypeId} (h : BoxAt w g vs t) (hb : Keeps S w w') (hs : ¬ S g) : BoxAt w' g vs t := (hb.block g h.lt hs).trans h
theorem tagOf_spec (w : World) (s : ByteArray) (hs : s.size ≤ 1073741824) : Calls Tryd.prog 8 #[.string s] w (GotTag w 57 (tagT s)) := by
  by_cases h1 : 60 < s.size
  · exact tagOf_spec_long w s hs h1
  · cases h2 : slashB s
    · exact tagOf_spec_open w s (by omega) h2
    · refine tagOf_spec_slash w s (by omega) ?_ h2
      rcases Nat.eq_zero_or_pos s.size with h3 | h3
      · rw [slashB_nil h3] at h2; cases h2
      · exact h3
theorem tagOf_impl (w : World) (hm : LdM w) (s : ByteArray) (hs : s.size ≤ 1073741824) : Calls Tryd.prog 9 #[.string s] w (GotTag w 57 (tagT s)) := by
  by_cases h1 : 60 < s.size
  · exact tagOf_impl_long w s hs h1
  · cases h2 : slashB s
    · exact tagOf_impl_open w hm s (by omega) h2
    · exact tagOf_impl_slash w s (by omega) h2
theorem markToken_any {lo hi : Nat} {A : Option Addr} {c : Nat} (t : Tok) {q : Int} (w : World) (hx : Own w lo hi 57 2 (.slice A t.attrs.length c) t.attrs.length (s2V t.attrs)) (hh : hi ≤ w.heap.size) (hlh : lo ≤ hi)
    (hn : t.attrs.length ≤ 1073741824) (q0 : 0 < q) (q1 : q ≤ 1073741824) : Calls Tryd.prog 11 #[.agg #[.int .i64 t.kind, .string t.name, .slice A t.attrs.length c, .string t.text], .int .i64 q] w
      (Marked w lo hi (fun w' => Own w' lo hi 57 2 (.slice A t.attrs.length c) t.attrs.length (s2V (mkL q t.attrs.length))) (q + 2 * t.attrs.length)) := by
  obtain ⟨kind, name, attrs, text⟩ := t
  simp only at *
  have hb := (Below.refl w.heap.size w).alloc (Nat.le_refl _) (.cells #[.int .i64 kind, .string name, .slice A attrs.length c, .string text] 24)
  have hx' := hx.below hb
  go_enter Tryd.func11, Tryd.ntmps11
  go_wp2_with fail
  refine (markAttrS_any (lo := lo) (hi := hi) _ hx' (by simp; omega) hlh hn q0 q1).mono ?_
  rintro e w1 ⟨rfl, o1, k1⟩
  have hkp : Keeps (Span lo hi) w w1 := (Keeps.of_below hb).trans k1
  go_wp2
  go_ret
  exact ⟨rfl, o1, hkp⟩
theorem heldToken_any {A : Option Addr} {c : Nat} (t : Tok) {q : Int} (w : World) (hx : Reads w w.heap.size 2 A t.attrs.length (s2V (mkL q t.attrs.length)))
    (hn : t.attrs.length ≤ 1073741824) (q0 : 0 < q) (q1 : q ≤ 1073741824) : Calls Tryd.prog 12 #[.agg #[.int .i64 t.kind, .string t.name, .slice A t.attrs.length c, .string t.text], .int .i64 q] w
      fun e w' => e = .returned (.int .i64 (q + 2 * t.attrs.length)) ∧ Below w.heap.size w w' := by
  obtain ⟨kind, name, attrs, text⟩ := t
  simp only at *
  have hb := (Below.refl w.heap.size w).alloc (Nat.le_refl _) (.cells #[.int .i64 kind, .string name, .slice A attrs.length c, .string text] 24)
  have hx' := hx.next hb
  have hq9 : (0 : Int) ≤ q + 2 * (attrs.length : Int) := by omega
  go_enter Tryd.func12, Tryd.ntmps12
  go_wp2_with fail
  refine (heldAttrS_any _ hx' hn q0 q1).mono ?_
  rintro e w1 ⟨rfl, b1⟩
  go_wp2
  go_ret
  exact ⟨rfl, hb.trans (b1.mono hb.size)⟩

set_option maxHeartbeats 2000000 in
theorem fnExactTagOf_walk (w : World) (hm : LdM w) (s : ByteArray) (g0 : s.size ≤ maxLen) : Calls Tryd.prog 3 #[.string s] w fun e w' => e = .returned (.bool true) ∧ Below w.heap.size w w' := by
  unfold maxLen at g0
  by_cases xx : 1048576 < s.size
  · go_enter Tryd.func3, Tryd.ntmps3
    go_wp2
    go_ret
    exact ⟨rfl, Below.refl _ _⟩
  have X0 : s.size ≤ 1048576 := by omega
  clear xx
  have hS := fun W => tagOf_spec W s (by omega)
  have hI := fun W h => tagOf_impl W h s (by omega)
  have hA := tagT_attrs s
  generalize tagT s = T at *
  obtain ⟨t, ok⟩ := T
  simp only at hA
  have hok : (ok != ok) = false := by simp
  go_enter Tryd.func3, Tryd.ntmps3
  go_wp2_with fail
  go_at_call 8
  refine (hS _).mono ?_
  rintro e w1 ⟨A1, c1, rfl, o1, b1⟩
  simp only at o1
  have hX1 := BoxAt.new (w := w1) rfl [.int .i64 t.kind, .string t.name, .slice A1 t.attrs.length c1, .string t.text] 24
  have a1 := (Below.refl w1.heap.size w1).alloc (Nat.le_refl _) (.cells #[.int .i64 t.kind, .string t.name, .slice A1 t.attrs.length c1, .string t.text] 24)
  replace o1 := o1.below a1
  have cb := b1.trans (a1.mono b1.size)
  have z1 : (w1.alloc (.cells #[.int .i64 t.kind, .string t.name, .slice A1 t.attrs.length c1, .string t.text] 24)).heap.size = w1.heap.size + 1 := by simp
  have y1 := b1.size
  go_wp2_with fail
  go_at_call 9
  refine (hI _ (hm.below cb)).mono ?_
  rintro e w2 ⟨A2, c2, rfl, o2, b2⟩
  simp only at o2
  have y2 := b2.size
  rw [z1] at y2 o2
  replace o1 := o1.below b2
  replace hX1 := hX1.next b2
  replace cb := cb.trans (b2.mono cb.size)
  have hX2 := BoxAt.new (w := w2) rfl [.int .i64 t.kind, .string t.name, .slice A2 t.attrs.length c2, .string t.text] 24
  have a2 := (Below.refl w2.heap.size w2).alloc (Nat.le_refl _) (.cells #[.int .i64 t.kind, .string t.name, .slice A2 t.attrs.length c2, .string t.text] 24)
  replace o1 := o1.below a2
  replace o2 := o2.below a2
  replace hX1 := hX1.next a2
  replace cb := cb.trans (a2.mono cb.size)
  have z2 : (w2.alloc (.cells #[.int .i64 t.kind, .string t.name, .slice A2 t.attrs.length c2, .string t.text] 24)).heap.size = w2.heap.size + 1 := by simp
  clear b1 a1 b2 a2
  obtain ⟨⟨f0, f1, f2, f3⟩, -⟩ := hX1.four
  obtain ⟨⟨e0, e1, e2, e3⟩, -⟩ := hX2.four
  go_wp2_with fail
  go_at_call 10
  refine (eqToken_yes t _ (Reads.of_own o2.1) (Reads.of_own o1.1) (by omega)).mono ?_
  rintro e w3 ⟨rfl, b3⟩
  have y3 := b3.size
  rw [z2] at y3
  replace o1 := o1.below b3
  replace o2 := o2.below b3
  replace hX1 := hX1.next b3
  replace hX2 := hX2.next b3
  replace cb := cb.trans (b3.mono cb.size)
  clear b3 f0 f1 f2 f3 e0 e1 e2 e3 z1 z2
  obtain ⟨⟨e0, e1, e2, e3⟩, -⟩ := hX2.four
  go_wp2_with fail
  go_at_call 11
  refine (markToken_any t _ o2 (by omega) (by omega) (by omega) (by omega) (by omega)).mono ?_
  rintro e w4 ⟨rfl, m2, k4⟩
  have y4 := k4.size
  replace o1 := o1.keep k4 (fun k hk => by have h1 := hk.1; omega)
  replace hX1 := hX1.keep k4 (fun hk => by have h1 := hk.1; omega)
  replace hX2 := hX2.keep k4 (fun hk => by have h1 := hk.2; omega)
  replace cb := cb.trans (k4.below cb.size (fun k hk => by have h1 := hk.1; omega))
  clear k4 o2 e0 e1 e2 e3
  obtain ⟨⟨e0, e1, e2, e3⟩, -⟩ := hX2.four
  have hq0 : (0 : Int) ≤ 1 + 2 * (t.attrs.length : Int) := by omega
  go_wp2_with fail
  go_at_call 12
  refine (heldToken_any t _ (Reads.of_own m2.1) (by omega) (by omega) (by omega)).mono ?_
  rintro e w5 ⟨rfl, b5⟩
  have y5 := b5.size
  replace o1 := o1.below b5
  replace m2 := m2.below b5
  replace hX1 := hX1.next b5
  replace hX2 := hX2.next b5
  replace cb := cb.trans (b5.mono cb.size)
  clear b5 e0 e1 e2 e3
  go_wp2_with fail
  go_at_call 9
  refine (hI _ (hm.below cb)).mono ?_
  rintro e w6 ⟨A6, c6, rfl, o6, b6⟩
  simp only at o6
  have y6 := b6.size
  replace o1 := o1.below b6
  replace m2 := m2.below b6
  replace hX1 := hX1.next b6
  replace hX2 := hX2.next b6
  replace cb := cb.trans (b6.mono cb.size)
  have hX6 := BoxAt.new (w := w6) rfl [.int .i64 t.kind, .string t.name, .slice A6 t.attrs.length c6, .string t.text] 24
  have a6 := (Below.refl w6.heap.size w6).alloc (Nat.le_refl _) (.cells #[.int .i64 t.kind, .string t.name, .slice A6 t.attrs.length c6, .string t.text] 24)
  replace o1 := o1.below a6
  replace o6 := o6.below a6
  replace m2 := m2.below a6
  replace hX1 := hX1.next a6
  replace hX2 := hX2.next a6
  replace cb := cb.trans (a6.mono cb.size)
  clear b6 a6
  obtain ⟨⟨f0, f1, f2, f3⟩, -⟩ := hX1.four
  obtain ⟨⟨e0, e1, e2, e3⟩, -⟩ := hX6.four
  go_wp2_with fail
  go_at_call 10
  refine (eqToken_yes t _ (Reads.of_own o6.1) (Reads.of_own o1.1) (by omega)).mono ?_
  rintro e w7 ⟨rfl, b7⟩
  replace m2 := m2.below b7
  replace hX2 := hX2.next b7
  replace cb := cb.trans (b7.mono cb.size)
  clear b7 o1 o6 hX1 hX6 f0 f1 f2 f3 e0 e1 e2 e3
  obtain ⟨⟨e0, e1, e2, e3⟩, -⟩ := hX2.four
  go_wp2_with fail
  go_at_call 12
  refine (heldToken_any t _ (Reads.of_own m2.1) (by omega) (by omega) (by omega)).mono ?_
  rintro e w8 ⟨rfl, b8⟩
  replace cb := cb.trans (b8.mono cb.size)
  go_wp2
  go_ret
  exact ⟨rfl, cb⟩
end Go.Proofs.YtkmechjilekcmaaDoor
