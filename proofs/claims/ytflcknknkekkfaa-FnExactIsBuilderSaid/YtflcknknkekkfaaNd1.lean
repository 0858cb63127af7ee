/-
  Contracts of the generated helpers on nodes. Conditions: sizes of Go strings and slices, at most 2^30 elements.
-/
import Derived.Test.YtflcknknkekkfaaTk1
import Derived.Deep.RegionWith
namespace Go.Proofs.Ytflcknknkekkfaa
set_option linter.unusedVariables false
set_option linter.unusedSimpArgs false
set_option maxRecDepth 100000
open Go.ChangeShapes Go.WideShapes Go.ChangeAt Go.RowKit Go.Deep

def nodSz (t : Nod) : Int := t.name.size + t.text.size + (t.attrs.length + s2sz t.attrs)
/-- one element with its attributes in blocks of the call's own -/
def GotNod (w : World) (ek : TypeId) (t : Nod) (r : Ending) (w' : World) : Prop :=
  ∃ A c, r = .returned (.agg #[.string t.name, .string t.text, .int .i64 t.parent, .slice A t.attrs.length c]) ∧ Own w' w.heap.size w'.heap.size ek 2 (.slice A t.attrs.length c) t.attrs.length (s2V t.attrs) ∧ Below w.heap.size w w'
set_option maxHeartbeats 400000 in
theorem szNode_any {A : Option Addr} {c : Nat} (t : Nod) (w : World) (hx : Reads w w.heap.size 2 A t.attrs.length (s2V t.attrs)) (h1 : t.name.size ≤ 9223372036854775807) (h2 : t.attrs.length ≤ 9223372036854775807) (h3 : ∀ a ∈ t.attrs, a.1.size ≤ 9223372036854775807 ∧ a.2.size ≤ 9223372036854775807) (h4 : t.text.size ≤ 9223372036854775807)
    (left : Int) (h0 : 0 ≤ left) (h9 : left ≤ 1048576) : Calls Try.prog 102 #[.agg #[.string t.name, .string t.text, .int .i64 t.parent, .slice A t.attrs.length c], .int .i64 left] w (Sz left (nodSz t) w) := by
  have hn := s2sz_nonneg t.attrs
  have hT : nodSz t = t.name.size + t.text.size + (t.attrs.length + s2sz t.attrs) := rfl
  generalize nodSz t = T at *
  obtain ⟨name, text, parent, attrs⟩ := t
  simp only at *
  by_cases hneg : left < name.size
  · have hT' := Lib.hid hT
    clear hT
    go_enter Try.func102, Try.ntmps102
    go_wp2
    go_ret
    exact ⟨-1, rfl, by omega, by omega, by omega, (Below.refl _ _).alloc (Nat.le_refl _) _⟩
  by_cases hneg2 : left < name.size + text.size
  · have hT' := Lib.hid hT
    clear hT
    go_enter Try.func102, Try.ntmps102
    go_wp2
    go_ret
    exact ⟨-1, rfl, by omega, by omega, by omega, (Below.refl _ _).alloc (Nat.le_refl _) _⟩
  · have hT' := Lib.hid hT
    clear hT
    have hb0 := (Below.refl w.heap.size w).alloc (Nat.le_refl _) (.cells #[.string name, .string text, .int .i64 parent, .slice A attrs.length c] 125)
    go_enter Try.func102, Try.ntmps102
    go_wp2_with (go_at_call 15; refine (szAttrS_s2 (l := attrs) _ ((hx.over (Nat.le_refl _) _).more (by simp)) h2 h3 _ (by omega) (by omega)).mono ?_; rintro e w1 ⟨r, rfl, ra, rb, rc, b1⟩)
    all_goals
      go_ret
      refine ⟨_, rfl, ?_, ?_, ?_, hb0.trans (b1.mono hb0.size)⟩
      all_goals (have := hT'.out; omega)
set_option maxHeartbeats 400000 in
theorem eqNode_yes {A A' : Option Addr} {c c' : Nat} (t : Nod) (w : World) (hx : Reads w w.heap.size 2 A t.attrs.length (s2V t.attrs)) (hy : Reads w w.heap.size 2 A' t.attrs.length (s2V t.attrs)) (hn : t.attrs.length ≤ 1073741824) :
    Calls Try.prog 101 #[.agg #[.string t.name, .string t.text, .int .i64 t.parent, .slice A t.attrs.length c], .agg #[.string t.name, .string t.text, .int .i64 t.parent, .slice A' t.attrs.length c']] w fun e w' => e = .returned (.bool true) ∧ Below w.heap.size w w' := by
  obtain ⟨name, text, parent, attrs⟩ := t
  simp only at *
  have hb0 := ((Below.refl w.heap.size w).alloc (Nat.le_refl _) (.cells #[.string name, .string text, .int .i64 parent, .slice A attrs.length c] 74)).alloc (by simp) (.cells #[.string name, .string text, .int .i64 parent, .slice A' attrs.length c'] 74)
  have hx' := (hx.below hb0).more hb0.size
  have hy' := (hy.below hb0).more hb0.size
  go_enter Try.func101, Try.ntmps101
  go_wp2_with (go_at_call 19; refine (eqAttrS_yes (l := attrs) _ hx' hy' hn).mono ?_; rintro e w1 ⟨rfl, b1⟩)
  go_ret
  exact ⟨rfl, hb0.trans (b1.mono hb0.size)⟩
set_option maxHeartbeats 800000 in
theorem toNode_any {A : Option Addr} {c : Nat} (t : Nod) (w : World) (hx : Reads w w.heap.size 2 A t.attrs.length (s2V t.attrs)) (hn : t.attrs.length ≤ 1073741824) :
    Calls Try.prog 103 #[.agg #[.string t.name, .string t.text, .int .i64 t.parent, .slice A t.attrs.length c]] w (GotNod w 94 t) := by
  obtain ⟨name, text, parent, attrs⟩ := t
  simp only at *
  have hb0 := (((Below.refl w.heap.size w).alloc (Nat.le_refl _) (.cells #[.string name, .string text, .int .i64 parent, .slice A attrs.length c] 125)).alloc (by simp) (.cells #[.string ⟨#[]⟩, .string ⟨#[]⟩, .int .i64 0, .slice none 0 0] 74)).alloc (by simp; omega) (.cells #[.string name, .string text, .int .i64 parent, .slice none 0 0] 74)
  have hx' := (hx.below hb0).more hb0.size
  go_enter Try.func103, Try.ntmps103
  go_wp2_with (go_at_call 17; refine (toAttrS_any (l := attrs) _ hx' hn).mono ?_; rintro e w1 ⟨A', c', rfl, o1, b1⟩; obtain ⟨hc, hf⟩ := bcell b1; have zz := b1.size; simp at zz)
  refine bodyPost_ret (v := .agg #[.string name, .string text, .int .i64 parent, .slice A' attrs.length c']) (by simp [results, Try.results103, go_sem, hc, hf, zz]) rfl ⟨A', c', rfl, ?_, ?_⟩
  · exact (((((o1.set (p := ⟨w.heap.size + 1 + 1, 3, none⟩) (by first | (simp; done) | (simp; omega)) (.slice A' attrs.length c')).set (p := ⟨w.heap.size + 1, 0, none⟩) (by first | (simp; done) | (simp; omega)) (.string name)).set (p := ⟨w.heap.size + 1, 1, none⟩) (by first | (simp; done) | (simp; omega)) (.string text)).set (p := ⟨w.heap.size + 1, 2, none⟩) (by first | (simp; done) | (simp; omega)) (.int .i64 parent)).set (p := ⟨w.heap.size + 1, 3, none⟩) (by first | (simp; done) | (simp; omega)) (.slice A' attrs.length c')).wide (by first | (simp; done) | (simp; omega)) (by simp)
  · exact ((((((hb0.trans (b1.mono hb0.size)).setCell (p := ⟨w.heap.size + 1 + 1, 3, none⟩) (by first | (simp; done) | (simp; omega)) (.slice A' attrs.length c')).setCell (p := ⟨w.heap.size + 1, 0, none⟩) (by first | (simp; done) | (simp; omega)) (.string name)).setCell (p := ⟨w.heap.size + 1, 1, none⟩) (by first | (simp; done) | (simp; omega)) (.string text)).setCell (p := ⟨w.heap.size + 1, 2, none⟩) (by first | (simp; done) | (simp; omega)) (.int .i64 parent)).setCell (p := ⟨w.heap.size + 1, 3, none⟩) (by first | (simp; done) | (simp; omega)) (.slice A' attrs.length c'))
end Go.Proofs.Ytflcknknkekkfaa
