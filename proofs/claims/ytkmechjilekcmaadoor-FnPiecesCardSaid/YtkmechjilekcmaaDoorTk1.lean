/-
  Contracts of the generated helpers on tokens: measure, compare, copy. Conditions: sizes of Go strings and slices.
-/
import Derived.Test.YtkmechjilekcmaaDoorAds
import Derived.Test.YtkmechjilekcmaaDoorNst
namespace Go.Proofs.YtkmechjilekcmaaDoor
set_option linter.unusedVariables false
set_option linter.unusedSimpArgs false
set_option maxRecDepth 100000
open Go.ChangeShapes Go.WideShapes Go.ChangeAt Go.RowKit Go.Deep

theorem Own.set {w : World} {lo hi : Nat} {e : TypeId} {size n : Nat} {v : Value} {xs : List Value} (h : Own w lo hi e size v n xs) {p : Addr} (hp : p.block < lo) (u : Value) : Own (w.setCell p u) lo hi e size v n xs :=
  h.keep (keeps_set (S := fun k => k = p.block) w u rfl) fun k hk => .inl (by rw [hk]; exact hp)
theorem Own.drew {w : World} {lo hi : Nat} {e : TypeId} {size n : Nat} {v : Value} {xs : List Value} (h : Own w lo hi e size v n xs) : Own w.drew lo hi e size v n xs := h
theorem Own.ge {w : World} {lo hi : Nat} {e : TypeId} {size n : Nat} {v : Value} {xs : List Value} (h : Own w lo hi e size v n xs) : ∀ k, v.ownBlock = some k → lo ≤ k := fun k hk => (h.1.lt k hk).1
/-- one token with its attributes in blocks of the call's own -/
def GotTok (w : World) (ek : TypeId) (t : Tok) (r : Ending) (w' : World) : Prop :=
  ∃ A c, r = .returned (.agg #[.int .i64 t.kind, .string t.name, .slice A t.attrs.length c, .string t.text]) ∧ Own w' w.heap.size w'.heap.size ek 2 (.slice A t.attrs.length c) t.attrs.length (s2V t.attrs) ∧ Below w.heap.size w w'
def tokSz (t : Tok) : Int := t.name.size + (t.attrs.length + s2sz t.attrs) + t.text.size

set_option maxHeartbeats 400000 in
theorem eqToken_yes {A A' : Option Addr} {c c' : Nat} (t : Tok) (w : World) (hx : Reads w w.heap.size 2 A t.attrs.length (s2V t.attrs)) (hy : Reads w w.heap.size 2 A' t.attrs.length (s2V t.attrs)) (hn : t.attrs.length ≤ 1073741824) :
    Calls Tryd.prog 10 #[.agg #[.int .i64 t.kind, .string t.name, .slice A t.attrs.length c, .string t.text], .agg #[.int .i64 t.kind, .string t.name, .slice A' t.attrs.length c', .string t.text]] w fun e w' => e = .returned (.bool true) ∧ Below w.heap.size w w' := by
  obtain ⟨kind, name, attrs, text⟩ := t
  simp only at *
  have hb0 := ((Below.refl w.heap.size w).alloc (Nat.le_refl _) (.cells #[.int .i64 kind, .string name, .slice A attrs.length c, .string text] 24)).alloc (by simp) (.cells #[.int .i64 kind, .string name, .slice A' attrs.length c', .string text] 24)
  have hx' := (hx.below hb0).more hb0.size
  have hy' := (hy.below hb0).more hb0.size
  go_enter Tryd.func10, Tryd.ntmps10
  go_wp2_with (go_at_call 40; refine (eqAttrS_yes (l := attrs) _ hx' hy' hn).mono ?_; rintro e w1 ⟨rfl, b1⟩; have c3 : w1.cell? ⟨w.heap.size, 3, none⟩ = some (.string text) := by { rw [(bcell b1).1 _ _ (by simp; omega)]; simp [go_sem] }; have c4 : w1.cell? ⟨w.heap.size + 1, 3, none⟩ = some (.string text) := by { rw [(bcell b1).1 _ _ (by simp)]; simp [go_sem] })
  go_ret
  exact ⟨rfl, hb0.trans (b1.mono hb0.size)⟩
end Go.Proofs.YtkmechjilekcmaaDoor
