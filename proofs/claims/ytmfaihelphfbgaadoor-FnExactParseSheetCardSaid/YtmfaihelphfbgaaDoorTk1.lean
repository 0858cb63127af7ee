/-
  Contracts of the generated helpers on tokens: measure, compare, copy. Conditions: sizes of Go strings and slices.
-/
import Derived.Test.YtmfaihelphfbgaaDoorAds
import Derived.Test.YtmfaihelphfbgaaDoorNst
namespace Go.Proofs.YtmfaihelphfbgaaDoor
set_option linter.unusedVariables false
set_option linter.unusedSimpArgs false
set_option maxRecDepth 100000
open Go.ChangeShapes Go.WideShapes Go.ChangeAt Go.RowKit Go.Deep

theorem Own.set {w : World} {lo hi : Nat} {e : TypeId} {size n : Nat} {v : Value} {xs : List Value} (h : Own w lo hi e size v n xs) {p : Addr} (hp : p.block < lo) (u : Value) : Own (w.setCell p u) lo hi e size v n xs :=
  h.keep (keeps_set (S := fun k => k = p.block) w u rfl) fun k hk => .inl (by rw [hk]; exact hp)
theorem Own.drew {w : World} {lo hi : Nat} {e : TypeId} {size n : Nat} {v : Value} {xs : List Value} (h : Own w lo hi e size v n xs) : Own w.drew lo hi e size v n xs := h
theorem Own.ge {w : World} {lo hi : Nat} {e : TypeId} {size n : Nat} {v : Value} {xs : List Value} (h : Own w lo hi e size v n xs) : ∀ k, v.ownBlock = some k → lo ≤ k := fun k hk => (h.1.lt k hk).1
/-- one token with its attributes in blocks of the call's own -/
def GotTok (w : World) (ek : TypeId) (t : Tok) (r : Ending) (w' : World) : Prop :=
  ∃ A c, r = .returned (.agg #[.int .i64 t.kind, .string t.name, .slice A t.attrs.length c, .string t.text]) ∧ Own w' w.heap.size w'.heap.size ek 2 (.slice A t.attrs.length c) t.attrs.length (s2V t.attrs) ∧ Below w.heap.size w w'
def tokSz (t : Tok) : Int := t.name.size + (t.attrs.length + s2sz t.attrs) + t.text.size

end Go.Proofs.YtmfaihelphfbgaaDoor
