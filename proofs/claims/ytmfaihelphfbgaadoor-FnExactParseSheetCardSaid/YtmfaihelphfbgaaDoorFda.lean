/-
  Contracts of FindAttr of the program and of the reference, and of slices.IndexFunc at it. Conditions: at most 2^30 attributes.
-/
import Derived.Test.YtmfaihelphfbgaaDoorTk1
import Derived.Deep.RegionHeld3
namespace Go.Proofs.YtmfaihelphfbgaaDoor
set_option linter.unusedVariables false
set_option linter.unusedSimpArgs false
set_option maxRecDepth 100000
open Go.ChangeShapes Go.WideShapes Go.ChangeAt Go.RowKit Go.Deep

def findV (l : List S2) (nm : ByteArray) : ByteArray × Bool :=
  match l.find? (fun a => a.1.toList == nm.toList) with
  | some a => (a.2, true)
  | none => (⟨#[]⟩, false)
def noneTo (l : List S2) (nm : ByteArray) (k : Nat) : Prop := ∀ j (h : j < l.length), j < k → (l[j].1.toList == nm.toList) = false
theorem noneTo_zero (l : List S2) (nm : ByteArray) : noneTo l nm 0 := fun _ _ h => absurd h (by omega)
theorem noneTo_succ {l : List S2} {nm : ByteArray} {k : Nat} (h : noneTo l nm k) (hk : k < l.length) (he : (l[k].1.toList == nm.toList) = false) : noneTo l nm (k + 1) := by
  intro j hj hjk
  by_cases e : j = k
  · subst e; exact he
  · exact h j hj (by omega)
theorem findV_at {l : List S2} {nm : ByteArray} {k : Nat} (h : noneTo l nm k) (hk : k < l.length) (he : (l[k].1.toList == nm.toList) = true) : findV l nm = (l[k].2, true) := by
  have : l.find? (fun a => a.1.toList == nm.toList) = some l[k] := by
    rw [List.find?_eq_some_iff_getElem]
    exact ⟨he, k, hk, rfl, fun j hj => by rw [h j (by omega) hj]; rfl⟩
  rw [findV, this]
theorem findV_end {l : List S2} {nm : ByteArray} {k : Nat} (h : noneTo l nm k) (hk : l.length ≤ k) : findV l nm = (⟨#[]⟩, false) := by
  have : l.find? (fun a => a.1.toList == nm.toList) = none := by
    rw [List.find?_eq_none]
    intro x hx
    obtain ⟨j, hj, rfl⟩ := List.getElem_of_mem hx
    rw [h j hj (by omega)]
    simp
  rw [findV, this]
theorem ret_sb {a b : ByteArray} {x y : Bool} (h : (a, x) = (b, y)) : Ending.returned (.tuple #[.string a, .bool x]) = .returned (.tuple #[.string b, .bool y]) := by injection h with h1 h2; rw [h1, h2]

end Go.Proofs.YtmfaihelphfbgaaDoor
