/-
  Bounds that a builder's measure gives. No condition.
-/
import Derived.Test.YtflcknknkekkfaaBd
import Derived.Deep.RegionHeld3
namespace Go.Proofs.Ytflcknknkekkfaa
set_option linter.unusedVariables false
set_option linter.unusedSimpArgs false
set_option maxRecDepth 100000
open Go.ChangeShapes Go.WideShapes Go.ChangeAt Go.RowKit Go.Deep

theorem ReadsN.drew {α : Type} {N : Nest α} {w : World} {B n : Nat} {A : Option Addr} {l : List α} (h : ReadsN N w B A n l) : ReadsN N w.drew B A n l := h
theorem OwnN.drew {α : Type} {N : Nest α} {w : World} {lo hi n c : Nat} {e ek : TypeId} {A : Option Addr} {L : List (α × Hd)} (h : OwnN N w lo hi e ek A n c L) : OwnN N w.drew lo hi e ek A n c L := h.keep (S := Never) (Keeps.of_below (Below.refl _ _).drew) fun _ h => h.elim
theorem bld_bounds {w : World} {n n' : Nat} {A A' : Option Addr} {b : Bld} (h : ReadsB w w.heap.size A n A' n' b) (hb : bldSz b ≤ 1048576) :
    n ≤ 1048576 ∧ n' ≤ 1048576 ∧ (∀ a ∈ b.nodes, a.attrs.length ≤ 1073741824) ∧ nodsSz b.nodes ≤ 1048576 := by
  obtain ⟨h1, h2⟩ := h.len
  have h3 := nodsSz_nonneg b.nodes
  unfold bldSz at hb
  refine ⟨by omega, by omega, fun a ha => ?_, by omega⟩
  have h4 := nodsSz_mem ha
  have h5 := attrs_le_nodSz a
  omega

end Go.Proofs.Ytflcknknkekkfaa
