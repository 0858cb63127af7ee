/-
  The walk of the generated law of the function EndText. No condition.
-/
import Derived.Test.YtkmechjilekcmaaDoorEt
import Derived.Deep.RegionHeld3
namespace Go.Proofs.YtkmechjilekcmaaDoor
set_option linter.unusedVariables false
set_option linter.unusedSimpArgs false
set_option maxRecDepth 100000
open Go.ChangeShapes Go.WideShapes Go.ChangeAt Go.RowKit Go.Deep

theorem OwnN.rd {α : Type} {N : Nest α} {w : World} {lo hi n c : Nat} {e ek : TypeId} {A : Option Addr} {L : List (α × Hd)} {l : List α} (h : OwnN N w lo hi e ek A n c L) (hL : L.map (·.1) = l) (hh : hi ≤ w.heap.size) : ReadsN N w w.heap.size A n l := by
  subst hL
  exact (h.reads hh).more hh
theorem nums_of {α : Type} {N : Nest α} {L : List (α × Hd)} {l : List α} (hL : L.map (·.1) = l) : N.nums L = l.map N.num := by
  subst hL
  simp [Nest.nums]
theorem endToks_len (s : ByteArray) : (endToks s).length ≤ 1 := by unfold endToks; split <;> simp
theorem endToks_attrs (s : ByteArray) : ∀ a ∈ endToks s, a.attrs.length ≤ 1073741824 := by
  unfold endToks
  split
  · simp
  · intro a ha; simp at ha; subst ha; simp
theorem endToks_tot (s : ByteArray) : totN ((endToks s).map tokN.num) ≤ 3 := by
  unfold endToks
  split
  · simp [totN]
  · simp [totN, tokN]


end Go.Proofs.YtkmechjilekcmaaDoor
