/-
  Contracts of the functions that draw, third part: numbers.
-/
import Derived.Test.YtpehaoamfifgbaaDwb
namespace Go.Proofs.Ytpehaoamfifgbaa
set_option linter.unusedVariables false
set_option linter.unusedSimpArgs false
set_option maxRecDepth 100000
open Go.ChangeShapes Go.WideShapes Go.ChangeAt Go.RowKit Go.Deep

theorem alloc_lt (w : World) (o : Obj) : w.heap.size < (w.alloc o).heap.size := by
  show _ < (w.heap.push o).size
  rw [Array.size_push]
  omega
theorem mul_in {x y : Int} {a b : Nat} (h1 : 0 ≤ x) (h2 : x < a) (h3 : 0 ≤ y) (h4 : y < b) : 0 ≤ x * y ∧ x * y ≤ (a : Int) * b := ⟨Int.mul_nonneg h1 h3, Int.mul_le_mul (by omega) (by omega) h3 (by omega)⟩






end Go.Proofs.Ytpehaoamfifgbaa
