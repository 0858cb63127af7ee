/-
  Contracts of the law's test 'big'; two small steps from what is owned to what is read. Condition: none but the size of a slice.
-/
import Derived.Test.YtmfaihelphfbgaaDoorDwc
namespace Go.Proofs.YtmfaihelphfbgaaDoor
set_option linter.unusedVariables false
set_option linter.unusedSimpArgs false
set_option maxRecDepth 100000
open Go.ChangeShapes Go.WideShapes Go.ChangeAt Go.RowKit Go.Deep

theorem big_no {A : Option Addr} {n c : Nat} (w : World) (hn : n ≤ 1048576) : Calls Tryd.prog 8 #[.slice A n c] w fun e w' => e = .returned (.bool false) ∧ w = w' := by
  go_enter Tryd.func8, Tryd.ntmps8
  go_wp2
  go_ret
  exact ⟨ret_bool (by simp; omega), rfl⟩
theorem big_yes {A : Option Addr} {n c : Nat} (w : World) (hn : ¬ n ≤ 1048576) (hm : n ≤ maxLen) : Calls Tryd.prog 8 #[.slice A n c] w fun e w' => e = .returned (.bool true) ∧ w = w' := by
  simp only [maxLen] at hm
  go_enter Tryd.func8, Tryd.ntmps8
  go_wp2
  go_ret
  exact ⟨ret_bool (by simp; omega), rfl⟩
theorem own_got {w w' w'' : World} {lo e size n : Nat} {v : Value} {xs : List Value} (h : w'.ownsRow lo e size v n xs) (hl : w.heap.size ≤ lo) : Own w' w.heap.size w'.heap.size e size v n xs := (Own.of_row h).wide hl (Nat.le_refl _)
theorem Own.rd {w : World} {lo e size n c : Nat} {A : Option Addr} {xs : List Value} (h : Own w lo w.heap.size e size (.slice A n c) n xs) : Reads w w.heap.size size A n xs := h.reads (Nat.le_refl _)
end Go.Proofs.YtmfaihelphfbgaaDoor
