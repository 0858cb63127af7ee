/-
  The walk of the generated law of ParseAddr. No condition.
-/
import Derived.Test.YtnamebgfiibchaaLc
namespace Go.Proofs.Ytnamebgfiibchaa
set_option linter.unusedVariables false
set_option linter.unusedSimpArgs false
set_option maxRecDepth 100000
open Go.ChangeShapes Go.WideShapes Go.ChangeAt Go.RowKit Go.Deep
set_option maxHeartbeats 1000000 in
theorem fnExactParseAddr_walk (w : World) (s0 : ByteArray) (g0 : s0.size ≤ maxLen) (s1 : ByteArray) (g1 : s1.size ≤ maxLen) :
    Calls Try.prog 8 #[.string s0, .string s1] w fun e w' => e = .returned (.bool true) ∧ Below w.heap.size w w' := by
  unfold maxLen at g0 g1
  by_cases x0 : 1048576 < s0.size
  · go_enter Try.func8, Try.ntmps8
    go_wp2
    all_goals
      go_ret
      exact ⟨rfl, by first | exact Below.refl _ _ | exact (((Below.refl _ _).alloc (Nat.le_refl _) _).alloc (by simp) _)⟩
  have X0 : s0.size ≤ 1048576 := by omega
  clear x0
  by_cases x1 : 1048576 < s1.size
  · go_enter Try.func8, Try.ntmps8
    go_wp2
    all_goals
      go_ret
      exact ⟨rfl, by first | exact Below.refl _ _ | exact (((Below.refl _ _).alloc (Nat.le_refl _) _).alloc (by simp) _)⟩
  have X1 : s1.size ≤ 1048576 := by omega
  clear x1
  have hs := fun W => parseAddr_spec s0 s1 (by omega) (by omega) W
  have hi := fun W => parseAddr_impl s0 s1 (by omega) (by omega) W
  generalize cutA s0 s1 = a at hs hi
  obtain ⟨p, ok, hp⟩ : ∃ (p : S2) (ok : Bool), retA a = .returned (.tuple #[.agg #[.string p.1, .string p.2], .bool ok]) := by
    cases hA : isA a
    · exact ⟨(⟨#[]⟩, ⟨#[]⟩), false, (retA_no hA).symm⟩
    · exact ⟨a, true, (retA_yes hA).symm⟩
  rw [hp] at hs hi
  have cb : Below w.heap.size w w := Below.refl _ _
  cases ok
  all_goals
    go_enter Try.func8, Try.ntmps8
    go_wp2_with fail
    refine (hs _).mono ?_
    rintro e w1 ⟨rfl, b1⟩
    go_wp2_with fail
    refine (hi _).mono ?_
    rintro e w2 ⟨rfl, b2⟩
    have cb1 := (cb.trans (b1.mono cb.size)).alloc b1.size (.cells #[.string p.1, .string p.2] 26)
    have cb2 := cb1.trans (b2.mono cb1.size)
    have cb3 := cb2.alloc cb2.size (.cells #[.string p.1, .string p.2] 26)
    have x := box_rd b2 (b := w1.heap.size) (u0 := .string p.1) (u1 := .string p.2) (by simp) ⟨by simp [go_sem], by simp [go_sem]⟩
    have z2 := b2.size
    simp at z2
    have x' := box_rd ((Below.refl w2.heap.size w2).alloc (Nat.le_refl _) (.cells #[.string p.1, .string p.2] 26)) (b := w1.heap.size) (by omega) x
    obtain ⟨x0, x1⟩ := x'
    go_wp2_with fail
    refine (eqAddr_yes p _).mono ?_
    rintro e w3 ⟨rfl, b3⟩
    go_wp2
    go_ret
    exact ⟨rfl, cb3.trans (b3.mono cb3.size)⟩
end Go.Proofs.Ytnamebgfiibchaa
