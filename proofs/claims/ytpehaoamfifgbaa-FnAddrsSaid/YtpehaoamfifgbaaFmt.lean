/-
  Contracts of FormatAddr and ParseAddr of the program and of the reference. Conditions: strings of at most 2^30 bytes.
-/
import Derived.Test.YtpehaoamfifgbaaAdd
namespace Go.Proofs.Ytpehaoamfifgbaa
set_option linter.unusedVariables false
set_option linter.unusedSimpArgs false
set_option maxRecDepth 100000
open Go.ChangeShapes Go.WideShapes Go.ChangeAt Go.RowKit Go.Deep

theorem ret_str {x y : ByteArray} (h : x = y) : Ending.returned (.string x) = .returned (.string y) := by rw [h]
def isA (a : S2) : Bool := nameB a.1 && nameB a.2
def fmtA (a : S2) : ByteArray := if isA a then a.1 ++ ⟨#[47]⟩ ++ a.2 else ⟨#[]⟩
theorem fmtA_yes {a : S2} (h : isA a = true) : a.1 ++ ⟨#[47]⟩ ++ a.2 = fmtA a := by rw [fmtA, if_pos h]
theorem fmtA_no {a : S2} (h : isA a = false) : (⟨#[]⟩ : ByteArray) = fmtA a := by rw [fmtA, if_neg (by simp [h])]
theorem formatAddr_impl (a : S2) (h1 : a.1.size ≤ 1073741824) (h2 : a.2.size ≤ 1073741824) (w : World) :
    Calls Try.prog 8 #[.agg #[.string a.1, .string a.2]] w fun e w' => e = .returned (.string (fmtA a)) ∧ Below w.heap.size w w' := by
  have hb := (Below.refl w.heap.size w).alloc (Nat.le_refl _) (.cells #[.string a.1, .string a.2] 25)
  cases hn : (nameB a.1 && nameB a.2)
  · have e0 := Lib.hid (fmtA_no (a := a) hn)
    go_enter Try.func8, Try.ntmps8
    go_wp2_with (go_at_call 11; refine (isAddr_impl _ _ (by omega) (by omega) _).mono ?_; rintro e w' ⟨rfl, b1⟩; rw [hn])
    go_ret
    exact ⟨ret_str e0.out, hb.trans (b1.mono hb.size)⟩
  · have e0 := Lib.hid (fmtA_yes (a := a) hn)
    go_enter Try.func8, Try.ntmps8
    go_wp2_with (go_at_call 11; refine (isAddr_impl _ _ (by omega) (by omega) _).mono ?_; rintro e w' ⟨rfl, b1⟩; rw [hn]; have c0 : w'.cell? ⟨w.heap.size, 0, none⟩ = some (.string a.1) := by { rw [(bcell b1).1 _ _ (by simp)]; simp [go_sem] }; have c1 : w'.cell? ⟨w.heap.size, 1, none⟩ = some (.string a.2) := by { rw [(bcell b1).1 _ _ (by simp)]; simp [go_sem] })
    all_goals
      go_ret
      exact ⟨ret_str e0.out, hb.trans (b1.mono hb.size)⟩
theorem formatAddr_spec (a : S2) (h1 : a.1.size ≤ 1073741824) (h2 : a.2.size ≤ 1073741824) (w : World) :
    Calls Try.prog 31 #[.agg #[.string a.1, .string a.2]] w fun e w' => e = .returned (.string (fmtA a)) ∧ Below w.heap.size w w' := by
  have hb := (Below.refl w.heap.size w).alloc (Nat.le_refl _) (.cells #[.string a.1, .string a.2] 25)
  cases hn : (nameB a.1 && nameB a.2)
  · have e0 := Lib.hid (fmtA_no (a := a) hn)
    go_enter Try.func31, Try.ntmps31
    go_wp2_with (go_at_call 33; refine (isAddr_spec _ _ (by omega) (by omega) _).mono ?_; rintro e w' ⟨rfl, b1⟩; rw [hn])
    go_ret
    exact ⟨ret_str e0.out, hb.trans (b1.mono hb.size)⟩
  · have e0 := Lib.hid (fmtA_yes (a := a) hn)
    go_enter Try.func31, Try.ntmps31
    go_wp2_with (go_at_call 33; refine (isAddr_spec _ _ (by omega) (by omega) _).mono ?_; rintro e w' ⟨rfl, b1⟩; rw [hn]; have c0 : w'.cell? ⟨w.heap.size, 0, none⟩ = some (.string a.1) := by { rw [(bcell b1).1 _ _ (by simp)]; simp [go_sem] }; have c1 : w'.cell? ⟨w.heap.size, 1, none⟩ = some (.string a.2) := by { rw [(bcell b1).1 _ _ (by simp)]; simp [go_sem] })
    all_goals
      go_ret
      exact ⟨ret_str e0.out, hb.trans (b1.mono hb.size)⟩
end Go.Proofs.Ytpehaoamfifgbaa
