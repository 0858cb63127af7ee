/-
  Plain facts on the first place of a byte in a string. No program is named. No condition.
-/
import Derived.Test.YtmfaihelphfbgaaDoorLib
import Derived.Lib.Bytealg
namespace Go.Proofs.YtmfaihelphfbgaaDoor
set_option linter.unusedVariables false
open Go.RowKit

theorem ixL_cases (c : UInt8) : ∀ l : List UInt8, (Lib.indexByte l c = -1 ∧ ∀ b ∈ l, b ≠ c) ∨ ∃ i : Nat, Lib.indexByte l c = i ∧ l[i]? = some c ∧ ∀ j, j < i → l[j]? ≠ some c
  | [] => .inl ⟨rfl, by simp⟩
  | b :: l => by
    by_cases h : b = c
    · exact .inr ⟨0, by simp [Lib.indexByte, h], by simp [h], fun j hj => absurd hj (by omega)⟩
    · rcases ixL_cases c l with ⟨h1, h2⟩ | ⟨i, h1, h2, h3⟩
      · refine .inl ⟨by simp [Lib.indexByte, h, h1], fun x hx => ?_⟩
        rcases List.mem_cons.1 hx with rfl | hx
        · exact h
        · exact h2 x hx
      · refine .inr ⟨i + 1, ?_, by simpa using h2, ?_⟩
        · have hn : ((i : Int) == -1) = false := by rw [beq_eq_false_iff_ne]; omega
          simp [Lib.indexByte, h, h1, hn]
        · intro j hj
          cases j with
          | zero => simpa using h
          | succ j => simpa using h3 j (by omega)
def ixB (s : ByteArray) (c : UInt8) : Int := Lib.indexByte s.data.toList c
theorem ixB_cases (s : ByteArray) (c : UInt8) : (ixB s c = -1 ∧ ∀ i (h : i < s.size), s[i] ≠ c) ∨ ∃ (i : Nat) (h : i < s.size), ixB s c = i ∧ s[i] = c ∧ ∀ j (hj : j < i), s[j] ≠ c := by
  have hs : ∀ i (h : i < s.size), s.data.toList[i]? = some s[i] := by
    intro i h
    rw [Array.getElem?_toList, Array.getElem?_eq_getElem (by exact h)]
    rfl
  rcases ixL_cases c s.data.toList with ⟨h1, h2⟩ | ⟨i, h1, h2, h3⟩
  · exact .inl ⟨h1, fun i h => h2 _ (List.mem_of_getElem? (hs i h))⟩
  · have hi : i < s.size := by
      have := (List.getElem?_eq_some_iff.1 h2).1
      simpa using this
    refine .inr ⟨i, hi, h1, ?_, fun j hj e => h3 j hj ?_⟩
    · rw [hs i hi] at h2; exact Option.some.inj h2
    · rw [hs j (by omega), e]
theorem ixB_none {s : ByteArray} {c : UInt8} (h : ∀ i (h : i < s.size), s[i] ≠ c) : ixB s c = -1 := by
  rcases ixB_cases s c with ⟨h1, _⟩ | ⟨i, hi, _, h1, _⟩
  · exact h1
  · exact absurd h1 (h i hi)
theorem ixB_at {s : ByteArray} {c : UInt8} {i : Nat} (hi : i < s.size) (he : s[i] = c) (hb : ∀ j (hj : j < i), s[j] ≠ c) : ixB s c = i := by
  rcases ixB_cases s c with ⟨_, h2⟩ | ⟨k, hk, h1, h2, h3⟩
  · exact absurd he (h2 i hi)
  · rcases Nat.lt_trichotomy i k with h | h | h
    · exact absurd he (h3 i h)
    · rw [h1, h]
    · exact absurd h2 (hb k h)
end Go.Proofs.YtmfaihelphfbgaaDoor
