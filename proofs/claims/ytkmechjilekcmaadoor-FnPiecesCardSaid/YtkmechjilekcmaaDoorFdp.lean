/-
  Plain words: what a tokenizer makes of a text. No program is named. No condition.
-/
import Derived.Test.YtkmechjilekcmaaDoorTgp
namespace Go.Proofs.YtkmechjilekcmaaDoor
set_option linter.unusedVariables false
set_option linter.unusedSimpArgs false
open Go.RowKit

def headLt (x : ByteArray) : Bool := match x.data.toList with | b :: _ => b == 60 | [] => false
theorem headLt_at {s : ByteArray} (h : 0 < s.size) : headLt s = decide (s[0] = 60) := by
  obtain ⟨⟨l⟩⟩ := s
  cases l with
  | nil => simp [ByteArray.size] at h
  | cons b r => simp [headLt]; rfl
theorem headLt_nil {s : ByteArray} (h : s.size = 0) : headLt s = false := by
  obtain ⟨⟨l⟩⟩ := s
  cases l with
  | nil => rfl
  | cons b r => simp [ByteArray.size] at h
/-- one step: what is left, the tokens of the step -/
def stepF (x : ByteArray) : Option (ByteArray × List Tok) :=
  if headLt x then
    (if 0 ≤ ixB x 62 then some (x.extract ((ixB x 62).toNat + 1) x.size, if (tagT (x.extract 1 (ixB x 62).toNat)).2 then [(tagT (x.extract 1 (ixB x 62).toNat)).1] else []) else none)
  else if 0 ≤ ixB x 60 then some (x.extract (ixB x 60).toNat x.size, [⟨3, ⟨#[]⟩, [], x.extract 0 (ixB x 60).toNat⟩])
  else none
def feedN : Nat → ByteArray → List Tok × ByteArray
  | 0, x => ([], x)
  | f + 1, x => match stepF x with
    | none => ([], x)
    | some (y, l) => (l ++ (feedN f y).1, (feedN f y).2)
def feed (x : ByteArray) : List Tok × ByteArray := feedN x.size x
theorem feedN_stop {x : ByteArray} (h : stepF x = none) : ∀ f, feedN f x = ([], x)
  | 0 => rfl
  | f + 1 => by unfold feedN; rw [h]
theorem feedN_step {x y : ByteArray} {l : List Tok} (h : stepF x = some (y, l)) (f : Nat) : feedN (f + 1) x = (l ++ (feedN f y).1, (feedN f y).2) := by
  conv => lhs; unfold feedN
  rw [h]
theorem ix_range (x : ByteArray) (c : UInt8) : (ixB x c = -1) ∨ ∃ i : Nat, ixB x c = i ∧ ∃ h : i < x.size, x[i] = c := by
  rcases ixB_cases x c with ⟨h, _⟩ | ⟨i, hi, h, h2, _⟩
  · exact .inl h
  · exact .inr ⟨i, h, hi, h2⟩
theorem stepF_less {x y : ByteArray} {l : List Tok} (h : stepF x = some (y, l)) : y.size < x.size := by
  unfold stepF at h
  split at h
  · split at h
    · rename_i h1 h2
      injection h with h
      injection h with h _
      subst h
      rcases ix_range x 62 with hx | ⟨i, hx, hi, _⟩
      · rw [hx] at h2; omega
      · rw [ByteArray.size_extract, hx]
        simp
        omega
    · cases h
  · split at h
    · rename_i h1 h2
      injection h with h
      injection h with h _
      subst h
      rcases ix_range x 60 with hx | ⟨i, hx, hi, he⟩
      · rw [hx] at h2; omega
      · rw [ByteArray.size_extract, hx]
        have : i ≠ 0 := by
          rintro rfl
          exact h1 (by rw [headLt_at hi]; simpa using he)
        simp
        omega
    · cases h
/-- the state of the loop: x0 came in, out was made, x is left -/
structure Feeds (x0 : ByteArray) (out : List Tok) (x : ByteArray) : Prop where
  eq : ∃ f, x.size ≤ f ∧ feed x0 = (out ++ (feedN f x).1, (feedN f x).2)
theorem Feeds.start (x : ByteArray) : Feeds x [] x := ⟨x.size, Nat.le_refl _, by simp [feed]⟩
theorem Feeds.stop {x0 x : ByteArray} {out : List Tok} (h : Feeds x0 out x) (hs : stepF x = none) : feed x0 = (out, x) := by
  obtain ⟨f, _, e⟩ := h.eq
  rw [e, feedN_stop hs]
  simp
theorem Feeds.step {x0 x y : ByteArray} {out l : List Tok} (h : Feeds x0 out x) (hs : stepF x = some (y, l)) : Feeds x0 (out ++ l) y := by
  obtain ⟨f, hf, e⟩ := h.eq
  have hl := stepF_less hs
  obtain ⟨f', rfl⟩ : ∃ f', f = f' + 1 := ⟨f - 1, by omega⟩
  exact ⟨f', by omega, by rw [e, feedN_step hs]; simp⟩
theorem stepF_text {x : ByteArray} {k : Nat} (h : headLt x = false) (hk : ixB x 60 = k) : stepF x = some (x.extract k x.size, [⟨3, ⟨#[]⟩, [], x.extract 0 k⟩]) := by
  unfold stepF
  rw [if_neg (by simp [h]), if_pos (by omega), hk]
  rfl
theorem stepF_rest {x : ByteArray} (h : headLt x = false) (hk : ixB x 60 = -1) : stepF x = none := by
  unfold stepF
  rw [if_neg (by simp [h]), if_neg (by omega)]
theorem stepF_tag {x : ByteArray} {k : Nat} {t : Tok} (h : headLt x = true) (hk : ixB x 62 = k) (ht : tagT (x.extract 1 k) = (t, true)) : stepF x = some (x.extract (k + 1) x.size, [t]) := by
  unfold stepF
  rw [if_pos h, if_pos (by omega), hk]
  simp [ht]
theorem stepF_skip {x : ByteArray} {k : Nat} {t : Tok} (h : headLt x = true) (hk : ixB x 62 = k) (ht : tagT (x.extract 1 k) = (t, false)) : stepF x = some (x.extract (k + 1) x.size, []) := by
  unfold stepF
  rw [if_pos h, if_pos (by omega), hk]
  simp [ht]
theorem stepF_open {x : ByteArray} (h : headLt x = true) (hk : ixB x 62 = -1) : stepF x = none := by
  unfold stepF
  rw [if_pos h, if_neg (by omega)]
/-- the place of the first byte, or the length -/
def ixS (s : ByteArray) (c : UInt8) : Int := if ixB s c = -1 then s.size else ixB s c
def strLen : Value → Nat
  | .string s => s.size
  | _ => 0
end Go.Proofs.YtkmechjilekcmaaDoor
