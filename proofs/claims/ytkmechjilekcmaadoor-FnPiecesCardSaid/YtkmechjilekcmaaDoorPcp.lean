/-
  Plain words: what a tokenizer makes of a text does not depend on the pieces in which it comes. No program is named. No condition.
-/
import Derived.Test.YtkmechjilekcmaaDoorFdp
namespace Go.Proofs.YtkmechjilekcmaaDoor
set_option linter.unusedVariables false
set_option linter.unusedSimpArgs false
open Go.RowKit

theorem feedN_enough : ∀ (f g : Nat) (x : ByteArray), x.size ≤ f → x.size ≤ g → feedN f x = feedN g x := by
  intro f
  induction f with
  | zero =>
    intro g x hf hg
    have hs : stepF x = none := by
      cases h : stepF x with
      | none => rfl
      | some r => have := stepF_less (y := r.1) (l := r.2) h; omega
    rw [feedN_stop hs, feedN_stop hs]
  | succ f ih =>
    intro g x hf hg
    cases h : stepF x with
    | none => rw [feedN_stop h, feedN_stop h]
    | some r =>
      obtain ⟨y, l⟩ := r
      have hl := stepF_less h
      obtain ⟨g', rfl⟩ : ∃ g', g = g' + 1 := ⟨g - 1, by omega⟩
      rw [feedN_step h, feedN_step h, ih g' y (by omega) (by omega)]
theorem feed_step {x y : ByteArray} {l : List Tok} (h : stepF x = some (y, l)) : feed x = (l ++ (feed y).1, (feed y).2) := by
  have hl := stepF_less h
  unfold feed
  obtain ⟨k, hk⟩ : ∃ k, x.size = k + 1 := ⟨x.size - 1, by omega⟩
  rw [hk, feedN_step h, feedN_enough k y.size y (by omega) (Nat.le_refl _)]
theorem feed_stop {x : ByteArray} (h : stepF x = none) : feed x = ([], x) := feedN_stop h _
theorem app_at {x y : ByteArray} {i : Nat} (h : i < x.size) : ∃ h' : i < (x ++ y).size, (x ++ y)[i] = x[i] := by
  have h' : i < (x ++ y).size := by rw [ByteArray.size_append]; omega
  exact ⟨h', ByteArray.getElem_append_left h⟩
theorem app_ix {x y : ByteArray} {c : UInt8} {i : Nat} (h : ixB x c = i) : ixB (x ++ y) c = i := by
  rcases ixB_cases x c with ⟨h1, _⟩ | ⟨j, hj, h1, h2, h3⟩
  · rw [h1] at h; omega
  · have e : j = i := by rw [h1] at h; omega
    subst e
    obtain ⟨hl, he⟩ := app_at (y := y) hj
    refine ixB_at hl (by rw [he]; exact h2) fun k hk => ?_
    obtain ⟨hl2, he2⟩ := app_at (x := x) (y := y) (i := k) (by omega)
    rw [he2]
    exact h3 k hk
theorem app_tail {x y : ByteArray} {k : Nat} (h : k ≤ x.size) : (x ++ y).extract k (x ++ y).size = x.extract k x.size ++ y := by
  apply ByteArray.ext
  rw [ByteArray.data_extract, ByteArray.data_append, ByteArray.data_append, ByteArray.data_extract, ByteArray.size_append]
  have hx : x.size = x.data.size := rfl
  have hy : y.size = y.data.size := rfl
  apply Array.ext_getElem?
  intro i
  simp only [Array.getElem?_extract, Array.getElem?_append, Array.size_extract, Array.size_append]
  grind
theorem app_front {x y : ByteArray} {a k : Nat} (h : k ≤ x.size) : (x ++ y).extract a k = x.extract a k := by
  apply ByteArray.ext
  rw [ByteArray.data_extract, ByteArray.data_append, ByteArray.data_extract]
  have hx : x.size = x.data.size := rfl
  apply Array.ext_getElem?
  intro i
  simp only [Array.getElem?_extract, Array.getElem?_append, Array.size_append]
  grind
theorem app_head {x y : ByteArray} (h : 0 < x.size) : headLt (x ++ y) = headLt x := by
  obtain ⟨h1, h2⟩ := app_at (y := y) h
  rw [headLt_at h, headLt_at h1, h2]
theorem stepF_app {x y z : ByteArray} {l : List Tok} (h : stepF x = some (z, l)) : stepF (x ++ y) = some (z ++ y, l) := by
  have hl := stepF_less h
  have hh := app_head (y := y) (show 0 < x.size by omega)
  unfold stepF at h ⊢
  rw [hh]
  cases hb : headLt x
  · rw [hb] at h
    simp only [Bool.false_eq_true, if_false] at h ⊢
    rcases ix_range x 60 with hx | ⟨i, hx, hi, _⟩
    · rw [hx] at h; simp at h
    · rw [hx] at h
      rw [app_ix hx]
      rw [if_pos (by omega)] at h ⊢
      simp only [Int.toNat_natCast, Option.some.injEq, Prod.mk.injEq] at h ⊢
      obtain ⟨rfl, rfl⟩ := h
      exact ⟨app_tail (by omega), by rw [app_front (by omega)]⟩
  · rw [hb] at h
    simp only [if_true] at h ⊢
    rcases ix_range x 62 with hx | ⟨i, hx, hi, _⟩
    · rw [hx] at h; simp at h
    · rw [hx] at h
      rw [app_ix hx]
      rw [if_pos (by omega)] at h ⊢
      simp only [Int.toNat_natCast, Option.some.injEq, Prod.mk.injEq] at h ⊢
      obtain ⟨rfl, rfl⟩ := h
      exact ⟨app_tail (by omega), by rw [app_front (by omega)]⟩
/-- piece by piece -/
theorem feed_app : ∀ (n : Nat) (x y : ByteArray), x.size ≤ n → feed (x ++ y) = ((feed x).1 ++ (feed ((feed x).2 ++ y)).1, (feed ((feed x).2 ++ y)).2) := by
  intro n
  induction n with
  | zero =>
    intro x y hn
    have hs : stepF x = none := by
      cases h : stepF x with
      | none => rfl
      | some r => have := stepF_less (y := r.1) (l := r.2) h; omega
    rw [feed_stop hs]
    simp
  | succ n ih =>
    intro x y hn
    cases h : stepF x with
    | none => rw [feed_stop h]; simp
    | some r =>
      obtain ⟨z, l⟩ := r
      have hl := stepF_less h
      rw [feed_step h, feed_step (stepF_app h), ih z y (by omega)]
      simp
end Go.Proofs.YtkmechjilekcmaaDoor
