/-
  Plain words: the size of a token of a tag; what the law of tags asks. No program is named. No condition.
-/
import Derived.Test.YtkmechjilekcmaaDoorTgf
import Derived.Test.YtkmechjilekcmaaDoorL5t
namespace Go.Proofs.YtkmechjilekcmaaDoor
set_option linter.unusedVariables false
set_option linter.unusedSimpArgs false
set_option maxRecDepth 100000
open Go.RowKit

theorem fmt_sz {t : Tok} {n : Nat} (hk : t.kind = 1 ∨ t.kind = 2) (ht : t.text = ⟨#[]⟩) (ha : t.kind = 2 → t.attrs = []) (h : (fmtT t).size = n) : tokSz t ≤ n := by
  obtain ⟨k, nm, l, x⟩ := t
  simp only at hk ht ha
  subst ht
  have hx : (⟨#[]⟩ : ByteArray).size = 0 := rfl
  have hn := s2sz_nonneg l
  rcases hk with rfl | rfl
  · have hc := catA_size (⟨#[60]⟩ ++ nm) l
    have h62 : (⟨#[62]⟩ : ByteArray).size = 1 := rfl
    have h60 : (⟨#[60]⟩ : ByteArray).size = 1 := rfl
    have : (fmtT ⟨1, nm, l, ⟨#[]⟩⟩).size = (catA (⟨#[60]⟩ ++ nm) l).size + 1 := by
      show (catA (⟨#[60]⟩ ++ nm) l ++ ⟨#[62]⟩).size = _
      rw [ByteArray.size_append, h62]
    rw [ByteArray.size_append, h60] at hc
    unfold tokSz
    simp only [hx]
    omega
  · rw [ha rfl] at *
    have h62 : (⟨#[62]⟩ : ByteArray).size = 1 := rfl
    have h60 : (⟨#[60, 47]⟩ : ByteArray).size = 2 := rfl
    have : (fmtT ⟨2, nm, [], ⟨#[]⟩⟩).size = nm.size + 3 := by
      show (⟨#[60, 47]⟩ ++ nm ++ ⟨#[62]⟩ : ByteArray).size = _
      rw [ByteArray.size_append, ByteArray.size_append, h62, h60]
      omega
    unfold tokSz
    simp only [hx, List.length_nil]
    simp [s2sz]
    omega
theorem tagT_shape {s : ByteArray} (h : (tagT s).2 = true) : ((tagT s).1.kind = 1 ∨ (tagT s).1.kind = 2) ∧ (tagT s).1.text = ⟨#[]⟩ ∧ ((tagT s).1.kind = 2 → (tagT s).1.attrs = []) := by
  unfold tagT at h ⊢
  split at h
  · cases h
  · rename_i hs
    rw [if_neg hs]
    split at h
    · rename_i hb
      rw [if_pos hb]
      split at h
      · rename_i hn
        rw [if_pos hn]
        exact ⟨.inr rfl, rfl, fun _ => rfl⟩
      · cases h
    · rename_i hb
      rw [if_neg hb]
      unfold wordsT at h ⊢
      split at h
      · cases h
      · rename_i hd t hw
        try rw [hw]
        try simp only
        split at h
        · rename_i l hl
          try rw [hl]
          try simp only
          split at h
          · rename_i hn
            rw [if_pos hn]
            exact ⟨.inl rfl, rfl, fun h => by simp at h⟩
          · cases h
        · cases h
theorem plain_no {s : ByteArray} (h : plainB s = true) : ∀ i (hi : i < s.size), s[i] ≠ 62 := by
  intro i hi he
  unfold plainB at h
  rw [List.all_eq_true] at h
  have := h s[i] (by show s.data[i] ∈ _; simp)
  rw [he] at this
  simp at this
theorem tag_facts {s : ByteArray} (hp : plainB s = true) (hs : s.size ≤ 200) :
    toksOf (⟨#[60]⟩ ++ s ++ ⟨#[62]⟩) = (if (tagT s).2 then [(tagT s).1] else []) ∧ ((tagT s).2 = true → fmtT (tagT s).1 = ⟨#[60]⟩ ++ s ++ ⟨#[62]⟩ ∧ tokSz (tagT s).1 ≤ 300) ∧ (⟨#[60]⟩ ++ s ++ ⟨#[62]⟩ : ByteArray).size ≤ 300 := by
  have hz1 : (⟨#[60]⟩ : ByteArray).size = 1 := rfl
  have hz2 : (⟨#[62]⟩ : ByteArray).size = 1 := rfl
  have hsz : (⟨#[60]⟩ ++ s ++ ⟨#[62]⟩ : ByteArray).size = s.size + 2 := by rw [ByteArray.size_append, ByteArray.size_append, hz1, hz2]; omega
  refine ⟨toksOf_tag (plain_no hp), fun h => ⟨tagT_back h, ?_⟩, by omega⟩
  obtain ⟨h1, h2, h3⟩ := tagT_shape h
  have := fmt_sz h1 h2 h3 (by rw [tagT_back h])
  omega
end Go.Proofs.YtkmechjilekcmaaDoor
