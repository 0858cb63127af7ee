/-
  Plain words: a tag that reads is written as it came; a tag alone is one token or none. No program is named. No condition.
-/
import Derived.Test.YtkmechjilekcmaaDoorPcp
import Derived.Test.YtkmechjilekcmaaDoorFtk
import Derived.Test.YtkmechjilekcmaaDoorTko
namespace Go.Proofs.YtkmechjilekcmaaDoor
set_option linter.unusedVariables false
set_option linter.unusedSimpArgs false
open Go.RowKit

theorem cut_at {s : ByteArray} {c : UInt8} {i : Nat} (hi : i < s.size) (he : s[i] = c) : s = s.extract 0 i ++ (⟨#[c]⟩ ++ s.extract (i + 1) s.size) := by
  apply ByteArray.ext
  rw [ByteArray.data_append, ByteArray.data_append, ByteArray.data_extract, ByteArray.data_extract]
  have hx : s.size = s.data.size := rfl
  have he' : s.data[i]? = some c := by
    rw [Array.getElem?_eq_getElem (by omega)]
    exact congrArg some he
  have hi' : i < s.data.size := hi
  apply Array.ext_getElem?
  intro j
  simp only [Array.getElem?_extract, Array.getElem?_append, Array.size_extract, Array.size_append]
  rcases Nat.lt_trichotomy j i with h | h | h
  · simp only [Nat.sub_zero, Nat.zero_add, show j < min i s.data.size by omega, if_true]
  · subst h
    simp only [Nat.sub_zero]
    rw [if_neg (by omega), if_pos (by simp; omega), he']
    rw [show j - min j s.data.size = 0 by omega]
    rfl
  · simp only [Nat.sub_zero]
    rw [if_neg (by omega), if_neg (by simp; omega)]
    have hz : (#[c] : Array UInt8).size = 1 := rfl
    rw [hz]
    by_cases hj : j < s.data.size
    · rw [if_pos (by omega)]
      congr 1
      omega
    · rw [if_neg (by omega)]
      exact Array.getElem?_eq_none (by omega)
theorem words_join (c : UInt8) : ∀ (n : Nat) (s : ByteArray), s.size ≤ n → ∀ (x h : ByteArray) (t : List ByteArray), words c s = h :: t → t.foldl (fun a w => a ++ (⟨#[c]⟩ ++ w)) (x ++ h) = x ++ s := by
  intro n
  induction n with
  | zero =>
    intro s hs x h t hw
    have : ixB s c = -1 := ixB_none fun i hi => by omega
    rw [words_miss this] at hw
    obtain ⟨rfl, rfl⟩ := List.cons.inj hw
    rfl
  | succ n ih =>
    intro s hs x h t hw
    rcases ixB_cases s c with ⟨h1, _⟩ | ⟨i, hi, h1, h2, _⟩
    · rw [words_miss h1] at hw
      obtain ⟨rfl, rfl⟩ := List.cons.inj hw
      rfl
    · rw [words_hit h1] at hw
      obtain ⟨rfl, rfl⟩ := List.cons.inj hw
      have hp := words_pos c (s.extract (i + 1) s.size)
      cases hq : words c (s.extract (i + 1) s.size) with
      | nil => rw [hq] at hp; simp at hp
      | cons h' t' =>
        have hr := ih (s.extract (i + 1) s.size) (by rw [ByteArray.size_extract]; omega) (x ++ s.extract 0 i ++ ⟨#[c]⟩) h' t' hq
        show t'.foldl _ (x ++ s.extract 0 i ++ (⟨#[c]⟩ ++ h')) = _
        rw [ByteArray.append_assoc] at hr
        rw [hr]
        conv => rhs; rw [cut_at hi h2]
        simp only [ByteArray.append_assoc]
theorem attrW_back {w : ByteArray} {a : S2} (h : attrW w = some a) : w = a.1 ++ (⟨#[61]⟩ ++ a.2) := by
  unfold attrW at h
  split at h
  · rename_i p q hw
    split at h
    · injection h with h
      subst h
      have := words_join 61 w.size w (Nat.le_refl _) ⟨#[]⟩ p [q] hw
      simp only [List.foldl_cons, List.foldl_nil] at this
      rw [nil_append', nil_append'] at this
      exact this.symm
    · cases h
  · cases h
theorem attrsF_back : ∀ {t : List ByteArray} {acc l : List S2}, attrsF t acc = some l → ∀ x : ByteArray, t.foldl (fun a w => a ++ (⟨#[32]⟩ ++ w)) (catA x acc) = catA x l
  | [], acc, l, h, x => by simp [attrsF] at h; subst h; rfl
  | w :: r, acc, l, h, x => by
    unfold attrsF at h
    split at h
    · rename_i a ha
      split at h
      · cases h
      · have hr := attrsF_back h x
        rw [catA_snoc] at hr
        rw [List.foldl_cons, attrW_back ha]
        rw [← hr]
        congr 1
        simp only [attrB, ByteArray.append_assoc]
    · cases h
theorem tagT_back {s : ByteArray} (h : (tagT s).2 = true) : fmtT (tagT s).1 = ⟨#[60]⟩ ++ s ++ ⟨#[62]⟩ := by
  unfold tagT at h ⊢
  split at h
  · cases h
  · rename_i hs
    rw [if_neg hs]
    split at h
    · rename_i hb
      rw [if_pos hb]
      split at h
      · rename_i hn
        rw [if_pos hn]
        have h0 : 0 < s.size := by
          rcases Nat.eq_zero_or_pos s.size with e | e
          · rw [slashB_nil e] at hb; cases hb
          · exact e
        rw [slashB_at h0] at hb
        have hc := cut_at h0 (by simpa using hb)
        simp only [fmtT]
        rw [if_neg (by decide), if_pos trivial]
        conv => rhs; rw [hc]
        have e0 : s.extract 0 0 = ⟨#[]⟩ := by apply ByteArray.ext; simp
        rw [e0, nil_append']
        simp only [← ByteArray.append_assoc]
        rfl
      · cases h
    · rename_i hb
      rw [if_neg hb]
      unfold wordsT at h ⊢
      split at h
      · cases h
      · rename_i hd t hw
        try rw [hw]
        try simp only
        split at h
        · rename_i l hl
          try rw [hl]
          try simp only
          split at h
          · rename_i hn
            rw [if_pos hn]
            simp only [fmtT, if_true]
            congr 1
            rw [← attrsF_back hl]
            show List.foldl _ (⟨#[60]⟩ ++ hd) t = _
            exact words_join 32 s.size s (Nat.le_refl _) ⟨#[60]⟩ hd t hw
          · cases h
        · cases h
theorem feed_nil {x : ByteArray} (h : x.size = 0) : feed x = ([], x) := by
  refine feed_stop ?_
  cases hs : stepF x with
  | none => rfl
  | some r => have := stepF_less (y := r.1) (l := r.2) hs; omega
theorem toksOf_tag {s : ByteArray} (hp : ∀ i (h : i < s.size), s[i] ≠ 62) : toksOf (⟨#[60]⟩ ++ s ++ ⟨#[62]⟩) = if (tagT s).2 then [(tagT s).1] else [] := by
  have hz1 : (⟨#[60]⟩ : ByteArray).size = 1 := rfl
  have hz2 : (⟨#[62]⟩ : ByteArray).size = 1 := rfl
  have hsz : (⟨#[60]⟩ ++ s ++ ⟨#[62]⟩ : ByteArray).size = s.size + 2 := by rw [ByteArray.size_append, ByteArray.size_append, hz1, hz2]; omega
  have hat : ∀ (i : Nat) (h : i < (⟨#[60]⟩ ++ s ++ ⟨#[62]⟩ : ByteArray).size), (⟨#[60]⟩ ++ s ++ ⟨#[62]⟩ : ByteArray)[i] = if i = 0 then 60 else if h2 : i - 1 < s.size then s[i - 1] else 62 := by
    intro i h
    by_cases h1 : i < (⟨#[60]⟩ ++ s : ByteArray).size
    · rw [ByteArray.getElem_append_left h1]
      by_cases h2 : i < (⟨#[60]⟩ : ByteArray).size
      · rw [ByteArray.getElem_append_left h2]
        rw [hz1] at h2
        obtain rfl : i = 0 := by omega
        rfl
      · rw [ByteArray.getElem_append_right (by omega)]
        rw [hz1] at h2
        rw [ByteArray.size_append, hz1] at h1
        rw [if_neg (by omega), dif_pos (by omega)]
        rfl
    · rw [ByteArray.getElem_append_right (by omega)]
      have hq : i - (⟨#[60]⟩ ++ s : ByteArray).size = 0 := by
        rw [ByteArray.size_append, hz1]
        rw [hsz] at h
        omega
      rw [ByteArray.size_append, hz1] at h1
      rw [if_neg (by omega), dif_neg (by omega)]
      simp only [hq]
      rfl
  have hh : headLt (⟨#[60]⟩ ++ s ++ ⟨#[62]⟩) = true := by
    rw [headLt_at (by omega), hat 0 (by omega)]
    simp
  have hi : ixB (⟨#[60]⟩ ++ s ++ ⟨#[62]⟩) 62 = ((s.size + 1 : Nat) : Int) := by
    refine ixB_at (by omega) ?_ fun j hj => ?_
    · rw [hat _ (by omega), if_neg (by omega), dif_neg (by omega)]
    · rw [hat _ (by omega)]
      split
      · decide
      · rw [dif_pos (by omega)]
        exact hp _ _
  have hx : (⟨#[60]⟩ ++ s ++ ⟨#[62]⟩ : ByteArray).extract 1 (s.size + 1) = s := by
    rw [app_front (by rw [ByteArray.size_append, hz1]; omega)]
    have : s.size + 1 = (⟨#[60]⟩ ++ s : ByteArray).size := by rw [ByteArray.size_append, hz1]; omega
    rw [this, app_tail (by rw [hz1]; omega)]
    rw [show (⟨#[60]⟩ : ByteArray).extract 1 (⟨#[60]⟩ : ByteArray).size = ⟨#[]⟩ from rfl, nil_append']
  have hst : stepF (⟨#[60]⟩ ++ s ++ ⟨#[62]⟩) = some ((⟨#[60]⟩ ++ s ++ ⟨#[62]⟩ : ByteArray).extract (s.size + 1 + 1) (s.size + 2), if (tagT s).2 then [(tagT s).1] else []) := by
    unfold stepF
    rw [hh, hi, hsz]
    simp only [if_true]
    rw [if_pos (by omega)]
    simp only [Int.toNat_natCast, hx]
  have hy : ((⟨#[60]⟩ ++ s ++ ⟨#[62]⟩ : ByteArray).extract (s.size + 1 + 1) (s.size + 2)).size = 0 := by rw [ByteArray.size_extract]; omega
  unfold toksOf
  rw [feed_step hst, feed_nil hy]
  rw [bytes_nil hy]
  simp [endToks]
end Go.Proofs.YtkmechjilekcmaaDoor
