/-
  Plain words: a tag that reads is written as it came; a tag alone is one token or none. No program is named. No condition.
  Plain words: the size of a token of a tag; what the law of tags asks. No program is named. No condition.
  Plain words: a text cut in pieces; the texts among the tokens are not empty. What the law of pieces draws, and its search. No condition.
  The reference's draw of a valid builder. No condition.
-/
import Derived.Test.YtleopmeaaabejaaP20
import Derived.Test.YtleopmeaaabejaaP19
import Derived.Test.YtleopmeaaabejaaP15
namespace Go.Proofs.Ytleopmeaaabejaa
set_option linter.unusedVariables false
set_option linter.unusedSimpArgs false
open Go.RowKit

theorem cut_at {s : ByteArray} {c : UInt8} {i : Nat} (hi : i < s.size) (he : s[i] = c) : s = s.extract 0 i ++ (⟨#[c]⟩ ++ s.extract (i + 1) s.size) := by
  apply ByteArray.ext
  rw [ByteArray.data_append, ByteArray.data_append, ByteArray.data_extract, ByteArray.data_extract]
  have hx : s.size = s.data.size := rfl
  have he' : s.data[i]? = some c := by
    rw [Array.getElem?_eq_getElem (by omega)]
    exact congrArg some he
  have hi' : i < s.data.size := hi
  apply Array.ext_getElem?
  intro j
  simp only [Array.getElem?_extract, Array.getElem?_append, Array.size_extract, Array.size_append]
  rcases Nat.lt_trichotomy j i with h | h | h
  · simp only [Nat.sub_zero, Nat.zero_add, show j < min i s.data.size by omega, if_true]
  · subst h
    simp only [Nat.sub_zero]
    rw [if_neg (by omega), if_pos (by simp; omega), he']
    rw [show j - min j s.data.size = 0 by omega]
    rfl
  · simp only [Nat.sub_zero]
    rw [if_neg (by omega), if_neg (by simp; omega)]
    have hz : (#[c] : Array UInt8).size = 1 := rfl
    rw [hz]
    by_cases hj : j < s.data.size
    · rw [if_pos (by omega)]
      congr 1
      omega
    · rw [if_neg (by omega)]
      exact Array.getElem?_eq_none (by omega)
theorem words_join (c : UInt8) : ∀ (n : Nat) (s : ByteArray), s.size ≤ n → ∀ (x h : ByteArray) (t : List ByteArray), words c s = h :: t → t.foldl (fun a w => a ++ (⟨#[c]⟩ ++ w)) (x ++ h) = x ++ s := by
  intro n
  induction n with
  | zero =>
    intro s hs x h t hw
    have : ixB s c = -1 := ixB_none fun i hi => by omega
    rw [words_miss this] at hw
    obtain ⟨rfl, rfl⟩ := List.cons.inj hw
    rfl
  | succ n ih =>
    intro s hs x h t hw
    rcases ixB_cases s c with ⟨h1, _⟩ | ⟨i, hi, h1, h2, _⟩
    · rw [words_miss h1] at hw
      obtain ⟨rfl, rfl⟩ := List.cons.inj hw
      rfl
    · rw [words_hit h1] at hw
      obtain ⟨rfl, rfl⟩ := List.cons.inj hw
      have hp := words_pos c (s.extract (i + 1) s.size)
      cases hq : words c (s.extract (i + 1) s.size) with
      | nil => rw [hq] at hp; simp at hp
      | cons h' t' =>
        have hr := ih (s.extract (i + 1) s.size) (by rw [ByteArray.size_extract]; omega) (x ++ s.extract 0 i ++ ⟨#[c]⟩) h' t' hq
        show t'.foldl _ (x ++ s.extract 0 i ++ (⟨#[c]⟩ ++ h')) = _
        rw [ByteArray.append_assoc] at hr
        rw [hr]
        conv => rhs; rw [cut_at hi h2]
        simp only [ByteArray.append_assoc]
theorem attrW_back {w : ByteArray} {a : S2} (h : attrW w = some a) : w = a.1 ++ (⟨#[61]⟩ ++ a.2) := by
  unfold attrW at h
  split at h
  · rename_i p q hw
    split at h
    · injection h with h
      subst h
      have := words_join 61 w.size w (Nat.le_refl _) ⟨#[]⟩ p [q] hw
      simp only [List.foldl_cons, List.foldl_nil] at this
      rw [nil_append', nil_append'] at this
      exact this.symm
    · cases h
  · cases h
theorem attrsF_back : ∀ {t : List ByteArray} {acc l : List S2}, attrsF t acc = some l → ∀ x : ByteArray, t.foldl (fun a w => a ++ (⟨#[32]⟩ ++ w)) (catA x acc) = catA x l
  | [], acc, l, h, x => by simp [attrsF] at h; subst h; rfl
  | w :: r, acc, l, h, x => by
    unfold attrsF at h
    split at h
    · rename_i a ha
      split at h
      · cases h
      · have hr := attrsF_back h x
        rw [catA_snoc] at hr
        rw [List.foldl_cons, attrW_back ha]
        rw [← hr]
        congr 1
        simp only [attrB, ByteArray.append_assoc]
    · cases h
theorem tagT_back {s : ByteArray} (h : (tagT s).2 = true) : fmtT (tagT s).1 = ⟨#[60]⟩ ++ s ++ ⟨#[62]⟩ := by
  unfold tagT at h ⊢
  split at h
  · cases h
  · rename_i hs
    rw [if_neg hs]
    split at h
    · rename_i hb
      rw [if_pos hb]
      split at h
      · rename_i hn
        rw [if_pos hn]
        have h0 : 0 < s.size := by
          rcases Nat.eq_zero_or_pos s.size with e | e
          · rw [slashB_nil e] at hb; cases hb
          · exact e
        rw [slashB_at h0] at hb
        have hc := cut_at h0 (by simpa using hb)
        simp only [fmtT]
        rw [if_neg (by decide), if_pos trivial]
        conv => rhs; rw [hc]
        have e0 : s.extract 0 0 = ⟨#[]⟩ := by apply ByteArray.ext; simp
        rw [e0, nil_append']
        simp only [← ByteArray.append_assoc]
        rfl
      · cases h
    · rename_i hb
      rw [if_neg hb]
      unfold wordsT at h ⊢
      split at h
      · cases h
      · rename_i hd t hw
        try rw [hw]
        try simp only
        split at h
        · rename_i l hl
          try rw [hl]
          try simp only
          split at h
          · rename_i hn
            rw [if_pos hn]
            simp only [fmtT, if_true]
            congr 1
            rw [← attrsF_back hl]
            show List.foldl _ (⟨#[60]⟩ ++ hd) t = _
            exact words_join 32 s.size s (Nat.le_refl _) ⟨#[60]⟩ hd t hw
          · cases h
        · cases h
theorem feed_nil {x : ByteArray} (h : x.size = 0) : feed x = ([], x) := by
  refine feed_stop ?_
  cases hs : stepF x with
  | none => rfl
  | some r => have := stepF_less (y := r.1) (l := r.2) hs; omega
theorem toksOf_tag {s : ByteArray} (hp : ∀ i (h : i < s.size), s[i] ≠ 62) : toksOf (⟨#[60]⟩ ++ s ++ ⟨#[62]⟩) = if (tagT s).2 then [(tagT s).1] else [] := by
  have hz1 : (⟨#[60]⟩ : ByteArray).size = 1 := rfl
  have hz2 : (⟨#[62]⟩ : ByteArray).size = 1 := rfl
  have hsz : (⟨#[60]⟩ ++ s ++ ⟨#[62]⟩ : ByteArray).size = s.size + 2 := by rw [ByteArray.size_append, ByteArray.size_append, hz1, hz2]; omega
  have hat : ∀ (i : Nat) (h : i < (⟨#[60]⟩ ++ s ++ ⟨#[62]⟩ : ByteArray).size), (⟨#[60]⟩ ++ s ++ ⟨#[62]⟩ : ByteArray)[i] = if i = 0 then 60 else if h2 : i - 1 < s.size then s[i - 1] else 62 := by
    intro i h
    by_cases h1 : i < (⟨#[60]⟩ ++ s : ByteArray).size
    · rw [ByteArray.getElem_append_left h1]
      by_cases h2 : i < (⟨#[60]⟩ : ByteArray).size
      · rw [ByteArray.getElem_append_left h2]
        rw [hz1] at h2
        obtain rfl : i = 0 := by omega
        rfl
      · rw [ByteArray.getElem_append_right (by omega)]
        rw [hz1] at h2
        rw [ByteArray.size_append, hz1] at h1
        rw [if_neg (by omega), dif_pos (by omega)]
        rfl
    · rw [ByteArray.getElem_append_right (by omega)]
      have hq : i - (⟨#[60]⟩ ++ s : ByteArray).size = 0 := by
        rw [ByteArray.size_append, hz1]
        rw [hsz] at h
        omega
      rw [ByteArray.size_append, hz1] at h1
      rw [if_neg (by omega), dif_neg (by omega)]
      simp only [hq]
      rfl
  have hh : headLt (⟨#[60]⟩ ++ s ++ ⟨#[62]⟩) = true := by
    rw [headLt_at (by omega), hat 0 (by omega)]
    simp
  have hi : ixB (⟨#[60]⟩ ++ s ++ ⟨#[62]⟩) 62 = ((s.size + 1 : Nat) : Int) := by
    refine ixB_at (by omega) ?_ fun j hj => ?_
    · rw [hat _ (by omega), if_neg (by omega), dif_neg (by omega)]
    · rw [hat _ (by omega)]
      split
      · decide
      · rw [dif_pos (by omega)]
        exact hp _ _
  have hx : (⟨#[60]⟩ ++ s ++ ⟨#[62]⟩ : ByteArray).extract 1 (s.size + 1) = s := by
    rw [app_front (by rw [ByteArray.size_append, hz1]; omega)]
    have : s.size + 1 = (⟨#[60]⟩ ++ s : ByteArray).size := by rw [ByteArray.size_append, hz1]; omega
    rw [this, app_tail (by rw [hz1]; omega)]
    rw [show (⟨#[60]⟩ : ByteArray).extract 1 (⟨#[60]⟩ : ByteArray).size = ⟨#[]⟩ from rfl, nil_append']
  have hst : stepF (⟨#[60]⟩ ++ s ++ ⟨#[62]⟩) = some ((⟨#[60]⟩ ++ s ++ ⟨#[62]⟩ : ByteArray).extract (s.size + 1 + 1) (s.size + 2), if (tagT s).2 then [(tagT s).1] else []) := by
    unfold stepF
    rw [hh, hi, hsz]
    simp only [if_true]
    rw [if_pos (by omega)]
    simp only [Int.toNat_natCast, hx]
  have hy : ((⟨#[60]⟩ ++ s ++ ⟨#[62]⟩ : ByteArray).extract (s.size + 1 + 1) (s.size + 2)).size = 0 := by rw [ByteArray.size_extract]; omega
  unfold toksOf
  rw [feed_step hst, feed_nil hy]
  rw [bytes_nil hy]
  simp [endToks]
end Go.Proofs.Ytleopmeaaabejaa

namespace Go.Proofs.Ytleopmeaaabejaa
set_option linter.unusedVariables false
set_option linter.unusedSimpArgs false
set_option maxRecDepth 100000
open Go.RowKit

theorem fmt_sz {t : Tok} {n : Nat} (hk : t.kind = 1 ∨ t.kind = 2) (ht : t.text = ⟨#[]⟩) (ha : t.kind = 2 → t.attrs = []) (h : (fmtT t).size = n) : tokSz t ≤ n := by
  obtain ⟨k, nm, l, x⟩ := t
  simp only at hk ht ha
  subst ht
  have hx : (⟨#[]⟩ : ByteArray).size = 0 := rfl
  have hn := s2sz_nonneg l
  rcases hk with rfl | rfl
  · have hc := catA_size (⟨#[60]⟩ ++ nm) l
    have h62 : (⟨#[62]⟩ : ByteArray).size = 1 := rfl
    have h60 : (⟨#[60]⟩ : ByteArray).size = 1 := rfl
    have : (fmtT ⟨1, nm, l, ⟨#[]⟩⟩).size = (catA (⟨#[60]⟩ ++ nm) l).size + 1 := by
      show (catA (⟨#[60]⟩ ++ nm) l ++ ⟨#[62]⟩).size = _
      rw [ByteArray.size_append, h62]
    rw [ByteArray.size_append, h60] at hc
    unfold tokSz
    simp only [hx]
    omega
  · rw [ha rfl] at *
    have h62 : (⟨#[62]⟩ : ByteArray).size = 1 := rfl
    have h60 : (⟨#[60, 47]⟩ : ByteArray).size = 2 := rfl
    have : (fmtT ⟨2, nm, [], ⟨#[]⟩⟩).size = nm.size + 3 := by
      show (⟨#[60, 47]⟩ ++ nm ++ ⟨#[62]⟩ : ByteArray).size = _
      rw [ByteArray.size_append, ByteArray.size_append, h62, h60]
      omega
    unfold tokSz
    simp only [hx, List.length_nil]
    simp [s2sz]
    omega
theorem tagT_shape {s : ByteArray} (h : (tagT s).2 = true) : ((tagT s).1.kind = 1 ∨ (tagT s).1.kind = 2) ∧ (tagT s).1.text = ⟨#[]⟩ ∧ ((tagT s).1.kind = 2 → (tagT s).1.attrs = []) := by
  unfold tagT at h ⊢
  split at h
  · cases h
  · rename_i hs
    rw [if_neg hs]
    split at h
    · rename_i hb
      rw [if_pos hb]
      split at h
      · rename_i hn
        rw [if_pos hn]
        exact ⟨.inr rfl, rfl, fun _ => rfl⟩
      · cases h
    · rename_i hb
      rw [if_neg hb]
      unfold wordsT at h ⊢
      split at h
      · cases h
      · rename_i hd t hw
        try rw [hw]
        try simp only
        split at h
        · rename_i l hl
          try rw [hl]
          try simp only
          split at h
          · rename_i hn
            rw [if_pos hn]
            exact ⟨.inl rfl, rfl, fun h => by simp at h⟩
          · cases h
        · cases h
theorem plain_no {s : ByteArray} (h : plainB s = true) : ∀ i (hi : i < s.size), s[i] ≠ 62 := by
  intro i hi he
  unfold plainB at h
  rw [List.all_eq_true] at h
  have := h s[i] (by show s.data[i] ∈ _; simp)
  rw [he] at this
  simp at this
theorem tag_facts {s : ByteArray} (hp : plainB s = true) (hs : s.size ≤ 200) :
    toksOf (⟨#[60]⟩ ++ s ++ ⟨#[62]⟩) = (if (tagT s).2 then [(tagT s).1] else []) ∧ ((tagT s).2 = true → fmtT (tagT s).1 = ⟨#[60]⟩ ++ s ++ ⟨#[62]⟩ ∧ tokSz (tagT s).1 ≤ 300) ∧ (⟨#[60]⟩ ++ s ++ ⟨#[62]⟩ : ByteArray).size ≤ 300 := by
  have hz1 : (⟨#[60]⟩ : ByteArray).size = 1 := rfl
  have hz2 : (⟨#[62]⟩ : ByteArray).size = 1 := rfl
  have hsz : (⟨#[60]⟩ ++ s ++ ⟨#[62]⟩ : ByteArray).size = s.size + 2 := by rw [ByteArray.size_append, ByteArray.size_append, hz1, hz2]; omega
  refine ⟨toksOf_tag (plain_no hp), fun h => ⟨tagT_back h, ?_⟩, by omega⟩
  obtain ⟨h1, h2, h3⟩ := tagT_shape h
  have := fmt_sz h1 h2 h3 (by rw [tagT_back h])
  omega
end Go.Proofs.Ytleopmeaaabejaa

namespace Go.Proofs.Ytleopmeaaabejaa
set_option linter.unusedVariables false
set_option linter.unusedSimpArgs false
set_option maxRecDepth 100000
open Go.ChangeShapes Go.WideShapes Go.ChangeAt Go.RowKit Go.Deep

theorem cut_piece (s : ByteArray) {a b : Nat} (hab : a ≤ b) (hb : b ≤ s.size) : s.extract 0 b = s.extract 0 a ++ s.extract a b := by
  apply ByteArray.ext
  rw [ByteArray.data_append, ByteArray.data_extract, ByteArray.data_extract, ByteArray.data_extract]
  have hx : s.size = s.data.size := rfl
  apply Array.ext_getElem?
  intro i
  simp only [Array.getElem?_extract, Array.getElem?_append, Array.size_extract]
  grind
theorem feed_piece (s : ByteArray) {a b : Nat} (hab : a ≤ b) (hb : b ≤ s.size) :
    feed (s.extract 0 b) = ((feed (s.extract 0 a)).1 ++ (feed ((feed (s.extract 0 a)).2 ++ s.extract a b)).1, (feed ((feed (s.extract 0 a)).2 ++ s.extract a b)).2) := by
  rw [cut_piece s hab hb]
  exact feed_app _ _ _ (Nat.le_refl _)
theorem feed_empty (s : ByteArray) : feed (s.extract 0 0) = ([], ⟨#[]⟩) := by
  have e : s.extract 0 0 = ⟨#[]⟩ := by apply ByteArray.ext; simp
  rw [e]
  refine feed_stop ?_
  cases hs : stepF ⟨#[]⟩ with
  | none => rfl
  | some r =>
    have := stepF_less (y := r.1) (l := r.2) hs
    have hz : (⟨#[]⟩ : ByteArray).size = 0 := rfl
    omega
theorem feed_small (x : ByteArray) : (feed x).1.length ≤ x.size ∧ (feed x).2.size ≤ x.size := ⟨(feedN_toks x.size x).1, (feedN_toks x.size x).2.2⟩
def textOk (t : Tok) : Prop := (t.kind = 1 ∨ t.kind = 2 ∨ t.kind = 3) ∧ (t.kind = 3 → t.text.size ≠ 0)
theorem text_sz (x : ByteArray) : tokSz ⟨3, ⟨#[]⟩, [], x⟩ ≤ x.size := by
  have hz : (⟨#[]⟩ : ByteArray).size = 0 := rfl
  unfold tokSz
  simp [s2sz, hz]
theorem stepF_sz {x y : ByteArray} {l : List Tok} (h : stepF x = some (y, l)) : ∀ t ∈ l, tokSz t ≤ x.size + 2 := by
  unfold stepF at h
  split at h
  · split at h
    · injection h with h
      injection h with _ h
      subst h
      split
      · rename_i ht
        intro t hm
        simp only [List.mem_singleton] at hm
        subst hm
        obtain ⟨h1, h2, h3⟩ := tagT_shape ht
        have hz1 : (⟨#[60]⟩ : ByteArray).size = 1 := rfl
        have hz2 : (⟨#[62]⟩ : ByteArray).size = 1 := rfl
        have hb := congrArg ByteArray.size (tagT_back ht)
        rw [ByteArray.size_append, ByteArray.size_append, hz1, hz2, ByteArray.size_extract] at hb
        have := fmt_sz h1 h2 h3 hb
        omega
      · intro t hm; cases hm
    · cases h
  · split at h
    · injection h with h
      injection h with _ h
      subst h
      intro t hm
      simp only [List.mem_singleton] at hm
      subst hm
      have := text_sz (x.extract 0 (ixB x 60).toNat)
      rw [ByteArray.size_extract] at this
      omega
    · cases h
theorem feedN_sz : ∀ (f : Nat) (x : ByteArray), ∀ t ∈ (feedN f x).1, tokSz t ≤ x.size + 2
  | 0, x => by simp [feedN]
  | f + 1, x => by
    cases h : stepF x with
    | none => rw [feedN_stop h]; simp
    | some r =>
      obtain ⟨y, l⟩ := r
      rw [feedN_step h]
      intro t ht
      rcases List.mem_append.1 ht with h7 | h7
      · exact stepF_sz h t h7
      · have := feedN_sz f y t h7
        have := stepF_less h
        omega
theorem toksOf_sz (s : ByteArray) : ∀ t ∈ toksOf s, tokSz t ≤ s.size + 2 := by
  intro t ht
  unfold toksOf at ht
  rcases List.mem_append.1 ht with h | h
  · exact feedN_sz _ _ t h
  · have hs := (feed_small s).2
    rcases endToks_cases (feed s).2 with e | e <;> rw [e] at h
    · cases h
    · simp only [List.mem_singleton] at h
      subst h
      have := text_sz (feed s).2
      omega
theorem tagT_kind {s : ByteArray} (h : (tagT s).2 = true) : (tagT s).1.kind = 1 ∨ (tagT s).1.kind = 2 := by
  unfold tagT at h ⊢
  split at h
  · cases h
  · rename_i hs
    rw [if_neg hs]
    split at h
    · rename_i hb
      rw [if_pos hb]
      split at h
      · rename_i hn
        rw [if_pos hn]
        exact .inr rfl
      · cases h
    · rename_i hb
      rw [if_neg hb]
      unfold wordsT at h ⊢
      split at h
      · cases h
      · rename_i hd t hw
        try rw [hw]
        try simp only
        split at h
        · rename_i l hl
          try rw [hl]
          try simp only
          split at h
          · rename_i hn
            rw [if_pos hn]
            exact .inl rfl
          · cases h
        · cases h
theorem stepF_textOk {x y : ByteArray} {l : List Tok} (h : stepF x = some (y, l)) : ∀ t ∈ l, textOk t := by
  unfold stepF at h
  split at h
  · split at h
    · injection h with h
      injection h with _ h
      subst h
      split
      · rename_i ht
        intro t hm
        simp only [List.mem_singleton] at hm
        subst hm
        rcases tagT_kind ht with k | k
        · exact ⟨.inl k, fun e => by rw [k] at e; exact absurd e (by decide)⟩
        · exact ⟨.inr (.inl k), fun e => by rw [k] at e; exact absurd e (by decide)⟩
      · intro t hm; cases hm
    · cases h
  · split at h
    · rename_i h1 h2
      injection h with h
      injection h with _ h
      subst h
      intro t hm
      simp only [List.mem_singleton] at hm
      subst hm
      refine ⟨.inr (.inr rfl), fun _ => ?_⟩
      show (x.extract 0 (ixB x 60).toNat).size ≠ 0
      rcases ix_range x 60 with hx | ⟨i, hx, hi, he⟩
      · rw [hx] at h2; omega
      · rw [hx, ByteArray.size_extract]
        have : i ≠ 0 := by
          rintro rfl
          exact h1 (by rw [headLt_at hi]; simpa using he)
        simp only [Int.toNat_natCast]
        omega
    · cases h
theorem feedN_textOk : ∀ (f : Nat) (x : ByteArray), ∀ t ∈ (feedN f x).1, textOk t
  | 0, x => by simp [feedN]
  | f + 1, x => by
    cases h : stepF x with
    | none => rw [feedN_stop h]; simp
    | some r =>
      obtain ⟨y, l⟩ := r
      rw [feedN_step h]
      intro t ht
      rcases List.mem_append.1 ht with h7 | h7
      · exact stepF_textOk h t h7
      · exact feedN_textOk f y t h7
theorem toksOf_text (s : ByteArray) : ∀ t ∈ toksOf s, textOk t := by
  intro t ht
  unfold toksOf at ht
  rcases List.mem_append.1 ht with h | h
  · exact feedN_textOk _ _ t h
  · unfold endToks at h
    split at h
    · cases h
    · rename_i hc
      simp only [List.mem_singleton] at h
      subst h
      exact ⟨.inr (.inr rfl), fun _ hz => hc (.inl (by have hz' : (feed s).2.size = 0 := hz; rw [bytes_nil hz']; rfl))⟩
theorem fmtT_text {t : Tok} (h : textOk t) (hk : t.kind = 3) : ((fmtT t).toList == (⟨#[]⟩ : ByteArray).toList) = false ∧ (fmtT t).toList.isEmpty = false := by
  have he : fmtT t = t.text := by
    unfold fmtT
    rw [hk, if_neg (by decide), if_neg (by decide), if_pos rfl]
  have hz := h.2 hk
  rw [he]
  have h1 : t.text.toList ≠ [] := by
    rw [Lib.toList_data]
    intro e
    apply hz
    show t.text.data.size = 0
    rw [← Array.length_toList, e]
    rfl
  refine ⟨?_, ?_⟩
  · rw [Lib.toList_data (⟨#[]⟩ : ByteArray)]
    simpa using h1
  · simpa using h1

def SomeBool (w : World) (e : Ending) (w' : World) : Prop := ∃ b : Bool, e = .returned (.bool b) ∧ w = w'
end Go.Proofs.Ytleopmeaaabejaa

namespace Go.Proofs.Ytleopmeaaabejaa
set_option linter.unusedVariables false
set_option linter.unusedSimpArgs false
set_option maxRecDepth 100000
open Go.ChangeShapes Go.WideShapes Go.ChangeAt Go.RowKit Go.Deep

theorem BoxAt.keeps' {S : Nat → Prop} {w w' : World} {g : Nat} {vs : List Value} {t : TypeId} (h : BoxAt w g vs t) (hk : Keeps S w w') (hs : ¬ S g) : BoxAt w' g vs t := (hk.block g h.lt hs).trans h
theorem BoxAt.two' {w : World} {g : Nat} {a b : Value} {t : TypeId} (h : BoxAt w g [a, b] t) :
    (w.cell? ⟨g, 0, none⟩ = some a ∧ w.cell? ⟨g, 1, none⟩ = some b) ∧ w.frozen? ⟨g, 0, none⟩ = false ∧ w.frozen? ⟨g, 1, none⟩ = false :=
  ⟨⟨h.cell 0 _ rfl, h.cell 1 _ rfl⟩, h.open_ 0, h.open_ 1⟩
/-- a builder that is drawn: owned, the draw's cursor alone of the old blocks changed -/
def GotInv (g : Nat) (w : World) (e ek ei : TypeId) (r : Ending) (w' : World) : Prop :=
  ∃ (b : Bld) (A : Option Addr) (c : Nat) (A' : Option Addr) (c' : Nat) (L : List (Nod × Hd)), InvB b ∧ r = .returned (.agg #[.slice A b.nodes.length c, .slice A' b.opens.length c']) ∧
    OwnB w' w.heap.size w'.heap.size e ek ei A b.nodes.length c A' b.opens.length c' b L ∧ Draws g w w'
set_option maxHeartbeats 2000000 in
theorem l6Builder_any (w : World) (g : Nat) (hc : Cur w g) : Calls Try.prog 61 #[.pointer (some ⟨g, 0, none⟩)] w (GotInv g w 33 104 3) := by
  have hg := hc.lt
  have hd := (Draws.refl hc).alloc (.cells #[.slice none 0 0, .slice none 0 0] 27)
  have bx := BoxAt.new (w := w) rfl [.slice none 0 0, .slice none 0 0] 27
  have hz0 : (w.alloc (.cells #[.slice none 0 0, .slice none 0 0] 27)).heap.size = w.heap.size + 1 := by simp
  go_enter Try.func61, Try.ntmps61
  go_wp2_with (fail)
  go_at_call 75
  refine (newBuilder_spec _).mono ?_
  rintro e w1 ⟨A1, c1, A1', c1', L1, rfl, o1, b1⟩
  have hz1 := b1.size
  rw [hz0] at hz1 o1
  replace bx := bx.next b1
  replace hd := hd.next b1 (by rw [hz0]; omega) hg
  clear b1
  go_wp2_with (fail)
  go_at_call 38
  refine (l5Page_any _ g hd.2 10 (by omega)).mono ?_
  rintro e w2 ⟨s, hs, rfl, d⟩
  have hz2 := d.size
  replace bx := bx.keeps' d.1 (by omega)
  replace o1 := o1.keep d.1 (fun k hk => by omega)
  replace hd := hd.trans d
  clear d
  have htk := toksOf_sz s
  obtain ⟨f1, f2, -⟩ := toksOf_facts s
  have hT := fun W => tokensOf_spec W s (by omega)
  generalize toksOf s = TT at *
  go_wp2_with (fail)
  go_at_call 37
  refine (hT _).mono ?_
  rintro e w3 ⟨A3, c3, L3, rfl, q3, o3, b3⟩
  have hz3 := b3.size
  replace bx := bx.next b3
  replace o1 := o1.below b3
  replace hd := hd.next b3 hd.size hg
  have hR3 := o3.reads (Nat.le_refl _)
  rw [q3] at hR3
  clear b3 o3 q3 hT
  have hinv : InvB (addsL newB TT) := InvB.newB.adds fun t ht => by have := htk t ht; omega
  have hA := fun (W : World) (h1 : ReadsB W W.heap.size A1 1 A1' 1 newB) (h2 : ReadsN tokN W W.heap.size A3 TT.length TT) => addTokens_spec (c := c1) (c' := c1') (d := c3) W h1 InvB.newB.small.okB h2 (by omega) f2
  generalize addsL newB TT = R at *
  go_wp2_with (fail)
  go_at_call 23
  refine (hA _ (o1.rd (by omega)) hR3).mono ?_
  rintro e w4 ⟨A4, c4, A4', c4', L4, rfl, o4, b4⟩
  have hz4 := b4.size
  replace bx := bx.next b4
  replace hd := hd.next b4 hd.size hg
  obtain ⟨⟨p0, p1⟩, q0, q1⟩ := bx.two'
  have bz := (bx.put (j := 0) (.slice A4 R.nodes.length c4)).put (j := 1) (.slice A4' R.opens.length c4')
  have k0 := bz.cell 0 _ rfl
  have k1 := bz.cell 1 _ rfl
  have ho := ((o4.set (p := ⟨w.heap.size, 0, none⟩) (by show w.heap.size < _; omega) (.slice A4 R.nodes.length c4)).set (p := ⟨w.heap.size, 1, none⟩) (by show w.heap.size < _; omega) (.slice A4' R.opens.length c4')).wide (lo' := w.heap.size) (hi' := ((w4.setCell ⟨w.heap.size, 0, none⟩ (.slice A4 R.nodes.length c4)).setCell ⟨w.heap.size, 1, none⟩ (.slice A4' R.opens.length c4')).heap.size) (by omega) (by simp [World.setCell])
  have hfin : Draws g w ((w4.setCell ⟨w.heap.size, 0, none⟩ (.slice A4 R.nodes.length c4)).setCell ⟨w.heap.size, 1, none⟩ (.slice A4' R.opens.length c4')) := hd.next (((Below.refl w.heap.size w4).setCell (p := ⟨w.heap.size, 0, none⟩) (Nat.le_refl _) _).setCell (p := ⟨w.heap.size, 1, none⟩) (Nat.le_refl _) _) (Nat.le_refl _) hg
  clear bx bz hd o1 o4 hR3 b4 hA
  go_wp2
  exact bodyPost_ret (v := .agg #[.slice A4 R.nodes.length c4, .slice A4' R.opens.length c4']) (by simp [results, Try.results61, go_sem, k0, k1]) rfl ⟨R, A4, c4, A4', c4', L4, hinv, rfl, ho, hfin⟩
end Go.Proofs.Ytleopmeaaabejaa
