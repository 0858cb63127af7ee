/-
  Plain words: what a tag's inside reads as. No program is named. No condition.
-/
import Derived.Test.YtmfaihelphfbgaaDoorSpp
import Derived.Test.YtmfaihelphfbgaaDoorFda
import Derived.Test.YtmfaihelphfbgaaDoorNst
namespace Go.Proofs.YtmfaihelphfbgaaDoor
set_option linter.unusedVariables false
set_option linter.unusedSimpArgs false
open Go.RowKit

/-- one word of a tag: a name, '=', a value -/
def attrW (w : ByteArray) : Option S2 :=
  match words 61 w with
  | [p, q] => if nameB p && valueB q then some (p, q) else none
  | _ => none
def attrsF : List ByteArray → List S2 → Option (List S2)
  | [], acc => some acc
  | w :: r, acc =>
    match attrW w with
    | some a => if (findV acc a.1).2 then none else attrsF r (acc ++ [a])
    | none => none
def slashB (s : ByteArray) : Bool := match s.data.toList with | b :: _ => b == 47 | [] => false
def zeroTok : Tok := ⟨0, ⟨#[]⟩, [], ⟨#[]⟩⟩
def wordsT (s : ByteArray) : Tok × Bool :=
  match words 32 s with
  | [] => (zeroTok, false)
  | h :: t =>
    match attrsF t [] with
    | some l => if nameB h && decide (l.length ≤ 4) then (⟨1, h, l, ⟨#[]⟩⟩, true) else (zeroTok, false)
    | none => (zeroTok, false)
def tagT (s : ByteArray) : Tok × Bool :=
  if 60 < s.size then (zeroTok, false)
  else if slashB s then (if nameB (s.extract 1 s.size) then (⟨2, s.extract 1 s.size, [], ⟨#[]⟩⟩, true) else (zeroTok, false))
  else wordsT s

theorem attrW_len {w : ByteArray} (h : (words 61 w).length ≠ 2) : attrW w = none := by
  unfold attrW
  split
  · rename_i e; rw [e] at h; exact absurd rfl h
  · rfl
theorem attrW_two {w p q : ByteArray} (h : words 61 w = [p, q]) : attrW w = if nameB p && valueB q then some (p, q) else none := by
  unfold attrW
  rw [h]
theorem value_no {v : ByteArray} (h : valueB v = true) : ∀ i (hi : i < v.size), v[i] ≠ 61 := by
  intro i hi he
  have := valB_no hi (show valB v[i] = false by rw [he]; decide)
  rw [h] at this
  cases this
theorem attrW_miss {w : ByteArray} (h : ixB w 61 = -1) : attrW w = none := attrW_len (by rw [words_miss h]; simp)
theorem attrW_hit {w : ByteArray} {i : Nat} (h : ixB w 61 = i) : attrW w = if nameB (w.extract 0 i) && valueB (w.extract (i + 1) w.size) then some (w.extract 0 i, w.extract (i + 1) w.size) else none := by
  have hw := words_hit h
  by_cases hv : ixB (w.extract (i + 1) w.size) 61 = -1
  · rw [words_miss hv] at hw
    exact attrW_two hw
  · have hn : valueB (w.extract (i + 1) w.size) = false := by
      cases e : valueB (w.extract (i + 1) w.size) with
      | false => rfl
      | true => exact absurd (ixB_none (value_no e)) hv
    rw [hn, Bool.and_false, if_neg (by simp)]
    refine attrW_len ?_
    rw [hw]
    rcases ixB_cases (w.extract (i + 1) w.size) 61 with ⟨h1, _⟩ | ⟨j, hj, h1, _⟩
    · exact absurd h1 hv
    · rw [words_hit h1]
      have := words_pos 61 ((w.extract (i + 1) w.size).extract (j + 1) (w.extract (i + 1) w.size).size)
      simp only [List.length_cons]
      omega
theorem attrsF_len : ∀ {t : List ByteArray} {acc l : List S2}, attrsF t acc = some l → l.length = acc.length + t.length
  | [], acc, l, h => by simp [attrsF] at h; subst h; simp
  | w :: r, acc, l, h => by
    unfold attrsF at h
    split at h
    · split at h
      · cases h
      · have := attrsF_len h
        simp at this
        simp
        omega
    · cases h
theorem attrsF_step {w : ByteArray} {r : List ByteArray} {acc : List S2} {a : S2} (h : attrW w = some a) (h2 : (findV acc a.1).2 = false) : attrsF (w :: r) acc = attrsF r (acc ++ [a]) := by
  conv => lhs; unfold attrsF
  rw [h]
  simp [h2]
theorem attrsF_twice {w : ByteArray} {r : List ByteArray} {acc : List S2} {a : S2} (h : attrW w = some a) (h2 : (findV acc a.1).2 = true) : attrsF (w :: r) acc = none := by
  unfold attrsF
  rw [h]
  simp [h2]
theorem attrsF_bad {w : ByteArray} {r : List ByteArray} {acc : List S2} (h : attrW w = none) : attrsF (w :: r) acc = none := by
  unfold attrsF
  rw [h]
theorem wordsT_none {s h : ByteArray} {t : List ByteArray} (hw : words 32 s = h :: t) (hf : attrsF t [] = none) : wordsT s = (zeroTok, false) := by
  unfold wordsT; rw [hw]; simp [hf]
theorem wordsT_some {s h : ByteArray} {t : List ByteArray} {l : List S2} (hw : words 32 s = h :: t) (hf : attrsF t [] = some l) : wordsT s = if nameB h && decide (l.length ≤ 4) then (⟨1, h, l, ⟨#[]⟩⟩, true) else (zeroTok, false) := by
  unfold wordsT; rw [hw]; simp [hf]
theorem wordsT_early {s h : ByteArray} {t : List ByteArray} (hw : words 32 s = h :: t) (hb : nameB h = false ∨ 4 < t.length) : wordsT s = (zeroTok, false) := by
  cases hf : attrsF t [] with
  | none => exact wordsT_none hw hf
  | some l =>
    rw [wordsT_some hw hf]
    have hl := attrsF_len hf
    simp only [List.length_nil, Nat.zero_add] at hl
    rw [if_neg]
    rcases hb with hb | hb
    · rw [hb]; simp
    · simp; omega
theorem tagT_long {s : ByteArray} (h : 60 < s.size) : tagT s = (zeroTok, false) := by unfold tagT; rw [if_pos h]
theorem tagT_close {s : ByteArray} (h : ¬ 60 < s.size) (hs : slashB s = true) : tagT s = if nameB (s.extract 1 s.size) then (⟨2, s.extract 1 s.size, [], ⟨#[]⟩⟩, true) else (zeroTok, false) := by unfold tagT; rw [if_neg h, if_pos hs]
theorem tagT_open {s : ByteArray} (h : ¬ 60 < s.size) (hs : slashB s = false) : tagT s = wordsT s := by unfold tagT; rw [if_neg h, if_neg (by simp [hs])]
theorem slashB_at {s : ByteArray} (h : 0 < s.size) : slashB s = decide (s[0] = 47) := by
  obtain ⟨⟨l⟩⟩ := s
  cases l with
  | nil => simp [ByteArray.size] at h
  | cons b r => simp [slashB]; rfl
theorem slashB_nil {s : ByteArray} (h : s.size = 0) : slashB s = false := by
  obtain ⟨⟨l⟩⟩ := s
  cases l with
  | nil => rfl
  | cons b r => simp [ByteArray.size] at h
/-- the attributes of a tag: at most so many -/
theorem tagT_attrs (s : ByteArray) : (tagT s).1.attrs.length ≤ 4 := by
  unfold tagT
  split
  · simp [zeroTok]
  · split
    · split <;> simp [zeroTok]
    · unfold wordsT
      split
      · simp [zeroTok]
      · split
        · split
          · rename_i h; simp at h; exact h.2
          · simp [zeroTok]
        · simp [zeroTok]
end Go.Proofs.YtmfaihelphfbgaaDoor
