/-
  Plain facts on the order of strings and of pairs of strings. No program is named. No condition.
-/
import Derived.Test.YtmfaihelphfbgaaDoorStr
import Derived.Lib.Bytealg
namespace Go.Proofs.YtmfaihelphfbgaaDoor
set_option linter.unusedVariables false
open Go.RowKit

theorem cmpB_tri : ∀ x y : List UInt8, (Op.bytesLess x y = true ∧ x ≠ y ∧ Lib.compareBytes x y = -1) ∨ (Op.bytesLess x y = false ∧ x = y ∧ Lib.compareBytes x y = 0) ∨ (Op.bytesLess x y = false ∧ x ≠ y ∧ Lib.compareBytes x y = 1)
  | [], [] => .inr (.inl ⟨rfl, rfl, rfl⟩)
  | [], b :: y => .inl ⟨rfl, by simp, rfl⟩
  | a :: x, [] => .inr (.inr ⟨rfl, by simp, rfl⟩)
  | a :: x, b :: y => by
    rcases Nat.lt_trichotomy a.toNat b.toNat with h | h | h
    · have hl : a < b := UInt8.lt_iff_toNat_lt.2 h
      have hne : a ≠ b := by rintro rfl; omega
      exact .inl ⟨by simp [Op.bytesLess, hl], by simp [hne], by simp [Lib.compareBytes, hl]⟩
    · obtain rfl : a = b := UInt8.toNat_inj.1 h
      have hl : ¬ a < a := by rw [UInt8.lt_iff_toNat_lt]; omega
      rcases cmpB_tri x y with ⟨h1, h2, h3⟩ | ⟨h1, h2, h3⟩ | ⟨h1, h2, h3⟩
      · exact .inl ⟨by simp [Op.bytesLess, h1], by simp [h2], by simp [Lib.compareBytes, hl, h3]⟩
      · exact .inr (.inl ⟨by simp [Op.bytesLess, hl, h1], by rw [h2], by simp [Lib.compareBytes, hl, h3]⟩)
      · exact .inr (.inr ⟨by simp [Op.bytesLess, hl, h1], by simp [h2], by simp [Lib.compareBytes, hl, h3]⟩)
    · have hl : b < a := UInt8.lt_iff_toNat_lt.2 h
      have hl2 : ¬ a < b := by rw [UInt8.lt_iff_toNat_lt]; omega
      have hne : a ≠ b := by rintro rfl; omega
      exact .inr (.inr ⟨by simp [Op.bytesLess, hl2, hne], by simp [hne], by simp [Lib.compareBytes, hl, hl2]⟩)
def cmpS (a b : ByteArray) : Int := Lib.compareBytes a.data.toList b.data.toList
def cmpA (a b : S2) : Int := if cmpS a.1 b.1 = 0 then cmpS a.2 b.2 else cmpS a.1 b.1
def s2eq (a b : S2) : Bool := a.1.toList == b.1.toList && a.2.toList == b.2.toList
theorem bytes_inj {a b : ByteArray} (h : a.data.toList = b.data.toList) : a = b := by
  obtain ⟨⟨x⟩⟩ := a
  obtain ⟨⟨y⟩⟩ := b
  simp at h
  rw [h]
theorem toList_eq_iff {a b : ByteArray} : (a.toList == b.toList) = decide (a = b) := by
  rw [Bool.eq_iff_iff, beq_iff_eq, decide_eq_true_eq, Lib.toList_data, Lib.toList_data]
  exact ⟨bytes_inj, fun h => by rw [h]⟩
theorem s2eq_iff (a b : S2) : s2eq a b = decide (a = b) := by
  unfold s2eq
  rw [toList_eq_iff, toList_eq_iff, Bool.eq_iff_iff]
  simp only [Bool.and_eq_true, decide_eq_true_eq]
  exact ⟨fun h => Prod.ext h.1 h.2, fun h => by rw [h]; exact ⟨rfl, rfl⟩⟩
theorem s2eq_comm (a b : S2) : s2eq a b = s2eq b a := by
  rw [s2eq_iff, s2eq_iff]
  by_cases h : a = b
  · rw [h]
  · rw [decide_eq_false h, decide_eq_false (fun e => h e.symm)]
/-- the three ways that two strings stand, in the words of the walk -/
theorem cmpS_tri (a b : ByteArray) : (Op.bytesLess a.toList b.toList = true ∧ (a.toList == b.toList) = false ∧ cmpS a b = -1) ∨ (Op.bytesLess a.toList b.toList = false ∧ a = b ∧ cmpS a b = 0) ∨ (Op.bytesLess a.toList b.toList = false ∧ (a.toList == b.toList) = false ∧ cmpS a b = 1) := by
  rw [cmpS, toList_eq_iff, Lib.toList_data, Lib.toList_data]
  rcases cmpB_tri a.data.toList b.data.toList with ⟨h1, h2, h3⟩ | ⟨h1, h2, h3⟩ | ⟨h1, h2, h3⟩
  · exact .inl ⟨h1, decide_eq_false (fun e => h2 (by rw [e])), h3⟩
  · exact .inr (.inl ⟨h1, bytes_inj h2, h3⟩)
  · exact .inr (.inr ⟨h1, decide_eq_false (fun e => h2 (by rw [e])), h3⟩)
theorem cmpS_self (a : ByteArray) : cmpS a a = 0 := by
  rcases cmpS_tri a a with ⟨_, h, _⟩ | ⟨_, _, h⟩ | ⟨_, h, _⟩
  · simp at h
  · exact h
  · simp at h
theorem cmpA_vals (a b : S2) : cmpA a b = -1 ∨ (cmpA a b = 0 ∧ a = b) ∨ cmpA a b = 1 := by
  unfold cmpA
  rcases cmpS_tri a.1 b.1 with ⟨_, _, h⟩ | ⟨_, e, h⟩ | ⟨_, _, h⟩
  · rw [if_neg (by omega)]; omega
  · rw [if_pos h]
    rcases cmpS_tri a.2 b.2 with ⟨_, _, h2⟩ | ⟨_, e2, h2⟩ | ⟨_, _, h2⟩
    · omega
    · exact .inr (.inl ⟨h2, Prod.ext e e2⟩)
    · omega
  · rw [if_neg (by omega)]; omega
/-- the ways that two pairs stand, in the words of the walk -/
theorem cmpA_cases (a b : S2) : (s2eq a b = true ∧ cmpA a b = 0) ∨
    (s2eq a b = false ∧ Op.bytesLess a.1.toList b.1.toList = true ∧ cmpA a b = -1) ∨
    (s2eq a b = false ∧ Op.bytesLess a.1.toList b.1.toList = false ∧ (a.1.toList == b.1.toList) = true ∧ Op.bytesLess a.2.toList b.2.toList = true ∧ cmpA a b = -1) ∨
    (s2eq a b = false ∧ Op.bytesLess a.1.toList b.1.toList = false ∧ (a.1.toList == b.1.toList) = true ∧ Op.bytesLess a.2.toList b.2.toList = false ∧ cmpA a b = 1) ∨
    (s2eq a b = false ∧ Op.bytesLess a.1.toList b.1.toList = false ∧ (a.1.toList == b.1.toList) = false ∧ cmpA a b = 1) := by
  unfold s2eq cmpA
  rcases cmpS_tri a.1 b.1 with ⟨h1, h2, h⟩ | ⟨h1, e, h⟩ | ⟨h1, h2, h⟩
  · rw [if_neg (by omega)]; exact .inr (.inl ⟨by simp [h2], h1, h⟩)
  · have he : (a.1.toList == b.1.toList) = true := by rw [e]; simp
    rw [if_pos h]
    rcases cmpS_tri a.2 b.2 with ⟨k1, k2, k⟩ | ⟨k1, k2, k⟩ | ⟨k1, k2, k⟩
    · exact .inr (.inr (.inl ⟨by simp [k2], h1, he, k1, k⟩))
    · exact .inl ⟨by simp [e, k2], k⟩
    · exact .inr (.inr (.inr (.inl ⟨by simp [k2], h1, he, k1, k⟩)))
  · rw [if_neg (by omega)]; exact .inr (.inr (.inr (.inr ⟨by simp [h2], h1, h2, h⟩)))
theorem cmpA_self (a : S2) : cmpA a a = 0 := by simp [cmpA, cmpS_self]
theorem cmpA_zero {a b : S2} (h : cmpA a b = 0) : a = b := by
  rcases cmpA_vals a b with h1 | h1 | h1
  · omega
  · exact h1.2
  · omega

def hasA (l : List S2) (a : S2) : Bool := l.any fun x => s2eq x a
theorem hasA_iff {l : List S2} {a : S2} : hasA l a = true ↔ a ∈ l := by
  unfold hasA
  rw [List.any_eq_true]
  constructor
  · rintro ⟨x, hx, he⟩
    rw [s2eq_iff] at he
    rw [← of_decide_eq_true he]; exact hx
  · intro h
    exact ⟨a, h, by rw [s2eq_iff]; exact decide_eq_true rfl⟩
def hasTo (l : List S2) (a : S2) (k : Nat) : Prop := ∀ j (h : j < l.length), j < k → s2eq l[j] a = false
theorem hasTo_zero (l : List S2) (a : S2) : hasTo l a 0 := fun _ _ h => absurd h (by omega)
theorem hasTo_succ {l : List S2} {a : S2} {k : Nat} (h : hasTo l a k) (hk : k < l.length) (he : s2eq l[k] a = false) : hasTo l a (k + 1) := by
  intro j hj hlt
  rcases Nat.lt_or_eq_of_le (Nat.le_of_lt_succ hlt) with h1 | h1
  · exact h j hj h1
  · subst h1; exact he
theorem hasA_at {l : List S2} {a : S2} {k : Nat} (hk : k < l.length) (he : s2eq l[k] a = true) : hasA l a = true := by
  unfold hasA
  rw [List.any_eq_true]
  exact ⟨_, List.getElem_mem hk, he⟩
theorem hasA_end {l : List S2} {a : S2} {k : Nat} (h : hasTo l a k) (hk : l.length ≤ k) : hasA l a = false := by
  unfold hasA
  rw [List.any_eq_false]
  intro x hx
  obtain ⟨j, hj, rfl⟩ := List.getElem_of_mem hx
  rw [h j hj (by omega)]; simp

/-! ### The order -/
theorem cmpB_anti : ∀ x y : List UInt8, Lib.compareBytes y x = -Lib.compareBytes x y
  | [], [] => rfl
  | [], b :: y => rfl
  | a :: x, [] => rfl
  | a :: x, b :: y => by
    have ih := cmpB_anti x y
    simp only [Lib.compareBytes]
    rcases Nat.lt_trichotomy a.toNat b.toNat with h | h | h
    · have hl : a < b := UInt8.lt_iff_toNat_lt.2 h
      have hl2 : ¬ b < a := by rw [UInt8.lt_iff_toNat_lt]; omega
      simp [hl, hl2]
    · obtain rfl : a = b := UInt8.toNat_inj.1 h
      have hl : ¬ a < a := by rw [UInt8.lt_iff_toNat_lt]; omega
      simp [hl, ih]
    · have hl : b < a := UInt8.lt_iff_toNat_lt.2 h
      have hl2 : ¬ a < b := by rw [UInt8.lt_iff_toNat_lt]; omega
      simp [hl, hl2]
theorem cmpS_anti (a b : ByteArray) : cmpS b a = -cmpS a b := cmpB_anti _ _
theorem cmpA_anti (a b : S2) : cmpA b a = -cmpA a b := by
  unfold cmpA
  have h1 := cmpS_anti a.1 b.1
  have h2 := cmpS_anti a.2 b.2
  by_cases h : cmpS a.1 b.1 = 0
  · rw [if_pos h, if_pos (by omega)]; exact h2
  · rw [if_neg h, if_neg (by omega)]; exact h1
theorem cmpB_trans : ∀ x y z : List UInt8, Lib.compareBytes x y < 0 → Lib.compareBytes y z < 0 → Lib.compareBytes x z < 0
  | x, y, [], h1, h2 => by cases y <;> simp [Lib.compareBytes] at h2
  | x, [], c :: z, h1, h2 => by cases x <;> simp [Lib.compareBytes] at h1
  | [], b :: y, c :: z, h1, h2 => by simp [Lib.compareBytes]
  | a :: x, b :: y, c :: z, h1, h2 => by
    simp only [Lib.compareBytes, UInt8.lt_iff_toNat_lt] at h1 h2 ⊢
    have ih := cmpB_trans x y z
    split at h1
    · split at h2
      · rw [if_pos (by omega)]; omega
      · split at h2
        · omega
        · rw [if_pos (by omega)]; omega
    · split at h1
      · omega
      · split at h2
        · rw [if_pos (by omega)]; omega
        · split at h2
          · omega
          · rw [if_neg (by omega), if_neg (by omega)]; exact ih h1 h2
theorem cmpA_trans {a b c : S2} (h1 : cmpA a b < 0) (h2 : cmpA b c < 0) : cmpA a c < 0 := by
  have key : ∀ x y : S2, cmpA x y < 0 ↔ (cmpS x.1 y.1 < 0 ∨ (x.1 = y.1 ∧ cmpS x.2 y.2 < 0)) := by
    intro x y
    unfold cmpA
    rcases cmpS_tri x.1 y.1 with ⟨_, hn, h⟩ | ⟨_, e, h⟩ | ⟨_, hn, h⟩
    · rw [if_neg (by omega)]; exact ⟨fun _ => .inl (by omega), fun _ => by omega⟩
    · rw [if_pos h]; exact ⟨fun hh => .inr ⟨e, hh⟩, fun hh => by rcases hh with hh | hh; omega; exact hh.2⟩
    · rw [if_neg (by omega)]
      refine ⟨fun hh => by omega, fun hh => ?_⟩
      rcases hh with hh | ⟨e, _⟩
      · omega
      · rw [e] at hn; simp at hn
  rw [key] at h1 h2 ⊢
  have tr : ∀ x y z : ByteArray, cmpS x y < 0 → cmpS y z < 0 → cmpS x z < 0 := fun x y z => cmpB_trans _ _ _
  rcases h1 with h1 | ⟨e1, h1⟩
  · rcases h2 with h2 | ⟨e2, h2⟩
    · exact .inl (tr _ _ _ h1 h2)
    · exact .inl (by rw [← e2]; exact h1)
  · rcases h2 with h2 | ⟨e2, h2⟩
    · exact .inl (by rw [e1]; exact h2)
    · exact .inr ⟨e1.trans e2, tr _ _ _ h1 h2⟩
end Go.Proofs.YtmfaihelphfbgaaDoor
