/-
  Plain words: what a merge sort by the order of pairs gives. No program is named. No condition.
-/
import Derived.Test.YtpehaoamfifgbaaSo
namespace Go.Proofs.Ytpehaoamfifgbaa
set_option linter.unusedVariables false
set_option linter.unusedSimpArgs false

def leA (a b : S2) : Bool := !decide (cmpA b a < 0)
theorem leA_iff {a b : S2} : leA a b = true ↔ ¬ cmpA b a < 0 := by simp [leA]
theorem leA_trans (a b c : S2) (h1 : leA a b = true) (h2 : leA b c = true) : leA a c = true := by
  rw [leA_iff] at *
  intro h
  rcases cmpA_vals a b with k | ⟨k, rfl⟩ | k
  · have : cmpA c b < 0 := cmpA_trans h (by omega)
    exact h2 this
  · exact h2 h
  · exact h1 (by rw [cmpA_anti a b]; omega)
theorem leA_total (a b : S2) : (leA a b || leA b a) = true := by
  rw [Bool.or_eq_true, leA_iff, leA_iff]
  by_cases h : cmpA b a < 0
  · right
    intro h2
    exact cmpA_asymm h h2
  · exact .inl h
def msA (l : List S2) : List S2 := l.mergeSort leA
theorem msA_mem (l : List S2) (a : S2) : a ∈ msA l ↔ a ∈ l := (List.mergeSort_perm l leA).mem_iff
theorem msA_len (l : List S2) : (msA l).length = l.length := (List.mergeSort_perm l leA).length_eq
theorem msA_srt (l : List S2) : (msA l).Pairwise fun a b => leA a b = true := List.pairwise_mergeSort leA_trans leA_total l
/-- the step of a pass over a sorted list: the next element is its neighbour, or greater than all before -/
theorem SortOf.pass {l x : List S2} {a y : S2} (hl : l.Pairwise fun a b => leA a b = true) (hy : l.getLast? = some y) (h : SortOf l x) (ha : leA y a = true) :
    (a = y → SortOf (l ++ [a]) x) ∧ (a ≠ y → SortOf (l ++ [a]) (x ++ [a])) := by
  have hmem : y ∈ l := List.mem_of_getLast? hy
  refine ⟨fun e => h.more (by rw [e]; exact hmem), fun e => h.last fun b hb => ?_⟩
  have hby : leA b y = true := by
    obtain ⟨l', rfl⟩ := List.getLast?_eq_some_iff.1 hy
    rcases List.mem_append.1 hb with h1 | h1
    · exact (List.pairwise_append.1 hl).2.2 b h1 y (by simp)
    · simp only [List.mem_singleton] at h1
      subst h1
      rw [leA_iff]; exact cmpA_irr _
  have hya : cmpA y a < 0 := by
    rw [leA_iff] at ha
    rcases cmpA_vals y a with k | ⟨_, k⟩ | k
    · omega
    · exact absurd k.symm e
    · exact absurd (by rw [cmpA_anti y a]; omega) ha
  rw [leA_iff] at hby
  rcases cmpA_vals b y with k | ⟨_, rfl⟩ | k
  · exact cmpA_trans (by omega) hya
  · exact hya
  · exact absurd (by rw [cmpA_anti b y]; omega) hby
end Go.Proofs.Ytpehaoamfifgbaa
