/-
  Plain words: a string cut at every occurrence of one byte. No program is named. No condition.
-/
import Derived.Test.YtmfaihelphfbgaaDoorIxb
import Derived.Lib.Split
import Derived.Lib.SplitLaws
import Derived.Lib.CountLaws
import Derived.Lib.IndexBytes
namespace Go.Proofs.YtmfaihelphfbgaaDoor
set_option linter.unusedVariables false
set_option linter.unusedSimpArgs false
open Go.RowKit

theorem one_sz (c : UInt8) : 1 ≤ (⟨#[c]⟩ : ByteArray).size := Nat.le_refl 1
def words (c : UInt8) (s : ByteArray) : List ByteArray := Lib.splitB ⟨#[c]⟩ 0 (Lib.countB s ⟨#[c]⟩) s
theorem index_one (s : ByteArray) (c : UInt8) : Lib.indexB s ⟨#[c]⟩ = ixB s c := by
  rw [Lib.one s ⟨#[c]⟩ rfl]
  unfold ixB
  congr 1
  show UInt8.ofNat ((c.toNat : Nat) : Int).toNat = c
  simp
theorem words_miss {c : UInt8} {s : ByteArray} (h : ixB s c = -1) : words c s = [s] := Lib.splitB_miss _ _ _ _ (by rw [index_one]; exact h)
theorem words_hit {c : UInt8} {s : ByteArray} {i : Nat} (h : ixB s c = i) : words c s = s.extract 0 i :: words c (s.extract (i + 1) s.size) := by
  have hi : Lib.indexB s ⟨#[c]⟩ = i := by rw [index_one]; exact h
  unfold words
  rw [Lib.countB_hit s ⟨#[c]⟩ i (one_sz c) hi, Nat.add_comm, Lib.splitB_hit _ _ _ _ i hi]
  rfl
theorem words_len (c : UInt8) (s : ByteArray) : (words c s).length = Lib.countB s ⟨#[c]⟩ + 1 := Lib.splitB_all _ (one_sz c) 0 _ s rfl
theorem words_pos (c : UInt8) (s : ByteArray) : 0 < (words c s).length := by rw [words_len]; omega
theorem words_le (c : UInt8) (s : ByteArray) : (words c s).length ≤ s.size + 1 := by
  rw [words_len]
  have := Lib.countB_le ⟨#[c]⟩ (one_sz c) s.size s (Nat.le_refl _)
  omega
theorem split_size (sep : ByteArray) : ∀ (k : Nat) (s : ByteArray), ∀ x ∈ Lib.splitB sep 0 k s, x.size ≤ s.size
  | 0, s, x, h => by
    rw [Lib.splitB_zero] at h
    simp at h
    subst h
    exact Nat.le_refl _
  | k + 1, s, x, h => by
    unfold Lib.splitB at h
    split at h
    · simp at h
      subst h
      exact Nat.le_refl _
    · rcases List.mem_cons.1 h with h | h
      · subst h
        rw [ByteArray.size_extract]
        omega
      · have := split_size sep k _ x h
        rw [ByteArray.size_extract] at this
        omega
theorem words_size (c : UInt8) (s : ByteArray) : ∀ x ∈ words c s, x.size ≤ s.size := split_size _ _ _
theorem words_none {c : UInt8} {s : ByteArray} {a : Nat} (h : ∀ j (hj : j < s.size), a ≤ j → s[j] ≠ c) : words c (s.extract a s.size) = [s.extract a s.size] := by
  refine words_miss (ixB_none fun i hi => ?_)
  rw [ByteArray.size_extract] at hi
  rw [ByteArray.getElem_extract]
  exact h _ (by omega) (by omega)
theorem words_next {c : UInt8} {s : ByteArray} {a b : Nat} (hab : a ≤ b) (hb : b < s.size) (hc : s[b] = c) (h : ∀ j (hj : j < s.size), a ≤ j → j < b → s[j] ≠ c) :
    words c (s.extract a s.size) = s.extract a b :: words c (s.extract (b + 1) s.size) := by
  have hi : ixB (s.extract a s.size) c = ((b - a : Nat) : Int) := by
    refine ixB_at (by rw [ByteArray.size_extract]; omega) ?_ fun j hj => ?_
    · rw [ByteArray.getElem_extract]
      have e : a + (b - a) = b := by omega
      simp only [e]
      exact hc
    · rw [ByteArray.getElem_extract]
      exact h _ (by omega) (by omega) (by omega)
  rw [words_hit hi, ByteArray.extract_extract, ByteArray.extract_extract, ByteArray.size_extract]
  congr 2
  · congr 1 <;> omega
  · congr 1 <;> omega
/-- the state of a loop that cuts: P found, the piece at hand begins at a, b bytes passed -/
structure Cutt (c : UInt8) (s : ByteArray) (a b : Nat) (P : List ByteArray) : Prop where
  no : ∀ j (hj : j < s.size), a ≤ j → j < b → s[j] ≠ c
  eq : words c s = P ++ words c (s.extract a s.size)
theorem Cutt.start (c : UInt8) (s : ByteArray) : Cutt c s 0 0 [] := ⟨fun _ _ _ h => absurd h (by omega), by rw [ByteArray.extract_zero_size]; rfl⟩
theorem Cutt.skip {c : UInt8} {s : ByteArray} {a b : Nat} {P : List ByteArray} (h : Cutt c s a b P) (hb : b < s.size) (hc : s[b] ≠ c) : Cutt c s a (b + 1) P :=
  ⟨fun j hj h1 h2 => by
    by_cases e : j = b
    · subst e; exact hc
    · exact h.no j hj h1 (by omega), h.eq⟩
theorem Cutt.hit {c : UInt8} {s : ByteArray} {a b : Nat} {P : List ByteArray} (h : Cutt c s a b P) (hab : a ≤ b) (hb : b < s.size) (hc : s[b] = c) : Cutt c s (b + 1) (b + 1) (P ++ [s.extract a b]) :=
  ⟨fun j hj h1 h2 => absurd h2 (by omega), by rw [h.eq, words_next hab hb hc fun j hj h1 h2 => h.no j hj h1 h2]; simp⟩
theorem Cutt.last {c : UInt8} {s : ByteArray} {a : Nat} {P : List ByteArray} (h : Cutt c s a s.size P) : words c s = P ++ [s.extract a s.size] := by
  rw [h.eq, words_none fun j hj h1 => h.no j hj h1 hj]
end Go.Proofs.YtmfaihelphfbgaaDoor
