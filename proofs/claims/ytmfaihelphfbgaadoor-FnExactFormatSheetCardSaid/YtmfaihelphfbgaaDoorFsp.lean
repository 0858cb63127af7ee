/-
  Plain words: how a sheet is written. No program is named. No condition.
-/
import Derived.Test.YtmfaihelphfbgaaDoorPst
import Derived.Lib.Join
import Derived.Lib.ItoaLen
namespace Go.Proofs.YtmfaihelphfbgaaDoor
set_option linter.unusedVariables false
set_option linter.unusedSimpArgs false
open Go.RowKit

def ruleB (a : Rul) : ByteArray := a.1 ++ ⟨#[58]⟩ ++ fmtI a.2
def fmtK (l : List Rul) : Nat → ByteArray
  | 0 => ⟨#[]⟩
  | k + 1 => match l[k]? with
    | some a => (if k = 0 then ⟨#[]⟩ else fmtK l k ++ ⟨#[59]⟩) ++ a.1 ++ ⟨#[58]⟩ ++ fmtI a.2
    | none => fmtK l k
theorem fmtK_first {l : List Rul} {k : Nat} (hk : k < l.length) (h0 : k = 0) : fmtK l (k + 1) = fmtK l k ++ l[k].1 ++ ⟨#[58]⟩ ++ fmtI l[k].2 := by
  subst h0
  conv => lhs; unfold fmtK
  rw [List.getElem?_eq_getElem hk]
  rfl
theorem fmtK_more {l : List Rul} {k : Nat} (hk : k < l.length) (h0 : k ≠ 0) : fmtK l (k + 1) = fmtK l k ++ ⟨#[59]⟩ ++ l[k].1 ++ ⟨#[58]⟩ ++ fmtI l[k].2 := by
  conv => lhs; unfold fmtK
  rw [List.getElem?_eq_getElem hk]
  simp only
  rw [if_neg h0]
theorem join_snoc (xs : List (List UInt8)) (y sep : List UInt8) : Lib.join (xs ++ [y]) sep = if xs = [] then y else Lib.join xs sep ++ sep ++ y := by
  cases xs with
  | nil => rw [if_pos rfl]; exact Lib.join_one _ _
  | cons x r =>
    rw [if_neg (by simp), List.cons_append, Lib.join_cons, Lib.join_cons]
    simp [Lib.joinTail, List.append_assoc]
theorem fmtK_join (l : List Rul) : ∀ k, k ≤ l.length → (fmtK l k).data.toList = Lib.join (((l.take k).map ruleB).map (·.data.toList)) [59]
  | 0, _ => by rw [List.take_zero]; rfl
  | k + 1, h => by
    have ih := fmtK_join l k (by omega)
    have hk : k < l.length := by omega
    rw [List.take_succ_eq_append_getElem hk, List.map_append, List.map_append, List.map_cons, List.map_nil, List.map_cons, List.map_nil, join_snoc, ← ih]
    by_cases h0 : k = 0
    · rw [if_pos (by subst h0; rfl), fmtK_first hk h0]
      have e : fmtK l k = ⟨#[]⟩ := by subst h0; rfl
      rw [e]
      simp [ruleB, ByteArray.data_append]
    · rw [if_neg, fmtK_more hk h0]
      · simp [ruleB, ByteArray.data_append]
      · intro e
        have := congrArg List.length e
        rw [List.length_map, List.length_map, List.length_take, List.length_nil] at this
        omega
theorem fmtI_le {n : Int} (h1 : -9223372036854775808 ≤ n) (h2 : n ≤ 9223372036854775807) : (fmtI n).size ≤ 21 := by
  have := Lib.itoa_length_le n h1 h2
  show (Lib.itoa n).toArray.size ≤ 21
  simpa using this
theorem fmtK_size (l : List Rul) (hz : ∀ a ∈ l, okRul a) : ∀ k, k ≤ l.length → ((fmtK l k).size : Int) ≤ rulsz (l.take k) + 23 * k
  | 0, _ => by
    have : (fmtK l 0).size = 0 := rfl
    have := rulsz_nonneg (l.take 0)
    omega
  | k + 1, h => by
    have ih := fmtK_size l hz k (by omega)
    have hk : k < l.length := by omega
    obtain ⟨_, z1, z2⟩ := hz l[k] (List.getElem_mem _)
    have hf := fmtI_le z1 z2
    have hr := rulsz_take hk
    have e1 : (⟨#[58]⟩ : ByteArray).size = 1 := rfl
    have e2 : (⟨#[59]⟩ : ByteArray).size = 1 := rfl
    by_cases h0 : k = 0
    · rw [fmtK_first hk h0, ByteArray.size_append, ByteArray.size_append, ByteArray.size_append, e1]
      omega
    · rw [fmtK_more hk h0, ByteArray.size_append, ByteArray.size_append, ByteArray.size_append, ByteArray.size_append, e1, e2]
      omega
theorem fmtK_all (l : List Rul) : (⟨(Lib.join ((l.map ruleB).map (·.data.toList)) [59]).toArray⟩ : ByteArray) = fmtK l l.length := by
  have h := fmtK_join l l.length (Nat.le_refl _)
  rw [List.take_length] at h
  rw [← h]
theorem rulsz_take_le (l : List Rul) (k : Nat) : rulsz (l.take k) ≤ rulsz l := by
  have h : rulsz l = rulsz (l.take k) + rulsz (l.drop k) := by
    conv => lhs; rw [← List.take_append_drop k l]
    rw [rulsz, List.map_append, List.sum_append]
    rfl
  have := rulsz_nonneg (l.drop k)
  omega
theorem fmtK_le {l : List Rul} (hz : ∀ a ∈ l, okRul a) (hs : shSz l ≤ 1048576) {k : Nat} (hk : k ≤ l.length) : (fmtK l k).size ≤ 33554432 := by
  have h1 := fmtK_size l hz k hk
  have h2 := rulsz_take_le l k
  unfold shSz at hs
  have h3 := rulsz_nonneg l
  omega
/-- what the library's Join is handed -/
def rowS (l : List Rul) : List Value := (l.map ruleB).map Value.string
theorem rowS_take {l : List Rul} {k : Nat} (hk : k < l.length) : rowS (l.take k) ++ [.string (l[k].1 ++ ⟨#[58]⟩ ++ fmtI l[k].2)] = rowS (l.take (k + 1)) := by
  rw [List.take_succ_eq_append_getElem hk]
  simp only [rowS, ruleB, List.map_append, List.map_cons, List.map_nil]
end Go.Proofs.YtmfaihelphfbgaaDoor
