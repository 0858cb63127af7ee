/-
  Lemmas that name no program: how strings, slices and integers that come in are read. No condition.
-/
import Derived.WalkKit
import Derived.ProofKit
import Derived.OpenShut
import Derived.ShutString
import Derived.ChangeOld
import Derived.Below
import Derived.Lib.Hide
namespace Go.Proofs.YtmfaihelphfbgaaDoor
set_option linter.unusedVariables false
open Go.ChangeShapes Go.WideShapes Go.ChangeAt Go.RowKit
open Go.ChangeMaps (open_string shut_string)

theorem i64_lo {a : Int} (h : (Lit.int .i64 a).wf = true) : -9223372036854775808 ≤ a := by
  simp [Lit.wf, IntKind.min, IntKind.max, IntKind.signed, IntKind.bits] at h; omega
theorem i64_hi {a : Int} (h : (Lit.int .i64 a).wf = true) : a ≤ 9223372036854775807 := by
  simp [Lit.wf, IntKind.min, IntKind.max, IntKind.signed, IntKind.bits] at h; omega
theorem ret_int {k : IntKind} {a b : Int} (h : a = b) : Ending.returned (.int k a) = .returned (.int k b) := by rw [h]
theorem ret_bool {a b : Bool} (h : a = b) : Ending.returned (.bool a) = .returned (.bool b) := by rw [h]

/-! ### Letters -/
def lowB (c : UInt8) : Bool := decide (97 ≤ (c.toNat : Int)) && decide ((c.toNat : Int) ≤ 122)
def valB (c : UInt8) : Bool := lowB c || (decide (48 ≤ (c.toNat : Int)) && decide ((c.toNat : Int) ≤ 57)) || decide ((c.toNat : Int) = 47)
def allB (p : UInt8 → Bool) (s : ByteArray) (k : Nat) : Bool := (s.data.toList.take k).all p
theorem allB_zero (p : UInt8 → Bool) (s : ByteArray) : allB p s 0 = true := by simp [allB]
theorem allB_succ (p : UInt8 → Bool) (s : ByteArray) (k : Nat) (h : k < s.size) : allB p s (k + 1) = (allB p s k && p s[k]) := by
  unfold allB
  rw [List.take_succ_eq_append_getElem (by simpa using h), List.all_append]
  simp
  rfl
theorem allB_false (p : UInt8 → Bool) (s : ByteArray) (k : Nat) (h : k < s.size) (hp : p s[k] = false) : allB p s s.size = false := by
  unfold allB
  rw [List.all_eq_false]
  refine ⟨s[k], ?_, by simp [hp]⟩
  have : s[k] = s.data.toList[k]'(by simpa using h) := rfl
  rw [this, List.take_of_length_le (by simp)]
  exact List.getElem_mem _
def nameB (s : ByteArray) : Bool := allB lowB s s.size && decide (1 ≤ s.size ∧ s.size ≤ 8)
def valueB (s : ByteArray) : Bool := allB valB s s.size && decide (1 ≤ s.size ∧ s.size ≤ 20)

theorem lowB_yes {c : UInt8} (h : lowB c = true) : 97 ≤ (c.toNat : Int) ∧ (c.toNat : Int) ≤ 122 := by simpa [lowB] using h
theorem lowB_no {c : UInt8} (h : lowB c = false) : (c.toNat : Int) < 97 ∨ (97 ≤ (c.toNat : Int) ∧ 122 < (c.toNat : Int)) := by
  simp only [lowB, Bool.and_eq_false_iff, decide_eq_false_iff_not] at h; omega
theorem nameB_no {s : ByteArray} {k : Nat} (h : k < s.size) (hc : lowB s[k] = false) : nameB s = false := by
  rw [nameB, allB_false _ _ _ h hc]; rfl

theorem valB_no {s : ByteArray} {k : Nat} (h : k < s.size) (hc : valB s[k] = false) : valueB s = false := by
  rw [valueB, allB_false _ _ _ h hc]; rfl
theorem valB_cases (c : UInt8) :
    (valB c = true ∧ ((97 ≤ (c.toNat : Int) ∧ (c.toNat : Int) ≤ 122) ∨ (48 ≤ (c.toNat : Int) ∧ (c.toNat : Int) ≤ 57) ∨ (c.toNat : Int) = 47)) ∨
    (valB c = false ∧ ((c.toNat : Int) < 47 ∨ (c.toNat : Int) = 47 + 1 ∧ False ∨ (57 < (c.toNat : Int) ∧ (c.toNat : Int) < 97) ∨ 122 < (c.toNat : Int))) := by
  cases h : valB c
  · right; refine ⟨rfl, ?_⟩
    simp only [valB, lowB, Bool.or_eq_false_iff, Bool.and_eq_false_iff, decide_eq_false_iff_not] at h; omega
  · left; refine ⟨rfl, ?_⟩
    simp only [valB, lowB, Bool.or_eq_true, Bool.and_eq_true, decide_eq_true_eq] at h; omega

/-! ### Ranges and remainders -/
def inR (n a b : Int) : Bool := decide (a ≤ n ∧ n ≤ b)
theorem inR_yes {n a b : Int} (h : a ≤ n) : decide (n ≤ b) = inR n a b := by simp [inR, h]
theorem inR_no {n a b : Int} (h : n < a) : false = inR n a b := by simp [inR]; omega
theorem inR_true {n a b : Int} (h : inR n a b = true) : a ≤ n ∧ n ≤ b := by simpa [inR] using h
theorem inR_false {n a b : Int} (h : inR n a b = false) : n < a ∨ b < n := by simp [inR] at h; omega
theorem inR_mk {n a b : Int} (h1 : a ≤ n) (h2 : n ≤ b) : inR n a b = true := by simp [inR, h1, h2]
theorem nameB_end {s : ByteArray} (h : allB lowB s s.size = true) : nameB s = inR (s.size : Int) 1 8 := by
  rw [nameB, h, inR, Bool.true_and]; congr 1; simp; omega
theorem valueB_end {s : ByteArray} (h : allB valB s s.size = true) : valueB s = inR (s.size : Int) 1 20 := by
  rw [valueB, h, inR, Bool.true_and]; congr 1; simp; omega
def modZ (p q : Int) : Int := if inR q 1 1000000000000 then p % q else 0
theorem modZ_no {p q : Int} (h : inR q 1 1000000000000 = false) : modZ p q = 0 := by simp [modZ, h]
theorem tmod_bounds (p : Int) {q : Int} (hq : 1 ≤ q) : -q < p.tmod q ∧ p.tmod q < q := by
  have e := @Int.tmod_eq_emod p q
  have h1 := Int.emod_nonneg p (show q ≠ 0 by omega)
  have h2 := Int.emod_lt_of_pos p (show 0 < q by omega)
  have h3 : 0 ≤ p ∨ 0 ≤ -p := by omega
  split at e
  · omega
  · rename_i hn
    by_cases h0 : p % q = 0
    · exact absurd (Or.inr (Int.dvd_of_emod_eq_zero h0)) hn
    · omega
theorem modZ_neg {p q : Int} (h : inR q 1 1000000000000 = true) (hq : 1 ≤ q) (ht : p.tmod q < 0) : p.tmod q + q = modZ p q := by
  have e := @Int.tmod_eq_emod p q
  have h1 := Int.emod_nonneg p (show q ≠ 0 by omega)
  have h2 := Int.emod_lt_of_pos p (show 0 < q by omega)
  rw [modZ, h, if_pos rfl]
  split at e <;> omega
theorem modZ_pos {p q : Int} (h : inR q 1 1000000000000 = true) (hq : 1 ≤ q) (ht : 0 ≤ p.tmod q) : p.tmod q = modZ p q := by
  have e := @Int.tmod_eq_emod p q
  have h1 := Int.emod_nonneg p (show q ≠ 0 by omega)
  have h2 := Int.emod_lt_of_pos p (show 0 < q by omega)
  rw [modZ, h, if_pos rfl]
  split at e <;> omega
theorem modZ_sum {p q : Int} (h : inR q 1 1000000000000 = true) (hq : 1 ≤ q) : (p.tmod q + q) % q = modZ p q := by
  rw [Int.add_emod_right]
  have hb := tmod_bounds p hq
  by_cases ht : 0 ≤ p.tmod q
  · rw [modZ_pos h hq ht, modZ, h, if_pos rfl, Int.emod_emod]
  · have := modZ_neg (p := p) h hq (by omega)
    rw [← this, ← Int.add_emod_right, this, modZ, h, if_pos rfl, Int.emod_emod]

/-! ### Slices that are read -/
theorem block_of_add (a : Addr) (n : Nat) : (a.add n).block = a.block := by unfold Addr.add; split <;> rfl
theorem add_of_add (a : Addr) (i j : Nat) : (a.add i).add j = a.add (i + j) := by
  unfold Addr.add
  by_cases hi : i = 0 <;> by_cases hj : j = 0 <;> simp [hi, hj, Nat.add_assoc]

end Go.Proofs.YtmfaihelphfbgaaDoor
