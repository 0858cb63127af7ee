/-
  Plain words: what a decimal numeral reads as, and which strings are the numerals of 0 .. 10^12. No program is named. No condition.
-/
import Derived.Lib.ItoaNum
import Derived.Lib.Atoi
import Derived.Lib.AtoiAll
namespace Go.Proofs.YtmfaihelphfbgaaDoor
set_option linter.unusedVariables false
set_option linter.unusedSimpArgs false
open Go.Lib

def fmtI (n : Int) : ByteArray := ⟨(Lib.itoa n).toArray⟩
theorem dgt {d : Nat} (h : d < 10) : (UInt8.ofNat (48 + d)).toNat = 48 + d := by
  simp; omega
theorem dgv {d : Nat} (h : d < 10) : digitVal (UInt8.ofNat (48 + d)) = some d := by
  unfold digitVal
  rw [dgt h, if_pos ⟨by omega, by omega⟩]
  congr 1
  omega
theorem decFrom_dec : ∀ (u : Nat) (rest : List UInt8), decFrom 0 (decDigits u ++ rest) = decFrom u rest := by
  intro u
  induction u using Nat.strongRecOn with
  | _ u ih =>
    intro rest
    by_cases h : u < 10
    · rw [decDigits, dif_pos h]
      show (match digitVal (UInt8.ofNat (48 + u)) with | some d => decFrom (0 * 10 + d) rest | none => none) = _
      rw [dgv h]
      simp
    · rw [decDigits, dif_neg h, List.append_assoc, ih (u / 10) (by omega)]
      show (match digitVal (UInt8.ofNat (48 + u % 10)) with | some d => decFrom (u / 10 * 10 + d) rest | none => none) = _
      rw [dgv (by omega)]
      show decFrom (u / 10 * 10 + u % 10) rest = _
      congr 1
      omega
theorem decFrom_itoa {n : Int} (h : 0 ≤ n) : decFrom 0 (Lib.itoa n) = some n.toNat := by
  rw [Lib.itoa, if_neg (by omega)]
  have := decFrom_dec n.toNat []
  rw [List.append_nil] at this
  rw [this]
  rfl
theorem parse_dec : ∀ (u : Nat) (rest : List UInt8), u < 1000000000000000000 → parseUint10 0 (decDigits u ++ rest) = parseUint10 u rest := by
  intro u
  induction u using Nat.strongRecOn with
  | _ u ih =>
    intro rest hu
    have step : ∀ (a d : Nat), d < 10 → a * 10 + d < 1000000000000000000 → parseUint10 a (UInt8.ofNat (48 + d) :: rest) = parseUint10 (a * 10 + d) rest := by
      intro a d hd had
      rw [parseUint10, dgt hd, if_pos ⟨by omega, by omega⟩, if_neg (by omega), if_neg (by omega)]
      congr 1
      omega
    by_cases h : u < 10
    · rw [decDigits, dif_pos h]
      have := step 0 u h (by omega)
      simpa using this
    · rw [decDigits, dif_neg h, List.append_assoc, ih (u / 10) (by omega) _ (by omega)]
      have := step (u / 10) (u % 10) (by omega) (by omega)
      rw [show u / 10 * 10 + u % 10 = u by omega] at this
      exact this
theorem decDigits_cons (u : Nat) : ∃ d r, d < 10 ∧ decDigits u = UInt8.ofNat (48 + d) :: r := by
  induction u using Nat.strongRecOn with
  | _ u ih =>
    by_cases h : u < 10
    · exact ⟨u, [], h, by rw [decDigits, dif_pos h]⟩
    · obtain ⟨d, r, hd, e⟩ := ih (u / 10) (by omega)
      exact ⟨d, r ++ [UInt8.ofNat (48 + u % 10)], hd, by rw [decDigits, dif_neg h, e]; rfl⟩
theorem atoi_itoa {n : Int} (h0 : 0 ≤ n) (h1 : n < 1000000000000000000) : atoiAll (Lib.itoa n) = .ok n := by
  rw [Lib.itoa, if_neg (by omega)]
  obtain ⟨d, r, hd, e⟩ := decDigits_cons n.toNat
  have hp := parse_dec n.toNat [] (by omega)
  rw [List.append_nil] at hp
  rw [e] at hp ⊢
  have hd' := dgt hd
  unfold atoiAll
  simp only [hd']
  rw [if_neg (by omega), parseMag, if_neg (by simp), hp]
  show (if ¬ (48 + d = 45) ∧ 9223372036854775808 ≤ n.toNat then NumEnd.range else if 48 + d = 45 ∧ 9223372036854775808 < n.toNat then NumEnd.range else .ok (if 48 + d = 45 then -(n.toNat : Int) else n.toNat)) = _
  rw [if_neg (by omega), if_neg (by omega), if_neg (by omega)]
  congr 1
  omega
theorem dec_len : ∀ (k u : Nat), u < 10 ^ (k + 1) → (decDigits u).length ≤ k + 1 := by
  intro k
  induction k with
  | zero => intro u h; rw [decDigits, dif_pos (by simpa using h)]; simp
  | succ k ih =>
    intro u h
    by_cases h1 : u < 10
    · rw [decDigits, dif_pos h1]; simp
    · rw [decDigits, dif_neg h1, List.length_append]
      have := ih (u / 10) (by rw [Nat.pow_succ] at h; omega)
      simp
      omega
theorem fmtI_data (n : Int) : (fmtI n).data.toList = Lib.itoa n := rfl
theorem fmtI_size {n : Int} (h0 : 0 ≤ n) (h1 : n ≤ 1000000000000) : 1 ≤ (fmtI n).size ∧ (fmtI n).size ≤ 13 := by
  have e : (fmtI n).size = (decDigits n.toNat).length := by
    show (Lib.itoa n).toArray.size = _
    rw [Lib.itoa, if_neg (by omega)]
    simp
  rw [e]
  obtain ⟨d, r, hd, e'⟩ := decDigits_cons n.toNat
  exact ⟨by rw [e']; simp, dec_len 12 _ (by omega)⟩
/-- the number that a string's digits spell -/
def numI (s : ByteArray) : Nat := (decFrom 0 s.data.toList).getD 0
def okI (s : ByteArray) : Bool := decide (numI s ≤ 1000000000000 ∧ fmtI (numI s) = s)
def valI (s : ByteArray) : Int := if okI s then numI s else 0
theorem numI_fmt {n : Int} (h : 0 ≤ n) : (numI (fmtI n) : Int) = n := by
  unfold numI
  rw [fmtI_data, decFrom_itoa h]
  simp
  omega
theorem okI_fmt {n : Int} (h0 : 0 ≤ n) (h1 : n ≤ 1000000000000) : okI (fmtI n) = true ∧ valI (fmtI n) = n := by
  have e := numI_fmt h0
  have : okI (fmtI n) = true := by
    unfold okI
    rw [decide_eq_true_eq, e]
    exact ⟨by omega, rfl⟩
  exact ⟨this, by rw [valI, if_pos this, e]⟩
theorem okI_true {s : ByteArray} (h : okI s = true) : 0 ≤ valI s ∧ valI s ≤ 1000000000000 ∧ fmtI (valI s) = s := by
  have h' := h
  unfold okI at h'
  rw [decide_eq_true_eq] at h'
  rw [valI, if_pos h]
  exact ⟨by omega, by omega, h'.2⟩
theorem okI_false {s : ByteArray} (h : okI s = false) (n : Int) (h0 : 0 ≤ n) (h1 : n ≤ 1000000000000) : fmtI n ≠ s := by
  rintro rfl
  rw [(okI_fmt h0 h1).1] at h
  cases h
theorem valI_false {s : ByteArray} (h : okI s = false) : valI s = 0 := by rw [valI, h]; rfl
theorem okI_size {s : ByteArray} (h : okI s = true) : 1 ≤ s.size ∧ s.size ≤ 13 := by
  obtain ⟨h0, h1, e⟩ := okI_true h
  have := fmtI_size h0 h1
  rwa [e] at this
theorem okI_dec {s : ByteArray} (h : okI s = true) : ∃ m, decFrom 0 s.data.toList = some m ∧ valI s = m := by
  obtain ⟨h0, h1, e⟩ := okI_true h
  refine ⟨(valI s).toNat, ?_, by omega⟩
  conv => lhs; rw [← e]
  rw [fmtI_data, decFrom_itoa h0]
theorem okI_num {s : ByteArray} {m : Nat} (h : decFrom 0 s.data.toList = some m) : numI s = m := by unfold numI; rw [h]; rfl
theorem okI_atoi {s : ByteArray} (h : okI s = true) : atoiAll s.data.toList = .ok (valI s) := by
  obtain ⟨h0, h1, e⟩ := okI_true h
  conv => lhs; rw [← e]
  rw [fmtI_data]
  exact atoi_itoa h0 (by omega)
theorem itoa_inj {a b : Int} (h1 : -1000000000000000000 < a) (h2 : a < 1000000000000000000) (h : Lib.itoa a = Lib.itoa b) (h3 : 0 ≤ b) (h4 : b < 1000000000000000000) : a = b := by
  by_cases ha : 0 ≤ a
  · have := atoi_itoa ha h2
    rw [h, atoi_itoa h3 h4] at this
    injection this with this
    omega
  · have e := decFrom_itoa h3
    rw [← h, Lib.itoa, if_pos (by omega)] at e
    cases e
theorem neg_not_ok {n : Int} (h : n < 0) : okI (fmtI n) = false := by
  cases e : okI (fmtI n) with
  | false => rfl
  | true =>
    obtain ⟨m, hm, _⟩ := okI_dec e
    rw [fmtI_data, Lib.itoa, if_pos h] at hm
    cases hm
theorem big_not_ok {n : Int} (h : 1000000000000 < n) : okI (fmtI n) = false := by
  cases e : okI (fmtI n) with
  | false => rfl
  | true =>
    have h2 := okI_true e
    have h3 := numI_fmt (n := n) (by omega)
    have h4 : valI (fmtI n) = numI (fmtI n) := by rw [valI, if_pos e]
    omega
end Go.Proofs.YtmfaihelphfbgaaDoor
