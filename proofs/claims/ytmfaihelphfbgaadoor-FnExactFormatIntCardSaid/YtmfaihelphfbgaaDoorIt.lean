/-
  Contracts of FormatInt of the program and of the reference. Conditions: the bounds of Go integers; of the program's: the table of powers of ten.
-/
import Derived.Test.YtmfaihelphfbgaaDoorMrk
import Derived.Test.YtmfaihelphfbgaaDoorPrs
import Derived.Lib.ItoaNum
namespace Go.Proofs.YtmfaihelphfbgaaDoor
set_option linter.unusedVariables false
set_option linter.unusedSimpArgs false
set_option maxRecDepth 100000
open Go.ChangeShapes Go.WideShapes Go.ChangeAt Go.RowKit Go.Deep

theorem mk_append (a b : List UInt8) : (⟨(a ++ b).toArray⟩ : ByteArray) = ⟨a.toArray⟩ ++ ⟨b.toArray⟩ := by
  apply ByteArray.ext
  rw [ByteArray.data_append]
  simp
theorem strOfNums_one (z : Int) : strOfNums [z] = ⟨#[UInt8.ofNat z.toNat]⟩ := rfl
theorem append_nil' (a : ByteArray) : a ++ (⟨#[]⟩ : ByteArray) = a := by
  apply ByteArray.ext
  rw [ByteArray.data_append]
  simp
theorem dec_more {k : Nat} (h : ¬ k < 10) : Lib.decDigits k = Lib.decDigits (k / 10) ++ [UInt8.ofNat (48 + k % 10)] := by
  conv => lhs; rw [Lib.decDigits, dif_neg h]
theorem dgB_dec : ∀ (f : Nat) (k : Nat) (acc : ByteArray), 0 < k → k < 10 ^ f → dgB f (k : Int) acc = ⟨(Lib.decDigits k).toArray⟩ ++ acc := by
  intro f
  induction f with
  | zero => intro k acc h1 h2; simp at h2; omega
  | succ f ih =>
    intro k acc h1 h2
    rw [dgB_step (by omega), show (k : Int) / 10 = ((k / 10 : Nat) : Int) by omega]
    have e : strOfNums [48 + (k : Int) % 10] = ⟨#[UInt8.ofNat (48 + k % 10)]⟩ := by
      rw [strOfNums_one, show (48 + (k : Int) % 10).toNat = 48 + k % 10 by omega]
    rw [e]
    by_cases h : k < 10
    · have hz : k / 10 = 0 := by omega
      rw [hz, dgB_stop (by simp), Lib.decDigits, dif_pos h, show k % 10 = k by omega]
    · rw [ih _ _ (by omega) (by rw [Nat.pow_succ] at h2; omega), dec_more h, mk_append, ByteArray.append_assoc]
theorem fmtI_zero : (⟨#[48]⟩ : ByteArray) = fmtI 0 := by
  show _ = (⟨(Lib.itoa 0).toArray⟩ : ByteArray)
  rw [Lib.itoa, if_neg (by omega), Lib.decDigits, dif_pos (by decide)]
  rfl
theorem fmtI_pos {n : Int} (h : 0 < n) (h2 : n ≤ 9223372036854775808) : dgB 20 n ⟨#[]⟩ = fmtI n := by
  obtain ⟨k, rfl⟩ := Int.eq_ofNat_of_zero_le (by omega : 0 ≤ n)
  rw [dgB_dec 20 k _ (by omega) (by omega), fmtI, Lib.itoa, if_neg (by omega), append_nil']
  rfl
theorem fmtI_neg {n : Int} (h : n < 0) (h2 : -9223372036854775808 ≤ n) : (⟨#[45]⟩ : ByteArray) ++ dgB 20 (-n) ⟨#[]⟩ = fmtI n := by
  obtain ⟨k, hk⟩ := Int.eq_ofNat_of_zero_le (by omega : 0 ≤ -n)
  rw [hk, dgB_dec 20 k _ (by omega) (by omega), fmtI, Lib.itoa, if_pos h, show n.natAbs = k by omega]
  rw [show (45 :: Lib.decDigits k) = [45] ++ Lib.decDigits k from rfl, mk_append, append_nil']
theorem ret_s {x y : ByteArray} (h : x = y) : Ending.returned (.string x) = .returned (.string y) := by rw [h]

set_option maxHeartbeats 800000 in
theorem formatInt_spec (n : Int) (w : World) (h1 : -9223372036854775808 ≤ n) (h2 : n ≤ 9223372036854775807) : Calls Tryd.prog 21 #[.int .i64 n] w fun e w' => e = .returned (.string (fmtI n)) ∧ Below w.heap.size w w' := by
  by_cases h0 : n = 0
  · subst h0
    have hz := Lib.hid fmtI_zero
    go_enter Tryd.func21, Tryd.ntmps21
    go_wp2
    go_ret
    exact ⟨ret_s hz.out, Below.refl _ _⟩
  · have e0 : (n == 0) = false := by simpa using h0
    by_cases hp : 0 < n
    · have hres := Lib.hid (fmtI_pos hp (by omega))
      generalize fmtI n = R at *
      go_enter Tryd.func21, Tryd.ntmps21
      go_wp2
      go_loopw [3, 4] (fun v p wr => ∃ (f : Nat) (m : Int) (acc : ByteArray), f ≤ 20 ∧ p = .int .i64 m ∧ v = .string acc ∧ 0 ≤ m ∧ m ≤ n ∧ Hid (m < 10 ^ f ∧ dgB 20 n ⟨#[]⟩ = dgB f m acc) ∧ acc.size + f ≤ 20 ∧ Below w.heap.size w wr) (fun _ p _ => (intOf p).toNat)
      case atStart => exact ⟨20, n, ⟨#[]⟩, Nat.le_refl _, rfl, rfl, by omega, by omega, ⟨by simp; omega, rfl⟩, by simp [ByteArray.size], Below.refl _ _⟩
      case round =>
        obtain ⟨f, m, acc, hf, rfl, rfl, hm0, hm1, hcur, hsz, hbel⟩ := hrel
        have hbs := hbel.size
        by_cases hpos : 0 < m
        · obtain ⟨f, rfl⟩ : ∃ f', f = f' + 1 := by
            rcases f with _ | f
            · have := hcur.out.1; simp at this; omega
            · exact ⟨f, rfl⟩
          have hn : Hid (m / 10 < 10 ^ f ∧ dgB 20 n ⟨#[]⟩ = dgB f (m / 10) (strOfNums [48 + m % 10] ++ acc)) := ⟨dg_small hcur.out.1, by rw [hcur.out.2, dgB_step hpos]⟩
          have kc := run_string_reads (P := Tryd.prog) (c := 1) (zs := [48 + m % 10]) 22 5 9 Tryd.underlying22 Tryd.underlying5 Tryd.underlying9 (Reads.one wr (.int .u8 (48 + m % 10)) 5)
          have hsz1 : (strOfNums [48 + m % 10]).size ≤ 1 := by rw [strOfNums_size]; simp
          have hsz2 : (strOfNums [48 + m % 10] ++ acc).size + f ≤ 20 := by rw [ByteArray.size_append, strOfNums_size]; simp; omega
          have hacc : acc.size ≤ 20 := by omega
          have em : (m != 0) = true := by simp; omega
          clear hcur
          go_wp2
          go_roundw
          case rel => exact ⟨f, m / 10, _, by omega, rfl, rfl, by omega, by omega, hn, hsz2, hbel.alloc hbs _⟩
          case measure => simp [intOf]; omega
        · obtain rfl : m = 0 := by omega
          have hr : Hid (acc = R) := by show _ = _; rw [← hres.out, hcur.out.2, dgB_stop (by omega)]
          clear hcur
          go_wp2
          go_ret
          exact ⟨ret_s hr.out, hbel⟩
    · have hneg : n < 0 := by omega
      have hres := Lib.hid (fmtI_neg hneg (by omega))
      generalize fmtI n = R at *
      clear hp h0
      go_enter Tryd.func21, Tryd.ntmps21
      go_wp2
      go_loopw [3, 4] (fun v p wr => ∃ (f : Nat) (m : Int) (acc : ByteArray), f ≤ 20 ∧ p = .int .i64 (-m) ∧ v = .string acc ∧ 0 ≤ m ∧ m ≤ -n ∧ Hid (m < 10 ^ f ∧ dgB 20 (-n) ⟨#[]⟩ = dgB f m acc) ∧ acc.size + f ≤ 20 ∧ Below w.heap.size w wr) (fun _ p _ => (-intOf p).toNat)
      case atStart => exact ⟨20, -n, ⟨#[]⟩, Nat.le_refl _, by simp, rfl, by omega, by omega, ⟨by simp; omega, rfl⟩, by simp [ByteArray.size], Below.refl _ _⟩
      case round =>
        obtain ⟨f, m, acc, hf, rfl, rfl, hm0, hm1, hcur, hsz, hbel⟩ := hrel
        have hbs := hbel.size
        by_cases hpos : 0 < m
        · obtain ⟨f, rfl⟩ : ∃ f', f = f' + 1 := by
            rcases f with _ | f
            · have := hcur.out.1; simp at this; omega
            · exact ⟨f, rfl⟩
          have hn : Hid (m / 10 < 10 ^ f ∧ dgB 20 (-n) ⟨#[]⟩ = dgB f (m / 10) (strOfNums [48 + m % 10] ++ acc)) := ⟨dg_small hcur.out.1, by rw [hcur.out.2, dgB_step hpos]⟩
          have kc := run_string_reads (P := Tryd.prog) (c := 1) (zs := [48 + m % 10]) 22 5 9 Tryd.underlying22 Tryd.underlying5 Tryd.underlying9 (Reads.one wr (.int .u8 (48 + m % 10)) 5)
          have hsz1 : (strOfNums [48 + m % 10]).size ≤ 1 := by rw [strOfNums_size]; simp
          have hsz2 : (strOfNums [48 + m % 10] ++ acc).size + f ≤ 20 := by rw [ByteArray.size_append, strOfNums_size]; simp; omega
          have hacc : acc.size ≤ 20 := by omega
          have em : (-m != 0) = true := by simp; omega
          have ht : (-m).tmod 10 = -(m % 10) := by rw [Int.neg_tmod, Int.tmod_eq_emod_of_nonneg hm0]
          have hd : (-m).tdiv 10 = -(m / 10) := by rw [Int.neg_tdiv, Int.tdiv_eq_ediv_of_nonneg hm0]
          clear hcur
          by_cases hz : 0 < m % 10
          · go_wp2
            go_roundw
            case rel => exact ⟨f, m / 10, _, by omega, rfl, rfl, by omega, by omega, hn, hsz2, hbel.alloc hbs _⟩
            case measure => simp [intOf]; omega
          · have hz0 : m % 10 = 0 := by omega
            simp only [hz0, Int.add_zero, Int.neg_zero] at hn kc hsz1 hsz2 ht
            clear hz
            go_wp2
            go_roundw
            case rel => exact ⟨f, m / 10, _, by omega, rfl, rfl, by omega, by omega, hn, hsz2, hbel.alloc hbs _⟩
            case measure => simp [intOf]; omega
        · obtain rfl : m = 0 := by omega
          have hr : Hid (⟨#[45]⟩ ++ acc = R) := by show _ = _; rw [← hres.out, hcur.out.2, dgB_stop (by omega)]
          have hacc : acc.size ≤ 20 := by omega
          clear hcur
          go_wp2
          go_ret
          exact ⟨ret_s hr.out, hbel⟩
end Go.Proofs.YtmfaihelphfbgaaDoor
