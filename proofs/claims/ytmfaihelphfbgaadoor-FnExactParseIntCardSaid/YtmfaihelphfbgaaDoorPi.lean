/-
  Contract of ParseInt of the reference. Condition: strings of at most 2^30 bytes.
-/
import Derived.Test.YtmfaihelphfbgaaDoorIt
import Derived.Test.YtmfaihelphfbgaaDoorCmp
namespace Go.Proofs.YtmfaihelphfbgaaDoor
set_option linter.unusedVariables false
set_option linter.unusedSimpArgs false
set_option maxRecDepth 100000
open Go.ChangeShapes Go.WideShapes Go.ChangeAt Go.RowKit Go.Deep

theorem ret_ib {a c : Int} {b d : Bool} (h1 : a = c) (h2 : b = d) : Ending.returned (.tuple #[.int .i64 a, .bool b]) = .returned (.tuple #[.int .i64 c, .bool d]) := by rw [h1, h2]
theorem inR_t {n a b : Int} (h1 : a ≤ n) (h2 : n ≤ b) : inR n a b = true := by simp [inR]; omega
theorem inR_f {n a b : Int} (h : n < a ∨ b < n) : inR n a b = false := by
  cases e : inR n a b with
  | false => rfl
  | true => simp [inR] at e; omega
theorem in_yes (n a b : Int) (w : World) (h1 : a ≤ n) (h2 : n ≤ b) : Calls Tryd.prog 37 #[.int .i64 n, .int .i64 a, .int .i64 b] w fun e w' => e = .returned (.bool true) ∧ w = w' :=
  (inRange_spec n a b w).mono fun e w' ⟨h, k⟩ => ⟨by rw [h, inR_t h1 h2], k⟩
theorem in_no (n a b : Int) (w : World) (h : n < a ∨ b < n) : Calls Tryd.prog 37 #[.int .i64 n, .int .i64 a, .int .i64 b] w fun e w' => e = .returned (.bool false) ∧ w = w' :=
  (inRange_spec n a b w).mono fun e w' ⟨h', k⟩ => ⟨by rw [h', inR_f h], k⟩
theorem dec_bound {s : ByteArray} {k m : Nat} (h : Lib.decFrom 0 (s.data.toList.take k) = some m) (hk : k ≤ 13) : (m : Int) ≤ 10000000000000 := by
  have h1 := Lib.decFrom_lt _ _ _ h
  have h2 : (s.data.toList.take k).length ≤ 13 := by rw [List.length_take]; omega
  have h3 : 10 ^ (s.data.toList.take k).length ≤ 10 ^ 13 := Nat.pow_le_pow_right (by decide) h2
  omega
theorem dec_step {s : ByteArray} {k m : Nat} (h : Lib.decFrom 0 (s.data.toList.take k) = some m) (hk : k < s.size) (h1 : 48 ≤ (s[k].toNat : Int)) (h2 : (s[k].toNat : Int) ≤ 57) : Lib.decFrom 0 (s.data.toList.take (k + 1)) = some (m * 10 + (s[k].toNat - 48)) := by
  have hl : k < s.data.toList.length := by simpa using hk
  have e : s.data.toList[k]? = some s[k] := by rw [List.getElem?_eq_getElem hl]; rfl
  refine Lib.decFrom_take _ _ _ _ _ _ h e ?_
  unfold Lib.digitVal
  rw [if_pos ⟨by omega, by omega⟩]
theorem dec_fail {s : ByteArray} {k : Nat} (hk : k < s.size) (h : (s[k].toNat : Int) < 48 ∨ 57 < (s[k].toNat : Int)) : okI s = false := by
  cases e : okI s with
  | false => rfl
  | true =>
    obtain ⟨m, hm, _⟩ := okI_dec e
    have hl : k < s.data.toList.length := by simpa using hk
    have e : s.data.toList[k]? = some s[k] := by rw [List.getElem?_eq_getElem hl]; rfl
    obtain ⟨d, hd⟩ := Lib.digit_of_decFrom _ _ _ hm k _ e
    unfold Lib.digitVal at hd
    split at hd
    · omega
    · cases hd
theorem dec_full {s : ByteArray} {m : Nat} (h : Lib.decFrom 0 (s.data.toList.take s.size) = some m) : numI s = m := by
  rw [List.take_of_length_le (by simp)] at h
  exact okI_num h
theorem len_fail {s : ByteArray} (h : (s.size : Int) < 1 ∨ 13 < (s.size : Int)) : okI s = false := by
  cases e : okI s with
  | false => rfl
  | true => have := okI_size e; omega
set_option maxHeartbeats 4000000 in
theorem parseInt_spec (w : World) (s : ByteArray) (hs : s.size ≤ 1073741824) : Calls Tryd.prog 26 #[.string s] w fun e w' => e = .returned (.tuple #[.int .i64 (valI s), .bool (okI s)]) ∧ Below w.heap.size w w' := by
  by_cases hlen : (s.size : Int) < 1 ∨ 13 < (s.size : Int)
  · have hres := Lib.hid (ret_ib (valI_false (len_fail hlen)).symm (len_fail hlen).symm)
    have hc := in_no s.size 1 13 w hlen
    clear hlen
    go_enter Tryd.func26, Tryd.ntmps26
    go_wp2_with (go_at_call 37; refine hc.mono ?_; rintro e w' ⟨rfl, rfl⟩)
    go_ret2
    exact ⟨hres.out, Below.refl _ _⟩
  · have hl1 : (1 : Int) ≤ s.size := by omega
    have hl2 : (s.size : Int) ≤ 13 := by omega
    clear hlen
    have hc := in_yes s.size 1 13 w hl1 hl2
    go_enter Tryd.func26, Tryd.ntmps26
    go_wp2_with (go_at_call 37; refine hc.mono ?_; rintro e w' ⟨rfl, rfl⟩)
    go_loopw [4, 5] (fun n i wr => ∃ (k m : Nat), k ≤ s.size ∧ i = .int .i64 k ∧ n = .int .i64 m ∧ Hid (Lib.decFrom 0 (s.data.toList.take k) = some m) ∧ w = wr) (fun _ i _ => s.size - (intOf i).toNat)
    case atStart => exact ⟨0, 0, by omega, rfl, rfl, by show _ = _; rw [List.take_zero]; rfl, rfl⟩
    case round =>
      obtain ⟨k, m, hk, rfl, rfl, hdec, rfl⟩ := hrel
      have hm := dec_bound hdec.out (by omega)
      by_cases hlt : k < s.size
      · by_cases hd : 48 ≤ (s[k].toNat : Int) ∧ (s[k].toNat : Int) ≤ 57
        · obtain ⟨hd1, hd2⟩ := hd
          have hn := Lib.hid (dec_step hdec.out hlt hd1 hd2)
          have hc2 := in_yes (s[k].toNat : Int) 48 57 w hd1 hd2
          have he : ((s[k].toNat : Int) - 48) % 256 = (s[k].toNat : Int) - 48 := by omega
          have hlt' : (k : Int) < s.size := by omega
          clear hdec
          go_wp2_with (go_at_call 37; refine hc2.mono ?_; rintro e w' ⟨rfl, rfl⟩)
          go_roundw
          case rel => exact ⟨k + 1, m * 10 + (s[k].toNat - 48), by omega, by go_num, by congr 1; omega, hn, trivial⟩
          case measure => simp [intOf]; omega
        · have hd' : (s[k].toNat : Int) < 48 ∨ 57 < (s[k].toNat : Int) := by omega
          have hres := Lib.hid (ret_ib (valI_false (dec_fail hlt hd')).symm (dec_fail hlt hd').symm)
          have hc2 := in_no (s[k].toNat : Int) 48 57 w hd'
          have hb1 : (0 : Int) ≤ (s[k].toNat : Int) := by omega
          have hb2 : (s[k].toNat : Int) ≤ 255 := by have := s[k].toNat_lt; omega
          have hlt' : (k : Int) < s.size := by omega
          clear hd hd' hdec
          go_wp2_with (go_at_call 37; refine hc2.mono ?_; rintro e w' ⟨rfl, rfl⟩)
          go_ret2
          exact ⟨hres.out, Below.refl _ _⟩
      · obtain rfl : k = s.size := by omega
        have hnum := dec_full hdec.out
        clear hdec
        by_cases hmax : (m : Int) ≤ 1000000000000
        · have hf := formatInt_spec (m : Int) w (by omega) (by omega)
          by_cases he : fmtI m = s
          · have h1 : okI s = true := by unfold okI; rw [decide_eq_true_eq, hnum]; exact ⟨by omega, he⟩
            have h2 : valI s = m := by rw [valI, if_pos h1, hnum]
            have hres := Lib.hid (ret_ib h2.symm h1.symm)
            rw [he] at hf
            clear h1 h2 he hnum
            go_wp2_with (go_at_call 21; refine hf.mono ?_; rintro e w' ⟨rfl, bb⟩)
            go_ret2
            exact ⟨hres.out, bb⟩
          · have h1 : okI s = false := by
              cases e : okI s with
              | false => rfl
              | true => unfold okI at e; rw [decide_eq_true_eq, hnum] at e; exact absurd e.2 he
            have hres := Lib.hid (ret_ib (valI_false h1).symm h1.symm)
            have hne : ((fmtI m).toList == s.toList) = false := by rw [toList_eq_iff]; simpa using he
            clear h1 he hnum
            generalize fmtI (m : Int) = F at *
            go_wp2_with (go_at_call 21; refine hf.mono ?_; rintro e w' ⟨rfl, bb⟩)
            go_ret2
            exact ⟨hres.out, bb⟩
        · have h1 : okI s = false := by
            cases e : okI s with
            | false => rfl
            | true => unfold okI at e; rw [decide_eq_true_eq, hnum] at e; omega
          have hres := Lib.hid (ret_ib (valI_false h1).symm h1.symm)
          clear h1 hnum
          go_wp2
          go_ret2
          exact ⟨hres.out, Below.refl _ _⟩
end Go.Proofs.YtmfaihelphfbgaaDoor
