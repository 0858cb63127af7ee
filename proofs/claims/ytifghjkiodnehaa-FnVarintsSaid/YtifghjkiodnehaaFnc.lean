/-
  The law FnCipher: its plain law, what it draws, its walk.
-/
import Derived.Test.YtifghjkiodnehaaDwc
import Derived.Test.YtifghjkiodnehaaCip
namespace Go.Proofs.Ytifghjkiodnehaa
set_option linter.unusedVariables false
set_option linter.unusedSimpArgs false
set_option maxRecDepth 100000
open Go.ChangeShapes Go.WideShapes Go.ChangeAt Go.RowKit Go.Deep

theorem big_no {A : Option Addr} {n c : Nat} (w : World) (hn : n ≤ 1048576) : Calls Try.prog 7 #[.slice A n c] w fun e w' => e = .returned (.bool false) ∧ w = w' := by
  go_enter Try.func7, Try.ntmps7
  go_wp2
  go_ret
  exact ⟨ret_bool (by simp; omega), rfl⟩
theorem big_yes {A : Option Addr} {n c : Nat} (w : World) (hn : ¬ n ≤ 1048576) (hm : n ≤ maxLen) : Calls Try.prog 7 #[.slice A n c] w fun e w' => e = .returned (.bool true) ∧ w = w' := by
  simp only [maxLen] at hm
  go_enter Try.func7, Try.ntmps7
  go_wp2
  go_ret
  exact ⟨ret_bool (by simp; omega), rfl⟩
theorem own_got {w w' w'' : World} {lo e size n : Nat} {v : Value} {xs : List Value} (h : w'.ownsRow lo e size v n xs) (hl : w.heap.size ≤ lo) : Own w' w.heap.size w'.heap.size e size v n xs := (Own.of_row h).wide hl (Nat.le_refl _)
theorem Own.rd {w : World} {lo e size n c : Nat} {A : Option Addr} {xs : List Value} (h : Own w lo w.heap.size e size (.slice A n c) n xs) : Reads w w.heap.size size A n xs := h.reads (Nat.le_refl _)

set_option maxHeartbeats 400000 in
theorem drawEncrypt_any {A : Option Addr} {n c : Nat} {zs : List Int} (w : World) (hx : Reads w w.heap.size 1 A n (zs.map (Value.int .u8))) (hn : n ≤ 1048576) (hz : ∀ z ∈ zs, 0 ≤ z ∧ z ≤ 255) :
    Calls Try.prog 8 #[.slice A n c] w fun e w' => ∃ (k : Int) (A' : Option Addr) (m c' : Nat) (ys : List Int), -1 ≤ k ∧ k ≤ 2147483648 ∧ m ≤ 8 ∧ e = .returned (.tuple #[.int .i64 k, .slice A' m c']) ∧ Reads w' w'.heap.size 1 A' m (ys.map (Value.int .u8)) ∧ (∀ z ∈ ys, 0 ≤ z ∧ z ≤ 255) ∧ Below w.heap.size w w' := by
  go_enter Try.func8, Try.ntmps8
  go_wp2_with (fail)
  go_at_call 31
  refine (l1New_any _ hx hn hz).mono ?_
  rintro e w0 ⟨g, hg, rfl, hb, hc⟩
  clear hx hz
  have hd := Draws.refl hc
  go_wp2_with (fail)
  go_at_call 32
  refine (l3Word_any _ g hd.2).mono ?_
  rintro e w1 ⟨k, hk1, hk2, rfl, d⟩
  replace hd := hd.trans d
  clear d
  go_wp2_with (fail)
  go_at_call 34
  refine (l1Below_any _ g hd.2 8 (by omega) (by omega)).mono ?_
  rintro e w2 ⟨x, hx1, hx2, rfl, d⟩
  replace hd := hd.trans d
  clear d
  obtain ⟨m, rfl⟩ := Int.eq_ofNat_of_zero_le hx1
  go_wp2_with (fail)
  go_at_call 33
  refine (l1Bytes_any _ g hd.2 m (by omega)).mono ?_
  rintro e w3 ⟨A1, c1, ys, rfl, ho, hz, d⟩
  replace hd := hd.trans d
  clear d
  go_wp2
  go_ret2
  exact ⟨k, A1, m, c1, ys, hk1, hk2, by omega, rfl, (Own.of_row ho).rd, hz, hb.trans (hd.below hb.size hg)⟩

theorem encZ_in (key : Int) (zs : List Int) : ∀ z ∈ encZ key zs, 0 ≤ z ∧ z ≤ 255 := by
  intro z hz
  rw [encZ, List.mem_mapIdx] at hz
  obtain ⟨i, h, rfl⟩ := hz
  omega
theorem decZ_in (key : Int) (zs : List Int) : ∀ z ∈ decZ key zs, 0 ≤ z ∧ z ≤ 255 := by
  intro z hz
  rw [decZ, List.mem_mapIdx] at hz
  obtain ⟨i, h, rfl⟩ := hz
  omega
theorem dec_enc (key : Int) (zs : List Int) (hz : ∀ z ∈ zs, 0 ≤ z ∧ z ≤ 255) : decZ key (encZ key zs) = zs := by
  apply List.ext_getElem (by simp [encZ, decZ])
  intro i h1 h2
  have := hz zs[i] (List.getElem_mem _)
  simp only [encZ, decZ, List.getElem_mapIdx]
  omega
theorem enc_dec (key : Int) (zs : List Int) (hz : ∀ z ∈ zs, 0 ≤ z ∧ z ≤ 255) : encZ key (decZ key zs) = zs := by
  apply List.ext_getElem (by simp [encZ, decZ])
  intro i h1 h2
  have := hz zs[i] (List.getElem_mem _)
  simp only [encZ, decZ, List.getElem_mapIdx]
  omega

set_option maxHeartbeats 1000000 in
theorem cipher_walk (w : World) (A : Option Addr) (n c : Nat) (zs : List Int) (ha : ArgInts .u8 w A n zs) : Calls Try.prog 3 #[.slice A n c] w fun e w' => e = .returned (.bool true) ∧ Below w.heap.size w w' := by
  obtain ⟨hl, hm, hx, hwf⟩ := ha
  have hz : ∀ z ∈ zs, 0 ≤ z ∧ z ≤ 255 := u8_all hwf
  clear hwf hl
  by_cases hn : n ≤ 1048576
  · go_enter Try.func3, Try.ntmps3
    go_wp2_with (fail)
    go_at_call 7
    refine (big_no _ hn).mono ?_
    rintro e w0 ⟨rfl, rfl⟩
    go_wp2_with (fail)
    go_at_call 8
    refine (drawEncrypt_any _ hx hn hz).mono ?_
    rintro e w1 ⟨k, A1, m, c1, ys, hk1, hk2, hm8, rfl, hr, hy, hb⟩
    clear hx hz
    go_wp2_with (fail)
    go_at_call 11
    refine (encrypt_impl _ hr (by omega) hy (by omega) (by omega)).mono ?_
    rintro e w2 ⟨A2, c2, rfl, o2, b2⟩
    replace hr := hr.next b2
    have hr2 := o2.rd
    replace hb := hb.trans (b2.mono hb.size)
    clear b2 o2
    go_wp2_with (fail)
    go_at_call 10
    refine (decrypt_impl _ hr2 (by omega) (encZ_in k ys) (by omega) (by omega)).mono ?_
    rintro e w3 ⟨A3, c3, rfl, o3, b3⟩
    rw [dec_enc k ys hy] at o3
    replace hr := hr.next b3
    have hr3 := o3.rd
    replace hb := hb.trans (b3.mono hb.size)
    clear b3 o3 hr2
    go_wp2_with (fail)
    go_at_call 9
    refine (sameBytes_any _ hr3 hr (by omega)).mono ?_
    rintro e w4 ⟨rfl, b4⟩
    rw [eqL_self]
    replace hr := hr.next b4
    replace hb := hb.trans (b4.mono hb.size)
    clear b4 hr3
    go_wp2_with (fail)
    go_at_call 10
    refine (decrypt_impl _ hr (by omega) hy (by omega) (by omega)).mono ?_
    rintro e w5 ⟨A5, c5, rfl, o5, b5⟩
    replace hr := hr.next b5
    have hr5 := o5.rd
    replace hb := hb.trans (b5.mono hb.size)
    clear b5 o5
    go_wp2_with (fail)
    go_at_call 11
    refine (encrypt_impl _ hr5 (by omega) (decZ_in k ys) (by omega) (by omega)).mono ?_
    rintro e w6 ⟨A6, c6, rfl, o6, b6⟩
    rw [enc_dec k ys hy] at o6
    replace hr := hr.next b6
    have hr6 := o6.rd
    replace hb := hb.trans (b6.mono hb.size)
    clear b6 o6 hr5
    go_wp2_with (fail)
    go_at_call 9
    refine (sameBytes_any _ hr6 hr (by omega)).mono ?_
    rintro e w7 ⟨rfl, b7⟩
    rw [eqL_self]
    replace hr := hr.next b7
    replace hb := hb.trans (b7.mono hb.size)
    clear b7 hr6
    go_wp2_with (fail)
    go_at_call 11
    refine (encrypt_impl _ hr (by omega) hy (by omega) (by omega)).mono ?_
    rintro e w8 ⟨A8, c8, rfl, o8, b8⟩
    replace hb := hb.trans (b8.mono hb.size)
    clear b8 o8
    go_wp2
    go_ret
    exact ⟨by simp, hb⟩
  · go_enter Try.func3, Try.ntmps3
    go_wp2_with (go_at_call 7; refine (big_yes _ hn hm).mono ?_; rintro e w0 ⟨rfl, rfl⟩)
    go_ret
    exact ⟨rfl, Below.refl _ _⟩
end Go.Proofs.Ytifghjkiodnehaa
