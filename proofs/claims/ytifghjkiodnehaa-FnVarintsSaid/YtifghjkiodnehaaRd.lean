/-
  Contracts of the two readers of a varint, of the program and of the reference. Conditions: lengths at most 2^27, bytes in 0 .. 255.
-/
import Derived.Test.YtifghjkiodnehaaEnc
namespace Go.Proofs.Ytifghjkiodnehaa
set_option linter.unusedVariables false
set_option maxRecDepth 100000
open Go.ChangeShapes Go.WideShapes Go.ChangeAt Go.RowKit Go.Deep

set_option maxHeartbeats 1000000 in
theorem readUvarint_impl {A : Option Addr} {n c : Nat} {zs : List Int} {off : Int} (w : World) (hx : Reads w w.heap.size 1 A n (zs.map (Value.int .u8))) (hn : n ≤ 1073741824) (hz : ∀ z ∈ zs, 0 ≤ z ∧ z ≤ 255)
    (_ : -9223372036854775808 ≤ off) (_ : off ≤ 9223372036854775807) : Calls Try.prog 28 #[.slice A n c, .int .i64 off] w fun e w' => e = ruE (readU zs off) ∧ w = w' := by
  have lx : Hid (zs.length = n) := by show zs.length = n; simpa using hx.1
  by_cases hneg : off < 0
  · have hres : Hid (readU zs off = none) := by show _ = _; rw [readU, if_pos hneg]
    go_enter Try.func28, Try.ntmps28
    go_wp2
    go_ret3
    exact ⟨ruE_none hres.out, rfl⟩
  · obtain ⟨o, rfl⟩ := Int.eq_ofNat_of_zero_le (show 0 ≤ off by omega)
    by_cases hn0 : n ≤ o
    · have hres : Hid (readU zs (o : Int) = none) := by show _ = _; rw [readU, if_neg (by omega)]; exact ruF_out (by rw [lx.out]; simpa using hn0)
      go_enter Try.func28, Try.ntmps28
      go_wp2
      go_ret3
      exact ⟨ruE_none hres.out, rfl⟩
    · go_enter Try.func28, Try.ntmps28
      go_wp2
      go_loop [7, 8] (fun p i => ∃ (k f : Nat) (pw acc : Int), Hid (P7 k f pw) ∧ k ≤ 6 ∧ i = .int .i64 k ∧ p = .int .i64 acc ∧ 0 ≤ acc ∧ acc < pw ∧ Hid (readU zs (o : Int) = ruF zs f (o + k) pw acc)) (fun _ i => 6 - (intOf i).toNat)
      case atStart => exact ⟨0, 6, 1, 0, .inl ⟨5, rfl, .inl ⟨rfl, rfl, rfl⟩⟩, by omega, rfl, rfl, by omega, by omega, by show _ = _; rw [readU, if_neg (by omega)]; rfl⟩
      case round =>
        obtain ⟨k, f, pw, acc, hp, hk6, rfl, rfl, ha0, ha1, hres⟩ := hrel
        rcases hp.out with ⟨f, rfl, h6⟩ | ⟨rfl, rfl, rfl⟩
        · clear hp
          by_cases hlt : o + k < n
          · obtain ⟨b0, off0, rfl, hab, hcx⟩ := hx.num hlt
            have hl1 : o + k < zs.length := by rw [lx.out]; exact hlt
            replace hcx := hcx hl1
            obtain ⟨hv1, hv2⟩ := hz zs[o + k] (List.getElem_mem _)
            have hq : zs[o + k]? = some zs[o + k] := List.getElem?_eq_getElem hl1
            generalize zs[o + k] = x at *
            have HB : Hid (128 ≤ x → readU zs (o : Int) = ruF zs f (o + (k + 1)) (pw * 128) (acc + x % 128 * pw)) := fun h => by rw [hres.out, ruF_big hq h]; rfl
            have HN : Hid (x < 128 → ((1 < pw ∧ x = 0) ∨ 1000000000000 < acc + x % 128 * pw) → readU zs (o : Int) = none) := fun h hb => by rw [hres.out, ruF_bad hq h hb]
            have HG : Hid (x < 128 → ¬ ((1 < pw ∧ x = 0) ∨ 1000000000000 < acc + x % 128 * pw) → readU zs (o : Int) = some (acc + x % 128 * pw, ((o + k : Nat) : Int) + 1)) := fun h hb => by rw [hres.out, ruF_good hq h hb]
            have HP : Hid (P7 (k + 1) f (pw * 128)) := h6.next
            have hk5 : k ≤ 5 := by rcases h6 with h | h | h | h | h | h <;> omega
            clear hq hres hz hx lx
            rcases h6 with ⟨rfl, rfl, rfl⟩ | ⟨rfl, rfl, rfl⟩ | ⟨rfl, rfl, rfl⟩ | ⟨rfl, rfl, rfl⟩ | ⟨rfl, rfl, rfl⟩ | ⟨rfl, rfl, rfl⟩
            all_goals
              try simp only [Nat.add_zero] at hcx hlt
              by_cases h128 : x < 128
              · by_cases hx0 : x = 0
                · subst hx0
                  go_wp2
                  all_goals go_ret3
                  all_goals first | exact ⟨ruE_none (HN.out (by omega) (by simp)), rfl⟩ | exact ⟨ruE_some (HG.out (by omega) (by first | omega | (simp; omega))) (by first | omega | simp) (by omega), rfl⟩
                · have hxb : (x == 0) = false := by simpa using hx0
                  go_wp2
                  all_goals go_ret3
                  all_goals first | exact ⟨ruE_some (HG.out h128 (by omega)) (by omega) (by omega), rfl⟩ | exact ⟨ruE_none (HN.out h128 (by omega)), rfl⟩
              · have h129 : 128 ≤ x := by omega
                go_wp2
                go_round
                case rel => exact ⟨_, _, _, _, HP, by omega, by go_num, by go_num, by omega, by omega, HB.out h129⟩
                case measure => simp [intOf]
          · have hout : Hid (readU zs (o : Int) = none) := by show _ = _; rw [hres.out, ruF_out (by rw [lx.out]; omega)]
            have hk5 : k ≤ 5 := by rcases h6 with h | h | h | h | h | h <;> omega
            clear hres hx h6
            go_wp2
            go_ret3
            exact ⟨ruE_none hout.out, rfl⟩
        · have hout : Hid (readU zs (o : Int) = none) := by show _ = _; rw [hres.out]; rfl
          clear hres hx hp
          go_wp2
          go_ret3
          exact ⟨ruE_none hout.out, rfl⟩

set_option maxHeartbeats 1000000 in
theorem readUvarint_spec {A : Option Addr} {n c : Nat} {zs : List Int} {off : Int} (w : World) (hx : Reads w w.heap.size 1 A n (zs.map (Value.int .u8))) (hn : n ≤ 1073741824) (hz : ∀ z ∈ zs, 0 ≤ z ∧ z ≤ 255)
    (_ : -9223372036854775808 ≤ off) (_ : off ≤ 9223372036854775807) : Calls Try.prog 30 #[.slice A n c, .int .i64 off] w fun e w' => e = ruE (readU zs off) ∧ w = w' := by
  have lx : Hid (zs.length = n) := by show zs.length = n; simpa using hx.1
  by_cases hneg : off < 0
  · have hres : Hid (readU zs off = none) := by show _ = _; rw [readU, if_pos hneg]
    go_enter Try.func30, Try.ntmps30
    go_wp2
    refine wp_loop_rounds 1 ?_
    rw [rounds_succ]
    go_wp2
    go_ret3
    exact ⟨ruE_none hres.out, rfl⟩
  · obtain ⟨o, rfl⟩ := Int.eq_ofNat_of_zero_le (show 0 ≤ off by omega)
    rcases Nat.lt_or_ge n n with hn0 | hn0
    · omega
    · go_enter Try.func30, Try.ntmps30
      go_wp2
      go_loop [7, 8] (fun p i => ∃ (k f : Nat) (pw acc : Int), Hid (P7 k f pw) ∧ k ≤ 6 ∧ i = .int .i64 k ∧ p = .int .i64 acc ∧ 0 ≤ acc ∧ acc < pw ∧ Hid (readU zs (o : Int) = ruF zs f (o + k) pw acc)) (fun _ i => 6 - (intOf i).toNat)
      case atStart => exact ⟨0, 6, 1, 0, .inl ⟨5, rfl, .inl ⟨rfl, rfl, rfl⟩⟩, by omega, rfl, rfl, by omega, by omega, by show _ = _; rw [readU, if_neg (by omega)]; rfl⟩
      case round =>
        obtain ⟨k, f, pw, acc, hp, hk6, rfl, rfl, ha0, ha1, hres⟩ := hrel
        rcases hp.out with ⟨f, rfl, h6⟩ | ⟨rfl, rfl, rfl⟩
        · clear hp
          by_cases hlt : o + k < n
          · obtain ⟨b0, off0, rfl, hab, hcx⟩ := hx.num hlt
            have hl1 : o + k < zs.length := by rw [lx.out]; exact hlt
            replace hcx := hcx hl1
            obtain ⟨hv1, hv2⟩ := hz zs[o + k] (List.getElem_mem _)
            have hq : zs[o + k]? = some zs[o + k] := List.getElem?_eq_getElem hl1
            generalize zs[o + k] = x at *
            have HB : Hid (128 ≤ x → readU zs (o : Int) = ruF zs f (o + (k + 1)) (pw * 128) (acc + x % 128 * pw)) := fun h => by rw [hres.out, ruF_big hq h]; rfl
            have HN : Hid (x < 128 → ((1 < pw ∧ x = 0) ∨ 1000000000000 < acc + x % 128 * pw) → readU zs (o : Int) = none) := fun h hb => by rw [hres.out, ruF_bad hq h hb]
            have HG : Hid (x < 128 → ¬ ((1 < pw ∧ x = 0) ∨ 1000000000000 < acc + x % 128 * pw) → readU zs (o : Int) = some (acc + x % 128 * pw, ((o + k : Nat) : Int) + 1)) := fun h hb => by rw [hres.out, ruF_good hq h hb]
            have HP : Hid (P7 (k + 1) f (pw * 128)) := h6.next
            have hand := and127 x hv1 (by omega)
            have hor := h6.or_ ha0 ha1 hv1 hv2
            have hk5 : k ≤ 5 := by rcases h6 with h | h | h | h | h | h <;> omega
            clear hq hres hz hx lx
            rcases h6 with ⟨rfl, rfl, rfl⟩ | ⟨rfl, rfl, rfl⟩ | ⟨rfl, rfl, rfl⟩ | ⟨rfl, rfl, rfl⟩ | ⟨rfl, rfl, rfl⟩ | ⟨rfl, rfl, rfl⟩
            all_goals
              try simp only [Int.mul_one] at hor
              try simp only [Nat.add_zero] at hcx hlt
              by_cases h128 : x < 128
              · by_cases hx0 : x = 0
                · subst hx0
                  simp only [Int.zero_emod, Int.zero_mul, Int.add_zero] at hor hand
                  go_wp2
                  all_goals go_ret3
                  all_goals first | exact ⟨ruE_none (HN.out (by omega) (by simp)), rfl⟩ | exact ⟨ruE_some (HG.out (by omega) (by first | omega | (simp; omega))) (by first | omega | simp) (by omega), rfl⟩
                · have hxb : (x == 0) = false := by simpa using hx0
                  go_wp2
                  all_goals go_ret3
                  all_goals first | exact ⟨ruE_some (HG.out h128 (by omega)) (by omega) (by omega), rfl⟩ | exact ⟨ruE_none (HN.out h128 (by omega)), rfl⟩
              · have h129 : 128 ≤ x := by omega
                go_wp2
                go_round
                case rel => exact ⟨_, _, _, _, HP, by omega, by go_num, by go_num, by omega, by omega, HB.out h129⟩
                case measure => simp [intOf]
          · have hout : Hid (readU zs (o : Int) = none) := by show _ = _; rw [hres.out, ruF_out (by rw [lx.out]; omega)]
            have hk5 : k ≤ 5 := by rcases h6 with h | h | h | h | h | h <;> omega
            clear hres hx h6
            go_wp2
            go_ret3
            exact ⟨ruE_none hout.out, rfl⟩
        · have hout : Hid (readU zs (o : Int) = none) := by show _ = _; rw [hres.out]; rfl
          clear hres hx hp
          go_wp2
          go_ret3
          exact ⟨ruE_none hout.out, rfl⟩
end Go.Proofs.Ytifghjkiodnehaa
