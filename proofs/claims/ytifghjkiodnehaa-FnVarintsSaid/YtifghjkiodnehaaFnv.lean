/-
  The law FnVarints: what it draws, its walk.
-/
import Derived.Test.YtifghjkiodnehaaFnb
import Derived.Test.YtifghjkiodnehaaRd
namespace Go.Proofs.Ytifghjkiodnehaa
set_option linter.unusedVariables false
set_option linter.unusedSimpArgs false
set_option maxRecDepth 100000
open Go.ChangeShapes Go.WideShapes Go.ChangeAt Go.RowKit Go.Deep

theorem ruE_is {r : Option (Int × Int)} {N a : Int} (h : r = some (N, a)) : ruE r = .returned (.tuple #[.int .i64 N, .int .i64 a, .bool true]) := by subst h; rfl
theorem ruE_isnt {r : Option (Int × Int)} (h : r = none) : ruE r = .returned (.tuple #[.int .i64 0, .int .i64 0, .bool false]) := by subst h; rfl

set_option maxHeartbeats 400000 in
theorem drawAppendUvarint_any {A : Option Addr} {n c : Nat} {zs : List Int} (w : World) (hx : Reads w w.heap.size 1 A n (zs.map (Value.int .u8))) (hn : n ≤ 1048576) (hz : ∀ z ∈ zs, 0 ≤ z ∧ z ≤ 255) :
    Calls Try.prog 26 #[.slice A n c] w fun e w' => ∃ (A1 : Option Addr) (c1 : Nat) (b : List Int) (q : Int), b.length ≤ 8 ∧ -9223372036854775808 ≤ q ∧ q ≤ 9223372036854775807 ∧ e = .returned (.tuple #[.slice A1 b.length c1, .int .i64 q]) ∧ Reads w' w'.heap.size 1 A1 b.length (b.map (Value.int .u8)) ∧ (∀ z ∈ b, 0 ≤ z ∧ z ≤ 255) ∧ Below w.heap.size w w' := by
  go_enter Try.func26, Try.ntmps26
  go_wp2_with (fail)
  go_at_call 31
  refine (l1New_any _ hx hn hz).mono ?_
  rintro e w0 ⟨g, hg, rfl, hb, hc⟩
  clear hx hz
  have hd := Draws.refl hc
  go_wp2_with (fail)
  go_at_call 34
  refine (l1Below_any _ g hd.2 3 (by omega) (by omega)).mono ?_
  rintro e w1 ⟨x, hx1, hx2, rfl, d⟩
  replace hd := hd.trans d
  clear d
  obtain ⟨m, rfl⟩ := Int.eq_ofNat_of_zero_le hx1
  go_wp2_with (fail)
  go_at_call 33
  refine (l1Bytes_any _ g hd.2 m (by omega)).mono ?_
  rintro e w2 ⟨A1, c1, b, rfl, ho, hzb, d⟩
  have hg1 := hd.lt
  replace hd := hd.trans d
  clear d
  go_wp2_with (fail)
  go_at_call 42
  refine (l1One_any _ g hd.2).mono ?_
  rintro e w3 ⟨q, hq1, hq2, rfl, d⟩
  replace hd := hd.trans d
  replace ho := own_draws ho d hg1
  clear d
  obtain rfl : m = b.length := by have := ho.1; simp at this; omega
  go_wp2
  go_ret2
  exact ⟨A1, c1, b, q, by omega, hq1, hq2, rfl, (Own.of_row ho).rd, hzb, hb.trans (hd.below hb.size hg)⟩

theorem appU_in {b : List Int} (hb : ∀ z ∈ b, 0 ≤ z ∧ z ≤ 255) (q : Int) (hq : 0 ≤ q) : ∀ z ∈ appU b q, 0 ≤ z ∧ z ≤ 255 := by
  intro z h
  unfold appU at h
  split at h
  · rcases List.mem_append.1 h with h | h
    · exact hb z h
    · have := uv_bytes q hq z h; omega
  · exact hb z h

set_option maxHeartbeats 1000000 in
theorem drawReadUvarint_any {A : Option Addr} {n c : Nat} {zs : List Int} (w : World) (hx : Reads w w.heap.size 1 A n (zs.map (Value.int .u8))) (hn : n ≤ 1048576) (hz : ∀ z ∈ zs, 0 ≤ z ∧ z ≤ 255) :
    Calls Try.prog 29 #[.slice A n c] w fun e w' => ∃ (A1 : Option Addr) (c1 : Nat) (b : List Int) (q : Int), b.length ≤ 8 ∧ b.length ≤ c1 ∧ -1 ≤ q ∧ q ≤ 3 ∧ e = .returned (.tuple #[.slice A1 b.length c1, .int .i64 q]) ∧ Reads w' w'.heap.size 1 A1 b.length (b.map (Value.int .u8)) ∧ (∀ z ∈ b, 0 ≤ z ∧ z ≤ 255) ∧ Below w.heap.size w w' := by
  go_enter Try.func29, Try.ntmps29
  go_wp2_with (fail)
  go_at_call 31
  refine (l1New_any _ hx hn hz).mono ?_
  rintro e w0 ⟨g, hg, rfl, hb, hc⟩
  clear hx hz
  have hd := Draws.refl hc
  go_wp2_with (fail)
  go_at_call 43
  refine (l1Once_any _ g hd.2 2 (by omega) (by omega)).mono ?_
  rintro e w1 ⟨o, rfl, d⟩
  replace hd := hd.trans d
  clear d
  cases o
  · have hg0 := hd.lt
    have hz01 := hd.size
    have ho := own_empty w1 5 1
    replace hd := hd.alloc (.cells #[] 5)
    go_wp2_with (fail)
    go_at_call 34
    refine (l1Below_any _ g hd.2 8 (by omega) (by omega)).mono ?_
    rintro e w2 ⟨x, hx1, hx2, rfl, d⟩
    replace hd := hd.trans d
    replace ho := own_draws ho d hg0
    clear d
    obtain ⟨j, rfl⟩ := Int.eq_ofNat_of_zero_le hx1
    have hgw := hc.lt
    go_wp2_with (fail)
    go_loopw [5, 6] (fun v i wr => ∃ (k : Nat) (A' : Option Addr) (c' : Nat) (b : List Int), b.length + k ≤ 7 ∧ i = .int .i64 k ∧ v = .slice A' b.length c' ∧ wr.ownsRow w1.heap.size 5 1 (.slice A' b.length c') b.length (b.map (Value.int .u8)) ∧ (∀ z ∈ b, 0 ≤ z ∧ z ≤ 255) ∧ w1.heap.size ≤ wr.heap.size ∧ Draws g w0 wr)
      (fun _ i _ => (intOf i).toNat)
    case atStart => exact ⟨j, _, 0, [], by simp; omega, rfl, rfl, ho, by simp, (ho.2.elim (fun h => by cases h.1) fun ⟨g', cap, cur, hv, h1, h2, _⟩ => by have := (Array.getElem?_eq_some_iff.1 h2).1; omega), hd⟩
    case round =>
      clear hd ho
      obtain ⟨k, A', c', b, hk, rfl, rfl, hown, hzb, hw1, hd⟩ := hrel
      by_cases hlt : 0 < k
      · go_wp2_with (fail)
        go_at_call 46
        refine (l1Int_any _ g (hd.alloc _).2 _ 5 [128, 255, 0, 1, 127] (by have := hd.lt; omega) (by omega) (by omega) rfl (fun j v h => alloc_vals _ _ _ j v h) (alloc_lt _ _)).mono ?_
        rintro e w3 ⟨z, hzz, rfl, d⟩
        have hzb2 : 0 ≤ z ∧ z ≤ 255 := by simp at hzz; omega
        have hzw : z % 256 = z := by omega
        have ho1 := (own_draws (hown.alloc _) d hg0).alloc (.cells #[.int .u8 z] 5)
        have hr1 := Reads.one w3 (.int .u8 z) 5
        have hd1 := ((hd.alloc _).trans d).alloc (.cells #[.int .u8 z] 5)
        have hs : Hid (b.map (Value.int .u8) ++ [.int .u8 z] = (b ++ [z]).map (Value.int .u8)) := by show _ = _; simp
        have hz2 : Hid (∀ y ∈ b ++ [z], 0 ≤ y ∧ y ≤ 255) := by
          intro y hy'
          rcases List.mem_append.1 hy' with h | h
          · exact hzb y h
          · simp at h; omega
        have hll : Hid ((b ++ [z]).length = b.length + 1) := by show _ = _; simp
        have hw3 : w1.heap.size ≤ w3.heap.size := Nat.le_trans hw1 (Nat.le_trans (Nat.le_of_lt (alloc_lt _ _)) d.size)
        obtain ⟨hzb3, hzb4⟩ := hzb2
        clear hown hzb d hd hzz
        go_wp2_with (at_builtin; refine wpList_app row_u8 rfl (.tmp 23) (.tmp 28) rfl w1.heap.size A' b.length c' _ rfl ho1 (w3.heap.size + 1) _ 1 1 [.int .u8 z] rfl hr1 (int_one _ _) (b.length + 1) _ (by omega) hs.out ⟨by omega, by omega⟩ (by simp; omega) ?_; intro A2 c2 w4 ho2 hb2)
        go_roundw
        case rel => exact ⟨k - 1, A2, c2, b ++ [z], by rw [hll.out]; omega, by first | go_num | (congr 1; omega), by rw [hll.out], by rw [hll.out]; exact ho2, hz2.out, by have := hb2.size; simp at this; omega, hd1.next hb2 hz01 hgw⟩
        case measure => simp [intOf]; omega
      · obtain rfl : k = 0 := by omega
        have hcap := own_cap hown
        go_wp2_with (fail)
        go_at_call 34
        refine (l1Below_any _ g hd.2 4 (by omega) (by omega)).mono ?_
        rintro e w3 ⟨x, hx1, hx2, rfl, d⟩
        replace hd := hd.trans d
        replace hown := own_draws hown d hg0
        clear d
        go_wp2
        go_ret2
        exact ⟨A', c', b, x - 1, by omega, hcap, by omega, by omega, rfl, (Own.of_row hown).rd, hzb, hb.trans (hd.below hb.size hg)⟩
  · go_wp2_with (fail)
    go_at_call 33
    refine (l1Bytes_any _ g hd.2 1 (by omega)).mono ?_
    rintro e w2 ⟨A1, c1, b, rfl, ho, hzb, d⟩
    have hg1 := hd.lt
    replace hd := hd.trans d
    clear d
    go_wp2_with (fail)
    go_at_call 45
    refine (l1Num_any _ g hd.2).mono ?_
    rintro e w3 ⟨q, hq1, hq2, rfl, d⟩
    replace hd := hd.trans d
    replace ho := own_draws ho d hg1
    clear d
    have hr := (Own.of_row ho).rd
    have hlb : b.length = 1 := by have := ho.1; simp at this; omega
    have hin := appU_in hzb q hq1
    have hlen := appU_len b q
    go_wp2_with (fail)
    go_at_call 44
    refine (appendUvarint_spec _ hr (by omega)).mono ?_
    rintro e w4 ⟨A4, c4, rfl, o4, b4⟩
    go_wp2
    go_ret2
    exact ⟨A4, c4, appU b q, 1, by omega, own_cap o4.1, by omega, by omega, rfl, o4.rd, hin, (hb.trans (hd.below hb.size hg)).trans (b4.mono (Nat.le_trans hb.size hd.size))⟩
end Go.Proofs.Ytifghjkiodnehaa
