/-
  The law FnByteStrings: what it draws, its walk.
-/
import Derived.Test.YtifghjkiodnehaaFnk
import Derived.Test.YtifghjkiodnehaaEnc
import Derived.Test.YtifghjkiodnehaaPlc
namespace Go.Proofs.Ytifghjkiodnehaa
set_option linter.unusedVariables false
set_option linter.unusedSimpArgs false
set_option maxRecDepth 100000
open Go.ChangeShapes Go.WideShapes Go.ChangeAt Go.RowKit Go.Deep

theorem Got3.is_some {w w' : World} {E : Nat} {kd : IntKind} {r : Option (List Int × Int)} {e : Ending} {l : List Int} {a : Int} (h : Got3 w E kd r e w') (hr : r = some (l, a)) :
    ∃ A c, e = .returned (.tuple #[.slice A l.length c, .int .i64 a, .bool true]) ∧ Reads w' w'.heap.size 1 A l.length (l.map (Value.int kd)) ∧ Below w.heap.size w w' := by
  subst hr
  obtain ⟨A, c, rfl, o, b⟩ := h
  exact ⟨A, c, rfl, o.rd, b⟩
theorem Got3.is_none {w w' : World} {E : Nat} {kd : IntKind} {r : Option (List Int × Int)} {e : Ending} (h : Got3 w E kd r e w') (hr : r = none) :
    ∃ A c, e = .returned (.tuple #[.slice A 0 c, .int .i64 0, .bool false]) ∧ Below w.heap.size w w' := by
  subst hr
  obtain ⟨A, c, rfl, o, b⟩ := h
  exact ⟨A, c, rfl, b⟩

set_option maxHeartbeats 400000 in
theorem drawAppendBytes_any {A : Option Addr} {n c : Nat} {zs : List Int} (w : World) (hx : Reads w w.heap.size 1 A n (zs.map (Value.int .u8))) (hn : n ≤ 1048576) (hz : ∀ z ∈ zs, 0 ≤ z ∧ z ≤ 255) :
    Calls Try.prog 20 #[.slice A n c] w fun e w' => ∃ (A1 A2 : Option Addr) (c1 c2 : Nat) (b d : List Int), b.length ≤ 8 ∧ d.length ≤ 8 ∧ e = .returned (.tuple #[.slice A1 b.length c1, .slice A2 d.length c2]) ∧ Reads w' w'.heap.size 1 A1 b.length (b.map (Value.int .u8)) ∧ (∀ z ∈ b, 0 ≤ z ∧ z ≤ 255) ∧ Reads w' w'.heap.size 1 A2 d.length (d.map (Value.int .u8)) ∧ (∀ z ∈ d, 0 ≤ z ∧ z ≤ 255) ∧ Below w.heap.size w w' := by
  go_enter Try.func20, Try.ntmps20
  go_wp2_with (fail)
  go_at_call 31
  refine (l1New_any _ hx hn hz).mono ?_
  rintro e w0 ⟨g, hg, rfl, hb, hc⟩
  clear hx hz
  have hd := Draws.refl hc
  go_wp2_with (fail)
  go_at_call 34
  refine (l1Below_any _ g hd.2 3 (by omega) (by omega)).mono ?_
  rintro e w1 ⟨x, hx1, hx2, rfl, d⟩
  replace hd := hd.trans d
  clear d
  obtain ⟨m, rfl⟩ := Int.eq_ofNat_of_zero_le hx1
  go_wp2_with (fail)
  go_at_call 33
  refine (l1Bytes_any _ g hd.2 m (by omega)).mono ?_
  rintro e w2 ⟨A1, c1, b, rfl, ho, hzb, d⟩
  have hg1 := hd.lt
  replace hd := hd.trans d
  clear d
  go_wp2_with (fail)
  go_at_call 34
  refine (l1Below_any _ g hd.2 6 (by omega) (by omega)).mono ?_
  rintro e w3 ⟨y, hy1, hy2, rfl, d⟩
  replace hd := hd.trans d
  replace ho := own_draws ho d hg1
  clear d
  obtain ⟨k, rfl⟩ := Int.eq_ofNat_of_zero_le hy1
  go_wp2_with (fail)
  go_at_call 33
  refine (l1Bytes_any _ g hd.2 k (by omega)).mono ?_
  rintro e w4 ⟨A2, c2, dd, rfl, ho2, hzd, d⟩
  replace hd := hd.trans d
  replace ho := own_draws ho d hg1
  clear d
  obtain rfl : m = b.length := by have := ho.1; simp at this; omega
  obtain rfl : k = dd.length := by have := ho2.1; simp at this; omega
  go_wp2
  go_ret2
  exact ⟨A1, A2, c1, c2, b, dd, by omega, by omega, rfl, (Own.of_row ho).rd, hzb, (Own.of_row ho2).rd, hzd, hb.trans (hd.below hb.size hg)⟩

theorem appB_in {b d : List Int} (hb : ∀ z ∈ b, 0 ≤ z ∧ z ≤ 255) (hd : ∀ z ∈ d, 0 ≤ z ∧ z ≤ 255) (m : Nat) : ∀ z ∈ appB b d m, 0 ≤ z ∧ z ≤ 255 := by
  intro z hz
  unfold appB appU at hz
  rcases List.mem_append.1 hz with h | h
  · split at h
    · rcases List.mem_append.1 h with h | h
      · exact hb z h
      · have := uv_bytes m (by omega) z h; omega
    · exact hb z h
  · exact hd z h
theorem encL_in {l : List Int} (h : ∀ z ∈ l, 0 ≤ z ∧ z ≤ 1000000000000) : ∀ z ∈ encL l, 0 ≤ z ∧ z ≤ 255 := by
  have e : encL l = l.flatMap uv := by rw [encL, encL_flat l [] h]; simp
  rw [e]
  intro z hz
  obtain ⟨x, hx, hz⟩ := List.mem_flatMap.1 hz
  have := uv_bytes x (h x hx).1 z hz
  omega
theorem appB_len (b d : List Int) (m : Nat) : (appB b d m).length ≤ b.length + 6 + d.length := by
  have := appU_len b m
  simp [appB]
  omega

set_option maxHeartbeats 2000000 in
theorem byteStrings_walk (w : World) (A : Option Addr) (n c : Nat) (zs : List Int) (ha : ArgInts .u8 w A n zs) : Calls Try.prog 5 #[.slice A n c] w fun e w' => e = .returned (.bool true) ∧ Below w.heap.size w w' := by
  obtain ⟨hl, hm, hx, hwf⟩ := ha
  have hz : ∀ z ∈ zs, 0 ≤ z ∧ z ≤ 255 := u8_all hwf
  clear hwf hl
  by_cases hn : n ≤ 1048576
  · go_enter Try.func5, Try.ntmps5
    go_wp2_with (fail)
    go_at_call 7
    refine (big_no _ hn).mono ?_
    rintro e w0 ⟨rfl, rfl⟩
    go_wp2_with (fail)
    go_at_call 20
    refine (drawAppendBytes_any _ hx hn hz).mono ?_
    rintro e w1 ⟨A1, A2, c1, c2, b, d, hb8, hd8, rfl, hr1, hzb, hr2, hzd, hb⟩
    go_wp2_with (fail)
    go_at_call 21
    refine (appendBytes_impl _ hr1 hr2 (by omega) (by omega)).mono ?_
    rintro e w2 ⟨A3, c3, rfl, o3, b3⟩
    have hr3 := o3.rd
    have hcap := own_cap o3.1
    have hlen := appB_len b d d.length
    have hzx := appB_in hzb hzd d.length
    have hrb := rb_app b d (by omega)
    have hrs := rb_short b d (by omega)
    replace hr2 := hr2.next b3
    replace hb := hb.trans (b3.mono hb.size)
    clear b3 o3 hr1
    generalize appB b d d.length = x at *
    go_wp2_with (fail)
    go_at_call 22
    refine (readBytes_impl _ hr3 (by omega) hcap hzx (by omega) (by omega)).mono ?_
    intro e w3 hg
    obtain ⟨A4, c4, rfl, hr4, b4⟩ := hg.is_some hrb
    clear hg
    replace hr2 := hr2.next b4
    replace hr3 := hr3.next b4
    replace hb := hb.trans (b4.mono hb.size)
    clear b4
    go_wp2_with (fail)
    go_at_call 22
    refine (readBytes_impl _ hr3 (by omega) hcap hzx (by omega) (by omega)).mono ?_
    intro e w4 hg
    obtain ⟨A5, c5, rfl, b5⟩ := hg.is_none hrs
    clear hg
    replace hr2 := hr2.next b5
    replace hr4 := hr4.next b5
    replace hb := hb.trans (b5.mono hb.size)
    clear b5 hr3 hrb hrs hzx
    go_wp2_with (fail)
    go_at_call 9
    refine (sameBytes_any _ hr4 hr2 (by omega)).mono ?_
    rintro e w5 ⟨rfl, b6⟩
    rw [eqL_self]
    replace hb := hb.trans (b6.mono hb.size)
    clear b6 hr2 hr4
    have hz5 := hb.size
    have ho := own_empty w5 3 1
    have hb1 : Below w.heap.size w (w5.alloc (.cells #[] 3)) := hb.alloc hz5 _
    clear hb
    go_wp2_with (fail)
    go_loopw [12, 13] (fun v i wr => ∃ (A' : Option Addr) (c' : Nat) (l : List Int), l.length ≤ 6 ∧ i = .int .i64 l.length ∧ v = .slice A' l.length c' ∧ wr.ownsRow w.heap.size 3 1 (.slice A' l.length c') l.length (l.map (Value.int .i64)) ∧ (∀ z ∈ l, 0 ≤ z ∧ z ≤ 1000000000000) ∧ Below w.heap.size w wr)
      (fun _ i _ => 6 - (intOf i).toNat)
    case atStart => exact ⟨_, 0, [], by simp, rfl, rfl, own_mono ho hz5, by simp, hb1⟩
    case round =>
      clear ho hb1 hz5
      obtain ⟨A', c', l, hl6, rfl, rfl, hown, hzl, hbel⟩ := hrel
      have hz1 : w.heap.size ≤ wr.heap.size := hbel.size
      have hi := hx.next hbel
      go_wp2_with (fail)
      go_at_call 15
      refine (at_any _ hi hn hz 0 (by omega)).mono ?_
      rintro e w' ⟨x0, hx0, rfl, rfl⟩
      by_cases hlt : l.length < x0 % 6
      · have hlt2 : ((l.length : Nat) : Int) < (x0 : Int) % 6 := by omega
        go_wp2_with (fail)
        go_at_call 15
        rw [show ((l.length : Nat) : Int) + 1 = ((l.length + 1 : Nat) : Int) by omega]
        refine (at_any _ hi hn hz (l.length + 1) (by omega)).mono ?_
        rintro e w' ⟨x1, hx1, rfl, rfl⟩
        go_wp2_with (fail)
        go_at_call 15
        rw [show ((l.length : Nat) : Int) + 2 = ((l.length + 2 : Nat) : Int) by omega]
        refine (at_any _ hi hn hz (l.length + 2) (by omega)).mono ?_
        rintro e w' ⟨x2, hx2, rfl, rfl⟩
        obtain ⟨hq1, hq2⟩ := mul_in (x := (x1 : Int)) (y := (x2 : Int)) (a := 256) (b := 256) (by omega) (by omega) (by omega) (by omega)
        replace hq2 : (x1 : Int) * (x2 : Int) ≤ 65536 := hq2
        go_wp2_with (fail)
        generalize (x1 : Int) * (x2 : Int) = p at *
        go_at_call 15
        rw [show ((l.length : Nat) : Int) + 3 = ((l.length + 3 : Nat) : Int) by omega]
        refine (at_any _ hi hn hz (l.length + 3) (by omega)).mono ?_
        rintro e w' ⟨x3, hx3, rfl, rfl⟩
        obtain ⟨hb3, hb4⟩ := mul_in (x := p) (y := (x3 : Int)) (a := 65537) (b := 256) hq1 (by omega) (by omega) (by omega)
        replace hb4 : p * (x3 : Int) ≤ 16777472 := hb4
        have ho1 := hown.alloc (.cells #[.int .i64 (p * (x3 : Int))] 3)
        have hr1 := Reads.one wr (.int .i64 (p * (x3 : Int))) 3
        have hs : Hid (l.map (Value.int .i64) ++ [.int .i64 (p * (x3 : Int))] = (l ++ [p * (x3 : Int)]).map (Value.int .i64)) := by show _ = _; simp
        have hz2 : Hid (∀ z ∈ l ++ [p * (x3 : Int)], 0 ≤ z ∧ z ≤ 1000000000000) := by
          intro z hz'
          rcases List.mem_append.1 hz' with h | h
          · exact hzl z h
          · simp only [List.mem_singleton] at h; rw [h]; omega
        have hll : Hid ((l ++ [p * (x3 : Int)]).length = l.length + 1) := by show _ = _; simp
        clear hown hzl hi
        go_wp2_with (at_builtin; refine wpList_app row_i64 rfl (.tmp 77) (.tmp 92) rfl w.heap.size A' l.length c' _ rfl ho1 (wr.heap.size + 1) _ 1 1 [.int .i64 (p * (x3 : Int))] rfl hr1 (int_one _ _) (l.length + 1) _ (by omega) hs.out ⟨by omega, by omega⟩ (by simp; omega) ?_; intro A6 c6 w6 ho6 hb6)
        go_roundw
        case rel => exact ⟨A6, c6, l ++ [p * (x3 : Int)], by rw [hll.out]; omega, by rw [hll.out]; go_num, by rw [hll.out], by rw [hll.out]; exact ho6, hz2.out, (hbel.alloc hz1 _).trans hb6⟩
        case measure => simp [intOf]; omega
      · have hlt2 : ¬ ((l.length : Nat) : Int) < (x0 : Int) % 6 := by omega
        have hrl := (Own.of_row hown).rd
        have hb := hbel
        have he1 := dec_enc_list l hzl (by omega)
        have he2 := dec_enc_more l hzl (by omega)
        have hel := encL_len l
        have hez := encL_in hzl
        clear hown
        go_wp2_with (fail)
        go_at_call 23
        refine (encodeInts_impl _ hrl (by omega)).mono ?_
        rintro e w7 ⟨A7, c7, rfl, o7, b7⟩
        have hr7 := o7.rd
        replace hrl := hrl.next b7
        replace hb := hb.trans (b7.mono hb.size)
        clear b7 o7
        generalize encL l = E at *
        go_wp2_with (fail)
        go_at_call 24
        refine (decodeInts_impl _ hr7 (by omega) hez (by omega) (by omega)).mono ?_
        intro e w8 hg
        obtain ⟨A8, c8, rfl, hr8, b8⟩ := hg.is_some he1
        clear hg
        replace hrl := hrl.next b8
        replace hr7 := hr7.next b8
        replace hb := hb.trans (b8.mono hb.size)
        clear b8
        go_wp2_with (fail)
        go_at_call 24
        refine (decodeInts_impl _ hr7 (by omega) hez (by omega) (by omega)).mono ?_
        intro e w9 hg
        obtain ⟨A9, c9, rfl, b9⟩ := hg.is_none he2
        clear hg
        replace hrl := hrl.next b9
        replace hr8 := hr8.next b9
        replace hb := hb.trans (b9.mono hb.size)
        clear b9 hr7
        go_wp2_with (fail)
        go_at_call 25
        refine (sameInts_any _ hr8 hrl (by omega)).mono ?_
        rintro e w10 ⟨rfl, b10⟩
        rw [eqL_self]
        replace hb := hb.trans (b10.mono hb.size)
        go_wp2
        go_ret
        exact ⟨by simp, hb⟩
  · go_enter Try.func5, Try.ntmps5
    go_wp2_with (go_at_call 7; refine (big_yes _ hn hm).mono ?_; rintro e w0 ⟨rfl, rfl⟩)
    go_ret
    exact ⟨rfl, Below.refl _ _⟩
end Go.Proofs.Ytifghjkiodnehaa
