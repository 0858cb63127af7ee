/-
  The law FnVarints: its walk.
-/
import Derived.Test.YtifghjkiodnehaaFnv
namespace Go.Proofs.Ytifghjkiodnehaa
set_option linter.unusedVariables false
set_option linter.unusedSimpArgs false
set_option maxRecDepth 100000
open Go.ChangeShapes Go.WideShapes Go.ChangeAt Go.RowKit Go.Deep

theorem readU_end (b : List Int) : readU b (b.length : Int) = none := by
  unfold readU
  rw [if_neg (by omega)]
  exact ruF_out (by simp)

/-- the second half: a drawn row of bytes is read -/
def Half (n : Nat) (A1 : Option Addr) : Prop := True

set_option maxHeartbeats 20000000 in
theorem varints_walk (w : World) (A : Option Addr) (n c : Nat) (zs : List Int) (ha : ArgInts .u8 w A n zs) : Calls Try.prog 6 #[.slice A n c] w fun e w' => e = .returned (.bool true) ∧ Below w.heap.size w w' := by
  obtain ⟨hl, hm, hx, hwf⟩ := ha
  have hz : ∀ z ∈ zs, 0 ≤ z ∧ z ≤ 255 := u8_all hwf
  clear hwf hl
  by_cases hn : n ≤ 1048576
  · go_enter Try.func6, Try.ntmps6
    go_wp2_with (fail)
    go_at_call 7
    refine (big_no _ hn).mono ?_
    rintro e w0 ⟨rfl, rfl⟩
    go_wp2_with (fail)
    go_at_call 26
    refine (drawAppendUvarint_any _ hx hn hz).mono ?_
    rintro e w1 ⟨A1, c1, b, q, hb8, hq1, hq2, rfl, hr1, hzb, hb⟩
    go_wp2_with (fail)
    go_at_call 27
    refine (appendUvarint_impl _ hr1 (by omega)).mono ?_
    rintro e w2 ⟨A2, c2, rfl, o2, b2⟩
    have hr2 := o2.rd
    have hlen := appU_len b q
    replace hr1 := hr1.next b2
    replace hb := hb.trans (b2.mono hb.size)
    clear b2 o2
    by_cases hq : 0 ≤ q ∧ q ≤ 1000000000000
    · obtain ⟨hq3, hq4⟩ := hq
      have hzx : ∀ z ∈ appU b q, 0 ≤ z ∧ z ≤ 255 := appU_in hzb q hq3
      have hru : readU (appU b q) b.length = some (q, ((appU b q).length : Int)) := by
        have h := readU_uv b [] q hq3 hq4
        rw [List.append_nil] at h
        rw [appU_yes (by simp [inR]; omega), h, List.length_append]
      clear hr1
      generalize appU b q = x at *
      go_wp2_with (fail)
      go_at_call 28
      refine (readUvarint_impl _ hr2 (by omega) hzx (by omega) (by omega)).mono ?_
      rintro e w3 ⟨he, rfl⟩
      rw [ruE_is hru] at he
      subst he
      clear hr2 hru hzx
      go_wp2_with (fail)
      go_at_call 29
      refine (drawReadUvarint_any _ (hx.next hb) hn hz).mono ?_
      rintro e w5 ⟨A5, c5, y, off, hy8, hyc, hof1, hof2, rfl, hr5, hzy, b5⟩
      replace hb := hb.trans (b5.mono hb.size)
      clear b5 hx hz hzb
      go_wp2_with (fail)
      go_at_call 28
      refine (readUvarint_impl _ hr5 (by omega) hzy (by omega) (by omega)).mono ?_
      rintro e w6 ⟨he, rfl⟩
      cases hru5 : readU y off with
      | none =>
        rw [ruE_isnt hru5] at he
        subst he
        go_wp2_with (fail)
        go_at_call 30
        refine (readUvarint_spec _ hr5 (by omega) hzy (by omega) (by omega)).mono ?_
        rintro e w6 ⟨he, rfl⟩
        rw [ruE_isnt hru5] at he
        subst he
        go_wp2
        go_ret
        exact ⟨by first | rfl | simp, hb⟩
      | some r =>
        obtain ⟨N, a⟩ := r
        rw [ruE_is hru5] at he
        subst he
        obtain ⟨p, t, rfl, rfl, hpt, hty, hcut, hN0, hN1⟩ := readU_can hzy hru5
        obtain ⟨b0, off0, rfl, hb0, hcell⟩ := hr5.place (by omega) (by omega)
        have hcut0 := hr5.cut (k := p) (m := t - p) (by omega) hb0 hcell
        rw [← List.map_drop, ← List.map_take, hcut] at hcut0
        have hul := uv_len N
        have happ : Hid (appU [] N = uv N) := by show _ = _; rw [appU_yes (by simp [inR]; omega)]; rfl
        have hf2 : (t : Int) ≤ (y.length : Int) := by omega
        have hf3 : (p : Int) < (t : Int) := by omega
        have hf4 : (0 : Int) ≤ (p : Int) := by omega
        have hf5 : (p : Int) ≤ (t : Int) := by omega
        have hf6 : (t : Int) ≤ (c5 : Int) := by omega
        have hf7 : ¬ p = c5 := by omega
        have hf8 : t ≤ c5 := by omega
        have hf9 : p ≤ t := by omega
        have hf10 : (0 : Int) ≤ (t : Int) := by omega
        have hf11 : (p : Int) ≤ (c5 : Int) := by omega
        clear hcut hru5 hzy hcell hr5
        generalize y.length = yl at *
        go_wp2_with (fail)
        go_region_held3 (fun v : World => True) (exact trivial) (first
          | (go_at_call 27; refine (appendUvarint_impl (xs := []) (q := N) _ ?_ (by omega)).mono ?_; (exact Reads.none_); rintro e w7 ⟨A7, c7, rfl, o7, b7⟩; rw [happ.out] at o7; rw [happ.out]; have b8 : Below w5.heap.size w5 w7 := (by first | exact (((Below.refl _ w5).alloc (Nat.le_refl _) _).drew).trans (b7.mono (by simp)) | exact ((Below.refl _ w5).alloc (Nat.le_refl _) _).trans (b7.mono (by simp)) | exact ((Below.refl _ w5).drew.alloc (Nat.le_refl _) _).trans (b7.mono (by simp))); have hc7 := hcut0.next b8)
          | (go_at_call 9; refine (sameBytes_any (xs := uv N) (ys := uv N) _ ?_ ?_ (by omega)).mono ?_; (exact o7.rd.keep fun _ _ => rfl); (exact hc7.keep fun _ _ => rfl); rintro e w8 ⟨rfl, b9⟩; rw [eqL_self]))
        all_goals
          go_wp2
          go_ret
          exact ⟨by first | rfl | simp, (hb.trans (b8.mono hb.size)).trans (b9.mono (Nat.le_trans hb.size b8.size))⟩
    · have happ : appU b q = b := appU_no (by simp only [inR, Bool.and_eq_false_iff, decide_eq_false_iff_not]; omega)
      rw [happ] at hr2 hlen
      rw [happ]
      have hru := readU_end b
      go_wp2_with (fail)
      go_at_call 28
      refine (readUvarint_impl _ hr2 (by omega) hzb (by omega) (by omega)).mono ?_
      rintro e w3 ⟨he, rfl⟩
      rw [ruE_isnt hru] at he
      subst he
      by_cases hneg : q < 0
      · go_wp2_with (fail)
        go_at_call 9
        refine (sameBytes_any _ hr2 hr1 (by omega)).mono ?_
        rintro e w4 ⟨rfl, b4⟩
        rw [eqL_self]
        replace hb := hb.trans (b4.mono hb.size)
        clear b4 hr2 hr1
        go_wp2_with (fail)
        go_at_call 29
        refine (drawReadUvarint_any _ (hx.next hb) hn hz).mono ?_
        rintro e w5 ⟨A5, c5, y, off, hy8, hyc, hof1, hof2, rfl, hr5, hzy, b5⟩
        replace hb := hb.trans (b5.mono hb.size)
        clear b5 hx hz hzb
        go_wp2_with (fail)
        go_at_call 28
        refine (readUvarint_impl _ hr5 (by omega) hzy (by omega) (by omega)).mono ?_
        rintro e w6 ⟨he, rfl⟩
        cases hru5 : readU y off with
        | none =>
          rw [ruE_isnt hru5] at he
          subst he
          go_wp2_with (fail)
          go_at_call 30
          refine (readUvarint_spec _ hr5 (by omega) hzy (by omega) (by omega)).mono ?_
          rintro e w6 ⟨he, rfl⟩
          rw [ruE_isnt hru5] at he
          subst he
          go_wp2
          go_ret
          exact ⟨by first | rfl | simp, hb⟩
        | some r =>
          obtain ⟨N, a⟩ := r
          rw [ruE_is hru5] at he
          subst he
          obtain ⟨p, t, rfl, rfl, hpt, hty, hcut, hN0, hN1⟩ := readU_can hzy hru5
          obtain ⟨b0, off0, rfl, hb0, hcell⟩ := hr5.place (by omega) (by omega)
          have hcut0 := hr5.cut (k := p) (m := t - p) (by omega) hb0 hcell
          rw [← List.map_drop, ← List.map_take, hcut] at hcut0
          have hul := uv_len N
          have happ : Hid (appU [] N = uv N) := by show _ = _; rw [appU_yes (by simp [inR]; omega)]; rfl
          have hf2 : (t : Int) ≤ (y.length : Int) := by omega
          have hf3 : (p : Int) < (t : Int) := by omega
          have hf4 : (0 : Int) ≤ (p : Int) := by omega
          have hf5 : (p : Int) ≤ (t : Int) := by omega
          have hf6 : (t : Int) ≤ (c5 : Int) := by omega
          have hf7 : ¬ p = c5 := by omega
          have hf8 : t ≤ c5 := by omega
          have hf9 : p ≤ t := by omega
          have hf10 : (0 : Int) ≤ (t : Int) := by omega
          have hf11 : (p : Int) ≤ (c5 : Int) := by omega
          clear hcut hru5 hzy hcell hr5
          generalize y.length = yl at *
          go_wp2_with (fail)
          go_region_held3 (fun v : World => True) (exact trivial) (first
            | (go_at_call 27; refine (appendUvarint_impl (xs := []) (q := N) _ ?_ (by omega)).mono ?_; (exact Reads.none_); rintro e w7 ⟨A7, c7, rfl, o7, b7⟩; rw [happ.out] at o7; rw [happ.out]; have b8 : Below w5.heap.size w5 w7 := (by first | exact (((Below.refl _ w5).alloc (Nat.le_refl _) _).drew).trans (b7.mono (by simp)) | exact ((Below.refl _ w5).alloc (Nat.le_refl _) _).trans (b7.mono (by simp)) | exact ((Below.refl _ w5).drew.alloc (Nat.le_refl _) _).trans (b7.mono (by simp))); have hc7 := hcut0.next b8)
            | (go_at_call 9; refine (sameBytes_any (xs := uv N) (ys := uv N) _ ?_ ?_ (by omega)).mono ?_; (exact o7.rd.keep fun _ _ => rfl); (exact hc7.keep fun _ _ => rfl); rintro e w8 ⟨rfl, b9⟩; rw [eqL_self]))
          all_goals
            go_wp2
            go_ret
            exact ⟨by first | rfl | simp, (hb.trans (b8.mono hb.size)).trans (b9.mono (Nat.le_trans hb.size b8.size))⟩
      · have hbig : 1000000000000 < q := by omega
        go_wp2_with (fail)
        go_at_call 9
        refine (sameBytes_any _ hr2 hr1 (by omega)).mono ?_
        rintro e w4 ⟨rfl, b4⟩
        rw [eqL_self]
        replace hb := hb.trans (b4.mono hb.size)
        clear b4 hr2 hr1
        go_wp2_with (fail)
        go_at_call 29
        refine (drawReadUvarint_any _ (hx.next hb) hn hz).mono ?_
        rintro e w5 ⟨A5, c5, y, off, hy8, hyc, hof1, hof2, rfl, hr5, hzy, b5⟩
        replace hb := hb.trans (b5.mono hb.size)
        clear b5 hx hz hzb
        go_wp2_with (fail)
        go_at_call 28
        refine (readUvarint_impl _ hr5 (by omega) hzy (by omega) (by omega)).mono ?_
        rintro e w6 ⟨he, rfl⟩
        cases hru5 : readU y off with
        | none =>
          rw [ruE_isnt hru5] at he
          subst he
          go_wp2_with (fail)
          go_at_call 30
          refine (readUvarint_spec _ hr5 (by omega) hzy (by omega) (by omega)).mono ?_
          rintro e w6 ⟨he, rfl⟩
          rw [ruE_isnt hru5] at he
          subst he
          go_wp2
          go_ret
          exact ⟨by first | rfl | simp, hb⟩
        | some r =>
          obtain ⟨N, a⟩ := r
          rw [ruE_is hru5] at he
          subst he
          obtain ⟨p, t, rfl, rfl, hpt, hty, hcut, hN0, hN1⟩ := readU_can hzy hru5
          obtain ⟨b0, off0, rfl, hb0, hcell⟩ := hr5.place (by omega) (by omega)
          have hcut0 := hr5.cut (k := p) (m := t - p) (by omega) hb0 hcell
          rw [← List.map_drop, ← List.map_take, hcut] at hcut0
          have hul := uv_len N
          have happ : Hid (appU [] N = uv N) := by show _ = _; rw [appU_yes (by simp [inR]; omega)]; rfl
          have hf2 : (t : Int) ≤ (y.length : Int) := by omega
          have hf3 : (p : Int) < (t : Int) := by omega
          have hf4 : (0 : Int) ≤ (p : Int) := by omega
          have hf5 : (p : Int) ≤ (t : Int) := by omega
          have hf6 : (t : Int) ≤ (c5 : Int) := by omega
          have hf7 : ¬ p = c5 := by omega
          have hf8 : t ≤ c5 := by omega
          have hf9 : p ≤ t := by omega
          have hf10 : (0 : Int) ≤ (t : Int) := by omega
          have hf11 : (p : Int) ≤ (c5 : Int) := by omega
          clear hcut hru5 hzy hcell hr5
          generalize y.length = yl at *
          go_wp2_with (fail)
          go_region_held3 (fun v : World => True) (exact trivial) (first
            | (go_at_call 27; refine (appendUvarint_impl (xs := []) (q := N) _ ?_ (by omega)).mono ?_; (exact Reads.none_); rintro e w7 ⟨A7, c7, rfl, o7, b7⟩; rw [happ.out] at o7; rw [happ.out]; have b8 : Below w5.heap.size w5 w7 := (by first | exact (((Below.refl _ w5).alloc (Nat.le_refl _) _).drew).trans (b7.mono (by simp)) | exact ((Below.refl _ w5).alloc (Nat.le_refl _) _).trans (b7.mono (by simp)) | exact ((Below.refl _ w5).drew.alloc (Nat.le_refl _) _).trans (b7.mono (by simp))); have hc7 := hcut0.next b8)
            | (go_at_call 9; refine (sameBytes_any (xs := uv N) (ys := uv N) _ ?_ ?_ (by omega)).mono ?_; (exact o7.rd.keep fun _ _ => rfl); (exact hc7.keep fun _ _ => rfl); rintro e w8 ⟨rfl, b9⟩; rw [eqL_self]))
          all_goals
            go_wp2
            go_ret
            exact ⟨by first | rfl | simp, (hb.trans (b8.mono hb.size)).trans (b9.mono (Nat.le_trans hb.size b8.size))⟩
  · go_enter Try.func6, Try.ntmps6
    go_wp2_with (go_at_call 7; refine (big_yes _ hn hm).mono ?_; rintro e w0 ⟨rfl, rfl⟩)
    go_ret
    exact ⟨rfl, Below.refl _ _⟩
end Go.Proofs.Ytifghjkiodnehaa
