/-
  The law FnAddrs: its walk. No condition.
-/
import Derived.Test.YtpehaoamfifgbaaFaf
import Derived.Test.YtpehaoamfifgbaaHas
import Derived.Test.YtpehaoamfifgbaaSu
import Derived.Deep.Cut
import Derived.Deep.CutRange
import Derived.Deep.RegionWith
import Derived.Deep.RegionHeld3
namespace Go.Proofs.Ytpehaoamfifgbaa
set_option linter.unusedVariables false
set_option linter.unusedSimpArgs false
set_option maxRecDepth 100000
open Go.ChangeShapes Go.WideShapes Go.ChangeAt Go.RowKit Go.Deep

theorem nameB_le {s : ByteArray} (h : nameB s = true) : s.size ≤ 8 := by
  unfold nameB at h
  simp only [Bool.and_eq_true, decide_eq_true_eq] at h
  exact h.2.2
theorem zA_size (c : S2) : (zA c).1.size ≤ 8 ∧ (zA c).2.size ≤ 8 := by
  unfold zA
  split
  · rename_i h
    unfold isA at h
    rw [Bool.and_eq_true] at h
    exact ⟨nameB_le h.1, nameB_le h.2⟩
  · have : (⟨#[]⟩ : ByteArray).size = 0 := rfl
    exact ⟨by show (⟨#[]⟩ : ByteArray).size ≤ 8; omega, by show (⟨#[]⟩ : ByteArray).size ≤ 8; omega⟩
theorem eqIn_same (y0 y1 : ByteArray) (w : World) : (Op.equalIn 10000 25 (.agg #[.string y0, .string y1]) (.agg #[.string y0, .string y1])).run Try.prog w = .ok true w := by
  have h := eqIn_Addr (y0, y1) (y0, y1) w
  rw [show s2eq (y0, y1) (y0, y1) = true by rw [s2eq_iff]; simp] at h
  exact h
set_option maxHeartbeats 16000000 in
theorem addrs_walk (w : World) (A : Option Addr) (n c : Nat) (zs : List Int) (ha : ArgInts .u8 w A n zs) : Calls Try.prog 3 #[.slice A n c] w fun e w' => e = .returned (.bool true) ∧ Below w.heap.size w w' := by
  obtain ⟨hl, hmx, hx, hwf⟩ := ha
  have hz : ∀ z ∈ zs, 0 ≤ z ∧ z ≤ 255 := u8_all hwf
  clear hwf hl
  by_cases hn : n ≤ 1048576
  · go_enter Try.func3, Try.ntmps3
    go_wp2_with (fail)
    go_at_call 5
    refine (big_no _ hn).mono ?_
    rintro e w0 ⟨rfl, rfl⟩
    go_wp2_with (fail)
    go_at_call 6
    refine (drawFormatAddr_any _ hx hn hz).mono ?_
    rintro e w1 ⟨⟨a0, a1⟩, ⟨hs0, hs1⟩, rfl, hb⟩
    simp only at hs0 hs1
    replace hx := hx.next hb
    have bx3 := BoxAt.new (w := w1) rfl [.string a0, .string a1] 25
    have al := (Below.refl w1.heap.size w1).alloc (Nat.le_refl _) (.cells #[.string a0, .string a1] 25)
    replace hx := hx.next al
    replace hb := Below.trans hb (al.mono (Below.size hb))
    clear al
    have hfz := fmtA_size (a := (a0, a1)) ⟨hs0, hs1⟩
    have hF := fun W => formatAddr_impl (a0, a1) (by simp only; omega) (by simp only; omega) W
    obtain ⟨hP1, hP2⟩ := fmt_back (a0, a1) ⟨#[104, 111, 109, 101]⟩
    have hP := fun W => parseAddr_impl (fmtA (a0, a1)) ⟨#[104, 111, 109, 101]⟩ (by omega) (by decide) W
    simp only [retA_zA] at hP
    rw [hP1] at hP
    have hI : Hid (∀ W : World, Calls Try.prog 11 #[.agg #[.string a0, .string a1]] W fun e w' => e = .returned (.bool (isA (a0, a1))) ∧ Below W.heap.size W w') := Lib.hid fun W => isAddr_impl a0 a1 (by omega) (by omega) W
    generalize zA (cutA (fmtA (a0, a1)) ⟨#[104, 111, 109, 101]⟩) = X at *
    generalize fmtA (a0, a1) = FA at *
    generalize isA (a0, a1) = o1 at *
    obtain ⟨x0, x1⟩ := X
    clear hP1
    simp only at hF hP
    have hP2' := Lib.hid hP2
    clear hP2
    obtain ⟨⟨k30, k31⟩, -⟩ := bx3.two
    go_wp2_with (fail)
    go_at_call 8
    refine (hF _).mono ?_
    rintro e w2 ⟨rfl, b2⟩
    replace hx := hx.next b2
    replace bx3 := bx3.next b2
    replace hb := Below.trans hb (b2.mono (Below.size hb))
    clear b2 k30 k31
    go_wp2_with (fail)
    go_at_call 7
    refine (hP _).mono ?_
    rintro e w3 ⟨rfl, b3⟩
    replace hx := hx.next b3
    replace bx3 := bx3.next b3
    replace hb := Below.trans hb (b3.mono (Below.size hb))
    have bx4 := BoxAt.new (w := w3) rfl [.string x0, .string x1] 25
    have al := (Below.refl w3.heap.size w3).alloc (Nat.le_refl _) (.cells #[.string x0, .string x1] 25)
    replace hx := hx.next al
    replace bx3 := bx3.next al
    replace hb := Below.trans hb (al.mono (Below.size hb))
    clear al b3 hP hF
    go_wp2_with (fail)
    go_at_call 9
    refine (drawParseAddr_any _ hx hn hz).mono ?_
    rintro e w4 ⟨s, b, hs, hbz, rfl, b4⟩
    replace hx := hx.next b4
    replace bx3 := bx3.next b4
    replace bx4 := bx4.next b4
    replace hb := Below.trans hb (b4.mono (Below.size hb))
    clear b4
    have hQ := fun W => parseAddr_impl s b (by omega) (by omega) W
    have hR := fun W => parseAddr_spec s b (by omega) (by omega) W
    simp only [retA_zA] at hQ hR
    have hz3 := Lib.hid (zA_is (c := cutA s b))
    obtain ⟨hy0, hy1⟩ := zA_size (cutA s b)
    generalize zA (cutA s b) = Y at *
    generalize isA (cutA s b) = o2 at *
    obtain ⟨y0, y1⟩ := Y
    simp only at hQ hR hy0 hy1
    go_wp2_with (fail)
    go_at_call 7
    refine (hQ _).mono ?_
    rintro e w5 ⟨rfl, b5⟩
    replace hx := hx.next b5
    replace bx3 := bx3.next b5
    replace bx4 := bx4.next b5
    replace hb := Below.trans hb (b5.mono (Below.size hb))
    have bx8 := BoxAt.new (w := w5) rfl [.string y0, .string y1] 25
    have al := (Below.refl w5.heap.size w5).alloc (Nat.le_refl _) (.cells #[.string y0, .string y1] 25)
    replace hx := hx.next al
    replace bx3 := bx3.next al
    replace bx4 := bx4.next al
    replace hb := Below.trans hb (al.mono (Below.size hb))
    clear al b5 hQ
    go_wp2_with (fail)
    go_at_call 10
    refine (hR _).mono ?_
    rintro e w6 ⟨rfl, b6⟩
    replace hx := hx.next b6
    replace bx3 := bx3.next b6
    replace bx4 := bx4.next b6
    replace bx8 := bx8.next b6
    replace hb := Below.trans hb (b6.mono (Below.size hb))
    have bx10 := BoxAt.new (w := w6) rfl [.string y0, .string y1] 25
    have al := (Below.refl w6.heap.size w6).alloc (Nat.le_refl _) (.cells #[.string y0, .string y1] 25)
    replace hx := hx.next al
    replace bx3 := bx3.next al
    replace bx4 := bx4.next al
    replace bx8 := bx8.next al
    replace hb := Below.trans hb (al.mono (Below.size hb))
    clear al b6 hR
    go_upto_region 8 with fail
    generalize w6.alloc (.cells #[.string y0, .string y1] 25) = V at *
    go_cut [74] from 45 (fun cv wx => cv = .bool false ∧ Below V.heap.size V wx)
    case first =>
      have hq1 := eqIn_same y0 y1
      have hq2 := eqIn_same a0 a1
      have hg := guard_Addr
      clear hx hz
      obtain ⟨⟨k30, k31⟩, -⟩ := bx3.two
      cases o1
      · have hI' := hI.out V
        go_wp2_with (fail)
        go_at_call 11
        refine hI'.mono ?_
        rintro e u1 ⟨rfl, c1⟩
        obtain ⟨⟨j80, j81⟩, -⟩ := (bx8.next c1).two
        obtain ⟨⟨j100, j101⟩, -⟩ := (bx10.next c1).two
        cases o2
        · go_wp2_with (fail)
          go_meet
          exact ⟨rfl, c1⟩
        · have hIy := isAddr_impl y0 y1 (by omega) (by omega) u1
          rw [show (nameB y0 && nameB y1) = true from hz3.out rfl] at hIy
          go_wp2_with (fail)
          go_at_call 11
          refine hIy.mono ?_
          rintro e u2 ⟨rfl, c2⟩
          go_wp2_with (fail)
          go_meet
          exact ⟨rfl, c1.trans (c2.mono c1.size)⟩
      · obtain ⟨rfl, rfl⟩ := Prod.mk.inj (hP2'.out rfl)
        have hI' := hI.out V
        go_wp2_with (fail)
        go_at_call 11
        refine hI'.mono ?_
        rintro e u1 ⟨rfl, c1⟩
        obtain ⟨⟨j30, j31⟩, -⟩ := (bx3.next c1).two
        obtain ⟨⟨j40, j41⟩, -⟩ := (bx4.next c1).two
        obtain ⟨⟨j80, j81⟩, -⟩ := (bx8.next c1).two
        obtain ⟨⟨j100, j101⟩, -⟩ := (bx10.next c1).two
        cases o2
        · go_wp2_with (fail)
          go_meet
          exact ⟨rfl, c1⟩
        · have hIy := isAddr_impl y0 y1 (by omega) (by omega) u1
          rw [show (nameB y0 && nameB y1) = true from hz3.out rfl] at hIy
          go_wp2_with (fail)
          go_at_call 11
          refine hIy.mono ?_
          rintro e u2 ⟨rfl, c2⟩
          go_wp2_with (fail)
          go_meet
          exact ⟨rfl, c1.trans (c2.mono c1.size)⟩
    case rest =>
      obtain ⟨rfl, bc⟩ := hcut
      replace hx := hx.next bc
      replace hb := Below.trans hb (bc.mono (Below.size hb))
      clear bx3 bx4 bx8 bx10 bc hI hz3 hP2'
      go_wp2_with (fail)
      go_at_call 12
      refine (drawSortAddrs_any _ hx hn hz).mono ?_
      rintro e w8 ⟨A8, c8, l, hll, rfl, hrl, b8⟩
      replace hx := hx.next b8
      replace hb := Below.trans hb (b8.mono (Below.size hb))
      clear b8
      go_wp2_with (fail)
      go_at_call 13
      refine (sortAddrs_impl _ hrl (by omega)).mono ?_
      rintro e w9 ⟨x, A9, c9, hso, hxl, rfl, ho, b9⟩
      replace hx := hx.next b9
      replace hrl := hrl.next b9
      have hrx := ho.reads (Nat.le_refl _)
      replace hb := Below.trans hb (b9.mono (Below.size hb))
      clear b9 ho
      have hso' := Lib.hid hso
      clear hso
      go_wp2_with (fail)
      go_loopw [14] (fun i wr => ∃ k : Nat, k ≤ x.length ∧ i = .int .i64 k ∧ Below w9.heap.size w9 wr) (fun i _ => x.length - (intOf i).toNat)
      case atStart => exact ⟨0, Nat.zero_le _, rfl, Below.refl _ _⟩
      case round =>
        obtain ⟨k, hk, rfl, hbel⟩ := hrel
        by_cases hlt : k < x.length
        · have hkI : (k : Int) < (x.length : Int) := by omega
          have hk0I : (0 : Int) ≤ (k : Int) := by omega
          have hrx' := hrx.next hbel
          have hrl' := hrl.next hbel
          obtain ⟨b1, f1, rfl, hb1, hcx⟩ := hrx'.two hlt
          obtain ⟨g0, g1⟩ := hcx hlt
          have hin : hasA l x[k] = true := hasA_iff.2 ((hso'.out.mem _).1 (List.getElem_mem _))
          have hpw : Hid (∀ j (h : j < x.length), j + 1 = k → cmpA x[j] x[k] < 0) := Lib.hid fun j h e => List.pairwise_iff_getElem.1 hso'.out.srt j k h hlt (by omega)
          clear hcx
          generalize x[k] = t at *
          obtain ⟨t0, t1⟩ := t
          simp only at g0 g1
          have hhas : Hid (∀ W : World, Reads W W.heap.size 2 A8 l.length (s2V l) → Calls Try.prog 15 #[.slice A8 l.length c8, .agg #[.string t0, .string t1]] W fun e w' => e = .returned (.bool true) ∧ Below W.heap.size W w') := Lib.hid fun W h => by
            have h2 := hasAddr_impl (c := c8) (t0, t1) W h (by omega)
            rw [hin] at h2
            exact h2
          go_upto_region 15 with fail
          go_cut [108] from 79 to 108 (fun cv wx => cv = .bool false ∧ Below wr.heap.size wr wx)
          case rest =>
            obtain ⟨rfl, bx⟩ := hcut
            go_wp2
            go_roundw
            case rel => first | exact ⟨k + 1, by omega, by go_num, hbel.trans (bx.mono hbel.size)⟩ | ((repeat apply Exists.intro); exact ⟨⟨k + 1, by omega, by go_num, hbel.trans (bx.mono hbel.size)⟩, rfl⟩)
            case measure => simp [intOf]; omega
          clear hx hz hb hso' hrl hrx hin hlt hbel
          by_cases hk0 : k = 0
          · subst hk0
            simp only [Nat.zero_mul, Nat.add_zero] at g0 g1
            have hd0 : decide ((0 : Int) < 0) = false := by simp
            have hk8 : (0 : Int) ≤ 0 := Int.le_refl _
            have hk9 : (0 : Int) < (x.length : Int) := by omega
            have hk9n : 0 < x.length := by omega
            have hS : Hid (∀ W : World, Below wr.heap.size wr W → (W.cell? ⟨b1, f1, none⟩ = some (.string t0) ∧ W.cell? ⟨b1, f1 + 1, none⟩ = some (.string t1))) := Lib.hid fun W hW => ⟨(hW.cell (p := ⟨b1, _, none⟩) hb1).trans g0, (hW.cell (p := ⟨b1, _, none⟩) hb1).trans g1⟩
            refine wp_region_held_drew (S := fun v : World => v.cell? ⟨b1, f1, none⟩ = some (.string t0) ∧ v.cell? ⟨b1, f1 + 1, none⟩ = some (.string t1)) (by kernel_rfl) (hS.out _ (Below.refl _ _).drew) ?_
            intro hSd
            try simp only [List.replicate, Array.replicate]
            refine wpAnyH_take (i := 0) (v := ?_) rfl (by kernel_rfl) (by kernel_rfl) (by kernel_rfl) (fun _ _ _ h => h) (Or.inl ⟨by rfl, ?_⟩) (by assumption) ?_
            rotate_left 1
            · intro wS hSw; (try dsimp only at hSw); go_simp
              all_goals with_reducible rfl
            try simp only [Act.put, List.getElem_toArray, List.getElem_cons_succ, List.getElem_cons_zero, List.setIfInBounds_toArray, List.set_cons_zero, List.set_cons_succ]
            refine wpAnyH_take (i := 1) (v := ?_) rfl (by kernel_rfl) (by kernel_rfl) (by kernel_rfl) (fun _ _ _ h => h) (Or.inl ⟨by rfl, ?_⟩) (by assumption) ?_
            rotate_left 1
            · intro wS hSw; (try dsimp only at hSw); go_simp
              all_goals with_reducible rfl
            try simp only [Act.put, List.getElem_toArray, List.getElem_cons_succ, List.getElem_cons_zero, List.setIfInBounds_toArray, List.set_cons_zero, List.set_cons_succ]
            refine wpAnyH_take (i := 2) (v := ?_) rfl (by kernel_rfl) (by kernel_rfl) (by kernel_rfl) (fun _ _ _ h => h) (Or.inl ⟨by rfl, ?_⟩) (by assumption) ?_
            rotate_left 1
            · intro wS hSw; (try dsimp only at hSw); go_simp
              all_goals with_reducible rfl
            try simp only [Act.put, List.getElem_toArray, List.getElem_cons_succ, List.getElem_cons_zero, List.setIfInBounds_toArray, List.set_cons_zero, List.set_cons_succ]
            refine wpAnyH_take (i := 3) (v := undef) rfl (by kernel_rfl) (by kernel_rfl) (by kernel_rfl) (fun _ _ _ h => h) (Or.inr ⟨by rfl, rfl⟩) (by assumption) ?_
            try simp only [Act.put, List.getElem_toArray, List.getElem_cons_succ, List.getElem_cons_zero, List.setIfInBounds_toArray, List.set_cons_zero, List.set_cons_succ]
            refine wpAnyH_take (i := 4) (v := undef) rfl (by kernel_rfl) (by kernel_rfl) (by kernel_rfl) (fun _ _ _ h => h) (Or.inr ⟨by rfl, rfl⟩) (by assumption) ?_
            try simp only [Act.put, List.getElem_toArray, List.getElem_cons_succ, List.getElem_cons_zero, List.setIfInBounds_toArray, List.set_cons_zero, List.set_cons_succ]
            refine wpAnyH_take (i := 5) (v := undef) rfl (by kernel_rfl) (by kernel_rfl) (by kernel_rfl) (fun _ _ _ h => h) (Or.inr ⟨by rfl, rfl⟩) (by assumption) ?_
            try simp only [Act.put, List.getElem_toArray, List.getElem_cons_succ, List.getElem_cons_zero, List.setIfInBounds_toArray, List.set_cons_zero, List.set_cons_succ]
            refine wpAnyH_take (i := 6) (v := undef) rfl (by kernel_rfl) (by kernel_rfl) (by kernel_rfl) (fun _ _ _ h => h) (Or.inr ⟨by rfl, rfl⟩) (by assumption) ?_
            try simp only [Act.put, List.getElem_toArray, List.getElem_cons_succ, List.getElem_cons_zero, List.setIfInBounds_toArray, List.set_cons_zero, List.set_cons_succ]
            refine wpAnyH_take (i := 7) (v := undef) rfl (by kernel_rfl) (by kernel_rfl) (by kernel_rfl) (fun _ _ _ h => h) (Or.inr ⟨by rfl, rfl⟩) (by assumption) ?_
            try simp only [Act.put, List.getElem_toArray, List.getElem_cons_succ, List.getElem_cons_zero, List.setIfInBounds_toArray, List.set_cons_zero, List.set_cons_succ]
            refine wpAnyH_take (i := 8) (v := undef) rfl (by kernel_rfl) (by kernel_rfl) (by kernel_rfl) (fun _ _ _ h => h) (Or.inr ⟨by rfl, rfl⟩) (by assumption) ?_
            try simp only [Act.put, List.getElem_toArray, List.getElem_cons_succ, List.getElem_cons_zero, List.setIfInBounds_toArray, List.set_cons_zero, List.set_cons_succ]
            refine wpAnyH_take (i := 9) (v := undef) rfl (by kernel_rfl) (by kernel_rfl) (by kernel_rfl) (fun _ _ _ h => h) (Or.inr ⟨by rfl, rfl⟩) (by assumption) ?_
            try simp only [Act.put, List.getElem_toArray, List.getElem_cons_succ, List.getElem_cons_zero, List.setIfInBounds_toArray, List.set_cons_zero, List.set_cons_succ]
            refine wpAnyH_take (i := 10) (v := undef) rfl (by kernel_rfl) (by kernel_rfl) (by kernel_rfl) (fun _ _ _ h => h) (Or.inr ⟨by rfl, rfl⟩) (by assumption) ?_
            try simp only [Act.put, List.getElem_toArray, List.getElem_cons_succ, List.getElem_cons_zero, List.setIfInBounds_toArray, List.set_cons_zero, List.set_cons_succ]
            refine wpAnyH_take (i := 11) (v := undef) rfl (by kernel_rfl) (by kernel_rfl) (by kernel_rfl) (fun _ _ _ h => h) (Or.inr ⟨by rfl, rfl⟩) (by assumption) ?_
            try simp only [Act.put, List.getElem_toArray, List.getElem_cons_succ, List.getElem_cons_zero, List.setIfInBounds_toArray, List.set_cons_zero, List.set_cons_succ]
            refine wpAnyH_take (i := 12) (v := undef) rfl (by kernel_rfl) (by kernel_rfl) (by kernel_rfl) (fun _ _ _ h => h) (Or.inr ⟨by rfl, rfl⟩) (by assumption) ?_
            try simp only [Act.put, List.getElem_toArray, List.getElem_cons_succ, List.getElem_cons_zero, List.setIfInBounds_toArray, List.set_cons_zero, List.set_cons_succ]
            refine wpAnyH_take (i := 13) (v := undef) rfl (by kernel_rfl) (by kernel_rfl) (by kernel_rfl) (fun _ _ _ h => h) (Or.inr ⟨by rfl, rfl⟩) (by assumption) ?_
            try simp only [Act.put, List.getElem_toArray, List.getElem_cons_succ, List.getElem_cons_zero, List.setIfInBounds_toArray, List.set_cons_zero, List.set_cons_succ]
            refine wpAnyH_take (i := 14) (v := ?_) rfl (by kernel_rfl) (by kernel_rfl) (by kernel_rfl) (fun _ _ _ h => h) (Or.inl ⟨by rfl, ?_⟩) (by assumption) ?_
            rotate_left 1
            · intro wS hSw; (try dsimp only at hSw); go_simp
              all_goals with_reducible rfl
            try simp only [Act.put, List.getElem_toArray, List.getElem_cons_succ, List.getElem_cons_zero, List.setIfInBounds_toArray, List.set_cons_zero, List.set_cons_succ]
            refine wpAnyH_take (i := 15) (v := ?_) rfl (by kernel_rfl) (by kernel_rfl) (by kernel_rfl) (fun _ _ _ h => h) (Or.inl ⟨by rfl, ?_⟩) (by assumption) ?_
            rotate_left 1
            · intro wS hSw; (try dsimp only at hSw); go_simp
              all_goals with_reducible rfl
            try simp only [Act.put, List.getElem_toArray, List.getElem_cons_succ, List.getElem_cons_zero, List.setIfInBounds_toArray, List.set_cons_zero, List.set_cons_succ]
            refine wpAnyH_take (i := 16) (v := ?_) rfl (by kernel_rfl) (by kernel_rfl) (by kernel_rfl) (fun _ _ _ h => h) (Or.inl ⟨by rfl, ?_⟩) (by assumption) ?_
            rotate_left 1
            · intro wS hSw; (try dsimp only at hSw); go_simp
              all_goals with_reducible rfl
            try simp only [Act.put, List.getElem_toArray, List.getElem_cons_succ, List.getElem_cons_zero, List.setIfInBounds_toArray, List.set_cons_zero, List.set_cons_succ]
            refine wpAnyH_take (i := 17) (v := ?_) rfl (by kernel_rfl) (by kernel_rfl) (by kernel_rfl) (fun _ _ _ h => h) (Or.inl ⟨by rfl, ?_⟩) (by assumption) ?_
            rotate_left 1
            · intro wS hSw; (try dsimp only at hSw); go_simp
              all_goals with_reducible rfl
            try simp only [Act.put, List.getElem_toArray, List.getElem_cons_succ, List.getElem_cons_zero, List.setIfInBounds_toArray, List.set_cons_zero, List.set_cons_succ]
            refine wpAnyH_take (i := 18) (v := ?_) rfl (by kernel_rfl) (by kernel_rfl) (by kernel_rfl) (fun _ _ _ h => h) (Or.inl ⟨by rfl, ?_⟩) (by assumption) ?_
            rotate_left 1
            · intro wS hSw; (try dsimp only at hSw); go_simp
              all_goals with_reducible rfl
            try simp only [Act.put, List.getElem_toArray, List.getElem_cons_succ, List.getElem_cons_zero, List.setIfInBounds_toArray, List.set_cons_zero, List.set_cons_succ]
            refine wpAnyH_take (i := 19) (v := ?_) rfl (by kernel_rfl) (by kernel_rfl) (by kernel_rfl) (fun _ _ _ h => h) (Or.inl ⟨by rfl, ?_⟩) (by assumption) ?_
            rotate_left 1
            · intro wS hSw; (try dsimp only at hSw); go_simp
              all_goals with_reducible rfl
            try simp only [Act.put, List.getElem_toArray, List.getElem_cons_succ, List.getElem_cons_zero, List.setIfInBounds_toArray, List.set_cons_zero, List.set_cons_succ]
            refine wpAnyH_take (i := 20) (v := ?_) rfl (by kernel_rfl) (by kernel_rfl) (by kernel_rfl) (fun _ _ _ h => h) (Or.inl ⟨by rfl, ?_⟩) (by assumption) ?_
            rotate_left 1
            · intro wS hSw; (try dsimp only at hSw); go_simp
              all_goals with_reducible rfl
            try simp only [Act.put, List.getElem_toArray, List.getElem_cons_succ, List.getElem_cons_zero, List.setIfInBounds_toArray, List.set_cons_zero, List.set_cons_succ]
            refine wpAnyH_ready (rs := [21]) (by kernel_rfl) (by simp) ?_
            refine AllReadyH.cons rfl (fun K hK => ?_) AllReadyH.nil
            go_simp
            refine (hhas.out _ (by first | exact hrl' | exact hrl'.drew)).mono ?_
            rintro e w1' ⟨rfl, b1⟩
            have v1 : Below wr.heap.size wr w1' := by first | exact (Below.refl _ wr).drew.trans b1 | exact b1
            refine hK.out _ _ (hS.out _ v1) (fun hSe1 => ?_)
            clear hK K
            try simp only [Act.put, List.getElem_toArray, List.getElem_cons_succ, List.getElem_cons_zero, List.setIfInBounds_toArray, List.set_cons_zero, List.set_cons_succ]
            refine wpAnyH_take (i := 22) (v := ?_) rfl (by kernel_rfl) (by kernel_rfl) (by kernel_rfl) (fun _ _ _ h => h) (Or.inl ⟨by rfl, ?_⟩) (by assumption) ?_
            rotate_left 1
            · intro wS hSw; (try dsimp only at hSw); go_simp
              all_goals with_reducible rfl
            try simp only [Act.put, List.getElem_toArray, List.getElem_cons_succ, List.getElem_cons_zero, List.setIfInBounds_toArray, List.set_cons_zero, List.set_cons_succ]
            refine wpAnyH_take (i := 23) (v := ?_) rfl (by kernel_rfl) (by kernel_rfl) (by kernel_rfl) (fun _ _ _ h => h) (Or.inl ⟨by rfl, ?_⟩) (by assumption) ?_
            rotate_left 1
            · intro wS hSw; (try dsimp only at hSw); go_simp
              all_goals with_reducible rfl
            try simp only [Act.put, List.getElem_toArray, List.getElem_cons_succ, List.getElem_cons_zero, List.setIfInBounds_toArray, List.set_cons_zero, List.set_cons_succ]
            refine wpAnyH_done (by kernel_rfl) ?_ _
            go_wp2_with fail
            go_meet
            exact ⟨rfl, v1⟩
          obtain ⟨p, rfl⟩ : ∃ p, k = p + 1 := ⟨k - 1, by omega⟩
          have hpx : p < x.length := by omega
          obtain ⟨b1', f1', hA, hb1', hcx⟩ := hrx'.two (k := p) hpx
          injection hA with hA
          injection hA with hA1 hA2
          subst hA1 hA2
          obtain ⟨q0, q1⟩ := hcx hpx
          have hc1 : cmpA x[p] (t0, t1) = -1 := by
            have h1 := hpw.out p hpx rfl
            rcases cmpA_vals x[p] (t0, t1) with k | ⟨k, -⟩ | k
            · exact k
            · omega
            · omega
          clear hcx
          generalize x[p] = u at *
          obtain ⟨u0, u1⟩ := u
          simp only at q0 q1
          have hcmp : Hid (∀ W : World, Calls Try.prog 14 #[.agg #[.string u0, .string u1], .agg #[.string t0, .string t1]] W fun e w' => e = .returned (.int .i64 (-1)) ∧ Below W.heap.size W w') := Lib.hid fun W => by
            have h := compareAddrs_impl (u0, u1) (t0, t1) W
            rw [hc1] at h
            exact h
          have hd1 : decide ((0 : Int) < (p : Int) + 1) = true := by first | (simp; done) | (simp; omega)
          have hd2 : (0 : Int) < (p : Int) + 1 := by omega
          have hp0 : (0 : Int) ≤ (p : Int) := by omega
          have hp8 : (0 : Int) ≤ (p : Int) + 1 := by omega
          have hp9 : (p : Int) + 1 < (x.length : Int) := by omega
          have hp1 : (p : Int) < (x.length : Int) := by omega
          have hw1 : IntKind.i64.wrap ((p : Int) + 1 - 1) = (p : Int) := by rw [IntKind.wrap_i64]; omega
          have hw2 : IntKind.i64.wrap (p : Int) = (p : Int) := by rw [IntKind.wrap_i64]; omega
          have hS : Hid (∀ W : World, Below wr.heap.size wr W → (W.cell? ⟨b1, f1 + (p + 1) * 2, none⟩ = some (.string t0) ∧ W.cell? ⟨b1, f1 + (p + 1) * 2 + 1, none⟩ = some (.string t1) ∧ W.cell? ⟨b1, f1 + p * 2, none⟩ = some (.string u0) ∧ W.cell? ⟨b1, f1 + p * 2 + 1, none⟩ = some (.string u1))) := Lib.hid fun W hW => ⟨(hW.cell (p := ⟨b1, _, none⟩) hb1).trans g0, (hW.cell (p := ⟨b1, _, none⟩) hb1).trans g1, (hW.cell (p := ⟨b1, _, none⟩) hb1).trans q0, (hW.cell (p := ⟨b1, _, none⟩) hb1).trans q1⟩
          clear hc1 hpw
          refine wp_region_held_drew (S := fun v : World => v.cell? ⟨b1, f1 + (p + 1) * 2, none⟩ = some (.string t0) ∧ v.cell? ⟨b1, f1 + (p + 1) * 2 + 1, none⟩ = some (.string t1) ∧ v.cell? ⟨b1, f1 + p * 2, none⟩ = some (.string u0) ∧ v.cell? ⟨b1, f1 + p * 2 + 1, none⟩ = some (.string u1)) (by kernel_rfl) (hS.out _ (Below.refl _ _).drew) ?_
          intro hSd
          try simp only [List.replicate, Array.replicate]
          refine wpAnyH_take (i := 0) (v := ?_) rfl (by kernel_rfl) (by kernel_rfl) (by kernel_rfl) (fun _ _ _ h => h) (Or.inl ⟨by rfl, ?_⟩) (by assumption) ?_
          rotate_left 1
          · intro wS hSw; (try dsimp only at hSw); go_simp
            all_goals with_reducible rfl
          try simp only [Act.put, List.getElem_toArray, List.getElem_cons_succ, List.getElem_cons_zero, List.setIfInBounds_toArray, List.set_cons_zero, List.set_cons_succ]
          refine wpAnyH_take (i := 1) (v := ?_) rfl (by kernel_rfl) (by kernel_rfl) (by kernel_rfl) (fun _ _ _ h => h) (Or.inl ⟨by rfl, ?_⟩) (by assumption) ?_
          rotate_left 1
          · intro wS hSw; (try dsimp only at hSw); go_simp
            all_goals with_reducible rfl
          try simp only [Act.put, List.getElem_toArray, List.getElem_cons_succ, List.getElem_cons_zero, List.setIfInBounds_toArray, List.set_cons_zero, List.set_cons_succ]
          refine wpAnyH_take (i := 2) (v := ?_) rfl (by kernel_rfl) (by kernel_rfl) (by kernel_rfl) (fun _ _ _ h => h) (Or.inl ⟨by rfl, ?_⟩) (by assumption) ?_
          rotate_left 1
          · intro wS hSw; (try dsimp only at hSw); go_simp
            all_goals with_reducible rfl
          try simp only [Act.put, List.getElem_toArray, List.getElem_cons_succ, List.getElem_cons_zero, List.setIfInBounds_toArray, List.set_cons_zero, List.set_cons_succ]
          refine wpAnyH_take (i := 3) (v := ?_) rfl (by kernel_rfl) (by kernel_rfl) (by kernel_rfl) (fun _ _ _ h => h) (Or.inl ⟨by rfl, ?_⟩) (by assumption) ?_
          rotate_left 1
          · intro wS hSw; (try dsimp only at hSw); go_simp
            all_goals with_reducible rfl
          try simp only [Act.put, List.getElem_toArray, List.getElem_cons_succ, List.getElem_cons_zero, List.setIfInBounds_toArray, List.set_cons_zero, List.set_cons_succ]
          refine wpAnyH_take (i := 4) (v := ?_) rfl (by kernel_rfl) (by kernel_rfl) (by kernel_rfl) (fun _ _ _ h => h) (Or.inl ⟨by rfl, ?_⟩) (by assumption) ?_
          rotate_left 1
          · intro wS hSw; (try dsimp only at hSw); go_simp
            all_goals with_reducible rfl
          try simp only [Act.put, List.getElem_toArray, List.getElem_cons_succ, List.getElem_cons_zero, List.setIfInBounds_toArray, List.set_cons_zero, List.set_cons_succ]
          refine wpAnyH_take (i := 5) (v := ?_) rfl (by kernel_rfl) (by kernel_rfl) (by kernel_rfl) (fun _ _ _ h => h) (Or.inl ⟨by rfl, ?_⟩) (by assumption) ?_
          rotate_left 1
          · intro wS hSw; (try dsimp only at hSw); go_simp
            all_goals with_reducible rfl
          try simp only [Act.put, List.getElem_toArray, List.getElem_cons_succ, List.getElem_cons_zero, List.setIfInBounds_toArray, List.set_cons_zero, List.set_cons_succ]
          refine wpAnyH_take (i := 6) (v := ?_) rfl (by kernel_rfl) (by kernel_rfl) (by kernel_rfl) (fun _ _ _ h => h) (Or.inl ⟨by rfl, ?_⟩) (by assumption) ?_
          rotate_left 1
          · intro wS hSw; (try dsimp only at hSw); go_simp
            all_goals with_reducible rfl
          try simp only [Act.put, List.getElem_toArray, List.getElem_cons_succ, List.getElem_cons_zero, List.setIfInBounds_toArray, List.set_cons_zero, List.set_cons_succ]
          refine wpAnyH_take (i := 7) (v := ?_) rfl (by kernel_rfl) (by kernel_rfl) (by kernel_rfl) (fun _ _ _ h => h) (Or.inl ⟨by rfl, ?_⟩) (by assumption) ?_
          rotate_left 1
          · intro wS hSw; (try dsimp only at hSw); go_simp
            all_goals with_reducible rfl
          try simp only [Act.put, List.getElem_toArray, List.getElem_cons_succ, List.getElem_cons_zero, List.setIfInBounds_toArray, List.set_cons_zero, List.set_cons_succ]
          refine wpAnyH_take (i := 8) (v := ?_) rfl (by kernel_rfl) (by kernel_rfl) (by kernel_rfl) (fun _ _ _ h => h) (Or.inl ⟨by rfl, ?_⟩) (by assumption) ?_
          rotate_left 1
          · intro wS hSw; (try dsimp only at hSw); go_simp
            all_goals with_reducible rfl
          try simp only [Act.put, List.getElem_toArray, List.getElem_cons_succ, List.getElem_cons_zero, List.setIfInBounds_toArray, List.set_cons_zero, List.set_cons_succ]
          refine wpAnyH_take (i := 9) (v := ?_) rfl (by kernel_rfl) (by kernel_rfl) (by kernel_rfl) (fun _ _ _ h => h) (Or.inl ⟨by rfl, ?_⟩) (by assumption) ?_
          rotate_left 1
          · intro wS hSw; (try dsimp only at hSw); go_simp
            all_goals with_reducible rfl
          try simp only [Act.put, List.getElem_toArray, List.getElem_cons_succ, List.getElem_cons_zero, List.setIfInBounds_toArray, List.set_cons_zero, List.set_cons_succ]
          refine wpAnyH_take (i := 10) (v := ?_) rfl (by kernel_rfl) (by kernel_rfl) (by kernel_rfl) (fun _ _ _ h => h) (Or.inl ⟨by rfl, ?_⟩) (by assumption) ?_
          rotate_left 1
          · intro wS hSw; (try dsimp only at hSw); go_simp
            all_goals with_reducible rfl
          try simp only [Act.put, List.getElem_toArray, List.getElem_cons_succ, List.getElem_cons_zero, List.setIfInBounds_toArray, List.set_cons_zero, List.set_cons_succ]
          refine wpAnyH_take (i := 11) (v := ?_) rfl (by kernel_rfl) (by kernel_rfl) (by kernel_rfl) (fun _ _ _ h => h) (Or.inl ⟨by rfl, ?_⟩) (by assumption) ?_
          rotate_left 1
          · intro wS hSw; (try dsimp only at hSw); go_simp
            all_goals with_reducible rfl
          try simp only [Act.put, List.getElem_toArray, List.getElem_cons_succ, List.getElem_cons_zero, List.setIfInBounds_toArray, List.set_cons_zero, List.set_cons_succ]
          refine wpAnyH_ready (rs := [12]) (by kernel_rfl) (by simp) ?_
          refine AllReadyH.cons rfl (fun K hK => ?_) AllReadyH.nil
          go_simp
          refine (hcmp.out _).mono ?_
          rintro e w1' ⟨rfl, b1⟩
          have v1 : Below wr.heap.size wr w1' := by first | exact (Below.refl _ wr).drew.trans b1 | exact b1
          refine hK.out _ _ (hS.out _ v1) (fun hSe1 => ?_)
          clear hK K
          try simp only [Act.put, List.getElem_toArray, List.getElem_cons_succ, List.getElem_cons_zero, List.setIfInBounds_toArray, List.set_cons_zero, List.set_cons_succ]
          refine wpAnyH_take (i := 13) (v := ?_) rfl (by kernel_rfl) (by kernel_rfl) (by kernel_rfl) (fun _ _ _ h => h) (Or.inl ⟨by rfl, ?_⟩) (by assumption) ?_
          rotate_left 1
          · intro wS hSw; (try dsimp only at hSw); go_simp
            all_goals with_reducible rfl
          try simp only [Act.put, List.getElem_toArray, List.getElem_cons_succ, List.getElem_cons_zero, List.setIfInBounds_toArray, List.set_cons_zero, List.set_cons_succ]
          refine wpAnyH_take (i := 14) (v := ?_) rfl (by kernel_rfl) (by kernel_rfl) (by kernel_rfl) (fun _ _ _ h => h) (Or.inl ⟨by rfl, ?_⟩) (by assumption) ?_
          rotate_left 1
          · intro wS hSw; (try dsimp only at hSw); go_simp
            all_goals with_reducible rfl
          try simp only [Act.put, List.getElem_toArray, List.getElem_cons_succ, List.getElem_cons_zero, List.setIfInBounds_toArray, List.set_cons_zero, List.set_cons_succ]
          refine wpAnyH_take (i := 15) (v := ?_) rfl (by kernel_rfl) (by kernel_rfl) (by kernel_rfl) (fun _ _ _ h => h) (Or.inl ⟨by rfl, ?_⟩) (by assumption) ?_
          rotate_left 1
          · intro wS hSw; (try dsimp only at hSw); go_simp
            all_goals with_reducible rfl
          try simp only [Act.put, List.getElem_toArray, List.getElem_cons_succ, List.getElem_cons_zero, List.setIfInBounds_toArray, List.set_cons_zero, List.set_cons_succ]
          refine wpAnyH_take (i := 16) (v := ?_) rfl (by kernel_rfl) (by kernel_rfl) (by kernel_rfl) (fun _ _ _ h => h) (Or.inl ⟨by rfl, ?_⟩) (by assumption) ?_
          rotate_left 1
          · intro wS hSw; (try dsimp only at hSw); go_simp
            all_goals with_reducible rfl
          try simp only [Act.put, List.getElem_toArray, List.getElem_cons_succ, List.getElem_cons_zero, List.setIfInBounds_toArray, List.set_cons_zero, List.set_cons_succ]
          refine wpAnyH_take (i := 17) (v := ?_) rfl (by kernel_rfl) (by kernel_rfl) (by kernel_rfl) (fun _ _ _ h => h) (Or.inl ⟨by rfl, ?_⟩) (by assumption) ?_
          rotate_left 1
          · intro wS hSw; (try dsimp only at hSw); go_simp
            all_goals with_reducible rfl
          try simp only [Act.put, List.getElem_toArray, List.getElem_cons_succ, List.getElem_cons_zero, List.setIfInBounds_toArray, List.set_cons_zero, List.set_cons_succ]
          refine wpAnyH_take (i := 18) (v := ?_) rfl (by kernel_rfl) (by kernel_rfl) (by kernel_rfl) (fun _ _ _ h => h) (Or.inl ⟨by rfl, ?_⟩) (by assumption) ?_
          rotate_left 1
          · intro wS hSw; (try dsimp only at hSw); go_simp
            all_goals with_reducible rfl
          try simp only [Act.put, List.getElem_toArray, List.getElem_cons_succ, List.getElem_cons_zero, List.setIfInBounds_toArray, List.set_cons_zero, List.set_cons_succ]
          refine wpAnyH_take (i := 19) (v := ?_) rfl (by kernel_rfl) (by kernel_rfl) (by kernel_rfl) (fun _ _ _ h => h) (Or.inl ⟨by rfl, ?_⟩) (by assumption) ?_
          rotate_left 1
          · intro wS hSw; (try dsimp only at hSw); go_simp
            all_goals with_reducible rfl
          try simp only [Act.put, List.getElem_toArray, List.getElem_cons_succ, List.getElem_cons_zero, List.setIfInBounds_toArray, List.set_cons_zero, List.set_cons_succ]
          refine wpAnyH_take (i := 20) (v := ?_) rfl (by kernel_rfl) (by kernel_rfl) (by kernel_rfl) (fun _ _ _ h => h) (Or.inl ⟨by rfl, ?_⟩) (by assumption) ?_
          rotate_left 1
          · intro wS hSw; (try dsimp only at hSw); go_simp
            all_goals with_reducible rfl
          try simp only [Act.put, List.getElem_toArray, List.getElem_cons_succ, List.getElem_cons_zero, List.setIfInBounds_toArray, List.set_cons_zero, List.set_cons_succ]
          refine wpAnyH_ready (rs := [21]) (by kernel_rfl) (by simp) ?_
          refine AllReadyH.cons rfl (fun K hK => ?_) AllReadyH.nil
          go_simp
          refine (hhas.out _ ((hrl'.below v1).more v1.size)).mono ?_
          rintro e w2' ⟨rfl, b2⟩
          have v2 : Below wr.heap.size wr w2' := v1.trans (b2.mono v1.size)
          refine hK.out _ _ (hS.out _ v2) (fun hSe2 => ?_)
          clear hK K
          try simp only [Act.put, List.getElem_toArray, List.getElem_cons_succ, List.getElem_cons_zero, List.setIfInBounds_toArray, List.set_cons_zero, List.set_cons_succ]
          refine wpAnyH_take (i := 22) (v := ?_) rfl (by kernel_rfl) (by kernel_rfl) (by kernel_rfl) (fun _ _ _ h => h) (Or.inl ⟨by rfl, ?_⟩) (by assumption) ?_
          rotate_left 1
          · intro wS hSw; (try dsimp only at hSw); go_simp
            all_goals with_reducible rfl
          try simp only [Act.put, List.getElem_toArray, List.getElem_cons_succ, List.getElem_cons_zero, List.setIfInBounds_toArray, List.set_cons_zero, List.set_cons_succ]
          refine wpAnyH_take (i := 23) (v := ?_) rfl (by kernel_rfl) (by kernel_rfl) (by kernel_rfl) (fun _ _ _ h => h) (Or.inl ⟨by rfl, ?_⟩) (by assumption) ?_
          rotate_left 1
          · intro wS hSw; (try dsimp only at hSw); go_simp
            all_goals with_reducible rfl
          try simp only [Act.put, List.getElem_toArray, List.getElem_cons_succ, List.getElem_cons_zero, List.setIfInBounds_toArray, List.set_cons_zero, List.set_cons_succ]
          refine wpAnyH_done (by kernel_rfl) ?_ _
          go_wp2_with fail
          go_meet
          exact ⟨rfl, v2⟩
        · obtain rfl : k = x.length := by omega
          have hw9 := hbel.size
          go_wp2
          go_loopw [15] (fun i wq => ∃ k : Nat, k ≤ l.length ∧ i = .int .i64 k ∧ Below wr.heap.size wr wq) (fun i _ => l.length - (intOf i).toNat)
          case atStart => exact ⟨0, Nat.zero_le _, rfl, Below.refl _ _⟩
          case round =>
            rename_i wp wq
            obtain ⟨k, hk2, rfl, hbel2⟩ := hrel
            have hbl := hbel.trans (hbel2.mono hbel.size)
            by_cases hlt : k < l.length
            · have hkI : (k : Int) < (l.length : Int) := by omega
              have hk0I : (0 : Int) ≤ (k : Int) := by omega
              have hrx' := hrx.next hbl
              have hrl' := hrl.next hbl
              obtain ⟨b1, f1, rfl, hb1, hcx⟩ := hrl'.two hlt
              obtain ⟨g0, g1⟩ := hcx hlt
              have hin : hasA x l[k] = true := hasA_iff.2 ((hso'.out.mem _).2 (List.getElem_mem _))
              clear hcx
              generalize l[k] = t at *
              obtain ⟨t0, t1⟩ := t
              simp only at g0 g1
              have h2 := fun W h => hasAddr_impl (c := c9) (l := x) (t0, t1) W h (n := x.length) (A := A9) (by omega)
              rw [hin] at h2
              go_wp2_with (fail)
              go_at_call 15
              refine (h2 _ hrx').mono ?_
              rintro e w11 ⟨rfl, b11⟩
              have hb2' := hbel2.trans (b11.mono hbel2.size)
              go_wp2
              go_roundw
              case rel => exact ⟨k + 1, by omega, by go_num, hb2'⟩
              case measure => simp [intOf]; omega
            · obtain rfl : k = l.length := by omega
              have hxq := hx.next hbl
              have hbq := Below.trans hb (hbl.mono (Below.size hb))
              clear hso' hrx hrl hbl hbel2 hbel hx hb
              go_wp2_with (fail)
              go_at_call 16
              refine (drawCompareAddrs_any _ hxq hn hz).mono ?_
              rintro e w12 ⟨⟨p0, p1⟩, ⟨q0, q1⟩, -, -, rfl, b12⟩
              replace hbq := Below.trans hbq (b12.mono (Below.size hbq))
              clear hxq hz b12
              have bp := (BoxAt.new (w := w12) rfl [.string p0, .string p1] 25).alloc (.cells #[.string q0, .string q1] 25)
              have bq : BoxAt ((w12.alloc (.cells #[.string p0, .string p1] 25)).alloc (.cells #[.string q0, .string q1] 25)) (w12.heap.size + 1) [.string q0, .string q1] 25 := BoxAt.new (by simp) _ _
              have hbz := hbq.alloc (Below.size hbq) (.cells #[.string p0, .string p1] 25)
              replace hbz := hbz.alloc hbz.size (.cells #[.string q0, .string q1] 25)
              have hcA := fun W => compareAddrs_impl (p0, p1) (q0, q1) W
              have hcB := fun W => compareAddrs_impl (q0, q1) (p0, p1) W
              rw [cmpA_anti (p0, p1) (q0, q1)] at hcB
              have hvals : cmpA (p0, p1) (q0, q1) = -1 ∨ cmpA (p0, p1) (q0, q1) = 0 ∨ cmpA (p0, p1) (q0, q1) = 1 := by
                rcases cmpA_vals (p0, p1) (q0, q1) with k | ⟨k, -⟩ | k
                · exact .inl k
                · exact .inr (.inl k)
                · exact .inr (.inr k)
              generalize cmpA (p0, p1) (q0, q1) = z at *
              simp only at hcA hcB
              have hcA' := Lib.hid hcA
              have hcB' := Lib.hid hcB
              clear hcA hcB hbq
              go_wp2_with (fail)
              generalize (w12.alloc (.cells #[.string p0, .string p1] 25)).alloc (.cells #[.string q0, .string q1] 25) = V at *
              obtain ⟨⟨k0, k1⟩, -⟩ := bp.two
              obtain ⟨⟨k2, k3⟩, -⟩ := bq.two
              rcases hvals with rfl | rfl | rfl
              all_goals
                go_region_held3 (fun v : World => v.cell? ⟨w12.heap.size, 0, none⟩ = some (.string p0) ∧ v.cell? ⟨w12.heap.size, 1, none⟩ = some (.string p1) ∧ v.cell? ⟨w12.heap.size + 1, 0, none⟩ = some (.string q0) ∧ v.cell? ⟨w12.heap.size + 1, 1, none⟩ = some (.string q1))
                  ((refine ⟨?_, ?_, ?_, ?_⟩ <;> first | (with_reducible assumption) | (simp only [World.cell?_drew]; with_reducible assumption)))
                  (first
                    | (have hsecond := bq3
                       go_at_call 14
                       refine (hcB'.out _).mono ?_
                       rintro e w14 ⟨rfl, b14⟩
                       obtain ⟨⟨n0, n1⟩, -⟩ := (bp3.next b14).two
                       obtain ⟨⟨n2, n3⟩, -⟩ := (bq3.next b14).two)
                    | (go_at_call 14
                       refine (hcA'.out _).mono ?_
                       rintro e w13 ⟨rfl, b13⟩
                       have v13 : Below V.heap.size V w13 := (Below.refl _ V).drew.trans b13
                       have bp3 := bp.next v13
                       have bq3 := bq.next v13
                       obtain ⟨⟨m0, m1⟩, -⟩ := bp3.two
                       obtain ⟨⟨m2, m3⟩, -⟩ := bq3.two))
                go_wp2
                go_ret
                exact ⟨by first | rfl | decide | simp, hbz.trans ((v13.trans (b14.mono v13.size)).mono hbz.size)⟩
  · go_enter Try.func3, Try.ntmps3
    go_wp2_with (go_at_call 5; refine (big_yes _ hn hmx).mono ?_; rintro e w0 ⟨rfl, rfl⟩)
    go_ret
    exact ⟨rfl, Below.refl _ _⟩
end Go.Proofs.Ytpehaoamfifgbaa
