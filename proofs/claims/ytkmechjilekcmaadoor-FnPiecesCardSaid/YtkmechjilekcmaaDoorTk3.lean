/-
  Contracts of the generated helpers on slices of tokens: marks. Conditions: sizes of Go strings and slices, at most 2^30 elements.
-/
import Derived.Test.YtkmechjilekcmaaDoorTk2
import Derived.Test.YtkmechjilekcmaaDoorNmv
import Derived.Deep.RegionWith
import Derived.Deep.RegionHeld3
namespace Go.Proofs.YtkmechjilekcmaaDoor
set_option linter.unusedVariables false
set_option linter.unusedSimpArgs false
set_option maxRecDepth 100000
open Go.ChangeShapes Go.WideShapes Go.ChangeAt Go.RowKit Go.Deep

set_option maxHeartbeats 2000000 in
theorem markTokenS_foot {lo hi : Nat} {A : Option Addr} {n c : Nat} {L : List (Tok × Hd)} {q : Int} (w : World) (hx : OwnN tokN w lo hi 24 57 A n c L) (hh : hi ≤ w.heap.size)
    (hn : n ≤ 1073741824) (q0 : 0 < q) (q1 : q + totN (tokN.nums L) ≤ 1073741824) : Calls Tryd.prog 30 #[.slice A n c, .int .i64 q] w
      (MarkedS (foot A L) w (fun w' => OwnN tokN w' lo hi 24 57 A n c (remark mkTok q (tokN.nums L) L)) (q + totN (tokN.nums L))) := by
  rcases Nat.eq_zero_or_pos n with h0 | h0
  · subst h0
    have hm : L = [] := List.eq_nil_of_length_eq_zero hx.len
    subst hm
    go_enter Tryd.func30, Tryd.ntmps30
    go_wp2
    refine wp_loop_rounds 1 ?_
    rw [rounds_succ]
    go_wp2
    go_ret
    exact ⟨ret_int (by simp [totN, Nest.nums]), hx, Keeps.refl _ _⟩
  · obtain ⟨g, rfl, F, I0, hg3⟩ := hx.fix (f := mkTok) (q := q) h0
    clear hx
    go_enter Tryd.func30, Tryd.ntmps30
    go_wp2
    go_loopw [1, 5] (fun p i wr => ∃ k : Nat, k ≤ n ∧ i = .int .i64 k ∧ p = .int .i64 (q + totN ((tokN.nums L).take k)) ∧ ∃ cur : List Value, Hid (MarkInv tokN mkTok lo hi 24 57 g n c q L k w wr cur) ∧ w.heap.size ≤ wr.heap.size)
      (fun _ i _ => n - (intOf i).toNat)
    case atStart => exact ⟨0, Nat.zero_le _, rfl, by simp [totN], _, I0, Nat.le_refl _⟩
    case round =>
      obtain ⟨k, hk, rfl, rfl, cur, hI, hbs⟩ := hrel
      by_cases hlt : k < n
      · obtain ⟨⟨t, A2, c2⟩, xs, P, hP, hP1, hP2, hP3, hcells, hkid, hoff, hR, hclose⟩ := hI.out.round F tokN_num hlt
        have hown := hI.out.row
        have hcl : Hid (cur.length = n * 4) := hown.1
        have hfr := Lib.hid hI.out.front
        have hbk := Lib.hid hI.out.back
        have hhdr : cur[k * 4 + 2]? = some (.slice A2 t.attrs.length c2) := hcells 2 (by show 2 < 4; omega)
        have HR : Hid (∀ j, j < 4 → (tokN.flat (remark mkTok q (tokN.nums L) L))[k * 4 + j]? = (tokN.row (mkTok P t.attrs.length) A2 t.attrs.length c2)[j]?) := hR
        have HC := Lib.hid hclose
        have HP2 : Hid (q + totN ((tokN.nums L).take (k + 1)) = P + (3 + 2 * (t.attrs.length : Int))) := hP2
        have hP3' : P + (3 + 2 * (t.attrs.length : Int)) ≤ q + totN (tokN.nums L) := hP3
        rw [hP]
        have hcap : t.attrs.length ≤ 1073741824 := by omega
        clear hcells hR hclose hP2 hP3 hP hI
        simp only [tokN] at hkid hoff
        change Own wr lo hi _ 2 (.slice A2 t.attrs.length c2) t.attrs.length xs at hkid
        obtain ⟨u0, hu0, hf0⟩ := own_any hown (show k * 4 < n * 4 by omega)
        have hs0 := (hown.stored (k * 4) (.int .i64 (P))).1
        have kd0 := hkid.elsewhere (keeps_set (S := fun b => b = g) wr (p := ⟨g, k * 4, none⟩) (.int .i64 (P)) rfl) (fun b hb => by rw [hb]; exact hoff)
        have kq0 := (Keeps.refl (fun b => b = g ∨ (Value.slice A2 t.attrs.length c2).ownBlock = some b) wr).trans (keeps_set wr (p := ⟨g, k * 4, none⟩) (.int .i64 (P)) (.inl rfl))
        go_wp2_with fail
        refine (markText_any (P + 1) _ (by omega) (by omega)).mono ?_
        rintro e w1 ⟨rfl, b1⟩
        have z1 := b1.size
        try simp at z1
        have ho1 := own_next hs0 b1
        have kc1 := kd0.below b1
        have kp1 := kq0.trans (Keeps.of_below b1)
        clear b1 hu0 hf0
        obtain ⟨u1, hu1, hf1⟩ := own_any ho1 (show k * 4 + 1 < n * 4 by omega)
        have hs1 := (ho1.stored (k * 4 + 1) (.string (mkT (P + 1)))).1
        have kd1 := kc1.elsewhere (keeps_set (S := fun b => b = g) w1 (p := ⟨g, k * 4 + 1, none⟩) (.string (mkT (P + 1))) rfl) (fun b hb => by rw [hb]; exact hoff)
        have kq1 := kp1.trans (keeps_set w1 (p := ⟨g, k * 4 + 1, none⟩) (.string (mkT (P + 1))) (.inl rfl))
        have hv := own_val (idx := k * 4 + 2) (u := .slice A2 t.attrs.length c2) ho1 (by rw [List.getElem?_set_ne (by omega)]; exact hhdr)
        go_wp2_with fail
        obtain ⟨lo', hi', hn1, hn2, hn3, hn4, hn5⟩ := kd1.narrow
        refine (markAttrS_any (lo := lo') (hi := hi') (q := P + 1 + 1) _ hn1 (by simp; omega) hn3 (by omega) (by omega) (by omega)).mono ?_
        rintro e w2 ⟨rfl, k2, b2⟩
        have z2 := b2.size
        try simp at z2
        have ho2 := (Own.elsewhere (⟨hs1, hg3⟩ : Own _ lo hi _ 4 _ _ _) b2 (fun b hb hb2 => hoff ((hn4 b hb).trans hb2.symm))).1
        have kc2 := hn5 _ _ k2
        have kp2 := kq1.trans (b2.mono fun b hb => .inr (hn4 b hb))
        clear hn1 hn5
        clear b2 hu1 hf1 hv
        go_wp2_with fail
        refine (markText_any (P + 1 + 1 + 2 * (t.attrs.length : Int)) _ (by omega) (by omega)).mono ?_
        rintro e w3 ⟨rfl, b3⟩
        have z3 := b3.size
        try simp at z3
        have ho3 := own_next ho2 b3
        have kc3 := kc2.below b3
        have kp3 := kp2.trans (Keeps.of_below b3)
        clear b3 
        obtain ⟨u3, hu3, hf3⟩ := own_any ho3 (show k * 4 + 3 < n * 4 by omega)
        have hs3 := (ho3.stored (k * 4 + 3) (.string (mkT (P + 1 + 1 + 2 * (t.attrs.length : Int))))).1
        have kd3 := kc3.elsewhere (keeps_set (S := fun b => b = g) w3 (p := ⟨g, k * 4 + 3, none⟩) (.string (mkT (P + 1 + 1 + 2 * (t.attrs.length : Int)))) rfl) (fun b hb => by rw [hb]; exact hoff)
        have kq3 := kp3.trans (keeps_set w3 (p := ⟨g, k * 4 + 3, none⟩) (.string (mkT (P + 1 + 1 + 2 * (t.attrs.length : Int)))) (.inl rfl))
        have hfill := tok_fill (t := mkTok P t.attrs.length) hcl.out hlt hfr.out hbk.out hhdr HR.out
        have hI2 : Hid (MarkInv tokN mkTok lo hi 24 57 g n c q L (k + 1) w _ _) := HC.out _ _ hs3 hfill.1 hfill.2 kd3 kq3
        clear hfill kd3 kq3 hs3 HC HR hfr hbk hhdr
        go_wp2
        go_roundw
        case rel => exact ⟨k + 1, by omega, by go_num, by rw [HP2.out]; congr 1; omega, _, hI2, by first | omega | (simp; omega)⟩
        case measure => simp [intOf]; omega
      · obtain rfl : k = n := by omega
        have hfin := Lib.hid (hI.out.owned F tokN_num)
        have hkp := Lib.hid hI.out.keeps
        have hpe : Hid ((tokN.nums L).take k = tokN.nums L) := by show _ = _; exact List.take_of_length_le (by rw [nums_len, F.len]; exact Nat.le_refl _)
        rw [hpe.out]
        clear hI
        go_wp2
        go_ret
        exact ⟨rfl, hfin.out, hkp.out⟩
theorem markTokenS_any {lo hi : Nat} {A : Option Addr} {n c : Nat} {L : List (Tok × Hd)} {q : Int} (w : World) (hx : OwnN tokN w lo hi 24 57 A n c L) (hh : hi ≤ w.heap.size)
    (hn : n ≤ 1073741824) (q0 : 0 < q) (q1 : q + totN (tokN.nums L) ≤ 1073741824) : Calls Tryd.prog 30 #[.slice A n c, .int .i64 q] w
      (Marked w lo hi (fun w' => ReadsN tokN w' hi A n (mkNs mkTok q (tokN.nums L))) (q + totN (tokN.nums L))) :=
  (markTokenS_foot w hx hh hn q0 q1).mono fun _ w' ⟨h1, h2, h3⟩ => ⟨h1, by
    have h4 := h2.reads (Nat.le_trans hh h3.size)
    rw [remark_fst mkTok nums_len] at h4
    exact h4, h3.mono hx.foot_span⟩
set_option maxHeartbeats 2000000 in
theorem heldTokenS_any {A : Option Addr} {n c : Nat} {cs : List Nat} {q : Int} (w : World) (hx : ReadsN tokN w w.heap.size A n (mkNs mkTok q cs)) (hn : n ≤ 1073741824) (q0 : 0 < q) (q1 : q + totN cs ≤ 1073741824) :
    Calls Tryd.prog 31 #[.slice A n c, .int .i64 q] w fun e w' => e = .returned (.int .i64 (q + totN cs)) ∧ Below w.heap.size w w' := by
  have lx := hx.len
  rw [mkNs_len] at lx
  have Lx := Lib.hid lx
  clear lx
  go_enter Tryd.func31, Tryd.ntmps31
  go_wp2
  go_loopw [1, 5] (fun p i wr => ∃ k : Nat, k ≤ n ∧ i = .int .i64 k ∧ p = .int .i64 (q + totN (cs.take k)) ∧ Below w.heap.size w wr) (fun _ i _ => n - (intOf i).toNat)
  case atStart => exact ⟨0, Nat.zero_le _, rfl, by simp [totN], Below.refl _ _⟩
  case round =>
    obtain ⟨k, hk, rfl, rfl, hbel⟩ := hrel
    have hbs := hbel.size
    by_cases hlt : k < n
    · obtain ⟨b0, off0, rfl, hab, hcx⟩ := (hx.below hbel).tok hlt
      have hkc : k < cs.length := by rw [Lx.out]; exact hlt
      obtain ⟨A', c', hr, e0, e1, e2, e3⟩ := hcx (by rw [mkNs_len]; exact hkc)
      have hg := mkNs_get mkTok (q := q) (cs := cs) (k := k) (by rw [mkNs_len]; exact hkc) hkc
      rw [hg] at hr e0 e1 e2 e3
      rw [mkTok_attrs] at hr
      try rw [mkTok_attrs] at e2
      try rw [mkTok_attrs] at e3
      have hst := totN_take hkc
      have hle := totN_le cs (k + 1)
      have hnn := totN_nonneg (cs.take k)
      have HP2 : Hid (q + totN (cs.take (k + 1)) = q + totN (cs.take k) + (3 + 2 * (cs[k] : Int))) := by show _ = _; omega
      have hP3 : q + totN (cs.take k) + (3 + 2 * (cs[k] : Int)) ≤ q + totN cs := by omega
      have hP1 : q ≤ q + totN (cs.take k) := by omega
      clear hst hle hnn hg
      generalize cs[k] = m at *
      generalize q + totN (cs.take k) = P at *
      have hc0 : wr.cell? ⟨b0, off0 + k * 4, none⟩ = some (.int .i64 (P)) := e0
      have hc1 : wr.cell? ⟨b0, off0 + k * 4 + 1, none⟩ = some (.string (mkT (P + 1))) := e1
      have hc2 : wr.cell? ⟨b0, off0 + k * 4 + 2, none⟩ = some (.slice A' m c') := e2
      have hc3 : wr.cell? ⟨b0, off0 + k * 4 + 3, none⟩ = some (.string (mkT (P + 1 + 1 + 2 * (m : Int)))) := e3
      replace hr : Reads wr wr.heap.size 2 A' m (s2V (mkL (P + 1 + 1) m)) := hr.more hbs
      clear e0 e1 e2 e3 hx hcx
      have hk0 : (0 : Int) ≤ (k : Int) := Int.natCast_nonneg _
      have hk9 : (k : Int) < (n : Int) := by omega
      go_wp2_with fail
      go_region_held3 (fun v : World => v.cell? ⟨b0, off0 + k * 4 + 1, none⟩ = some (.string (mkT (P + 1))))
        (first
          | (simp only [World.cell?_drew]; assumption)
          | exact hc1)
        (first
          | (go_at_call 54
             refine (markText_any (P + 1) _ (by omega) (by omega)).mono ?_
             rintro e w1 ⟨rfl, b1⟩
             have zz := b1.size
             try simp only [World.size_drew] at zz
             replace hc1 : w1.cell? ⟨b0, off0 + k * 4 + 1, none⟩ = some (.string (mkT (P + 1))) := ((bcell b1).1 b0 _ (by first | omega | (simp; omega))).trans (by first | exact hc1 | (simp only [World.cell?_drew]; exact hc1))
             replace hc2 : w1.cell? ⟨b0, off0 + k * 4 + 2, none⟩ = some (.slice A' m c') := ((bcell b1).1 b0 _ (by first | omega | (simp; omega))).trans (by first | exact hc2 | (simp only [World.cell?_drew]; exact hc2))
             replace hc3 : w1.cell? ⟨b0, off0 + k * 4 + 3, none⟩ = some (.string (mkT (P + 1 + 1 + 2 * (m : Int)))) := ((bcell b1).1 b0 _ (by first | omega | (simp; omega))).trans (by first | exact hc3 | (simp only [World.cell?_drew]; exact hc3))
             replace hr : Reads w1 w1.heap.size 2 A' m _ := (Reads.below (Reads.drew hr) b1).more b1.size
             replace hbel : Below w.heap.size w w1 := hbel.drew.trans (b1.mono hbel.drew.size)
             clear b1))
      go_wp2_with fail
      refine (heldAttrS_any (q := P + 1 + 1) _ hr (by omega) (by omega) (by omega)).mono ?_
      rintro e w2 ⟨rfl, b2⟩
      have zz := b2.size
      replace hc3 : w2.cell? ⟨b0, off0 + k * 4 + 3, none⟩ = some (.string (mkT (P + 1 + 1 + 2 * (m : Int)))) := ((bcell b2).1 b0 _ (by first | omega | (simp; omega))).trans hc3
      replace hbel : Below w.heap.size w w2 := hbel.trans (b2.mono hbel.size)
      clear b2 hr
      go_wp2_with fail
      go_region_held3 (fun v : World => v.cell? ⟨b0, off0 + k * 4 + 3, none⟩ = some (.string (mkT (P + 1 + 1 + 2 * (m : Int)))))
        (first
          | (simp only [World.cell?_drew]; assumption)
          | exact hc3)
        (first
          | (go_at_call 54
             refine (markText_any (P + 1 + 1 + 2 * (m : Int)) _ (by omega) (by omega)).mono ?_
             rintro e w3 ⟨rfl, b3⟩
             have zz := b3.size
             try simp only [World.size_drew] at zz
             replace hc3 : w3.cell? ⟨b0, off0 + k * 4 + 3, none⟩ = some (.string (mkT (P + 1 + 1 + 2 * (m : Int)))) := ((bcell b3).1 b0 _ (by first | omega | (simp; omega))).trans (by first | exact hc3 | (simp only [World.cell?_drew]; exact hc3))
             replace hbel : Below w.heap.size w w3 := hbel.drew.trans (b3.mono hbel.drew.size)
             clear b3))
      go_wp2
      go_roundw
      case rel => exact ⟨k + 1, by omega, by go_num, by rw [HP2.out]; congr 1; omega, hbel⟩
      case measure => simp [intOf]; omega
    · obtain rfl : k = n := by omega
      have hpe : Hid (cs.take k = cs) := by show _ = _; exact List.take_of_length_le (by rw [Lx.out]; exact Nat.le_refl _)
      rw [hpe.out]
      clear hx
      go_wp2
      go_ret
      exact ⟨rfl, hbel⟩
end Go.Proofs.YtkmechjilekcmaaDoor
