/-
  Contracts of the generated helpers on rules and slices of them. Conditions: at most 2^30 elements, sizes of Go strings.
-/
import Derived.Test.YtmfaihelphfbgaaDoorMrk
import Derived.Test.YtmfaihelphfbgaaDoorRul
import Derived.Deep.RegionWith
namespace Go.Proofs.YtmfaihelphfbgaaDoor
set_option linter.unusedVariables false
set_option linter.unusedSimpArgs false
set_option maxRecDepth 100000
open Go.ChangeShapes Go.WideShapes Go.ChangeAt Go.RowKit Go.Deep

theorem info_Rule : (Tryd.prog.info? 60).map (fun i => (i.zero, i.size, i.bytes)) = some (some (.agg #[.string ⟨#[]⟩, .int .i64 0]), 2, 24) := by kernel_rfl
theorem row_Rule : RowT Tryd.prog 32 60 2 24 := RowT.mk' Tryd.underlying32 info_Rule rfl (by omega)
theorem eqRule_yes (a : Rul) (w : World) : Calls Tryd.prog 55 #[.agg #[.string a.1, .int .i64 a.2], .agg #[.string a.1, .int .i64 a.2]] w fun e w' => e = .returned (.bool true) ∧ Below w.heap.size w w' := by
  go_enter Tryd.func55, Tryd.ntmps55
  go_wp2
  go_ret
  exact ⟨rfl, ((Below.refl _ _).alloc (Nat.le_refl _) _).alloc (by simp) _⟩
set_option maxHeartbeats 400000 in
theorem eqRuleS_yes {A A' : Option Addr} {n n' c c' : Nat} {l : List Rul} (w : World) (hx : Reads w w.heap.size 2 A n (rulV l)) (hy : Reads w w.heap.size 2 A' n' (rulV l)) (hn : n ≤ 1073741824) :
    Calls Tryd.prog 41 #[.slice A n c, .slice A' n' c'] w fun e w' => e = .returned (.bool true) ∧ Below w.heap.size w w' := by
  have lx := hx.lenR
  have ly := hy.lenR
  obtain rfl : n = n' := by omega
  have Lx := Lib.hid lx
  clear lx ly
  go_enter Tryd.func41, Tryd.ntmps41
  go_wp2
  go_loopw [5] (fun i wr => ∃ k : Nat, k ≤ n ∧ i = .int .i64 k ∧ Below w.heap.size w wr) (fun i _ => n - (intOf i).toNat)
  case atStart => exact ⟨0, Nat.zero_le _, rfl, Below.refl _ _⟩
  case round =>
    obtain ⟨k, hk, rfl, hbel⟩ := hrel
    have hbs := hbel.size
    by_cases hlt : k < n
    · obtain ⟨b0, off0, rfl, hab, hcx⟩ := (hx.below hbel).rul hlt
      obtain ⟨b1, off1, rfl, hab', hcy⟩ := (hy.below hbel).rul hlt
      have hl1 : k < l.length := by rw [Lx.out]; exact hlt
      obtain ⟨hc0, hc1⟩ := hcx hl1
      obtain ⟨hd0, hd1⟩ := hcy hl1
      have hk0 : (0 : Int) ≤ (k : Int) := Int.natCast_nonneg _
      have hk9 : (k : Int) < (n : Int) := by omega
      generalize l[k] = a at *
      clear hx hy hcx hcy
      go_wp2_with fail
      go_region_with (go_at_call 55; refine (eqRule_yes a _).mono ?_; rintro e w1 ⟨rfl, bb1⟩)
      all_goals
        go_wp2
        go_roundw
        case rel => exact ⟨k + 1, by omega, by go_num, (hbel.drew).trans (bb1.mono hbs)⟩
        case measure => simp [intOf]; omega
    · obtain rfl : k = n := by omega
      go_wp2
      go_ret
      exact ⟨rfl, hbel⟩
theorem toRule_r (a : Rul) (w : World) : Calls Tryd.prog 58 #[.agg #[.string a.1, .int .i64 a.2]] w fun e w' => e = .returned (.agg #[.string a.1, .int .i64 a.2]) ∧ Below w.heap.size w w' := by
  go_enter Tryd.func58, Tryd.ntmps58
  go_wp2
  exact bodyPost_ret (v := .agg #[.string a.1, .int .i64 a.2]) (by simp [results, Tryd.results58, go_sem]) rfl ⟨rfl, ((((Below.refl _ _).alloc (Nat.le_refl _) _).alloc (by simp) _).alloc (by simp; omega) _)⟩
set_option maxHeartbeats 400000 in
theorem toRuleS_any {A : Option Addr} {n c : Nat} {l : List Rul} (w : World) (hx : Reads w w.heap.size 2 A n (rulV l)) (hn : n ≤ 1073741824) :
    Calls Tryd.prog 45 #[.slice A n c] w (GotRow w 60 2 n (rulV l)) := by
  have hmk := fun W => run_make_two (P := Tryd.prog) 32 60 (.agg #[.string ⟨#[]⟩, .int .i64 0]) 24 Tryd.underlying32 info_Rule n (by omega) (by omega) W
  have lx := Lib.hid hx.lenR
  go_enter Tryd.func45, Tryd.ntmps45
  go_wp2
  go_loopw [4] (fun i wr => ∃ k : Nat, k ≤ n ∧ i = .int .i64 k ∧ ∃ cur : List Value, wr.ownsRow w.heap.size 60 2 (.slice (some ⟨w.heap.size, 0, none⟩) n n) n cur ∧ Hid (cur.take (k * 2) = (rulV l).take (k * 2)) ∧ Below w.heap.size w wr)
    (fun i _ => n - (intOf i).toNat)
  case atStart =>
    exact ⟨0, Nat.zero_le _, rfl, _, World.ownsRow_lit w _ n (Nat.le_refl _) (by simp only [maxLen]; omega) (by rw [size_madeCells]), by simp [Hid], (Below.refl _ _).alloc (Nat.le_refl _) _⟩
  case round =>
    obtain ⟨k, hk, rfl, cur, hown, hall, hbel⟩ := hrel
    have hbs := hbel.size
    by_cases hlt : k < n
    · obtain ⟨b0, off0, rfl, hab, hcx⟩ := (hx.below hbel).rul hlt
      have hl1 : k < l.length := by rw [lx.out]; exact hlt
      obtain ⟨hc0, hc1⟩ := hcx hl1
      have hn1 : Hid (((cur.set (k * 2) (.string l[k].1)).set (k * 2 + 1) (.int .i64 l[k].2)).take ((k + 1) * 2) = (rulV l).take ((k + 1) * 2)) := fill_rul hall.out hl1 (by have := hown.1; omega)
      generalize l[k] = a at *
      clear hx hall hmk hcx
      go_wp2_with (go_at_call 58; refine (toRule_r a _).mono ?_; rintro e w1 ⟨rfl, b1⟩; have ho1 := own_next hown b1; obtain ⟨⟨u0, hu0, hf0⟩, u1, hu1, hf1⟩ := own_two ho1 hlt)
      have hs1 := (ho1.stored (k * 2) (.string a.1)).1
      have hs2 := (hs1.stored (k * 2 + 1) (.int .i64 a.2)).1
      have hb2 := ((hbel.trans (b1.mono hbs)).setCell (p := ⟨w.heap.size, k * 2, none⟩) (Nat.le_refl _) (.string a.1)).setCell (p := ⟨w.heap.size, k * 2 + 1, none⟩) (Nat.le_refl _) (.int .i64 a.2)
      clear ho1 hs1 hown hu0 hf0 hu1 hf1 b1
      go_roundw
      case rel => exact ⟨k + 1, by omega, by go_num, _, hs2, hn1, hb2⟩
      case measure => simp [intOf]; omega
    · obtain rfl : k = n := by omega
      have he : cur = rulV l := by
        have h1 := hall.out
        rw [List.take_of_length_le (by have := hown.1; omega), List.take_of_length_le (by rw [rulV_length, lx.out]; exact Nat.le_refl _)] at h1
        exact h1
      subst he
      clear hmk hall
      go_wp2
      go_ret
      exact ⟨_, _, rfl, Own.of_row hown, hbel⟩
theorem szRule_r (a : Rul) (ha : a.1.size ≤ 9223372036854775807) (left : Int) (h0 : 0 ≤ left) (h1 : left ≤ 1048576) (w : World) :
    Calls Tryd.prog 57 #[.agg #[.string a.1, .int .i64 a.2], .int .i64 left] w (Sz left a.1.size w) := by
  go_enter Tryd.func57, Tryd.ntmps57
  go_wp2
  all_goals go_ret
  all_goals refine ⟨_, rfl, ?_, ?_, ?_, (Below.refl _ _).alloc (Nat.le_refl _) _⟩
  all_goals omega
set_option maxHeartbeats 400000 in
theorem szRuleS_r {A : Option Addr} {n c : Nat} {l : List Rul} (w : World) (hx : Reads w w.heap.size 2 A n (rulV l)) (hn : n ≤ 9223372036854775807) (hz : ∀ a ∈ l, okRul a) (left : Int) (h0 : 0 ≤ left) (h1 : left ≤ 1048576) :
    Calls Tryd.prog 44 #[.slice A n c, .int .i64 left] w (Sz left (n + rulsz l) w) := by
  by_cases hbig : left < n
  · go_enter Tryd.func44, Tryd.ntmps44
    go_wp2
    go_ret
    exact ⟨-1, rfl, by omega, by omega, by omega, Below.refl _ _⟩
  · have lx := Lib.hid hx.lenR
    have hle : (n : Int) ≤ left := by omega
    go_enter Tryd.func44, Tryd.ntmps44
    go_wp2
    go_loopw [1, 5] (fun p i wr => ∃ (k : Nat) (m : Int), k ≤ n ∧ i = .int .i64 k ∧ p = .int .i64 m ∧ 0 ≤ m ∧ m ≤ left ∧ Hid (n + rulsz (l.take k) + m ≤ left) ∧ Below w.heap.size w wr) (fun _ i _ => n - (intOf i).toNat)
    case atStart => exact ⟨0, left - n, Nat.zero_le _, rfl, rfl, by omega, by omega, by show _ ≤ _; simp [rulsz]; omega, Below.refl _ _⟩
    case round =>
      obtain ⟨k, m, hk, rfl, rfl, hm0, hm1, hcur, hbel⟩ := hrel
      have hbs := hbel.size
      by_cases hlt : k < n
      · obtain ⟨b0, off0, rfl, hab, hcx⟩ := (hx.below hbel).rul hlt
        have hl1 : k < l.length := by rw [lx.out]; exact hlt
        obtain ⟨hc0, hc1⟩ := hcx hl1
        obtain ⟨hz0, hz1, hz2⟩ := hz l[k] (List.getElem_mem _)
        have hT : Hid (rulsz (l.take (k + 1)) = rulsz (l.take k) + l[k].1.size) := rulsz_take hl1
        generalize l[k] = a at *
        clear hx hz hcx
        go_wp2_with (go_at_call 57; refine (szRule_r a hz0 m hm0 (by omega) _).mono ?_; rintro e w1 ⟨r, rfl, hr1, hr2, hr3, b1⟩; have H3 := Lib.hid hr3; clear hr3)
        all_goals first
          | (go_ret; exact ⟨-1, rfl, by omega, by omega, by omega, hbel.trans (b1.mono hbs)⟩)
          | (go_roundw
             case rel => exact ⟨k + 1, r, by omega, by go_num, rfl, by omega, by omega, by show _ ≤ _; rw [hT.out]; have := H3.out (by omega); have := hcur.out; omega, hbel.trans (b1.mono hbs)⟩
             case measure => simp [intOf]; omega)
      · obtain rfl : k = n := by omega
        have he : Hid (l.take k = l) := by show _ = _; exact List.take_of_length_le (by rw [lx.out]; exact Nat.le_refl _)
        clear hx hz
        go_wp2
        go_ret
        exact ⟨m, rfl, by omega, by omega, fun _ => by have := hcur.out; rw [he.out] at this; exact this, hbel⟩
set_option maxHeartbeats 1000000 in
theorem markRuleS_any {lo hi : Nat} {A : Option Addr} {n c : Nat} {xs : List Value} {q : Int} (w : World) (hx : Own w lo hi 60 2 (.slice A n c) n xs) (hh : hi ≤ w.heap.size) (hlh : lo ≤ hi)
    (hn : n ≤ 1073741824) (q0 : 0 < q) (q1 : q ≤ 1073741824) : Calls Tryd.prog 42 #[.slice A n c, .int .i64 q] w
      (Marked w lo hi (fun w' => Own w' lo hi 60 2 (.slice A n c) n (rulV (mkR q n))) (q + 2 * n)) := by
  rcases Nat.eq_zero_or_pos n with h0 | h0
  · subst h0
    have hm : xs = [] := List.eq_nil_of_length_eq_zero (by simpa using hx.len)
    subst hm
    go_enter Tryd.func42, Tryd.ntmps42
    go_wp2
    refine wp_loop_rounds 1 ?_
    rw [rounds_succ]
    go_wp2
    go_ret
    exact ⟨ret_int (by simp), by simpa [mkR, rulV] using hx, Keeps.refl _ _⟩
  · obtain ⟨g, cap, hv, hg1, hg2⟩ := hx.1.form h0
    obtain ⟨rfl, rfl⟩ : A = some ⟨g, 0, none⟩ ∧ c = cap := by injection hv with h1 _ h2; exact ⟨h1, h2⟩
    have hg3 : g < hi := hx.2 g rfl
    obtain ⟨hx1, hx2⟩ := hx
    clear hv
    go_enter Tryd.func42, Tryd.ntmps42
    go_wp2
    go_loopw [1, 5] (fun p i wr => ∃ k : Nat, k ≤ n ∧ i = .int .i64 k ∧ p = .int .i64 (q + 2 * k) ∧ ∃ cur : List Value, wr.ownsRow lo 60 2 (.slice (some ⟨g, 0, none⟩) n c) n cur ∧ Hid (cur.take (k * 2) = (rulV (mkR q n)).take (k * 2)) ∧ Keeps (Span lo hi) w wr)
      (fun _ i _ => n - (intOf i).toNat)
    case atStart => exact ⟨0, Nat.zero_le _, rfl, by simp, xs, hx1, by simp [Hid], Keeps.refl _ _⟩
    case round =>
      obtain ⟨k, hk, rfl, rfl, cur, hown, hall, hbel⟩ := hrel
      have hbs := hbel.size
      by_cases hlt : k < n
      · have hn1 : Hid (((cur.set (k * 2) (.string (mkT (q + 2 * k)))).set (k * 2 + 1) (.int .i64 (q + 2 * k + 1))).take ((k + 1) * 2) = (rulV (mkR q n)).take ((k + 1) * 2)) := by
          have h9 := fill_rul (l := mkR q n) hall.out (by rw [mkR_length]; exact hlt) (by have := hown.1; omega)
          rw [mkR_get] at h9
          exact h9
        clear hall hx1 hx2
        go_wp2_with fail
        refine (markText_any _ _ (by omega) (by omega)).mono ?_
        rintro e w1 ⟨rfl, b1⟩
        have ho1 := own_next hown b1
        obtain ⟨⟨u0, hu0, hf0⟩, u1, hu1, hf1⟩ := own_two ho1 hlt
        have hs1 := (ho1.stored (k * 2) (.string (mkT (q + 2 * k)))).1
        have hs2 := (hs1.stored (k * 2 + 1) (.int .i64 (q + 2 * k + 1))).1
        have kp2 := ((hbel.trans (Keeps.of_below b1)).trans (keeps_set w1 (p := ⟨g, k * 2, none⟩) (.string (mkT (q + 2 * k))) ⟨hg1, hg3⟩)).trans (keeps_set (w1.setCell ⟨g, k * 2, none⟩ (.string (mkT (q + 2 * k)))) (p := ⟨g, k * 2 + 1, none⟩) (.int .i64 (q + 2 * k + 1)) ⟨hg1, hg3⟩)
        clear hown ho1 hs1 b1
        go_wp2
        go_roundw
        case rel => exact ⟨k + 1, by omega, by go_num, by go_num, _, hs2, hn1, kp2⟩
        case measure => simp [intOf]; omega
      · obtain rfl : k = n := by omega
        have he : cur = rulV (mkR q k) := by
          have h1 := hall.out
          rw [List.take_of_length_le (by have := hown.1; omega), List.take_of_length_le (by rw [rulV_length, mkR_length]; exact Nat.le_refl _)] at h1
          exact h1
        subst he
        clear hall hx1
        go_wp2
        go_ret
        exact ⟨rfl, ⟨hown, hx2⟩, hbel⟩
set_option maxHeartbeats 1000000 in
theorem heldRuleS_any {A : Option Addr} {n c : Nat} {q : Int} (w : World) (hx : Reads w w.heap.size 2 A n (rulV (mkR q n))) (hn : n ≤ 1073741824) (q0 : 0 < q) (q1 : q ≤ 1073741824) :
    Calls Tryd.prog 43 #[.slice A n c, .int .i64 q] w fun e w' => e = .returned (.int .i64 (q + 2 * n)) ∧ Below w.heap.size w w' := by
  go_enter Tryd.func43, Tryd.ntmps43
  go_wp2
  go_loopw [1, 5] (fun p i wr => ∃ k : Nat, k ≤ n ∧ i = .int .i64 k ∧ p = .int .i64 (q + 2 * k) ∧ Below w.heap.size w wr) (fun _ i _ => n - (intOf i).toNat)
  case atStart => exact ⟨0, Nat.zero_le _, rfl, by simp, Below.refl _ _⟩
  case round =>
    obtain ⟨k, hk, rfl, rfl, hbel⟩ := hrel
    have hbs := hbel.size
    by_cases hlt : k < n
    · obtain ⟨b0, off0, rfl, hab, hcx⟩ := (hx.below hbel).rul hlt
      obtain ⟨hc0, hc1⟩ := hcx (by rw [mkR_length]; exact hlt)
      rw [mkR_get] at hc0 hc1
      simp only at hc0 hc1
      have hk0 : (0 : Int) ≤ (k : Int) := Int.natCast_nonneg _
      have hk9 : (k : Int) < (n : Int) := by omega
      clear hx hcx
      go_wp2_with fail
      go_region_with (go_at_call 56; refine (markText_any (q + 2 * k) _ (by omega) (by omega)).mono ?_; rintro e w1 ⟨rfl, b1⟩; have hc2 : w1.cell? ⟨b0, off0 + k * 2, none⟩ = some (.string (mkT (q + 2 * k))) := by { rw [(bcell b1).1 b0 _ (by simp; omega)]; simp [hc0] })
      all_goals
        have B1 : Below w.heap.size w w1 := hbel.drew.trans (b1.mono hbs)
        have hc3 : w1.cell? ⟨b0, off0 + k * 2 + 1, none⟩ = some (.int .i64 (q + 2 * k + 1)) := by rw [(bcell b1).1 b0 _ (by simp; omega)]; simp [hc1]
        clear b1 hc2 hc0 hc1
        go_wp2
        go_roundw
        case rel => exact ⟨k + 1, by omega, by go_num, by go_num, B1⟩
        case measure => simp [intOf]; omega
    · obtain rfl : k = n := by omega
      go_wp2
      go_ret
      exact ⟨rfl, hbel⟩
end Go.Proofs.YtmfaihelphfbgaaDoor
