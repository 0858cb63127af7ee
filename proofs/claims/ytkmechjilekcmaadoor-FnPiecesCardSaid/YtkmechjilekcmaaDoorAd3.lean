/-
  Contracts of the generated helpers on structs of two strings and on slices of them: mark, look. Conditions: at most 2^30 elements, sizes of Go strings.
-/
import Derived.Test.YtkmechjilekcmaaDoorMrk
import Derived.Test.YtkmechjilekcmaaDoorAd1
import Derived.Deep.RegionWith
namespace Go.Proofs.YtkmechjilekcmaaDoor
set_option linter.unusedVariables false
set_option linter.unusedSimpArgs false
set_option maxRecDepth 100000
open Go.ChangeShapes Go.WideShapes Go.ChangeAt Go.RowKit Go.Deep


set_option maxHeartbeats 1000000 in
theorem markAttrS_any {lo hi : Nat} {A : Option Addr} {n c : Nat} {xs : List Value} {q : Int} (w : World) (hx : Own w lo hi 57 2 (.slice A n c) n xs) (hh : hi ≤ w.heap.size) (hlh : lo ≤ hi)
    (hn : n ≤ 1073741824) (q0 : 0 < q) (q1 : q ≤ 1073741824) : Calls Tryd.prog 41 #[.slice A n c, .int .i64 q] w
      (Marked w lo hi (fun w' => Own w' lo hi 57 2 (.slice A n c) n (s2V (mkL q n))) (q + 2 * n)) := by
  rcases Nat.eq_zero_or_pos n with h0 | h0
  · subst h0
    have hm : xs = [] := List.eq_nil_of_length_eq_zero (by simpa using hx.len)
    subst hm
    go_enter Tryd.func41, Tryd.ntmps41
    go_wp2
    refine wp_loop_rounds 1 ?_
    rw [rounds_succ]
    go_wp2
    go_ret
    exact ⟨ret_int (by simp), by simpa [mkL, s2V] using hx, Keeps.refl _ _⟩
  · obtain ⟨g, cap, hv, hg1, hg2⟩ := hx.1.form h0
    obtain ⟨rfl, rfl⟩ : A = some ⟨g, 0, none⟩ ∧ c = cap := by injection hv with h1 _ h2; exact ⟨h1, h2⟩
    have hg3 : g < hi := hx.2 g rfl
    obtain ⟨hx1, hx2⟩ := hx
    clear hv
    go_enter Tryd.func41, Tryd.ntmps41
    go_wp2
    go_loopw [1, 5] (fun p i wr => ∃ k : Nat, k ≤ n ∧ i = .int .i64 k ∧ p = .int .i64 (q + 2 * k) ∧ ∃ cur : List Value, wr.ownsRow lo 57 2 (.slice (some ⟨g, 0, none⟩) n c) n cur ∧ Hid (cur.take (k * 2) = (s2V (mkL q n)).take (k * 2)) ∧ Keeps (Span lo hi) w wr)
      (fun _ i _ => n - (intOf i).toNat)
    case atStart => exact ⟨0, Nat.zero_le _, rfl, by simp, xs, hx1, by simp [Hid], Keeps.refl _ _⟩
    case round =>
      obtain ⟨k, hk, rfl, rfl, cur, hown, hall, hbel⟩ := hrel
      have hbs := hbel.size
      by_cases hlt : k < n
      · have hn1 : Hid (((cur.set (k * 2) (.string (mkT (q + 2 * k)))).set (k * 2 + 1) (.string (mkT (q + 2 * k + 1)))).take ((k + 1) * 2) = (s2V (mkL q n)).take ((k + 1) * 2)) := by
          have h9 := fill_two (l := mkL q n) hall.out (by rw [mkL_length]; exact hlt) (by have := hown.1; omega)
          rw [mkL_get] at h9
          exact h9
        clear hall hx1 hx2
        go_wp2_with (go_at_call 54; refine (markText_any _ _ (by omega) (by omega)).mono ?_; first
          | (rintro e w1 ⟨rfl, b1⟩
             have ho1 := own_next hown b1
             obtain ⟨⟨u0, hu0, hf0⟩, u1, hu1, hf1⟩ := own_two ho1 hlt
             have hs1 := (ho1.stored (k * 2) (.string (mkT (q + 2 * k)))).1
             have kp1 := (hbel.trans (Keeps.of_below b1)).trans (keeps_set w1 (p := ⟨g, k * 2, none⟩) (.string (mkT (q + 2 * k))) ⟨hg1, hg3⟩)
             clear hown)
          | (rintro e w2 ⟨rfl, b2⟩
             have ho2 := own_next hs1 b2
             obtain ⟨⟨v0, hv0, hg0'⟩, v1, hv1, hg1'⟩ := own_two ho2 hlt
             have hs2 := (ho2.stored (k * 2 + 1) (.string (mkT (q + 2 * k + 1)))).1
             have kp2 := (kp1.trans (Keeps.of_below b2)).trans (keeps_set w2 (p := ⟨g, k * 2 + 1, none⟩) (.string (mkT (q + 2 * k + 1))) ⟨hg1, hg3⟩)
             clear hs1 ho1 ho2 kp1))
        go_roundw
        case rel => exact ⟨k + 1, by omega, by go_num, by go_num, _, hs2, hn1, kp2⟩
        case measure => simp [intOf]; omega
      · obtain rfl : k = n := by omega
        have he : cur = s2V (mkL q k) := by
          have h1 := hall.out
          rw [List.take_of_length_le (by have := hown.1; omega), List.take_of_length_le (by rw [s2V_length, mkL_length]; exact Nat.le_refl _)] at h1
          exact h1
        subst he
        clear hall hx1
        go_wp2
        go_ret
        exact ⟨rfl, ⟨hown, hx2⟩, hbel⟩
set_option maxHeartbeats 1000000 in
theorem heldAttrS_any {A : Option Addr} {n c : Nat} {q : Int} (w : World) (hx : Reads w w.heap.size 2 A n (s2V (mkL q n))) (hn : n ≤ 1073741824) (q0 : 0 < q) (q1 : q ≤ 1073741824) :
    Calls Tryd.prog 42 #[.slice A n c, .int .i64 q] w fun e w' => e = .returned (.int .i64 (q + 2 * n)) ∧ Below w.heap.size w w' := by
  go_enter Tryd.func42, Tryd.ntmps42
  go_wp2
  go_loopw [1, 5] (fun p i wr => ∃ k : Nat, k ≤ n ∧ i = .int .i64 k ∧ p = .int .i64 (q + 2 * k) ∧ Below w.heap.size w wr) (fun _ i _ => n - (intOf i).toNat)
  case atStart => exact ⟨0, Nat.zero_le _, rfl, by simp, Below.refl _ _⟩
  case round =>
    obtain ⟨k, hk, rfl, rfl, hbel⟩ := hrel
    have hbs := hbel.size
    by_cases hlt : k < n
    · obtain ⟨b0, off0, rfl, hab, hcx⟩ := (hx.below hbel).two hlt
      obtain ⟨hc0, hc1⟩ := hcx (by rw [mkL_length]; exact hlt)
      rw [mkL_get] at hc0 hc1
      simp only at hc0 hc1
      have hk0 : (0 : Int) ≤ (k : Int) := Int.natCast_nonneg _
      have hk9 : (k : Int) < (n : Int) := by omega
      clear hx hcx
      go_wp2_with fail
      go_region_with (go_at_call 54; refine (markText_any (q + 2 * k) _ (by omega) (by omega)).mono ?_; rintro e w1 ⟨rfl, b1⟩; have hc2 : w1.cell? ⟨b0, off0 + k * 2, none⟩ = some (.string (mkT (q + 2 * k))) := by { rw [(bcell b1).1 b0 _ (by simp; omega)]; simp [hc0] })
      all_goals
        have B1 : Below w.heap.size w w1 := hbel.drew.trans (b1.mono hbs)
        have hc3 : w1.cell? ⟨b0, off0 + k * 2 + 1, none⟩ = some (.string (mkT (q + 2 * k + 1))) := by rw [(bcell b1).1 b0 _ (by simp; omega)]; simp [hc1]
        have hz1 : wr.heap.size ≤ w1.heap.size := by have := b1.size; simpa using this
        clear b1 hc2 hc0 hc1
        go_wp2_with fail
        go_region_with (go_at_call 54; refine (markText_any (q + 2 * k + 1) _ (by omega) (by omega)).mono ?_; rintro e w2 ⟨rfl, b2⟩; have hc4 : w2.cell? ⟨b0, off0 + k * 2 + 1, none⟩ = some (.string (mkT (q + 2 * k + 1))) := by { rw [(bcell b2).1 b0 _ (by simp; omega)]; simp [hc3] })
        all_goals
          have B2 : Below w.heap.size w w2 := B1.drew.trans (b2.mono (by simp; omega))
          clear b2 hc3 hc4
          go_wp2
          go_roundw
          case rel => exact ⟨k + 1, by omega, by go_num, by go_num, B2⟩
          case measure => simp [intOf]; omega
    · obtain rfl : k = n := by omega
      go_wp2
      go_ret
      exact ⟨rfl, hbel⟩
end Go.Proofs.YtkmechjilekcmaaDoor
