/-
  The law FnIntegers: its walk. Conditions: the tables and sentinels of strconv as the text lays them.
-/
import Derived.Test.YtmfaihelphfbgaaDoorFni
import Derived.Lib.ItoaLen
namespace Go.Proofs.YtmfaihelphfbgaaDoor
set_option linter.unusedVariables false
set_option linter.unusedSimpArgs false
set_option maxRecDepth 100000
open Go.ChangeShapes Go.WideShapes Go.ChangeAt Go.RowKit Go.Deep

theorem mod_law {a b : Int} (h3 : 1 ≤ b) (h4 : b ≤ 1000000000000) : 0 ≤ modZ a b ∧ modZ a b < b ∧ (a.tmod b - modZ a b).tmod b = 0 := by
  have hq := inR_t (n := b) h3 h4
  have hb := tmod_bounds a h3
  by_cases ht : 0 ≤ a.tmod b
  · have e := modZ_pos hq h3 ht
    refine ⟨by omega, by omega, ?_⟩
    rw [← e, Int.sub_self, Int.zero_tmod]
  · have e := modZ_neg (p := a) hq h3 (by omega)
    refine ⟨by omega, by omega, ?_⟩
    rw [← e, show a.tmod b - (a.tmod b + b) = -b by omega, Int.neg_tmod, Int.tmod_self, Int.neg_zero]
theorem mod_out {a b : Int} (h : b < 1 ∨ 1000000000000 < b) : modZ a b = 0 := modZ_no (inR_f h)
/-- what ParseInt of a formatted integer answers -/
theorem parse_fmt (m : Int) : (m < 0 ∧ okI (fmtI m) = false ∧ valI (fmtI m) = 0) ∨ (1000000000000 < m ∧ okI (fmtI m) = false ∧ valI (fmtI m) = 0) ∨ (0 ≤ m ∧ m ≤ 1000000000000 ∧ okI (fmtI m) = true ∧ valI (fmtI m) = m) := by
  by_cases h1 : m < 0
  · exact .inl ⟨h1, neg_not_ok h1, valI_false (neg_not_ok h1)⟩
  · by_cases h2 : 1000000000000 < m
    · exact .inr (.inl ⟨h2, big_not_ok h2, valI_false (big_not_ok h2)⟩)
    · exact .inr (.inr ⟨by omega, by omega, okI_fmt (by omega) (by omega)⟩)
theorem fmtI_len {n : Int} (h1 : -9223372036854775808 ≤ n) (h2 : n ≤ 9223372036854775807) : (fmtI n).size ≤ 21 := by
  have := Lib.itoa_length_le n h1 h2
  show (Lib.itoa n).toArray.size ≤ 21
  simpa using this
/-- the numbers of CeilDiv and Mod, where they stand -/
def NumCase (a b q r : Int) : Prop :=
  (b < 1 ∧ q = 0 ∧ r = 0) ∨ (1 ≤ b ∧ 1000000000000 < b ∧ q = 0 ∧ r = 0) ∨
  (1 ≤ b ∧ b ≤ 1000000000000 ∧ 0 ≤ r ∧ r < b ∧ (a.tmod b - r).tmod b = 0 ∧ -b < a.tmod b ∧ a.tmod b < b ∧
    ((a < 0 ∧ q = 0) ∨ (0 ≤ a ∧ 1000000000000 < a ∧ q = 0 ∧ (a % b - r).tmod b = 0 ∧ 0 ≤ a % b ∧ a % b < b) ∨ (0 ≤ a ∧ a ≤ 1000000000000 ∧ 0 ≤ q ∧ q ≤ 2000000000000 ∧ a ≤ q * b ∧ q * b - a < b ∧ (a % b - r).tmod b = 0 ∧ 0 ≤ a % b ∧ a % b < b)))
theorem num_case (a b : Int) : NumCase a b (ceilZ a b) (modZ a b) := by
  unfold NumCase
  by_cases h1 : b < 1
  · exact .inl ⟨h1, ceil_out (by omega), mod_out (by omega)⟩
  · by_cases h2 : 1000000000000 < b
    · exact .inr (.inl ⟨by omega, h2, ceil_out (by omega), mod_out (by omega)⟩)
    · obtain ⟨r1, r2, r3⟩ := mod_law (a := a) (show 1 ≤ b by omega) (by omega)
      obtain ⟨t1, t2⟩ := tmod_bounds a (show 1 ≤ b by omega)
      refine .inr (.inr ⟨by omega, by omega, r1, r2, r3, t1, t2, ?_⟩)
      have e0 : 0 ≤ a → (a % b - modZ a b).tmod b = 0 ∧ 0 ≤ a % b ∧ a % b < b := fun ha => by
        have e := Int.tmod_eq_emod_of_nonneg ha (b := b)
        rw [e] at r3
        exact ⟨r3, Int.emod_nonneg a (by omega), Int.emod_lt_of_pos a (by omega)⟩
      by_cases h3 : a < 0
      · exact .inl ⟨h3, ceil_out (by omega)⟩
      · by_cases h4 : 1000000000000 < a
        · exact .inr (.inl ⟨by omega, h4, ceil_out (by omega), e0 (by omega)⟩)
        · obtain ⟨c1, c2, c3, c4⟩ := ceil_law (a := a) (b := b) (by omega) (by omega) (by omega) (by omega)
          exact .inr (.inr ⟨by omega, by omega, c3, c4, c1, c2, e0 (by omega)⟩)

set_option maxHeartbeats 4000000 in
theorem integers_walk (w : World) (hld : LdP w) (A : Option Addr) (n c : Nat) (zs : List Int) (ha : ArgInts .u8 w A n zs) : Calls Tryd.prog 3 #[.slice A n c] w fun e w' => e = .returned (.bool true) ∧ Below w.heap.size w w' := by
  obtain ⟨hl, hm, hx, hwf⟩ := ha
  have hz : ∀ z ∈ zs, 0 ≤ z ∧ z ≤ 255 := u8_all hwf
  clear hwf hl
  by_cases hn : n ≤ 1048576
  · go_enter Tryd.func3, Tryd.ntmps3
    go_wp2_with (fail)
    go_at_call 8
    refine (big_no _ hn).mono ?_
    rintro e w0 ⟨rfl, rfl⟩
    go_wp2_with (fail)
    go_at_call 9
    refine (drawParseInt_any _ hx hn hz).mono ?_
    rintro e w1 ⟨s, hs, rfl, hb⟩
    replace hx := hx.next hb
    go_wp2_with (fail)
    go_at_call 10
    refine (parseInt_impl _ (hld.below hb) s (by omega)).mono ?_
    rintro e w2 ⟨rfl, b2⟩
    replace hx := hx.next b2
    replace hb := hb.trans (b2.mono hb.size)
    clear b2
    go_wp2_with (fail)
    go_at_call 11
    refine (drawFormatInt_any _ hx hn hz).mono ?_
    rintro e w3 ⟨m, hm1, hm2, rfl, b3⟩
    replace hx := hx.next b3
    replace hb := hb.trans (b3.mono hb.size)
    clear b3
    go_wp2_with (fail)
    go_at_call 12
    refine (formatInt_impl _ (hld.below hb).toLdF m hm1 hm2).mono ?_
    rintro e w4 ⟨rfl, b4⟩
    replace hx := hx.next b4
    replace hb := hb.trans (b4.mono hb.size)
    clear b4
    have hfl := fmtI_len hm1 hm2
    go_wp2_with (fail)
    go_at_call 10
    refine (parseInt_impl _ (hld.below hb) (fmtI m) (by omega)).mono ?_
    rintro e w5 ⟨rfl, b5⟩
    replace hx := hx.next b5
    replace hb := hb.trans (b5.mono hb.size)
    clear b5 hfl
    go_wp2_with (fail)
    go_at_call 13
    refine (drawCeilDiv_any _ hx hn hz).mono ?_
    rintro e w6 ⟨a, b, ha1, ha2, hb1, hb2, rfl, b6⟩
    replace hb := hb.trans (b6.mono hb.size)
    clear b6 hx hz
    go_wp2_with (fail)
    go_at_call 14
    refine (ceilDiv_impl a b ha1 ha2 hb1 hb2 _).mono ?_
    rintro e w7 ⟨rfl, rfl⟩
    go_wp2_with (fail)
    go_at_call 15
    refine (mod_impl a b ha1 ha2 _).mono ?_
    rintro e w8 ⟨rfl, rfl⟩
    have hnc := num_case a b
    generalize ceilZ a b = q at *
    generalize modZ a b = r at *
    have hpf := parse_fmt m
    generalize valI (fmtI m) = k at *
    generalize okI (fmtI m) = fine at *
    cases hok : okI s
    · clear hld
      unfold NumCase at hnc
      rcases hpf with ⟨p1, rfl, rfl⟩ | ⟨p1, rfl, rfl⟩ | ⟨p1, p2, rfl, rfl⟩ <;> rcases hnc with ⟨n1, rfl, rfl⟩ | ⟨n0, n1, rfl, rfl⟩ | ⟨n1, n2, n3, n4, n5, n6, n7, ⟨n8, rfl⟩ | ⟨n8, n9, rfl, n14, n15, n16⟩ | ⟨n8, n9, n10, n11, n12, n13, n14, n15, n16⟩⟩
      all_goals
        go_wp2
        go_ret
        exact ⟨rfl, hb⟩
    · obtain ⟨v1, v2, v3⟩ := okI_true hok
      have hfc := formatInt_impl _ (hld.below hb).toLdF (valI s) (by omega) (by omega)
      rw [v3] at hfc
      generalize valI s = v at *
      clear v3 hld
      unfold NumCase at hnc
      rcases hpf with ⟨p1, rfl, rfl⟩ | ⟨p1, rfl, rfl⟩ | ⟨p1, p2, rfl, rfl⟩ <;> rcases hnc with ⟨n1, rfl, rfl⟩ | ⟨n0, n1, rfl, rfl⟩ | ⟨n1, n2, n3, n4, n5, n6, n7, ⟨n8, rfl⟩ | ⟨n8, n9, rfl, n14, n15, n16⟩ | ⟨n8, n9, n10, n11, n12, n13, n14, n15, n16⟩⟩
      all_goals
        go_wp2_with (fail)
        go_at_call 12
        refine hfc.mono ?_
        rintro e w9 ⟨rfl, b9⟩
        go_wp2
        go_ret
        exact ⟨rfl, hb.trans (b9.mono hb.size)⟩
  · go_enter Tryd.func3, Tryd.ntmps3
    go_wp2_with (go_at_call 8; refine (big_yes _ hn hm).mono ?_; rintro e w0 ⟨rfl, rfl⟩)
    go_ret
    exact ⟨rfl, Below.refl _ _⟩
end Go.Proofs.YtmfaihelphfbgaaDoor
