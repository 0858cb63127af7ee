/-
  Contracts of the generated helpers on structs of two strings and on slices of them: compare, copy. Conditions: at most 2^30 elements, sizes of Go strings.
-/
import Derived.Test.YtipfhedbeeabdaaMrk
import Derived.Deep.RegionWith
namespace Go.Proofs.Ytipfhedbeeabdaa
set_option linter.unusedVariables false
set_option linter.unusedSimpArgs false
set_option maxRecDepth 100000
open Go.ChangeShapes Go.WideShapes Go.ChangeAt Go.RowKit Go.Deep

theorem info_Addr : (Try.prog.info? 25).map (fun i => (i.zero, i.size, i.bytes)) = some (some (.agg #[.string ⟨#[]⟩, .string ⟨#[]⟩]), 2, 32) := by kernel_rfl
theorem row_Addr : RowT Try.prog 33 25 2 32 := RowT.mk' Try.underlying33 info_Addr rfl (by omega)
theorem eqAddr_yes (a : S2) (w : World) : Calls Try.prog 41 #[.agg #[.string a.1, .string a.2], .agg #[.string a.1, .string a.2]] w fun e w' => e = .returned (.bool true) ∧ Below w.heap.size w w' := by
  go_enter Try.func41, Try.ntmps41
  go_wp2
  go_ret
  exact ⟨rfl, ((Below.refl _ _).alloc (Nat.le_refl _) _).alloc (by simp) _⟩
set_option maxHeartbeats 400000 in
theorem eqAddrS_yes {A A' : Option Addr} {n n' c c' : Nat} {l : List S2} (w : World) (hx : Reads w w.heap.size 2 A n (s2V l)) (hy : Reads w w.heap.size 2 A' n' (s2V l)) (hn : n ≤ 1073741824) :
    Calls Try.prog 20 #[.slice A n c, .slice A' n' c'] w fun e w' => e = .returned (.bool true) ∧ Below w.heap.size w w' := by
  have lx := hx.len2
  have ly := hy.len2
  obtain rfl : n = n' := by omega
  have Lx := Lib.hid lx
  clear lx ly
  go_enter Try.func20, Try.ntmps20
  go_wp2
  go_loopw [5] (fun i wr => ∃ k : Nat, k ≤ n ∧ i = .int .i64 k ∧ Below w.heap.size w wr) (fun i _ => n - (intOf i).toNat)
  case atStart => exact ⟨0, Nat.zero_le _, rfl, Below.refl _ _⟩
  case round =>
    obtain ⟨k, hk, rfl, hbel⟩ := hrel
    have hbs := hbel.size
    by_cases hlt : k < n
    · obtain ⟨b0, off0, rfl, hab, hcx⟩ := (hx.below hbel).two hlt
      obtain ⟨b1, off1, rfl, hab', hcy⟩ := (hy.below hbel).two hlt
      have hl1 : k < l.length := by rw [Lx.out]; exact hlt
      obtain ⟨hc0, hc1⟩ := hcx hl1
      obtain ⟨hd0, hd1⟩ := hcy hl1
      have hk0 : (0 : Int) ≤ (k : Int) := Int.natCast_nonneg _
      have hk9 : (k : Int) < (n : Int) := by omega
      generalize l[k] = a at *
      clear hx hy hcx hcy
      go_wp2_with fail
      go_region_with (go_at_call 41; refine (eqAddr_yes a _).mono ?_; rintro e w1 ⟨rfl, bb1⟩)
      all_goals
        go_wp2
        go_roundw
        case rel => exact ⟨k + 1, by omega, by go_num, (hbel.drew).trans (bb1.mono hbs)⟩
        case measure => simp [intOf]; omega
    · obtain rfl : k = n := by omega
      go_wp2
      go_ret
      exact ⟨rfl, hbel⟩
theorem toAddr_s2 (a : S2) (w : World) : Calls Try.prog 40 #[.agg #[.string a.1, .string a.2]] w fun e w' => e = .returned (.agg #[.string a.1, .string a.2]) ∧ Below w.heap.size w w' := by
  go_enter Try.func40, Try.ntmps40
  go_wp2
  exact bodyPost_ret (v := .agg #[.string a.1, .string a.2]) (by simp [results, Try.results40, go_sem]) rfl ⟨rfl, ((((Below.refl _ _).alloc (Nat.le_refl _) _).alloc (by simp) _).alloc (by simp; omega) _)⟩
set_option maxHeartbeats 400000 in
theorem toAddrS_any {A : Option Addr} {n c : Nat} {l : List S2} (w : World) (hx : Reads w w.heap.size 2 A n (s2V l)) (hn : n ≤ 1073741824) :
    Calls Try.prog 19 #[.slice A n c] w (GotRow w 25 2 n (s2V l)) := by
  have hmk := fun W => run_make_two (P := Try.prog) 33 25 (.agg #[.string ⟨#[]⟩, .string ⟨#[]⟩]) 32 Try.underlying33 info_Addr n (by omega) (by omega) W
  have lx := Lib.hid hx.len2
  go_enter Try.func19, Try.ntmps19
  go_wp2
  go_loopw [4] (fun i wr => ∃ k : Nat, k ≤ n ∧ i = .int .i64 k ∧ ∃ cur : List Value, wr.ownsRow w.heap.size 25 2 (.slice (some ⟨w.heap.size, 0, none⟩) n n) n cur ∧ Hid (cur.take (k * 2) = (s2V l).take (k * 2)) ∧ Below w.heap.size w wr)
    (fun i _ => n - (intOf i).toNat)
  case atStart =>
    exact ⟨0, Nat.zero_le _, rfl, _, World.ownsRow_lit w _ n (Nat.le_refl _) (by simp only [maxLen]; omega) (by rw [size_madeCells]), by simp [Hid], (Below.refl _ _).alloc (Nat.le_refl _) _⟩
  case round =>
    obtain ⟨k, hk, rfl, cur, hown, hall, hbel⟩ := hrel
    have hbs := hbel.size
    by_cases hlt : k < n
    · obtain ⟨b0, off0, rfl, hab, hcx⟩ := (hx.below hbel).two hlt
      have hl1 : k < l.length := by rw [lx.out]; exact hlt
      obtain ⟨hc0, hc1⟩ := hcx hl1
      have hn1 : Hid (((cur.set (k * 2) (.string l[k].1)).set (k * 2 + 1) (.string l[k].2)).take ((k + 1) * 2) = (s2V l).take ((k + 1) * 2)) := fill_two hall.out hl1 (by have := hown.1; omega)
      generalize l[k] = a at *
      clear hx hall hmk hcx
      go_wp2_with (go_at_call 40; refine (toAddr_s2 a _).mono ?_; rintro e w1 ⟨rfl, b1⟩; have ho1 := own_next hown b1; obtain ⟨⟨u0, hu0, hf0⟩, u1, hu1, hf1⟩ := own_two ho1 hlt)
      have hs1 := (ho1.stored (k * 2) (.string a.1)).1
      have hs2 := (hs1.stored (k * 2 + 1) (.string a.2)).1
      have hb2 := ((hbel.trans (b1.mono hbs)).setCell (p := ⟨w.heap.size, k * 2, none⟩) (Nat.le_refl _) (.string a.1)).setCell (p := ⟨w.heap.size, k * 2 + 1, none⟩) (Nat.le_refl _) (.string a.2)
      clear ho1 hs1 hown hu0 hf0 hu1 hf1 b1
      go_roundw
      case rel => exact ⟨k + 1, by omega, by go_num, _, hs2, hn1, hb2⟩
      case measure => simp [intOf]; omega
    · obtain rfl : k = n := by omega
      have he : cur = s2V l := by
        have h1 := hall.out
        rw [List.take_of_length_le (by have := hown.1; omega), List.take_of_length_le (by rw [s2V_length, lx.out]; exact Nat.le_refl _)] at h1
        exact h1
      subst he
      clear hmk hall
      go_wp2
      go_ret
      exact ⟨_, _, rfl, Own.of_row hown, hbel⟩

end Go.Proofs.Ytipfhedbeeabdaa
