/-
  Contracts of EqualSheets of the program and of the reference, and of what they call. Conditions: at most 2^30 elements.
-/
import Derived.Test.YtiifpdpejcbjnaaSh2
import Derived.Test.YtiifpdpejcbjnaaCmp
import Derived.Deep.RegionHeld3
import Derived.Laws.StructEq
import Derived.Deep.QuietTactic
import Derived.BigQuiet
namespace Go.Proofs.Ytiifpdpejcbjnaa
set_option linter.unusedVariables false
set_option linter.unusedSimpArgs false
set_option maxRecDepth 100000
open Go.ChangeShapes Go.WideShapes Go.ChangeAt Go.RowKit Go.Deep

theorem lst_ne_len {α : Type} [DecidableEq α] {l m : List α} (h : l.length ≠ m.length) : decide (l = m) = false := by
  simp only [decide_eq_false_iff_not]
  rintro rfl
  exact h rfl
theorem lst_ne_at {α : Type} [DecidableEq α] {l m : List α} {k : Nat} (h1 : k < l.length) (h2 : k < m.length) (h : ¬ l[k] = m[k]) : decide (l = m) = false := by
  simp only [decide_eq_false_iff_not]
  rintro rfl
  exact h rfl
theorem lst_eq_all {α : Type} [DecidableEq α] {l m : List α} {n : Nat} (h1 : l.length = n) (h2 : m.length = n) (h : l.take n = m.take n) : decide (l = m) = true := by
  rw [List.take_of_length_le (by omega), List.take_of_length_le (by omega)] at h
  simp [h]
def rEq (a b : Rul) : Bool := a.1.toList == b.1.toList && a.2 == b.2
theorem rEq_iff (a b : Rul) : rEq a b = decide (a = b) := by
  unfold rEq
  rw [toList_eq_iff, Bool.eq_iff_iff]
  simp [Prod.ext_iff]
theorem eqIn_Rule (a b : Rul) (w : World) : (Op.equalIn 10000 55 (.agg #[.string a.1, .int .i64 a.2]) (.agg #[.string b.1, .int .i64 b.2])).run Try.prog w = .ok (rEq a b) w := by
  have u3 := Try.underlying9
  have a3 := Try.isAgg9
  have z3 := Try.sizeOf9
  have u4 := Try.underlying3
  have a4 := Try.isAgg3
  have z4 := Try.sizeOf3
  have hS : Try.prog.underlying 55 = some (.struct (Try.prog.fieldsOf 55)) := by kernel_rfl
  have hp : Try.prog.stoodInHeld 55 = false := by kernel_rfl
  rw [show (10000 : Nat) = 9999 + 1 from rfl, run_equalIn_agg w 9999 55 _ _ hS hp]
  simp only [Program.fieldsOf, Try.underlying55]
  go_simp
  unfold rEq
  by_cases h1 : a.1.toList = b.1.toList <;> by_cases h2 : a.2 = b.2 <;> simp [h1, h2]
theorem guard_Rule : Try.prog.eqGuardType Try.prog.depth 55 = false := by kernel_rfl
set_option maxHeartbeats 400000 in
theorem equalRules_any {A A' : Option Addr} {n n' c c' : Nat} {l m : List Rul} (w : World) (hx : Reads w w.heap.size 2 A n (rulV l)) (hy : Reads w w.heap.size 2 A' n' (rulV m)) (hn : n ≤ 1073741824) :
    Calls Try.prog 43 #[.slice A n c, .slice A' n' c'] w fun e w' => e = .returned (.bool (decide (l = m))) ∧ Below w.heap.size w w' := by
  have lx := hx.lenR
  have ly := hy.lenR
  have hg := guard_Rule
  by_cases hnn : n = n'
  · subst hnn
    have Lx := Lib.hid lx
    have Ly := Lib.hid ly
    clear lx ly
    go_enter Try.func43, Try.ntmps43
    go_wp2
    go_loopw [13] (fun i wr => ∃ k : Nat, k ≤ n ∧ i = .int .i64 k ∧ Hid (l.take k = m.take k) ∧ Below w.heap.size w wr) (fun i _ => n - (intOf i).toNat)
    case atStart => exact ⟨0, Nat.zero_le _, rfl, rfl, Below.refl _ _⟩
    case round =>
      obtain ⟨k, hk, rfl, hall, hbel⟩ := hrel
      by_cases hlt : k < n
      · obtain ⟨b0, off0, rfl, hab, hcx⟩ := (hx.below hbel).rul hlt
        obtain ⟨b1, off1, rfl, hab', hcy⟩ := (hy.below hbel).rul hlt
        have hl1 : k < l.length := by rw [Lx.out]; exact hlt
        have hl2 : k < m.length := by rw [Ly.out]; exact hlt
        obtain ⟨hc0, hc1⟩ := hcx hl1
        obtain ⟨hd0, hd1⟩ := hcy hl2
        have hq := eqIn_Rule l[k] m[k]
        have hk0 : (0 : Int) ≤ (k : Int) := Int.natCast_nonneg _
        have hk9 : (k : Int) < (n : Int) := by omega
        cases he : rEq l[k] m[k]
        · have hm : Hid (decide (l = m) = false) := lst_ne_at hl1 hl2 (by rw [rEq_iff] at he; simpa using he)
          generalize l[k] = x at *
          generalize m[k] = y at *
          clear hx hy hcx hcy hall
          go_wp2_with fail
          go_region
          all_goals
            go_wp2
            go_ret
            exact ⟨ret_bool hm.out.symm, hbel.drew⟩
        · have hm : Hid (l.take (k + 1) = m.take (k + 1)) := take_succ_eq hl1 hl2 hall.out (by rw [rEq_iff] at he; simpa using he)
          generalize l[k] = x at *
          generalize m[k] = y at *
          clear hx hy hcx hcy hall
          go_wp2_with fail
          go_region
          all_goals
            go_wp2
            go_roundw
            case rel => exact ⟨k + 1, by omega, by go_num, hm, hbel.drew⟩
            case measure => simp [intOf]; omega
      · obtain rfl : k = n := by omega
        have hm : Hid (decide (l = m) = true) := lst_eq_all Lx.out Ly.out hall.out
        go_wp2
        go_ret
        exact ⟨ret_bool hm.out.symm, hbel⟩
  · have hm : Hid (decide (l = m) = false) := lst_ne_len (by omega)
    have hne : ((n : Int) != (n' : Int)) = true := by rw [bne_iff_ne]; omega
    clear lx ly
    go_enter Try.func43, Try.ntmps43
    go_wp2
    go_ret
    exact ⟨ret_bool hm.out.symm, Below.refl _ _⟩
theorem equalSheet_any {A A' : Option Addr} {c c' : Nat} (a b : List Rul) (w : World) (hx : Reads w w.heap.size 2 A a.length (rulV a)) (hy : Reads w w.heap.size 2 A' b.length (rulV b)) (hn : a.length ≤ 1073741824) :
    Calls Try.prog 28 #[.agg #[.slice A a.length c], .agg #[.slice A' b.length c']] w fun e w' => e = .returned (.bool (decide (a = b))) ∧ Below w.heap.size w w' := by
  have hb0 := ((Below.refl w.heap.size w).alloc (Nat.le_refl _) (.cells #[.slice A a.length c] 44)).alloc (by simp) (.cells #[.slice A' b.length c'] 44)
  have hx' := (hx.below hb0).more hb0.size
  have hy' := (hy.below hb0).more hb0.size
  go_enter Try.func28, Try.ntmps28
  go_wp2_with (go_at_call 43; refine (equalRules_any (l := a) (m := b) _ hx' hy' hn).mono ?_; rintro e w1 ⟨rfl, bb⟩)
  go_ret
  exact ⟨rfl, hb0.trans (bb.mono hb0.size)⟩
set_option maxHeartbeats 800000 in
theorem equalFuncS_any {A A' : Option Addr} {n n' c c' : Nat} {l m : List (List Rul)} (w : World) (hx : ReadsN shN w w.heap.size A n l) (hy : ReadsN shN w w.heap.size A' n' m) (hn : n ≤ 1073741824) (hl : ∀ a ∈ l, a.length ≤ 1073741824) :
    Calls Try.prog 27 #[.slice A n c, .slice A' n' c', .func (.func 28) #[] #[]] w fun e w' => e = .returned (.bool (decide (l = m))) ∧ Below w.heap.size w w' := by
  have lx := hx.len
  have ly := hy.len
  by_cases hnn : n = n'
  · subst hnn
    have Lx := Lib.hid lx
    have Ly := Lib.hid ly
    clear lx ly
    go_enter Try.func27, Try.ntmps27
    go_wp2
    go_loopw [17] (fun i wr => ∃ k : Nat, k ≤ n ∧ i = .int .i64 k ∧ Hid (l.take k = m.take k) ∧ Below w.heap.size w wr) (fun i _ => n - (intOf i).toNat)
    case atStart => exact ⟨0, Nat.zero_le _, rfl, rfl, Below.refl _ _⟩
    case round =>
      obtain ⟨k, hk, rfl, hall, hbel⟩ := hrel
      have hbs := hbel.size
      by_cases hlt : k < n
      · obtain ⟨b0, off0, rfl, hab, hcx⟩ := (hx.below hbel).sheet hlt
        obtain ⟨b1, off1, rfl, hab', hcy⟩ := (hy.below hbel).sheet hlt
        have hl1 : k < l.length := by rw [Lx.out]; exact hlt
        have hl2 : k < m.length := by rw [Ly.out]; exact hlt
        obtain ⟨A1, c1, hr, hc0⟩ := hcx hl1
        obtain ⟨A2, c2, hs, hd0⟩ := hcy hl2
        have hk0 : (0 : Int) ≤ (k : Int) := Int.natCast_nonneg _
        have hk9 : (k : Int) < (n : Int) := by omega
        have e1 := hl l[k] (List.getElem_mem _)
        have hno : Hid (¬ l[k] = m[k] → decide (l = m) = false) := fun h => lst_ne_at hl1 hl2 h
        have hyes : Hid (l[k] = m[k] → l.take (k + 1) = m.take (k + 1)) := fun h => take_succ_eq hl1 hl2 hall.out h
        generalize l[k] = x at *
        generalize m[k] = y at *
        have hb2 := ((Below.refl wr.heap.size wr).alloc (Nat.le_refl _) (.cells #[.slice A1 x.length c1] 44)).alloc (by simp) (.cells #[.slice A2 y.length c2] 44)
        have hr' := ((hr.more hbs).below hb2).more hb2.size
        have hs' := ((hs.more hbs).below hb2).more hb2.size
        have f0 : (wr.alloc (.cells #[.slice A1 x.length c1] 44)).cell? ⟨b1, off1 + k, none⟩ = some (.slice A2 y.length c2) := (World.cell?_alloc_some _ _ _ (by rw [hd0]; rfl)).trans hd0
        clear hx hy hcx hcy hall hl hr hs hd0
        cases he : decide (x = y)
        · have hres : Hid (decide (l = m) = false) := hno.out (by simpa using he)
          clear hno hyes
          go_wp2_with (go_at_call 28; refine (equalSheet_any x y _ hr' hs' e1).mono ?_; rintro e w1 ⟨rfl, bb⟩; rw [he])
          go_ret
          exact ⟨ret_bool hres.out.symm, hbel.trans ((hb2.trans (bb.mono hb2.size)).mono hbs)⟩
        · have hres : Hid (l.take (k + 1) = m.take (k + 1)) := hyes.out (by simpa using he)
          clear hno hyes
          go_wp2_with (go_at_call 28; refine (equalSheet_any x y _ hr' hs' e1).mono ?_; rintro e w1 ⟨rfl, bb⟩; rw [he])
          go_roundw
          case rel => exact ⟨k + 1, by omega, by go_num, hres, hbel.trans ((hb2.trans (bb.mono hb2.size)).mono hbs)⟩
          case measure => simp [intOf]; omega
      · obtain rfl : k = n := by omega
        have hres : Hid (decide (l = m) = true) := lst_eq_all Lx.out Ly.out hall.out
        clear hx hy
        go_wp2
        go_ret
        exact ⟨ret_bool hres.out.symm, hbel⟩
  · have hres : Hid (decide (l = m) = false) := lst_ne_len (by omega)
    have hne : ((n : Int) != (n' : Int)) = true := by rw [bne_iff_ne]; omega
    clear lx ly
    go_enter Try.func27, Try.ntmps27
    go_wp2
    go_ret
    exact ⟨ret_bool hres.out.symm, Below.refl _ _⟩
theorem equalSheets_impl {A A' : Option Addr} {n n' c c' : Nat} {l m : List (List Rul)} (w : World) (hx : ReadsN shN w w.heap.size A n l) (hy : ReadsN shN w w.heap.size A' n' m) (hn : n ≤ 1073741824) (hl : ∀ a ∈ l, a.length ≤ 1073741824) :
    Calls Try.prog 13 #[.slice A n c, .slice A' n' c'] w fun e w' => e = .returned (.bool (decide (l = m))) ∧ Below w.heap.size w w' := by
  go_enter Try.func13, Try.ntmps13
  go_wp2_with (go_at_call 27; refine (equalFuncS_any _ hx hy hn hl).mono ?_; rintro e w1 ⟨rfl, bb⟩)
  go_ret
  exact ⟨rfl, bb⟩
set_option maxHeartbeats 1600000 in
theorem equalSheets_spec {A A' : Option Addr} {n n' c c' : Nat} {l m : List (List Rul)} (w : World) (hx : ReadsN shN w w.heap.size A n l) (hy : ReadsN shN w w.heap.size A' n' m) (hn : n ≤ 1073741824) (hl : ∀ a ∈ l, a.length ≤ 1073741824) :
    Calls Try.prog 12 #[.slice A n c, .slice A' n' c'] w fun e w' => e = .returned (.bool (decide (l = m))) ∧ Below w.heap.size w w' := by
  have lx := hx.len
  have ly := hy.len
  have hg := guard_Rule
  by_cases hnn : n = n'
  · subst hnn
    have Lx := Lib.hid lx
    have Ly := Lib.hid ly
    clear lx ly
    go_enter Try.func12, Try.ntmps12
    go_wp2
    go_loopw [5] (fun i wr => ∃ k : Nat, k ≤ n ∧ i = .int .i64 k ∧ Hid (l.take k = m.take k) ∧ Below w.heap.size w wr) (fun i _ => n - (intOf i).toNat)
    case atStart => exact ⟨0, Nat.zero_le _, rfl, rfl, Below.refl _ _⟩
    case round =>
      obtain ⟨k, hk, rfl, hall, hbel⟩ := hrel
      have hbs := hbel.size
      by_cases hlt : k < n
      · obtain ⟨b0, off0, rfl, hab, hcx⟩ := (hx.below hbel).sheet hlt
        obtain ⟨b1, off1, rfl, hab', hcy⟩ := (hy.below hbel).sheet hlt
        have hl1 : k < l.length := by rw [Lx.out]; exact hlt
        have hl2 : k < m.length := by rw [Ly.out]; exact hlt
        obtain ⟨A1, c1, hr, hc0⟩ := hcx hl1
        obtain ⟨A2, c2, hs, hd0⟩ := hcy hl2
        have hk0 : (0 : Int) ≤ (k : Int) := Int.natCast_nonneg _
        have hk9 : (k : Int) < (n : Int) := by omega
        have e1 := hl l[k] (List.getElem_mem _)
        have hno : Hid (¬ l[k] = m[k] → decide (l = m) = false) := fun h => lst_ne_at hl1 hl2 h
        have hyes : Hid (l[k] = m[k] → l.take (k + 1) = m.take (k + 1)) := fun h => take_succ_eq hl1 hl2 hall.out h
        generalize l[k] = x at *
        generalize m[k] = y at *
        have hcell0 : Hid (∀ W : World, Below w.heap.size w W → W.cell? ⟨b0, off0 + k, none⟩ = some (.slice A1 x.length c1)) := fun W hW => by
          rw [(bcell hW).1 _ _ hab, ← (bcell hbel).1 _ _ hab]; exact hc0
        have hcell1 : Hid (∀ W : World, Below w.heap.size w W → W.cell? ⟨b1, off1 + k, none⟩ = some (.slice A2 y.length c2)) := fun W hW => by
          rw [(bcell hW).1 _ _ hab', ← (bcell hbel).1 _ _ hab']; exact hd0
        have hrd : Hid (∀ W : World, Below w.heap.size w W → Reads W w.heap.size 2 A1 x.length (rulV x)) := fun W hW => hr.keep fun p hp => by rw [hW.cell hp, hbel.cell hp]
        have hsd : Hid (∀ W : World, Below w.heap.size w W → Reads W w.heap.size 2 A2 y.length (rulV y)) := fun W hW => hs.keep fun p hp => by rw [hW.cell hp, hbel.cell hp]
        clear hcx hcy hall hl hr hs
        by_cases hxy : x.length = y.length
        · have Lxy := Lib.hid hxy
          have e4 : ((x.length : Int) != (y.length : Int)) = false := by rw [hxy]; simp
          clear hxy
          go_wp2_with fail
          go_quiet (fail)
          go_wp2
          go_loopw [6] (fun i wq => ∃ j : Nat, j ≤ x.length ∧ i = .int .i64 j ∧ Hid (x.take j = y.take j) ∧ Below w.heap.size w wq) (fun i _ => x.length - (intOf i).toNat)
          case atStart => exact ⟨0, Nat.zero_le _, rfl, rfl, below_drewN hbel _⟩
          case round =>
            obtain ⟨j, hj, rfl, hall2, hbel2⟩ := hrel
            have g0 : World.cell? _ ⟨b0, off0 + k, none⟩ = some (.slice A1 x.length c1) := hcell0.out _ hbel2
            have g1 : World.cell? _ ⟨b1, off1 + k, none⟩ = some (.slice A2 y.length c2) := hcell1.out _ hbel2
            by_cases hjt : j < x.length
            · have hjt2 : j < y.length := by have := Lxy.out; omega
              obtain ⟨b2, off2, rfl, hab2, hcx2⟩ := (hrd.out _ hbel2).rul hjt
              obtain ⟨b3, off3, rfl, hab3, hcy3⟩ := (hsd.out _ hbel2).rul hjt2
              obtain ⟨p0, p1⟩ := hcx2 hjt
              obtain ⟨r0, r1⟩ := hcy3 hjt2
              have hq := eqIn_Rule x[j] y[j]
              have hj0 : (0 : Int) ≤ (j : Int) := Int.natCast_nonneg _
              have hj9 : (j : Int) < (x.length : Int) := by omega
              have hj8 : (j : Int) < (y.length : Int) := by omega
              cases he : rEq x[j] y[j]
              · have hres : Hid (decide (l = m) = false) := hno.out (fun h => by have h4 := lst_ne_at hjt hjt2 (by rw [rEq_iff] at he; simpa using he); simp [h] at h4)
                generalize x[j] = u at *
                generalize y[j] = v at *
                clear hcx2 hcy3 hno hyes hall2
                go_wp2_with fail
                go_quiet (fail)
                go_wp2
                go_ret
                exact ⟨ret_bool hres.out.symm, below_drewN hbel2 _⟩
              · have hres : Hid (x.take (j + 1) = y.take (j + 1)) := take_succ_eq hjt hjt2 hall2.out (by rw [rEq_iff] at he; simpa using he)
                generalize x[j] = u at *
                generalize y[j] = v at *
                clear hcx2 hcy3 hno hyes hall2
                go_wp2_with fail
                go_quiet (fail)
                go_wp2
                go_roundw
                case rel => exact ⟨j + 1, by omega, by go_num, hres, below_drewN hbel2 _⟩
                case measure => simp [intOf]; omega
            · obtain rfl : j = x.length := by omega
              have hres : Hid (l.take (k + 1) = m.take (k + 1)) := hyes.out (by have h4 := lst_eq_all rfl Lxy.out.symm hall2.out; simpa using h4)
              clear hno hyes hall2
              go_wp2
              go_roundw
              case rel => exact ⟨k + 1, by omega, by go_num, hres, hbel2⟩
              case measure => simp [intOf]; omega
        · have hres : Hid (decide (l = m) = false) := hno.out (fun h => hxy (by rw [h]))
          have e4 : ((x.length : Int) != (y.length : Int)) = true := by rw [bne_iff_ne]; omega
          clear hno hyes hxy
          go_wp2_with fail
          go_quiet (fail)
          go_wp2
          go_ret
          exact ⟨ret_bool hres.out.symm, below_drewN hbel _⟩
      · obtain rfl : k = n := by omega
        have hres : Hid (decide (l = m) = true) := lst_eq_all Lx.out Ly.out hall.out
        clear hx hy
        go_wp2
        go_ret
        exact ⟨ret_bool hres.out.symm, hbel⟩
  · have hres : Hid (decide (l = m) = false) := lst_ne_len (by omega)
    have hne : ((n : Int) != (n' : Int)) = true := by rw [bne_iff_ne]; omega
    clear lx ly
    go_enter Try.func12, Try.ntmps12
    go_wp2
    go_ret
    exact ⟨ret_bool hres.out.symm, Below.refl _ _⟩
end Go.Proofs.Ytiifpdpejcbjnaa
