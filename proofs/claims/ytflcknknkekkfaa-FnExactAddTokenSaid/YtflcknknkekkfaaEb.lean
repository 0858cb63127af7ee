/-
  Contracts of EqualBuilders of the program and of the reference, and of what they call. Conditions: at most 2^30 elements.
-/
import Derived.Test.YtflcknknkekkfaaCt
import Derived.Test.YtflcknknkekkfaaCmp
import Derived.Deep.RegionHeld3
import Derived.Laws.StructEq
import Derived.Deep.QuietTactic
import Derived.BigQuiet
namespace Go.Proofs.Ytflcknknkekkfaa
set_option linter.unusedVariables false
set_option linter.unusedSimpArgs false
set_option maxRecDepth 100000
open Go.ChangeShapes Go.WideShapes Go.ChangeAt Go.RowKit Go.Deep

instance : DecidableEq Nod := fun a b =>
  if h : a.name = b.name ∧ a.text = b.text ∧ a.parent = b.parent ∧ a.attrs = b.attrs then isTrue (by cases a; cases b; simp at h; simp [h]) else isFalse (fun e => h (by subst e; exact ⟨rfl, rfl, rfl, rfl⟩))
theorem nod_ne {an bn ax bx : ByteArray} {ap bp : Int} {aa ba : List S2} (h : ¬ (an = bn ∧ ax = bx ∧ ap = bp ∧ aa = ba)) : decide ((⟨an, ax, ap, aa⟩ : Nod) = ⟨bn, bx, bp, ba⟩) = false := by
  simp only [decide_eq_false_iff_not]
  intro e
  injection e with h1 h2 h3 h4
  exact h ⟨h1, h2, h3, h4⟩
theorem list_ne_len {α : Type} [DecidableEq α] {l m : List α} (h : l.length ≠ m.length) : decide (l = m) = false := by
  simp only [decide_eq_false_iff_not]
  rintro rfl
  exact h rfl
theorem list_ne_at {α : Type} [DecidableEq α] {l m : List α} {k : Nat} (h1 : k < l.length) (h2 : k < m.length) (h : ¬ l[k] = m[k]) : decide (l = m) = false := by
  simp only [decide_eq_false_iff_not]
  rintro rfl
  exact h rfl
theorem list_eq_all {α : Type} [DecidableEq α] {l m : List α} {n : Nat} (h1 : l.length = n) (h2 : m.length = n) (h : l.take n = m.take n) : decide (l = m) = true := by
  rw [List.take_of_length_le (by omega), List.take_of_length_le (by omega)] at h
  simp [h]
theorem str_ne {a b : ByteArray} (h : ¬ a = b) : (a.toList == b.toList) = false := by rw [toList_eq_iff]; simp [h]
theorem eqIn_Attr (a b : S2) (w : World) : (Op.equalIn 10000 94 (.agg #[.string a.1, .string a.2]) (.agg #[.string b.1, .string b.2])).run Try.prog w = .ok (s2eq a b) w := by
  have u3 := Try.underlying9
  have a3 := Try.isAgg9
  have z3 := Try.sizeOf9
  have hS : Try.prog.underlying 94 = some (.struct (Try.prog.fieldsOf 94)) := by kernel_rfl
  have hp : Try.prog.stoodInHeld 94 = false := by kernel_rfl
  rw [show (10000 : Nat) = 9999 + 1 from rfl, run_equalIn_agg w 9999 94 _ _ hS hp]
  simp only [Program.fieldsOf, Try.underlying94]
  go_simp
  unfold s2eq
  by_cases h1 : a.1.toList = b.1.toList <;> by_cases h2 : a.2.toList = b.2.toList <;> simp [h1, h2]
theorem guard_Attr : Try.prog.eqGuardType Try.prog.depth 94 = false := by kernel_rfl
set_option maxHeartbeats 400000 in
theorem equalAttrs_any {A A' : Option Addr} {n n' c c' : Nat} {l m : List S2} (w : World) (hx : Reads w w.heap.size 2 A n (s2V l)) (hy : Reads w w.heap.size 2 A' n' (s2V m)) (hn : n ≤ 1073741824) :
    Calls Try.prog 104 #[.slice A n c, .slice A' n' c'] w fun e w' => e = .returned (.bool (decide (l = m))) ∧ Below w.heap.size w w' := by
  have lx := hx.len2
  have ly := hy.len2
  have hg := guard_Attr
  by_cases hnn : n = n'
  · subst hnn
    have Lx := Lib.hid lx
    have Ly := Lib.hid ly
    clear lx ly
    go_enter Try.func104, Try.ntmps104
    go_wp2
    go_loopw [13] (fun i wr => ∃ k : Nat, k ≤ n ∧ i = .int .i64 k ∧ Hid (l.take k = m.take k) ∧ Below w.heap.size w wr) (fun i _ => n - (intOf i).toNat)
    case atStart => exact ⟨0, Nat.zero_le _, rfl, rfl, Below.refl _ _⟩
    case round =>
      obtain ⟨k, hk, rfl, hall, hbel⟩ := hrel
      by_cases hlt : k < n
      · obtain ⟨b0, off0, rfl, hab, hcx⟩ := (hx.below hbel).two hlt
        obtain ⟨b1, off1, rfl, hab', hcy⟩ := (hy.below hbel).two hlt
        have hl1 : k < l.length := by rw [Lx.out]; exact hlt
        have hl2 : k < m.length := by rw [Ly.out]; exact hlt
        obtain ⟨hc0, hc1⟩ := hcx hl1
        obtain ⟨hd0, hd1⟩ := hcy hl2
        have hq := eqIn_Attr l[k] m[k]
        have hk0 : (0 : Int) ≤ (k : Int) := Int.natCast_nonneg _
        have hk9 : (k : Int) < (n : Int) := by omega
        cases he : s2eq l[k] m[k]
        · have hm : Hid (decide (l = m) = false) := list_ne_at hl1 hl2 (by rw [s2eq_iff] at he; simpa using he)
          generalize l[k] = x at *
          generalize m[k] = y at *
          clear hx hy hcx hcy hall
          go_wp2_with fail
          go_region
          all_goals
            go_wp2
            go_ret
            exact ⟨ret_bool hm.out.symm, hbel.drew⟩
        · have hm : Hid (l.take (k + 1) = m.take (k + 1)) := take_succ_eq hl1 hl2 hall.out (by rw [s2eq_iff] at he; simpa using he)
          generalize l[k] = x at *
          generalize m[k] = y at *
          clear hx hy hcx hcy hall
          go_wp2_with fail
          go_region
          all_goals
            go_wp2
            go_roundw
            case rel => exact ⟨k + 1, by omega, by go_num, hm, hbel.drew⟩
            case measure => simp [intOf]; omega
      · obtain rfl : k = n := by omega
        have hm : Hid (decide (l = m) = true) := list_eq_all Lx.out Ly.out hall.out
        go_wp2
        go_ret
        exact ⟨ret_bool hm.out.symm, hbel⟩
  · have hm : Hid (decide (l = m) = false) := list_ne_len (by omega)
    have hne : ((n : Int) != (n' : Int)) = true := by rw [bne_iff_ne]; omega
    clear lx ly
    go_enter Try.func104, Try.ntmps104
    go_wp2
    go_ret
    exact ⟨ret_bool hm.out.symm, Below.refl _ _⟩
set_option maxHeartbeats 800000 in
theorem l6Same_any {A A' : Option Addr} {c c' : Nat} (a b : Nod) (w : World) (hx : Reads w w.heap.size 2 A a.attrs.length (s2V a.attrs)) (hy : Reads w w.heap.size 2 A' b.attrs.length (s2V b.attrs)) (hn : a.attrs.length ≤ 1073741824) (hn' : b.attrs.length ≤ 1073741824) :
    Calls Try.prog 81 #[.agg #[.string a.name, .string a.text, .int .i64 a.parent, .slice A a.attrs.length c], .agg #[.string b.name, .string b.text, .int .i64 b.parent, .slice A' b.attrs.length c']] w fun e w' => e = .returned (.bool (decide (a = b))) ∧ Below w.heap.size w w' := by
  obtain ⟨an, ax, ap, aa⟩ := a
  obtain ⟨bn, bx, bp, ba⟩ := b
  simp only at *
  have hb0 := ((Below.refl w.heap.size w).alloc (Nat.le_refl _) (.cells #[.string an, .string ax, .int .i64 ap, .slice A aa.length c] 74)).alloc (by simp) (.cells #[.string bn, .string bx, .int .i64 bp, .slice A' ba.length c'] 74)
  have hx' := (hx.below hb0).more hb0.size
  have hy' := (hy.below hb0).more hb0.size
  by_cases h1 : an = bn
  · subst h1
    by_cases h2 : ax = bx
    · subst h2
      by_cases h3 : ap = bp
      · subst h3
        by_cases hll : aa.length = ba.length
        · have Ll := Lib.hid hll
          have e4 : ((aa.length : Int) != (ba.length : Int)) = false := by rw [hll]; simp
          clear hll
          go_enter Try.func81, Try.ntmps81
          go_wp2
          go_loopw [5] (fun i wr => ∃ k : Nat, k ≤ aa.length ∧ i = .int .i64 k ∧ Hid (aa.take k = ba.take k) ∧ Below ((w.alloc (.cells #[.string an, .string ax, .int .i64 ap, .slice A aa.length c] 74)).alloc (.cells #[.string an, .string ax, .int .i64 ap, .slice A' ba.length c'] 74)).heap.size ((w.alloc (.cells #[.string an, .string ax, .int .i64 ap, .slice A aa.length c] 74)).alloc (.cells #[.string an, .string ax, .int .i64 ap, .slice A' ba.length c'] 74)) wr) (fun i _ => aa.length - (intOf i).toNat)
          case atStart => exact ⟨0, Nat.zero_le _, rfl, rfl, Below.refl _ _⟩
          case round =>
            obtain ⟨k, hk, rfl, hall, hbel⟩ := hrel
            have k0 : wr.cell? ⟨w.heap.size, 3, none⟩ = some (.slice A aa.length c) := by rw [(bcell hbel).1 _ _ (by first | omega | (simp; done) | (simp; omega))]; simp [go_sem]
            have k1 : wr.cell? ⟨w.heap.size + 1, 3, none⟩ = some (.slice A' ba.length c') := by rw [(bcell hbel).1 _ _ (by first | omega | (simp; done) | (simp; omega))]; simp [go_sem]
            by_cases hlt : k < aa.length
            · obtain ⟨b0, off0, rfl, hab, hcx⟩ := (hx'.below hbel).two hlt
              have hl2 : k < ba.length := by have := Ll.out; omega
              obtain ⟨b1, off1, rfl, hab', hcy⟩ := (hy'.below hbel).two hl2
              obtain ⟨hc0, hc1⟩ := hcx hlt
              obtain ⟨hd0, hd1⟩ := hcy hl2
              have hq := eqIn_Attr aa[k] ba[k]
              have hg := guard_Attr
              have hk0 : (0 : Int) ≤ (k : Int) := Int.natCast_nonneg _
              have hk9 : (k : Int) < (aa.length : Int) := by omega
              have hk8 : (k : Int) < (ba.length : Int) := by omega
              cases he : s2eq aa[k] ba[k]
              · have hm : Hid (decide ((⟨an, ax, ap, aa⟩ : Nod) = ⟨an, ax, ap, ba⟩) = false) := nod_ne (fun h => by have h4 := list_ne_at hlt hl2 (by rw [s2eq_iff] at he; simpa using he); simp [h.2.2.2] at h4)
                generalize aa[k] = x at *
                generalize ba[k] = y at *
                clear hx hy hx' hy' hcx hcy hall
                go_wp2_with fail
                go_quiet (fail)
                go_wp2
                go_ret
                exact ⟨ret_bool hm.out.symm, hb0.trans ((below_drewN hbel _).mono hb0.size)⟩
              · have hm : Hid (aa.take (k + 1) = ba.take (k + 1)) := take_succ_eq hlt hl2 hall.out (by rw [s2eq_iff] at he; simpa using he)
                generalize aa[k] = x at *
                generalize ba[k] = y at *
                clear hx hy hx' hy' hcx hcy hall
                go_wp2_with fail
                go_quiet (fail)
                go_wp2
                go_roundw
                case rel => exact ⟨k + 1, by omega, by go_num, hm, below_drewN hbel _⟩
                case measure => simp [intOf]; omega
            · obtain rfl : k = aa.length := by omega
              have hm : Hid (decide ((⟨an, ax, ap, aa⟩ : Nod) = ⟨an, ax, ap, ba⟩) = true) := by
                show _ = _
                have h4 := list_eq_all (l := aa) (m := ba) rfl Ll.out.symm hall.out
                simp only [decide_eq_true_eq] at h4
                rw [h4]
                simp
              clear hx hy hx' hy'
              go_wp2
              go_ret
              exact ⟨ret_bool hm.out.symm, hb0.trans (hbel.mono hb0.size)⟩
        · have hne : ((aa.length : Int) != (ba.length : Int)) = true := by rw [bne_iff_ne]; omega
          go_enter Try.func81, Try.ntmps81
          go_wp2
          go_ret
          exact ⟨ret_bool (nod_ne (fun h => hll (by rw [h.2.2.2]))).symm, hb0⟩
      · have e3 : (ap == bp) = false := by simpa using h3
        have e3' : (ap != bp) = true := by simpa using h3
        go_enter Try.func81, Try.ntmps81
        go_wp2
        go_ret
        exact ⟨ret_bool (nod_ne (fun h => h3 h.2.2.1)).symm, hb0⟩
    · have e2 := str_ne h2
      go_enter Try.func81, Try.ntmps81
      go_wp2
      go_ret
      exact ⟨ret_bool (nod_ne (fun h => h2 h.2.1)).symm, hb0⟩
  · have e1 := str_ne h1
    go_enter Try.func81, Try.ntmps81
    go_wp2
    go_ret
    exact ⟨ret_bool (nod_ne (fun h => h1 h.1)).symm, hb0⟩
set_option maxHeartbeats 800000 in
theorem equalNodes_any {A A' : Option Addr} {c c' : Nat} (a b : Nod) (w : World) (hx : Reads w w.heap.size 2 A a.attrs.length (s2V a.attrs)) (hy : Reads w w.heap.size 2 A' b.attrs.length (s2V b.attrs)) (hn : a.attrs.length ≤ 1073741824) (hn' : b.attrs.length ≤ 1073741824) :
    Calls Try.prog 83 #[.agg #[.string a.name, .string a.text, .int .i64 a.parent, .slice A a.attrs.length c], .agg #[.string b.name, .string b.text, .int .i64 b.parent, .slice A' b.attrs.length c']] w fun e w' => e = .returned (.bool (decide (a = b))) ∧ Below w.heap.size w w' := by
  obtain ⟨an, ax, ap, aa⟩ := a
  obtain ⟨bn, bx, bp, ba⟩ := b
  simp only at *
  have hb0 := ((Below.refl w.heap.size w).alloc (Nat.le_refl _) (.cells #[.string an, .string ax, .int .i64 ap, .slice A aa.length c] 74)).alloc (by simp) (.cells #[.string bn, .string bx, .int .i64 bp, .slice A' ba.length c'] 74)
  have hx' := (hx.below hb0).more hb0.size
  have hy' := (hy.below hb0).more hb0.size
  by_cases h1 : an = bn
  · subst h1
    by_cases h2 : ax = bx
    · subst h2
      by_cases h3 : ap = bp
      · subst h3
        have hres : decide (aa = ba) = decide ((⟨an, ax, ap, aa⟩ : Nod) = ⟨an, ax, ap, ba⟩) := by simp
        generalize hD : decide ((⟨an, ax, ap, aa⟩ : Nod) = ⟨an, ax, ap, ba⟩) = D at *
        clear hD
        go_enter Try.func83, Try.ntmps83
        go_wp2_with (go_at_call 104; refine (equalAttrs_any (l := aa) (m := ba) _ hx' hy' hn).mono ?_; rintro e w1 ⟨rfl, b1⟩; rw [hres])
        go_ret
        exact ⟨rfl, hb0.trans (b1.mono hb0.size)⟩
      · have e3 : (ap == bp) = false := by simpa using h3
        have e3' : (ap != bp) = true := by simpa using h3
        go_enter Try.func83, Try.ntmps83
        go_wp2
        go_ret
        exact ⟨ret_bool (nod_ne (fun h => h3 h.2.2.1)).symm, hb0⟩
    · have e2 := str_ne h2
      go_enter Try.func83, Try.ntmps83
      go_wp2
      go_ret
      exact ⟨ret_bool (nod_ne (fun h => h2 h.2.1)).symm, hb0⟩
  · have e1 := str_ne h1
    go_enter Try.func83, Try.ntmps83
    go_wp2
    go_ret
    exact ⟨ret_bool (nod_ne (fun h => h1 h.1)).symm, hb0⟩
set_option maxHeartbeats 800000 in
theorem equalFunc_any {A A' : Option Addr} {n n' c c' : Nat} {l m : List Nod} (w : World) (hx : ReadsN nodN w w.heap.size A n l) (hy : ReadsN nodN w w.heap.size A' n' m) (hn : n ≤ 1073741824) (hl : ∀ a ∈ l, a.attrs.length ≤ 1073741824) (hm : ∀ a ∈ m, a.attrs.length ≤ 1073741824) :
    Calls Try.prog 82 #[.slice A n c, .slice A' n' c', .func (.func 83) #[] #[]] w fun e w' => e = .returned (.bool (decide (l = m))) ∧ Below w.heap.size w w' := by
  have lx := hx.len
  have ly := hy.len
  by_cases hnn : n = n'
  · subst hnn
    have Lx := Lib.hid lx
    have Ly := Lib.hid ly
    clear lx ly
    go_enter Try.func82, Try.ntmps82
    go_wp2
    go_loopw [17] (fun i wr => ∃ k : Nat, k ≤ n ∧ i = .int .i64 k ∧ Hid (l.take k = m.take k) ∧ Below w.heap.size w wr) (fun i _ => n - (intOf i).toNat)
    case atStart => exact ⟨0, Nat.zero_le _, rfl, rfl, Below.refl _ _⟩
    case round =>
      obtain ⟨k, hk, rfl, hall, hbel⟩ := hrel
      have hbs := hbel.size
      by_cases hlt : k < n
      · obtain ⟨b0, off0, rfl, hab, hcx⟩ := (hx.below hbel).nod hlt
        obtain ⟨b1, off1, rfl, hab', hcy⟩ := (hy.below hbel).nod hlt
        have hl1 : k < l.length := by rw [Lx.out]; exact hlt
        have hl2 : k < m.length := by rw [Ly.out]; exact hlt
        obtain ⟨A1, c1, hr, hc0, hc1, hc2, hc3⟩ := hcx hl1
        obtain ⟨A2, c2, hs, hd0, hd1, hd2, hd3⟩ := hcy hl2
        have hk0 : (0 : Int) ≤ (k : Int) := Int.natCast_nonneg _
        have hk9 : (k : Int) < (n : Int) := by omega
        have e1 := hl l[k] (List.getElem_mem _)
        have e2 := hm m[k] (List.getElem_mem _)
        have hno : Hid (¬ l[k] = m[k] → decide (l = m) = false) := fun h => list_ne_at hl1 hl2 h
        have hyes : Hid (l[k] = m[k] → l.take (k + 1) = m.take (k + 1)) := fun h => take_succ_eq hl1 hl2 hall.out h
        generalize l[k] = x at *
        generalize m[k] = y at *
        have hb2 := ((Below.refl wr.heap.size wr).alloc (Nat.le_refl _) (.cells #[.string x.name, .string x.text, .int .i64 x.parent, .slice A1 x.attrs.length c1] 74)).alloc (by simp) (.cells #[.string y.name, .string y.text, .int .i64 y.parent, .slice A2 y.attrs.length c2] 74)
        have hr' := ((hr.more hbs).below hb2).more hb2.size
        have hs' := ((hs.more hbs).below hb2).more hb2.size
        have f0 : (wr.alloc (.cells #[.string x.name, .string x.text, .int .i64 x.parent, .slice A1 x.attrs.length c1] 74)).cell? ⟨b1, off1 + k * 4, none⟩ = some (.string y.name) := (World.cell?_alloc_some _ _ _ (by rw [hd0]; rfl)).trans hd0
        have f1 : (wr.alloc (.cells #[.string x.name, .string x.text, .int .i64 x.parent, .slice A1 x.attrs.length c1] 74)).cell? ⟨b1, off1 + k * 4 + 1, none⟩ = some (.string y.text) := (World.cell?_alloc_some _ _ _ (by rw [hd1]; rfl)).trans hd1
        have f2 : (wr.alloc (.cells #[.string x.name, .string x.text, .int .i64 x.parent, .slice A1 x.attrs.length c1] 74)).cell? ⟨b1, off1 + k * 4 + 2, none⟩ = some (.int .i64 y.parent) := (World.cell?_alloc_some _ _ _ (by rw [hd2]; rfl)).trans hd2
        have f3 : (wr.alloc (.cells #[.string x.name, .string x.text, .int .i64 x.parent, .slice A1 x.attrs.length c1] 74)).cell? ⟨b1, off1 + k * 4 + 3, none⟩ = some (.slice A2 y.attrs.length c2) := (World.cell?_alloc_some _ _ _ (by rw [hd3]; rfl)).trans hd3
        clear hx hy hcx hcy hall hl hm hr hs hd0 hd1 hd2 hd3
        cases he : decide (x = y)
        · have hres : Hid (decide (l = m) = false) := hno.out (by simpa using he)
          clear hno hyes
          go_wp2_with (go_at_call 83; refine (equalNodes_any x y _ hr' hs' e1 e2).mono ?_; rintro e w1 ⟨rfl, bb⟩; rw [he])
          go_ret
          exact ⟨ret_bool hres.out.symm, hbel.trans ((hb2.trans (bb.mono hb2.size)).mono hbs)⟩
        · have hres : Hid (l.take (k + 1) = m.take (k + 1)) := hyes.out (by simpa using he)
          clear hno hyes
          go_wp2_with (go_at_call 83; refine (equalNodes_any x y _ hr' hs' e1 e2).mono ?_; rintro e w1 ⟨rfl, bb⟩; rw [he])
          go_roundw
          case rel => exact ⟨k + 1, by omega, by go_num, hres, hbel.trans ((hb2.trans (bb.mono hb2.size)).mono hbs)⟩
          case measure => simp [intOf]; omega
      · obtain rfl : k = n := by omega
        have hres : Hid (decide (l = m) = true) := list_eq_all Lx.out Ly.out hall.out
        clear hx hy
        go_wp2
        go_ret
        exact ⟨ret_bool hres.out.symm, hbel⟩
  · have hres : Hid (decide (l = m) = false) := list_ne_len (by omega)
    have hne : ((n : Int) != (n' : Int)) = true := by rw [bne_iff_ne]; omega
    clear lx ly
    go_enter Try.func82, Try.ntmps82
    go_wp2
    go_ret
    exact ⟨ret_bool hres.out.symm, Below.refl _ _⟩
def eqBld (a b : Bld) : Bool := decide (a.nodes = b.nodes) && eqL a.opens b.opens
set_option maxHeartbeats 800000 in
theorem equalBuilders_impl {A A' D D' : Option Addr} {n c n' c' m d m' d' : Nat} (a b : Bld) (w : World) (hx : ReadsB w w.heap.size A n A' n' a) (hy : ReadsB w w.heap.size D m D' m' b) (hn : n ≤ 1073741824) (hn' : n' ≤ 1073741824) (hl : ∀ x ∈ a.nodes, x.attrs.length ≤ 1073741824) (hm : ∀ x ∈ b.nodes, x.attrs.length ≤ 1073741824) :
    Calls Try.prog 44 #[.agg #[.slice A n c, .slice A' n' c'], .agg #[.slice D m d, .slice D' m' d']] w fun e w' => e = .returned (.bool (eqBld a b)) ∧ Below w.heap.size w w' := by
  have hb0 := ((Below.refl w.heap.size w).alloc (Nat.le_refl _) (.cells #[.slice A n c, .slice A' n' c'] 52)).alloc (by simp) (.cells #[.slice D m d, .slice D' m' d'] 52)
  have hx' := hx.next hb0
  have hy' := hy.next hb0
  have hE : Hid (eqBld a b = (decide (a.nodes = b.nodes) && eqL a.opens b.opens)) := rfl
  clear hx hy
  go_enter Try.func44, Try.ntmps44
  go_wp2_with fail
  refine (equalFunc_any (l := a.nodes) (m := b.nodes) _ hx'.1 hy'.1 hn hl hm).mono ?_
  rintro e w1 ⟨rfl, b1⟩
  have c1 : w1.cell? ⟨w.heap.size, 1, none⟩ = some (.slice A' n' c') := by rw [(bcell b1).1 _ _ (by first | omega | (simp; done) | (simp; omega))]; simp [go_sem]
  have c2 : w1.cell? ⟨w.heap.size + 1, 1, none⟩ = some (.slice D' m' d') := by rw [(bcell b1).1 _ _ (by first | omega | (simp; done) | (simp; omega))]; simp [go_sem]
  have hb1 := hb0.trans (b1.mono hb0.size)
  have hx2 := hx'.next b1
  have hy2 := hy'.next b1
  clear hx' hy' b1
  cases he : decide (a.nodes = b.nodes)
  · rw [he] at hE
    go_wp2
    go_ret
    exact ⟨ret_bool hE.out.symm, hb1⟩
  · rw [he] at hE
    generalize hq : eqL a.opens b.opens = Q at *
    go_wp2_with fail
    refine (slicesEqual_ints _ hx2.2 hy2.2 (by omega)).mono ?_
    rintro e w2 ⟨rfl, b2⟩
    rw [hq]
    clear hq
    go_wp2
    go_ret
    exact ⟨ret_bool hE.out.symm, hb1.trans (b2.mono hb1.size)⟩
set_option maxHeartbeats 1600000 in
theorem equalBuilders_spec {A A' D D' : Option Addr} {n c n' c' m d m' d' : Nat} (a b : Bld) (w : World) (hx : ReadsB w w.heap.size A n A' n' a) (hy : ReadsB w w.heap.size D m D' m' b) (hn : n ≤ 1073741824) (hn' : n' ≤ 1073741824) (hl : ∀ x ∈ a.nodes, x.attrs.length ≤ 1073741824) (hm : ∀ x ∈ b.nodes, x.attrs.length ≤ 1073741824) :
    Calls Try.prog 43 #[.agg #[.slice A n c, .slice A' n' c'], .agg #[.slice D m d, .slice D' m' d']] w fun e w' => e = .returned (.bool (eqBld a b)) ∧ Below w.heap.size w w' := by
  have hb0 := ((Below.refl w.heap.size w).alloc (Nat.le_refl _) (.cells #[.slice A n c, .slice A' n' c'] 52)).alloc (by simp) (.cells #[.slice D m d, .slice D' m' d'] 52)
  have hx' := hx.next hb0
  have hy' := hy.next hb0
  have lx := hx.1.len
  have ly := hy.1.len
  have hE : Hid (eqBld a b = (decide (a.nodes = b.nodes) && eqL a.opens b.opens)) := rfl
  clear hx hy
  by_cases hnm : n = m
  · subst hnm
    have Lx := Lib.hid lx
    have Ly := Lib.hid ly
    clear lx ly
    cases hq : eqL a.opens b.opens
    · have hres : Hid (eqBld a b = false) := by show _ = _; rw [hE.out, hq]; simp
      go_enter Try.func43, Try.ntmps43
      go_wp2_with (go_at_call 80; refine (equalInts_spec _ hx'.2 hy'.2 (by omega)).mono ?_; rintro e w1 ⟨rfl, b1⟩; rw [hq])
      go_ret
      exact ⟨ret_bool hres.out.symm, hb0.trans (b1.mono hb0.size)⟩
    · have hE2 : Hid (eqBld a b = decide (a.nodes = b.nodes)) := by show _ = _; rw [hE.out, hq]; simp
      clear hE
      go_enter Try.func43, Try.ntmps43
      go_wp2_with (go_at_call 80; refine (equalInts_spec _ hx'.2 hy'.2 (by omega)).mono ?_; rintro e w1 ⟨rfl, b1⟩; rw [hq])
      clear hq
      have g1 : w1.cell? ⟨w.heap.size, 0, none⟩ = some (.slice A n c) := by rw [(bcell b1).1 _ _ (by first | omega | (simp; done) | (simp; omega))]; simp [go_sem]
      have g2 : w1.cell? ⟨w.heap.size + 1, 0, none⟩ = some (.slice D n d) := by rw [(bcell b1).1 _ _ (by first | omega | (simp; done) | (simp; omega))]; simp [go_sem]
      have z1 := b1.size
      simp at z1
      have hb1 := hb0.trans (b1.mono hb0.size)
      have hx2 := (hx'.next b1).1
      have hy2 := (hy'.next b1).1
      clear hx' hy' b1
      go_loopw [5] (fun i wr => ∃ k : Nat, k ≤ n ∧ i = .int .i64 k ∧ Hid (a.nodes.take k = b.nodes.take k) ∧ Below w1.heap.size w1 wr) (fun i _ => n - (intOf i).toNat)
      case atStart => exact ⟨0, Nat.zero_le _, rfl, rfl, Below.refl _ _⟩
      case round =>
        obtain ⟨k, hk, rfl, hall, hbel⟩ := hrel
        have hbs := hbel.size
        have k1 : wr.cell? ⟨w.heap.size, 0, none⟩ = some (.slice A n c) := by rw [(bcell hbel).1 _ _ (by first | omega | (simp; done) | (simp; omega))]; exact g1
        have k2 : wr.cell? ⟨w.heap.size + 1, 0, none⟩ = some (.slice D n d) := by rw [(bcell hbel).1 _ _ (by first | omega | (simp; done) | (simp; omega))]; exact g2
        by_cases hlt : k < n
        · obtain ⟨b0, off0, rfl, hab, hcx⟩ := (hx2.below hbel).nod hlt
          obtain ⟨b1, off1, rfl, hab', hcy⟩ := (hy2.below hbel).nod hlt
          have hl1 : k < a.nodes.length := by rw [Lx.out]; exact hlt
          have hl2 : k < b.nodes.length := by rw [Ly.out]; exact hlt
          obtain ⟨A1, c1, hr, hc0, hc1, hc2, hc3⟩ := hcx hl1
          obtain ⟨A2, c2, hs, hd0, hd1, hd2, hd3⟩ := hcy hl2
          have hk0 : (0 : Int) ≤ (k : Int) := Int.natCast_nonneg _
          have hk9 : (k : Int) < (n : Int) := by omega
          have e1 := hl a.nodes[k] (List.getElem_mem _)
          have e2 := hm b.nodes[k] (List.getElem_mem _)
          have hno : Hid (¬ a.nodes[k] = b.nodes[k] → decide (a.nodes = b.nodes) = false) := fun h => list_ne_at hl1 hl2 h
          have hyes : Hid (a.nodes[k] = b.nodes[k] → a.nodes.take (k + 1) = b.nodes.take (k + 1)) := fun h => take_succ_eq hl1 hl2 hall.out h
          generalize a.nodes[k] = x at *
          generalize b.nodes[k] = y at *
          have hr' : Reads wr.drew wr.drew.heap.size 2 A1 x.attrs.length (s2V x.attrs) := hr.more hbs
          have hs' : Reads wr.drew wr.drew.heap.size 2 A2 y.attrs.length (s2V y.attrs) := hs.more hbs
          clear hx2 hy2 hcx hcy hall hl hm hr hs
          cases he : decide (x = y)
          · have hres : Hid (eqBld a b = false) := by show _ = _; rw [hE2.out]; exact hno.out (by simpa using he)
            clear hno hyes
            go_wp2_with fail
            go_region_with (go_at_call 81; refine (l6Same_any x y _ hr' hs' e1 e2).mono ?_; rintro e w2 ⟨rfl, bb⟩; rw [he])
            all_goals
              go_wp2
              go_ret
              exact ⟨ret_bool hres.out.symm, hb1.trans ((hbel.drew.trans (bb.mono hbel.drew.size)).mono hb1.size)⟩
          · have hres : Hid (a.nodes.take (k + 1) = b.nodes.take (k + 1)) := hyes.out (by simpa using he)
            clear hno hyes
            go_wp2_with fail
            go_region_with (go_at_call 81; refine (l6Same_any x y _ hr' hs' e1 e2).mono ?_; rintro e w2 ⟨rfl, bb⟩; rw [he])
            all_goals
              go_wp2
              go_roundw
              case rel => exact ⟨k + 1, by omega, by go_num, hres, hbel.drew.trans (bb.mono hbel.drew.size)⟩
              case measure => simp [intOf]; omega
        · obtain rfl : k = n := by omega
          have hres : Hid (eqBld a b = true) := by show _ = _; rw [hE2.out]; exact list_eq_all Lx.out Ly.out hall.out
          clear hx2 hy2
          go_wp2
          go_ret
          exact ⟨ret_bool hres.out.symm, hb1.trans (hbel.mono hb1.size)⟩
  · have hres : Hid (eqBld a b = false) := by show _ = _; rw [hE.out, list_ne_len (by omega)]; rfl
    have hne : ((n : Int) != (m : Int)) = true := by rw [bne_iff_ne]; omega
    clear lx ly
    go_enter Try.func43, Try.ntmps43
    go_wp2
    go_ret
    exact ⟨ret_bool hres.out.symm, hb0⟩
end Go.Proofs.Ytflcknknkekkfaa
