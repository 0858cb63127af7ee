/-
  Contracts of FormatSheet of the reference and of the program. Conditions: a sheet of at most 2^20 signs and rules; of the program's: the table of powers of ten.
-/
import Derived.Test.YtmfaihelphfbgaaDoorFsp
import Derived.Test.YtmfaihelphfbgaaDoorSpl
import Derived.Test.YtmfaihelphfbgaaDoorItm
import Derived.Test.YtmfaihelphfbgaaDoorShf
import Derived.Deep.RegionHeld3
namespace Go.Proofs.YtmfaihelphfbgaaDoor
set_option linter.unusedVariables false
set_option linter.unusedSimpArgs false
set_option maxRecDepth 100000
open Go.ChangeShapes Go.WideShapes Go.ChangeAt Go.RowKit Go.Deep

theorem Own.shape {w : World} {lo hi n c : Nat} {e : TypeId} {size : Nat} {A : Option Addr} {xs : List Value} (h : Own w lo hi e size (.slice A n c) n xs) : (A = none ∧ n = 0 ∧ c = 0) ∨ ∃ g, A = some ⟨g, 0, none⟩ ∧ n ≤ c ∧ c ≤ 9223372036854775807 := by
  obtain ⟨⟨h1, h2⟩, h3⟩ := h
  rcases h2 with ⟨hv, hn⟩ | ⟨g, cap, cur, hv, hb, hg, hn, hc, hs, ht⟩
  · injection hv with h4 _ h5
    exact .inl ⟨h4, hn, h5⟩
  · injection hv with hA _ hcap
    unfold maxLen at hc
    exact .inr ⟨g, hA, by omega, by omega⟩
set_option maxHeartbeats 4000000 in
theorem formatSheet_spec {A : Option Addr} {c : Nat} (l : List Rul) (w : World) (hx : Reads w w.heap.size 2 A l.length (rulV l)) (hz : ∀ a ∈ l, okRul a) (hs : shSz l ≤ 1048576) :
    Calls Tryd.prog 23 #[.agg #[.slice A l.length c]] w fun e w' => e = .returned (.string (fmtK l l.length)) ∧ Below w.heap.size w w' := by
  have hn : l.length ≤ 1048576 := by have h3 := rulsz_nonneg l; unfold shSz at hs; omega
  have hb0 := (Below.refl w.heap.size w).alloc (Nat.le_refl _) (.cells #[.slice A l.length c] 34)
  have hK : (w.alloc (.cells #[.slice A l.length c] 34)).cell? ⟨w.heap.size, 0, none⟩ = some (.slice A l.length c) := by simp [go_sem]
  have hle := fun k hk => fmtK_le hz hs (k := k) hk
  go_enter Tryd.func23, Tryd.ntmps23
  go_wp2_with (fail)
  go_loopw [3, 4] (fun v i wr => ∃ k : Nat, k ≤ l.length ∧ v = .string (fmtK l k) ∧ i = .int .i64 k ∧ Below (w.heap.size + 1) (w.alloc (.cells #[.slice A l.length c] 34)) wr) (fun _ i _ => l.length - (intOf i).toNat)
  case atStart => exact ⟨0, Nat.zero_le _, rfl, rfl, Below.refl _ _⟩
  case round =>
    obtain ⟨k, hk, rfl, rfl, hbel⟩ := hrel
    have hbs := hbel.size
    simp only [World.size_alloc] at hbs
    have K0 := (hbel.cell (p := ⟨w.heap.size, 0, none⟩) (Nat.lt_succ_self _)).trans hK
    have hbw : Below w.heap.size w wr := hb0.trans (hbel.mono (Nat.le_succ _))
    have hSk := hle k hk
    by_cases hlt : k < l.length
    · obtain ⟨b0, off0, rfl, hab, hcx⟩ := (hx.below hbw).rul hlt
      obtain ⟨d0, d1⟩ := hcx hlt
      obtain ⟨z0, z1, z2⟩ := hz l[k] (List.getElem_mem _)
      have hnm : (l[k].1).size ≤ 1048576 := by have := rulsz_mem (List.getElem_mem hlt); unfold shSz at hs; omega
      have hf1 := fun h => fmtK_first (l := l) hlt h
      have hf2 := fun h => fmtK_more (l := l) hlt h
      have hltI : (k : Int) < (l.length : Int) := by omega
      have hk0I : (0 : Int) ≤ (k : Int) := by omega
      generalize l[k] = a at *
      obtain ⟨nm, z⟩ := a
      simp only at d0 d1 z1 z2 hnm hf1 hf2
      have hfl := fmtI_le z1 z2
      have hfs := fun W => formatInt_spec z W z1 z2
      generalize fmtI z = Z at *
      clear hcx
      by_cases h0 : k = 0
      · have hfin := Lib.hid (hf1 h0)
        have hd : decide ((0 : Int) < (k : Int)) = false := by simp; omega
        have hkz : (k : Int) ≤ 0 := by omega
        clear h0 hf1 hf2
        generalize fmtK l k = S at *
        have q1 : ¬ 9223372036854775807 < S.size + nm.size := by omega
        have q2 : ¬ 9223372036854775807 < S.size + nm.size + 1 := by omega
        have q3 : ¬ 9223372036854775807 < S.size + nm.size + 1 + Z.size := by omega
        go_wp2_with (fail)
        go_region_held3 (fun v : World => v.cell? ⟨w.heap.size, 0, none⟩ = some (.slice (some ⟨b0, off0, none⟩) l.length c) ∧ v.cell? ⟨b0, off0 + k * 2, none⟩ = some (.string nm) ∧ v.cell? ⟨b0, off0 + k * 2 + 1, none⟩ = some (.int .i64 z))
          (first
            | exact ⟨K0, d0, d1⟩
            | (refine ⟨?_, ?_, ?_⟩ <;> simp only [World.cell?_drew] <;> assumption))
          (first
            | (go_at_call 21
               refine (hfs _).mono ?_
               rintro e w5 ⟨rfl, b5⟩
               have v5 : Below wr.heap.size wr w5 := (Below.refl _ wr).drew.trans b5
               have K0 := (v5.cell (p := ⟨w.heap.size, 0, none⟩) (show w.heap.size < wr.heap.size from by omega)).trans K0
               have d0 := (v5.cell (p := ⟨b0, off0 + k * 2, none⟩) (show b0 < wr.heap.size from by omega)).trans d0
               have d1 := (v5.cell (p := ⟨b0, off0 + k * 2 + 1, none⟩) (show b0 < wr.heap.size from by omega)).trans d1))
        all_goals
          have hb5 := hbel.trans (v5.mono hbs)
          go_wp2
          go_roundw
          case rel => exact ⟨k + 1, by omega, by rw [hfin.out], by go_num, hb5⟩
          case measure => simp [intOf]; omega
      · have hfin := Lib.hid (hf2 h0)
        have hd : decide ((0 : Int) < (k : Int)) = true := by simp; omega
        have hkz : (0 : Int) < (k : Int) := by omega
        clear h0 hf1 hf2
        generalize fmtK l k = S at *
        have hS2 : (S ++ ⟨#[59]⟩ : ByteArray).size ≤ 33554433 := by
          have e2 : (⟨#[59]⟩ : ByteArray).size = 1 := rfl
          rw [ByteArray.size_append, e2]
          omega
        go_wp2_with (fail)
        generalize S ++ ⟨#[59]⟩ = S at *
        have q1 : ¬ 9223372036854775807 < S.size + nm.size := by omega
        have q2 : ¬ 9223372036854775807 < S.size + nm.size + 1 := by omega
        have q3 : ¬ 9223372036854775807 < S.size + nm.size + 1 + Z.size := by omega
        go_region_held3 (fun v : World => v.cell? ⟨w.heap.size, 0, none⟩ = some (.slice (some ⟨b0, off0, none⟩) l.length c) ∧ v.cell? ⟨b0, off0 + k * 2, none⟩ = some (.string nm) ∧ v.cell? ⟨b0, off0 + k * 2 + 1, none⟩ = some (.int .i64 z))
          (first
            | exact ⟨K0, d0, d1⟩
            | (refine ⟨?_, ?_, ?_⟩ <;> simp only [World.cell?_drew] <;> assumption))
          (first
            | (go_at_call 21
               refine (hfs _).mono ?_
               rintro e w5 ⟨rfl, b5⟩
               have v5 : Below wr.heap.size wr w5 := (Below.refl _ wr).drew.trans b5
               have K0 := (v5.cell (p := ⟨w.heap.size, 0, none⟩) (show w.heap.size < wr.heap.size from by omega)).trans K0
               have d0 := (v5.cell (p := ⟨b0, off0 + k * 2, none⟩) (show b0 < wr.heap.size from by omega)).trans d0
               have d1 := (v5.cell (p := ⟨b0, off0 + k * 2 + 1, none⟩) (show b0 < wr.heap.size from by omega)).trans d1))
        all_goals
          have hb5 := hbel.trans (v5.mono hbs)
          go_wp2
          go_roundw
          case rel => exact ⟨k + 1, by omega, by rw [hfin.out], by go_num, hb5⟩
          case measure => simp [intOf]; omega
    · obtain rfl : k = l.length := by omega
      go_wp2
      go_ret
      exact ⟨rfl, hbw⟩
/-- append at a step of a region that draws its order, with the row's own frame -/
theorem step_appg {P : Program} {w : World} {T E size bytes : Nat} (R : RowT P T E size bytes) {ops : Array Oper} {o : Oper} {a : Act} {K : Act → World → Prop} {Q : Exit → Act → World → Prop} {F : Prop} (hgd : o.guard = none) (s x : Operand)
    (ho : o.op = .call { callee := .builtin .append, args := #[s, x], argTypes := #[T, T] })
    (base : Nat) (A : Option Addr) (n c : Nat) (xs : List Value) (hs : a.eval s = .slice A n c) (hown : w.ownsRow base E size (.slice A n c) n xs)
    (B : Nat) (A' : Option Addr) (m c' : Nat) (ys : List Value) (hx : a.eval x = .slice A' m c') (hr : Reads w B size A' m ys) (h1 : ∀ u ∈ ys, u.oneCell' = true)
    (N : Nat) (zs : List Value) (hN : n + m = N) (hzs : xs ++ ys = zs) (hbytes : N ≤ 1099511627776 ∧ bytes ≤ 128) (hbase : base ≤ w.heap.size)
    (h : ∀ A' c' w', w'.ownsRow base E size (.slice A' N c') N zs → Keeps (fun b => (Value.slice A n c).ownBlock = some b) w w' → K (a.put o.dst (.slice A' N c')) w') : if Region.wanted o (yielded ops a.tmps) = true then Oper.wp P o a w K Q else F := by
  have hw : Region.wanted o (yielded ops a.tmps) = true := by simp [Region.wanted, hgd]
  rw [if_pos hw]
  obtain ⟨i, z, hi, hz, hsz, hby, hzs'⟩ := R.inf
  subst hN hzs
  refine wp_append_any w s x T ho base E i z size bytes R.und hi hz hsz hby hzs' R.pos _ n xs hs hown B A' m c' ys hx hr h1 (by simp only [maxLen]; omega) ?_ hbase ?_
  · have := Nat.mul_le_mul hbytes.1 hbytes.2; omega
  · intro A1 c1 w1 h2 h3 _
    exact h A1 c1 w1 h2 (Keeps.of_grown h3)
set_option maxHeartbeats 4000000 in
theorem formatSheet_impl {A : Option Addr} {c : Nat} (l : List Rul) (w : World) (hld : LdF w) (hx : Reads w w.heap.size 2 A l.length (rulV l)) (hz : ∀ a ∈ l, okRul a) (hs : shSz l ≤ 1048576) :
    Calls Tryd.prog 25 #[.agg #[.slice A l.length c]] w fun e w' => e = .returned (.string (fmtK l l.length)) ∧ Below w.heap.size w w' := by
  have hn : l.length ≤ 1048576 := by have h3 := rulsz_nonneg l; unfold shSz at hs; omega
  have hb0 := (Below.refl w.heap.size w).alloc (Nat.le_refl _) (.cells #[.slice A l.length c] 34)
  have hb1 := hb0.alloc hb0.size (.cells #[] 9)
  have hstart : Own ((w.alloc (.cells #[.slice A l.length c] 34)).alloc (.cells #[] 9)) (w.heap.size + 1) (w.heap.size + 2) 9 1 (.slice (some ⟨w.heap.size + 1, 0, none⟩) 0 0) 0 [] := by
    have h := Own.of_row (own_empty (w.alloc (.cells #[.slice A l.length c] 34)) 9 1)
    simpa using h
  have hK : (w.alloc (.cells #[.slice A l.length c] 34)).cell? ⟨w.heap.size, 0, none⟩ = some (.slice A l.length c) := by simp [go_sem]
  go_enter Tryd.func25, Tryd.ntmps25
  go_wp2_with (fail)
  go_loopw [3, 10] (fun v i wr => ∃ (k : Nat) (A1 : Option Addr) (c1 : Nat), k ≤ l.length ∧ v = .slice A1 k c1 ∧ i = .int .i64 k ∧ Own wr (w.heap.size + 1) wr.heap.size 9 1 (.slice A1 k c1) k (rowS (l.take k)) ∧ Below w.heap.size w wr ∧ w.heap.size + 1 < wr.heap.size) (fun _ i _ => l.length - (intOf i).toNat)
  case atStart => exact ⟨0, _, 0, Nat.zero_le _, rfl, rfl, hstart.wide (Nat.le_refl _) (by simp), hb1, by simp⟩
  case round =>
    clear hstart hb0 hb1 hK
    obtain ⟨k, A1, c1, hk, rfl, rfl, hown, hbw, hgt⟩ := hrel
    by_cases hlt : k < l.length
    · obtain ⟨b0, off0, rfl, hab, hcx⟩ := (hx.below hbw).rul hlt
      obtain ⟨d0, d1⟩ := hcx hlt
      obtain ⟨z0, z1, z2⟩ := hz l[k] (List.getElem_mem _)
      have hnm : (l[k].1).size ≤ 1048576 := by have := rulsz_mem (List.getElem_mem hlt); unfold shSz at hs; omega
      have hrow := Lib.hid (rowS_take hlt)
      have hltI : (k : Int) < (l.length : Int) := by omega
      have hk0I : (0 : Int) ≤ (k : Int) := by omega
      generalize l[k] = a at *
      obtain ⟨nm, z⟩ := a
      simp only at d0 d1 z1 z2 hnm hrow
      have hfl := fmtI_le z1 z2
      have hfs := fun W h => formatInt_impl W h z z1 z2
      generalize fmtI z = Z at *
      have q1 : ¬ 9223372036854775807 < nm.size + 1 := by omega
      have q3 : ¬ 9223372036854775807 < nm.size + 1 + Z.size := by omega
      have hbx := (Below.refl wr.heap.size wr).alloc (Nat.le_refl _) (.cells #[.string nm, .int .i64 z] 60)
      have e0 : (wr.alloc (.cells #[.string nm, .int .i64 z] 60)).cell? ⟨wr.heap.size, 0, none⟩ = some (.string nm) := by simp [go_sem]
      have e1 : (wr.alloc (.cells #[.string nm, .int .i64 z] 60)).cell? ⟨wr.heap.size, 1, none⟩ = some (.int .i64 z) := by simp [go_sem]
      have hltb := fun b (h : (Value.slice A1 k c1).ownBlock = some b) => hown.2 b h
      have hgeb := fun b (h : (Value.slice A1 k c1).ownBlock = some b) => hown.ge b h
      clear hcx
      go_wp2_with (fail)
      go_region_held3 (fun v : World => v.cell? ⟨wr.heap.size, 0, none⟩ = some (.string nm) ∧ v.cell? ⟨wr.heap.size, 1, none⟩ = some (.int .i64 z))
        (first
          | exact ⟨e0, e1⟩
          | exact ⟨f0, f1⟩
          | (refine ⟨?_, ?_⟩ <;> simp only [World.cell?_drew] <;> assumption))
        (first
          | (go_at_call 12
             refine (hfs _ (hld.below (hbw.trans (hbx.mono hbw.size)).drew)).mono ?_
             rintro e w5 ⟨rfl, b5⟩
             have v5 : Below wr.heap.size wr w5 := hbx.drew.trans (b5.mono (by simp))
             have s5 := b5.size
             simp only [World.size_drew, World.size_alloc] at s5
             have e0 := (b5.cell (p := ⟨wr.heap.size, 0, none⟩) (by simp)).trans e0
             have e1 := (b5.cell (p := ⟨wr.heap.size, 1, none⟩) (by simp)).trans e1
             have hl1 := (Below.refl w5.heap.size w5).alloc (Nat.le_refl _) (.cells #[.string (nm ++ ⟨#[58]⟩ ++ Z)] 9)
             have f0 := (hl1.cell (p := ⟨wr.heap.size, 0, none⟩) (show wr.heap.size < w5.heap.size from by omega)).trans e0
             have f1 := (hl1.cell (p := ⟨wr.heap.size, 1, none⟩) (show wr.heap.size < w5.heap.size from by omega)).trans e1
             have ho5 := ((hown.below v5).below hl1).1
             have hr5 := Reads.one w5 (.string (nm ++ ⟨#[58]⟩ ++ Z)) 9)
          | (refine step_appg row_Str (by rfl) (.tmp 14) (.tmp 22) (by rfl) (w.heap.size + 1) A1 k c1 (rowS (l.take k)) (by rfl) ho5 (w5.heap.size + 1) _ 1 1 [.string (nm ++ ⟨#[58]⟩ ++ Z)] (by rfl) hr5 (strs_one [(nm ++ (⟨#[58]⟩ : ByteArray) ++ Z)]) (k + 1) (rowS (l.take (k + 1))) rfl hrow.out ⟨by omega, by omega⟩ (by simp; omega) ?_
             intro A6 c6 w6 ho6 k6
             have e0 := (keeps_cell k6 (by simp; omega) (fun hS => by have := hltb _ hS; omega)).trans f0
             have e1 := (keeps_cell k6 (by simp; omega) (fun hS => by have := hltb _ hS; omega)).trans f1))
      all_goals
        have hz6 := k6.size
        simp only [World.size_alloc] at hz6
        have hbw6 : Below w.heap.size w w6 := (hbw.trans ((v5.trans (hl1.mono v5.size)).mono hbw.size)).trans (k6.below (B := w.heap.size) (by simp; omega) (fun b hS => by have := hgeb b hS; omega))
        go_wp2
        go_roundw
        case rel => exact ⟨k + 1, A6, c6, by omega, rfl, by go_num, Own.of_row ho6, hbw6, by omega⟩
        case measure => simp [intOf]; omega
    · obtain rfl : k = l.length := by omega
      rw [List.take_length] at hown
      have hall := fmtK_all l
      have hlen := fmtK_le hz hs (Nat.le_refl l.length)
      rw [← hall] at hlen
      have hj : Calls Tryd.prog 46 #[.slice A1 l.length c1, .string ⟨#[59]⟩] wr fun e w' => e = .returned (.string (fmtK l l.length)) ∧ Below wr.heap.size wr w' := by
        rcases Nat.eq_zero_or_pos l.length with h0 | h0
        · obtain rfl : l = [] := List.eq_nil_of_length_eq_zero h0
          exact (Tryd.strings_Join_none A1 c1 ⟨#[59]⟩ wr).mono fun e w' ⟨h, k⟩ => ⟨h, by rw [k]; exact Below.refl _ _⟩
        · rcases hown.shape with ⟨_, h2, _⟩ | ⟨g, rfl, hc1, hc2⟩
          · omega
          · have h := Tryd.strings_Join g 0 c1 (l.map ruleB) ⟨#[59]⟩ wr (fun j x hj => by
              have := hown.1.cells (g := g) rfl j (.string x) (by rw [rowS, List.getElem?_map, hj]; rfl)
              have hadd : (⟨g, 0, none⟩ : Addr).add j = ⟨g, 0 + j, none⟩ := by unfold Addr.add; split <;> simp_all
              rw [hadd] at this
              exact this) (hown.2 g rfl) (by rw [List.length_map]; omega) (by rw [List.length_map]; exact hc1) (by
              have : (⟨(Lib.join ((l.map ruleB).map (·.data.toList)) [59]).toArray⟩ : ByteArray).size = (Lib.join ((l.map ruleB).map (·.data.toList)) [59]).length := by simp [ByteArray.size]
              rw [this] at hlen
              show (Lib.join ((l.map ruleB).map (·.data.toList)) [59]).length ≤ _
              omega)
            rw [List.length_map] at h
            exact h.mono fun e w' ⟨h, k⟩ => ⟨by rw [h, ← hall], k⟩
      have hbwz := hbw.size
      go_wp2_with (go_at_call 46; refine hj.mono ?_; rintro e w' ⟨rfl, bj⟩)
      go_ret
      exact ⟨rfl, hbw.trans (bj.mono hbwz)⟩
end Go.Proofs.YtmfaihelphfbgaaDoor
