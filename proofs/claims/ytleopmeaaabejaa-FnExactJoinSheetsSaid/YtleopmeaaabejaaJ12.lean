/-
  Contracts of the generated helpers that lay marks into sheets and read them. Conditions: at most 2^30 elements, marks below 2^30.
  The walk of the generated law of the function ColorOf. No condition.
  The walk of the generated law of the function JoinSheets. No condition.
  The closed facts of the seat's program that every row asks, each proved once. No condition.
-/
import Derived.Test.YtleopmeaaabejaaJ07
import Derived.Deep.RegionHeld3
import Derived.Test.YtleopmeaaabejaaJ10
import Derived.Test.YtleopmeaaabejaaJ11
import Derived.Test.YtleopmeaaabejaaRows
import Derived.JoinedOf
import Derived.KernelRfl
namespace Go.Proofs.Ytleopmeaaabejaa
set_option linter.unusedVariables false
set_option linter.unusedSimpArgs false
set_option maxRecDepth 100000
open Go.ChangeShapes Go.WideShapes Go.ChangeAt Go.RowKit Go.Deep

theorem markSheetJ {lo hi : Nat} {A : Option Addr} {n c : Nat} {xs : List Value} {q : Int} (w : World) (hx : Own w lo hi 84 2 (.slice A n c) n xs) (hh : hi ≤ w.heap.size) (hlh : lo ≤ hi)
    (hn : n ≤ 1073741824) (q0 : 0 < q) (q1 : q ≤ 1073741824) : Calls Try.prog 31 #[.agg #[.slice A n c], .int .i64 q] w
      (Marked w lo hi (fun w' => Own w' lo hi 84 2 (.slice A n c) n (rulV (mkR q n))) (q + 2 * n)) := by
  have hb0 := (Below.refl w.heap.size w).alloc (Nat.le_refl _) (.cells #[.slice A n c] 54)
  have hx' := hx.below hb0
  go_enter Try.func31, Try.ntmps31
  go_wp2_with (go_at_call 59; refine (markRuleS_any _ hx' (by simp; omega) hlh hn q0 q1).mono ?_; rintro e w1 ⟨rfl, o1, k1⟩)
  go_ret
  exact ⟨rfl, o1, (Keeps.of_below hb0).trans k1⟩
theorem heldSheetJ {A : Option Addr} {n c : Nat} {q : Int} (w : World) (hx : Reads w w.heap.size 2 A n (rulV (mkR q n))) (hn : n ≤ 1073741824) (q0 : 0 < q) (q1 : q ≤ 1073741824) :
    Calls Try.prog 32 #[.agg #[.slice A n c], .int .i64 q] w fun e w' => e = .returned (.int .i64 (q + 2 * n)) ∧ Below w.heap.size w w' := by
  have hb0 := (Below.refl w.heap.size w).alloc (Nat.le_refl _) (.cells #[.slice A n c] 54)
  have hx' := hx.next hb0
  have hd : decide (q + 2 * (n : Int) < 0) = false := by simp; omega
  have hq0 : 0 ≤ q + 2 * (n : Int) := by omega
  go_enter Try.func32, Try.ntmps32
  go_wp2_with (go_at_call 60; refine (heldRuleS_any _ hx' hn q0 q1).mono ?_; rintro e w1 ⟨rfl, b1⟩)
  go_ret
  exact ⟨rfl, hb0.trans (b1.mono hb0.size)⟩
/-- how many rules -/
def totR (L : List (List Rul × Hd)) : Nat := (L.map fun x => x.1.length).sum
theorem totR_take {L : List (List Rul × Hd)} {k : Nat} (h : k < L.length) : totR (L.take (k + 1)) = totR (L.take k) + L[k].1.length := by
  rw [List.take_succ_eq_append_getElem h, totR, totR, List.map_append, List.sum_append]; simp
theorem totR_le (L : List (List Rul × Hd)) (k : Nat) : totR (L.take k) ≤ totR L := by
  have : totR L = totR (L.take k) + totR (L.drop k) := by rw [totR, totR, totR, ← List.sum_append, ← List.map_append, List.take_append_drop]
  omega
theorem totR_shs (L : List (List Rul × Hd)) : (totR L : Int) ≤ shsSz (L.map (·.1)) := by
  induction L with
  | nil => simp [totR, shsSz]
  | cons x L ih =>
    have h1 : totR (x :: L) = x.1.length + totR L := by simp [totR]
    have h2 : shsSz ((x :: L).map (·.1)) = shSz x.1 + shsSz (L.map (·.1)) := by simp [shsSz]
    have h3 := rulsz_nonneg x.1
    rw [h1, h2]
    unfold shSz
    omega
set_option maxHeartbeats 1000000 in
theorem markSheetS_any {lo hi : Nat} {A : Option Addr} {n c : Nat} {L : List (List Rul × Hd)} {q : Int} (w : World) (hx : OwnN shN w lo hi 54 84 A n c L) (hh : hi ≤ w.heap.size)
    (hn : n ≤ 1073741824) (q0 : 0 < q) (q1 : q + 2 * (totR L : Int) ≤ 1073741824) : Calls Try.prog 30 #[.slice A n c, .int .i64 q] w
      fun e w' => ∃ z : Int, 0 ≤ z ∧ e = .returned (.int .i64 z) ∧ Keeps (Span lo hi) w w' := by
  have hlen := hx.len
  rcases Nat.eq_zero_or_pos n with h0 | h0
  · subst h0
    go_enter Try.func30, Try.ntmps30
    go_wp2
    refine wp_loop_rounds 1 ?_
    rw [rounds_succ]
    go_wp2
    go_ret
    exact ⟨q, by omega, rfl, Keeps.refl _ _⟩
  · obtain ⟨g, cap, hv, hg1, hg2⟩ := hx.row.1.form h0
    obtain ⟨rfl, rfl⟩ : A = some ⟨g, 0, none⟩ ∧ c = cap := by injection hv with h1 _ h2; exact ⟨h1, h2⟩
    clear hv
    have hcell : Hid (∀ k (h : k < L.length), w.cell? ⟨g, k, none⟩ = some (.slice L[k].2.1 L[k].1.length L[k].2.2)) := Lib.hid fun k h => by
      have h1 := hx.row.1.cellAt k (by show k < n * 1; omega)
      have h2 := Nest.flat_at (N := shN) (L := L) (i := k) (j := 0) h (by show 0 < 1; omega)
      rw [show k * shN.k + 0 = k by show k * 1 + 0 = k; omega] at h2
      rw [h1, h2]
      rfl
    have hgk : ∀ k (h : k < L.length), hdBlock L[k].2 ≠ some g := fun k h hb => hx.off L[k] (List.getElem_mem _) g rfl hb
    have hkid := fun k (h : k < L.length) => hx.kids L[k] (List.getElem_mem _)
    have hap : ∀ i j (hi : i < L.length) (hj : j < L.length), i ≠ j → sep (hdBlock L[i].2) (hdBlock L[j].2) := fun i j hi hj hij => by
      have := pair_sep hx.apart (i := i) (j := j) (by rw [List.length_map]; exact hi) (by rw [List.length_map]; exact hj) hij
      simpa using this
    have HK := Lib.hid hkid
    have HA := Lib.hid hap
    have HL := Lib.hid hlen
    clear hkid hap hlen
    go_enter Try.func30, Try.ntmps30
    go_wp2
    go_loopw [1, 5] (fun p i wr => ∃ k : Nat, k ≤ n ∧ i = .int .i64 k ∧ p = .int .i64 (q + 2 * (totR (L.take k) : Int)) ∧ Keeps (fun b => ∃ j, ∃ h : j < L.length, j < k ∧ hdBlock L[j].2 = some b) w wr) (fun _ i _ => n - (intOf i).toNat)
    case atStart => exact ⟨0, Nat.zero_le _, rfl, by simp [totR], Keeps.refl _ _⟩
    case round =>
      obtain ⟨k, hk, rfl, rfl, hkp⟩ := hrel
      have hsz := hkp.size
      by_cases hlt : k < n
      · have hl1 : k < L.length := by rw [HL.out]; exact hlt
        have hc0 : wr.cell? ⟨g, k, none⟩ = some (.slice L[k].2.1 L[k].1.length L[k].2.2) := (keeps_cell hkp hg2 (fun ⟨j, hj, _, hb⟩ => hgk j hj hb)).trans (hcell.out k hl1)
        have hown : Own wr lo hi 84 2 (.slice L[k].2.1 L[k].1.length L[k].2.2) L[k].1.length (rulV L[k].1) := (HK.out k hl1).elsewhere hkp (fun b ⟨j, hj, hjk, hb⟩ => by
          show (Value.slice L[k].2.1 L[k].1.length L[k].2.2).ownBlock ≠ some b
          rw [hdBlock_eq (c' := L[k].2.2)]
          exact HA.out j k hj hl1 (by omega) b hb)
        have htk := totR_take hl1
        have hle := totR_le L (k + 1)
        have hblk : (Value.slice L[k].2.1 L[k].1.length L[k].2.2).ownBlock = hdBlock L[k].2 := hdBlock_eq (c' := L[k].2.2) _ _ _
        have hnext : Hid (∀ W : World, Keeps (fun b => hdBlock L[k].2 = some b) wr W → Keeps (fun b => ∃ j, ∃ h : j < L.length, j < k + 1 ∧ hdBlock L[j].2 = some b) w W) := Lib.hid fun W hW =>
          (hkp.mono fun b ⟨j, hj, hjk, hb⟩ => ⟨j, hj, by omega, hb⟩).trans (hW.mono fun b hb => ⟨k, hl1, by omega, hb⟩)
        have hT : Hid (q + 2 * (totR (L.take (k + 1)) : Int) = q + 2 * (totR (L.take k) : Int) + 2 * (L[k].1.length : Int)) := by show _ = _; omega
        have hP1 : 0 < q + 2 * (totR (L.take k) : Int) := by omega
        have hP2 : q + 2 * (totR (L.take k) : Int) + 2 * (L[k].1.length : Int) ≤ 1073741824 := by omega
        obtain ⟨lo', hi', hn1, hn2, hn3, hn4, hn5⟩ := hown.narrow
        rw [hblk] at hn4
        clear htk hle hown hn5 hblk
        generalize q + 2 * (totR (L.take k) : Int) = P at *
        generalize L[k] = x at *
        obtain ⟨r, Ar, cr⟩ := x
        simp only at hc0 hn1 hn4 hnext hT hP2
        have hk0 : (0 : Int) ≤ (k : Int) := Int.natCast_nonneg _
        have hk9 : (k : Int) < (n : Int) := by omega
        go_wp2_with (fail)
        go_at_call 59
        refine (markRuleS_any (lo := lo') (hi := hi') _ hn1 (by omega) hn3 (by omega) (by omega) (by omega)).mono ?_
        rintro e w1 ⟨rfl, o1, k1⟩
        have hfin := hnext.out _ (k1.mono hn4)
        clear hnext hkp hn1 o1
        go_wp2
        go_roundw
        case rel => exact ⟨k + 1, by omega, by go_num, by rw [hT.out], hfin⟩
        case measure => simp [intOf]; omega
      · obtain rfl : k = n := by omega
        have hle := totR_le L k
        have hfin : Keeps (Span lo hi) w wr := hkp.mono fun b ⟨j, hj, _, hb⟩ => by
          have ho := HK.out j hj
          have e : (Value.slice L[j].2.1 (shN.num L[j].1) L[j].2.2).ownBlock = some b := by rw [hdBlock_eq (c' := L[j].2.2)]; exact hb
          exact ⟨ho.ge b e, ho.2 b e⟩
        go_wp2
        go_ret
        exact ⟨_, by omega, rfl, hfin⟩
end Go.Proofs.Ytleopmeaaabejaa

namespace Go.Proofs.Ytleopmeaaabejaa
set_option linter.unusedVariables false
set_option linter.unusedSimpArgs false
set_option maxRecDepth 100000
open Go.ChangeShapes Go.WideShapes Go.ChangeAt Go.RowKit Go.Deep

theorem OwnN.rdS {α : Type} {N : Nest α} {w : World} {lo hi n c : Nat} {e ek : TypeId} {A : Option Addr} {L : List (α × Hd)} {l : List α} (h : OwnN N w lo hi e ek A n c L) (hL : L.map (·.1) = l) (hh : hi ≤ w.heap.size) : ReadsN N w w.heap.size A n l := by
  subst hL
  exact (h.reads hh).more hh
theorem sameB {P : Program} {f : FuncId} {args : Array Value} {w : World} {r : Ending} (h : Calls P f args w fun e w' => e = r ∧ w = w') : Calls P f args w fun e w' => e = r ∧ Below w.heap.size w w' :=
  h.mono fun _ _ ⟨h1, h2⟩ => ⟨h1, h2 ▸ Below.refl _ _⟩
theorem sh_bounds {l : List (List Rul)} (h : shsSz l ≤ 1048576) : ∀ a ∈ l, a.length ≤ 1073741824 := by
  intro a ha
  have h1 := shsSz_mem ha
  have h2 := rulsz_nonneg a
  unfold shSz at h1
  omega


end Go.Proofs.Ytleopmeaaabejaa

namespace Go.Proofs.Ytleopmeaaabejaa
set_option linter.unusedVariables false
set_option linter.unusedSimpArgs false
set_option maxRecDepth 100000
open Go.ChangeShapes Go.WideShapes Go.ChangeAt Go.RowKit Go.Deep

theorem BoxAt.keeps' {S : Nat → Prop} {w w' : World} {g : Nat} {vs : List Value} {t : TypeId} (h : BoxAt w g vs t) (hk : Keeps S w w') (hs : ¬ S g) : BoxAt w' g vs t := (hk.block g h.lt hs).trans h
theorem GotJs.toSh {w w' : World} {ek : TypeId} {l : List (List Rul)} {r : Ending} {X : List ByteArray} (hX : SortS (nmsL l) X) (h : GotJs w ek l r w') : GotSh w ek (jsR l X) r w' := by
  obtain ⟨x, A, c, hs, _, rfl, ho, hb⟩ := h
  obtain rfl := hs.unique hX
  exact ⟨A, c, by rw [jsR_len], by rw [jsR_len]; exact ho, hb⟩
set_option maxHeartbeats 4000000 in
theorem fnExactJoinSheets_walk (w : World) (a0 : Option Addr) (n0 c0 : Nat) (l0 : List (List Rul)) (g0 : ArgSh w a0 n0 l0) :
    Calls Try.prog 5 #[.slice a0 n0 c0] w fun e w' => e = .returned (.bool true) ∧ Below w.heap.size w w' := by
  obtain ⟨q01, hx0, q03⟩ := g0
  have nn0 := shsSz_nonneg l0
  have hx := hx0
  go_enter Try.func5, Try.ntmps5
  go_wp2_with fail
  refine (szSheetS_any _ hx q01 q03 _ (by omega) (by omega)).mono ?_
  rintro e v1 ⟨r1, rfl, h1a, h1b, h1c, cb⟩
  replace hx := hx.next cb
  rcases Int.lt_or_le r1 0 with hneg | hpos
  · go_wp2
    go_ret
    exact ⟨rfl, cb⟩
  · have h1d := h1c hpos
    clear h1c
    have y0 := sh_bounds (l := l0) (by omega)
    have hNl := nmsL_len l0
    obtain ⟨F, hFl, hS, hI⟩ : ∃ F : List Rul, F.length ≤ 1048576 ∧
        (∀ (W : World) (A : Option Addr) (c : Nat), ReadsN shN W W.heap.size A n0 l0 → Calls Try.prog 25 #[.slice A n0 c] W (GotSh W 84 F)) ∧
        (∀ (W : World) (A : Option Addr) (c : Nat), ReadsN shN W W.heap.size A n0 l0 → Calls Try.prog 27 #[.slice A n0 c] W (GotSh W 84 F)) := by
      have hcs := compact_sorted (nmsL l0)
      have hcl := compact_le ((List.map bl (nmsL l0)).mergeSort fun x y => decide (x ≤ y))
      rw [(List.mergeSort_perm _ _).length_eq, List.length_map] at hcl
      generalize hX : (Lib.compact ((List.map bl (nmsL l0)).mergeSort fun x y => decide (x ≤ y))).map lb = X at *
      have hXl : X.length ≤ (nmsL l0).length := by rw [← hX, List.length_map]; exact hcl
      exact ⟨jsR l0 X, by rw [jsR_len]; omega, fun W A c h => (joinSheets_spec (c := c) W h (by omega) y0 (by omega)).mono fun e w' h => h.toSh hcs, fun W A c h => (joinSheets_impl (c := c) W h (by omega) y0 (by omega)).mono fun e w' h => h.toSh hcs⟩
    have z1 := cb.size
    go_wp2_with (fail)
    go_at_call 26
    refine (toSheetS_any _ hx (by omega) y0).mono ?_
    rintro e v2 ⟨Ae, ce, Le, rfl, qe, oe, bb⟩
    have z2 := bb.size
    replace hx := hx.next bb
    replace cb := cb.trans (bb.mono cb.size)
    clear bb
    go_wp2_with (fail)
    go_at_call 25
    refine (hS _ _ _ (OwnN.rdS oe qe (Nat.le_refl _))).mono ?_
    rintro e v3 ⟨A4, c4, rfl, o4, bb⟩
    have z3 := bb.size
    clear oe qe
    replace hx := hx.next bb
    replace cb := cb.trans (bb.mono cb.size)
    clear bb
    have al := (Below.refl v3.heap.size v3).alloc (Nat.le_refl _) (.cells #[.slice A4 F.length c4] 54)
    have b4 := BoxAt.new (w := v3) rfl [.slice A4 F.length c4] 54
    replace hx := hx.next al
    replace o4 := o4.below al
    replace cb := cb.trans (al.mono cb.size)
    have s3 : (v3.alloc (.cells #[.slice A4 F.length c4] 54)).heap.size = v3.heap.size + 1 := by simp
    clear al
    go_wp2_with (fail)
    generalize v3.alloc (.cells #[.slice A4 F.length c4] 54) = W3 at *
    go_at_call 26
    refine (toSheetS_any _ hx (by omega) y0).mono ?_
    rintro e v4 ⟨A5, c5, L5, rfl, q5, o5, bb⟩
    have z4 := bb.size
    replace hx := hx.next bb
    replace o4 := o4.below bb
    replace b4 := b4.next bb
    replace cb := cb.trans (bb.mono cb.size)
    clear bb
    go_wp2_with (fail)
    go_at_call 27
    refine (hI _ _ _ (OwnN.rdS o5 q5 (by omega))).mono ?_
    rintro e v5 ⟨A6, c6, rfl, o6, bb⟩
    have z5 := bb.size
    replace hx := hx.next bb
    replace o4 := o4.below bb
    replace b4 := b4.next bb
    replace o5 := o5.below bb
    replace cb := cb.trans (bb.mono cb.size)
    clear bb
    have al := (Below.refl v5.heap.size v5).alloc (Nat.le_refl _) (.cells #[.slice A6 F.length c6] 54)
    have b6 := BoxAt.new (w := v5) rfl [.slice A6 F.length c6] 54
    replace hx := hx.next al
    replace o4 := o4.below al
    replace b4 := b4.next al
    replace o5 := o5.below al
    replace o6 := o6.below al
    replace cb := cb.trans (al.mono cb.size)
    have s5 : (v5.alloc (.cells #[.slice A6 F.length c6] 54)).heap.size = v5.heap.size + 1 := by simp
    clear al
    have K4 := b4.cell 0 _ rfl
    have K6 := b6.cell 0 _ rfl
    go_wp2_with (fail)
    generalize v5.alloc (.cells #[.slice A6 F.length c6] 54) = W5 at *
    go_at_call 28
    refine (eqSheet_yes F _ ((o6.reads (by omega)).more (by omega)) ((o4.reads (by omega)).more (by omega)) (by omega)).mono ?_
    rintro e v6 ⟨rfl, bb⟩
    have z6 := bb.size
    replace hx := hx.next bb
    replace o4 := o4.below bb
    replace b4 := b4.next bb
    replace o5 := o5.below bb
    replace o6 := o6.below bb
    replace b6 := b6.next bb
    replace cb := cb.trans (bb.mono cb.size)
    clear bb
    clear K4 K6
    go_wp2_with (fail)
    go_at_call 26
    refine (toSheetS_any _ hx (by omega) y0).mono ?_
    rintro e v7 ⟨A7, c7, L7, rfl, q7, o7, bb⟩
    have z7 := bb.size
    replace hx := hx.next bb
    replace o4 := o4.below bb
    replace b4 := b4.next bb
    replace o5 := o5.below bb
    replace o6 := o6.below bb
    replace b6 := b6.next bb
    replace cb := cb.trans (bb.mono cb.size)
    clear bb
    go_wp2_with (fail)
    go_at_call 29
    refine (eqSheetS_yes _ (OwnN.rdS o5 q5 (by omega)) (OwnN.rdS o7 q7 (by omega)) (by omega) y0).mono ?_
    rintro e v8 ⟨rfl, bb⟩
    have z8 := bb.size
    clear o7 q7
    replace hx := hx.next bb
    replace o4 := o4.below bb
    replace b4 := b4.next bb
    replace o5 := o5.below bb
    replace o6 := o6.below bb
    replace b6 := b6.next bb
    replace cb := cb.trans (bb.mono cb.size)
    clear bb
    have hT : 1 + 2 * (totR L5 : Int) ≤ 1073741824 := by have := totR_shs L5; rw [q5] at this; omega
    go_wp2_with (fail)
    go_at_call 30
    refine (markSheetS_any _ o5 (by omega) (by omega) (by omega) hT).mono ?_
    rintro e v9 ⟨zm, hzm, rfl, kk⟩
    have z9 := kk.size
    clear o5 q5
    replace o4 := o4.keep kk (fun k hk => by have h1 := hk.1; have h2 := hk.2; omega)
    replace b4 := b4.keeps' kk (fun hk => by have h1 := hk.1; have h2 := hk.2; omega)
    replace o6 := o6.keep kk (fun k hk => by have h1 := hk.1; have h2 := hk.2; omega)
    replace b6 := b6.keeps' kk (fun hk => by have h1 := hk.1; have h2 := hk.2; omega)
    have kb : Below w.heap.size _ _ := kk.below (B := w.heap.size) cb.size (fun k hk => by have := hk.1; omega)
    replace cb := cb.trans kb
    replace hx := ((hx0.below cb).more cb.size)
    clear kk kb
    have hzd : decide (zm < 0) = false := by simp; omega
    have K4 := b4.cell 0 _ rfl
    have K6 := b6.cell 0 _ rfl
    go_wp2_with (fail)
    go_at_call 28
    refine (eqSheet_yes F _ ((o6.reads (by omega)).more (by omega)) ((o4.reads (by omega)).more (by omega)) (by omega)).mono ?_
    rintro e v10 ⟨rfl, bb⟩
    have z10 := bb.size
    replace hx := hx.next bb
    replace o4 := o4.below bb
    replace b4 := b4.next bb
    replace o6 := o6.below bb
    replace b6 := b6.next bb
    replace cb := cb.trans (bb.mono cb.size)
    clear bb
    clear K4 K6
    have K6 := b6.cell 0 _ rfl
    go_wp2_with (fail)
    go_at_call 31
    refine (markSheetJ _ o6 (by omega) (by omega) (by omega) (by omega) (by omega)).mono ?_
    rintro e v11 ⟨rfl, om, kk⟩
    have z11 := kk.size
    clear o6
    replace o4 := o4.keep kk (fun k hk => by have h1 := hk.1; have h2 := hk.2; omega)
    replace b4 := b4.keeps' kk (fun hk => by have h1 := hk.1; have h2 := hk.2; omega)
    replace b6 := b6.keeps' kk (fun hk => by have h1 := hk.1; have h2 := hk.2; omega)
    have kb : Below w.heap.size _ _ := kk.below (B := w.heap.size) cb.size (fun k hk => by have := hk.1; omega)
    replace cb := cb.trans kb
    replace hx := ((hx0.below cb).more cb.size)
    clear kk kb
    clear K6
    have K6 := b6.cell 0 _ rfl
    go_wp2_with (fail)
    go_at_call 32
    refine (heldSheetJ _ ((om.reads (by omega)).more (by omega)) (by omega) (by omega) (by omega)).mono ?_
    rintro e v12 ⟨rfl, bb⟩
    have z12 := bb.size
    replace hx := hx.next bb
    replace o4 := o4.below bb
    replace b4 := b4.next bb
    replace b6 := b6.next bb
    replace om := om.below bb
    replace cb := cb.trans (bb.mono cb.size)
    clear bb
    clear K6
    have hq : decide ((1 : Int) + 2 * (F.length : Int) < 0) = false := by simp; omega
    have hq0 : (0 : Int) ≤ 1 + 2 * (F.length : Int) := by omega
    go_wp2_with (fail)
    go_at_call 26
    refine (toSheetS_any _ hx (by omega) y0).mono ?_
    rintro e v13 ⟨A8, c8, L8, rfl, q8, o8, bb⟩
    have z13 := bb.size
    replace hx := hx.next bb
    replace o4 := o4.below bb
    replace b4 := b4.next bb
    replace b6 := b6.next bb
    replace om := om.below bb
    replace cb := cb.trans (bb.mono cb.size)
    clear bb
    go_wp2_with (fail)
    go_at_call 27
    refine (hI _ _ _ (OwnN.rdS o8 q8 (Nat.le_refl _))).mono ?_
    rintro e v14 ⟨A9, c9, rfl, o9, bb⟩
    have z14 := bb.size
    clear o8 q8
    replace hx := hx.next bb
    replace o4 := o4.below bb
    replace b4 := b4.next bb
    replace b6 := b6.next bb
    replace om := om.below bb
    replace cb := cb.trans (bb.mono cb.size)
    clear bb
    have al := (Below.refl v14.heap.size v14).alloc (Nat.le_refl _) (.cells #[.slice A9 F.length c9] 54)
    have b9 := BoxAt.new (w := v14) rfl [.slice A9 F.length c9] 54
    replace hx := hx.next al
    replace o4 := o4.below al
    replace b4 := b4.next al
    replace b6 := b6.next al
    replace om := om.below al
    replace o9 := o9.below al
    replace cb := cb.trans (al.mono cb.size)
    have s14 : (v14.alloc (.cells #[.slice A9 F.length c9] 54)).heap.size = v14.heap.size + 1 := by simp
    clear al
    have K4 := b4.cell 0 _ rfl
    have K9 := b9.cell 0 _ rfl
    go_wp2_with (fail)
    generalize v14.alloc (.cells #[.slice A9 F.length c9] 54) = W14 at *
    go_at_call 28
    refine (eqSheet_yes F _ ((o9.reads (by omega)).more (by omega)) ((o4.reads (by omega)).more (by omega)) (by omega)).mono ?_
    rintro e v15 ⟨rfl, bb⟩
    have z15 := bb.size
    replace hx := hx.next bb
    replace o4 := o4.below bb
    replace b4 := b4.next bb
    replace b6 := b6.next bb
    replace om := om.below bb
    replace o9 := o9.below bb
    replace b9 := b9.next bb
    replace cb := cb.trans (bb.mono cb.size)
    clear bb
    clear K4 K9
    have K6 := b6.cell 0 _ rfl
    go_wp2_with (fail)
    go_at_call 32
    refine (heldSheetJ _ ((om.reads (by omega)).more (by omega)) (by omega) (by omega) (by omega)).mono ?_
    rintro e v16 ⟨rfl, bb⟩
    replace cb := cb.trans (bb.mono cb.size)
    go_wp2
    go_ret
    exact ⟨rfl, cb⟩
end Go.Proofs.Ytleopmeaaabejaa

namespace Go.Proofs.Ytleopmeaaabejaa
set_option maxRecDepth 100000

def initSigns : List Char := List.map Char.ofNat [104, 97, 114, 110, 101, 115, 115, 32, 52, 99, 97, 101, 53, 51, 54, 52, 54, 102, 101, 55, 48, 54, 54, 50, 51, 48, 56, 100, 53, 56, 57, 53, 99, 101, 97, 55, 50, 52, 50, 48, 100, 56, 99, 48, 49, 99, 52, 49, 51, 48, 100, 51, 53, 97, 56, 56, 53, 50, 56, 49, 54, 56, 52, 100, 57, 56, 56, 51, 102, 100, 56, 97, 32, 99, 117, 116, 32, 97, 116, 32, 108, 111, 111, 112, 46, 101, 120, 97, 109, 112, 108, 101, 47, 103, 48, 48, 53, 56, 54, 47, 108, 97, 119, 115, 46, 70, 110, 84, 101, 120, 116, 115, 32, 108, 111, 111, 112, 46, 101, 120, 97, 109, 112, 108, 101, 47, 103, 48, 48, 53, 56, 54, 47, 108, 97, 119, 115, 46, 70, 110, 84, 114, 101, 101, 115, 32, 108, 111, 111, 112, 46, 101, 120, 97, 109, 112, 108, 101, 47, 103, 48, 48, 53, 56, 54, 47, 108, 97, 119, 115, 46, 70, 110, 69, 120, 97, 99, 116, 74, 111, 105, 110, 83, 104, 101, 101, 116, 115]
theorem init_eq : Try.prog.initOrder = String.ofList initSigns := by
  conv => lhs; whnf
  kernel_rfl
theorem init_list : Try.prog.initOrder.toList = initSigns := (congrArg String.toList init_eq).trans String.toList_ofList
def word0 : List Char := List.map Char.ofNat [99, 117, 116]
def wordsR : List (List Char) := List.map (List.map Char.ofNat) [[97, 116], [108, 111, 111, 112, 46, 101, 120, 97, 109, 112, 108, 101, 47, 103, 48, 48, 53, 56, 54, 47, 108, 97, 119, 115, 46, 70, 110, 84, 101, 120, 116, 115], [108, 111, 111, 112, 46, 101, 120, 97, 109, 112, 108, 101, 47, 103, 48, 48, 53, 56, 54, 47, 108, 97, 119, 115, 46, 70, 110, 84, 114, 101, 101, 115], [108, 111, 111, 112, 46, 101, 120, 97, 109, 112, 108, 101, 47, 103, 48, 48, 53, 56, 54, 47, 108, 97, 119, 115, 46, 70, 110, 69, 120, 97, 99, 116, 74, 111, 105, 110, 83, 104, 101, 101, 116, 115]]
theorem init_words : behindMainWord (wordsSigns initSigns) = word0 :: wordsR := by kernel_rfl
theorem p_words : behindMainWord (wordsSigns Try.prog.initOrder.toList) = word0 :: wordsR := (congrArg (fun l => behindMainWord (wordsSigns l)) init_list).trans init_words
theorem make_of {P : Program} {c : List Char} {rest : List (List Char)} (h : behindMainWord (wordsSigns P.initOrder.toList) = c :: rest) (h1 : (c == "gc".toList || c == "spec".toList) = false) (h2 : (c == "cut".toList) = true) : P.make = some .cut := by
  unfold Program.make
  rw [h]
  simp only [h1, h2, Bool.false_eq_true, if_false, Bool.true_or, if_true]
theorem lifts_of {P : Program} {c : List Char} {rest : List (List Char)} (h : behindMainWord (wordsSigns P.initOrder.toList) = c :: rest) (h1 : (stripLifts liftWords (c :: rest)).1 = []) : P.headLifts = [] := by
  unfold Program.headLifts
  rw [h]
  simp only [h1, ite_self]
theorem liftsFinal_of {P : Program} {c : List Char} {rest : List (List Char)} (h : behindMainWord (wordsSigns P.initOrder.toList) = c :: rest) (h1 : P.headLifts = []) (h2 : (some c == some "carried".toList) = false) : P.liftsFinal = false := by
  unfold Program.liftsFinal
  simp only [h, h1, List.head?_cons, h2, Bool.false_and, List.contains_nil, Bool.or_false]
theorem mayEnter_of {P : Program} {c : List Char} {rest : List (List Char)} (h : behindMainWord (wordsSigns P.initOrder.toList) = c :: rest)
    (h3 : ((stripLifts liftWords (c :: rest)).2.head? == some "cut".toList &&
      ((stripLifts liftWords (c :: rest)).1.contains "finals" || !P.laysLater) && ((stripLifts liftWords (c :: rest)).1.contains "reflectrows" || !P.bearsReflect) &&
      ((stripLifts liftWords (c :: rest)).1.contains "reflectrows" || !(stripLifts liftWords (c :: rest)).1.contains "leanrows") &&
      P.doorFits (stripLifts liftWords (c :: rest)).1) = true) : P.mayEnter = true := by
  unfold Program.mayEnter
  rw [h]
  simp only [h3, Bool.or_true]
theorem p_lifts : Try.prog.headLifts = [] := lifts_of p_words (by kernel_rfl)
theorem p_liftsFinal : Try.prog.liftsFinal = false := liftsFinal_of p_words p_lifts (by kernel_rfl)
theorem p_make : Try.prog.make = some .cut := make_of p_words (by kernel_rfl) (by kernel_rfl)
theorem p_mayEnter : Try.prog.mayEnter = true := mayEnter_of p_words (by kernel_rfl)
theorem and_mk {a b : Bool} (ha : a = true) (hb : b = true) : (a && b) = true := by rw [ha, hb]; rfl
theorem joined_mk {P : Program} {f : FuncId} {fn : Func} {s : ChangeSpec} {c : OpenClaim}
    (h0 : (c.wf (OpenSpec.ofChange s)) = true)
    (h1 : (laidOutB P) = true)
    (h2 : (mapsRowed P) = true)
    (h3 : (fn.params.all (P.readableRec ·)) = true)
    (h4 : (namedTie P c.named s.vars) = true)
    (h5 : ((c.stops == [])) = true)
    (h6 : ((P.stops == [])) = true)
    (h7 : ((c.knobs == [])) = true)
    (h8 : ((P.stopKnobs == [])) = true)
    (h9 : ((c.inPlace == P.inPlace f)) = true)
    (h10 : ((c.unfollowed == P.unfollowed f)) = true)
    (h11 : ((c.recurses == P.recurses f)) = true)
    (h12 : ((c.named == P.varsNamed f)) = true)
    (h13 : ((c.maps == (fn.params.toList ++ s.plain.varTypes P).any (P.mapsRec ·))) = true)
    (h14 : ((c.ifaces == (fn.params.toList ++ s.plain.varTypes P).any (P.ifacesRec ·))) = true)
    (h15 : ((c.mapsOut == P.mapsAmong fn.resultTypes.toList)) = true)
    (h16 : ((c.loops == (fn.params.toList ++ s.plain.varTypes P).any (P.loopsFrom ·))) = true)
    (h17 : ((c.wideKeys == (fn.params.toList ++ s.plain.varTypes P ++ fn.resultTypes.toList).any (P.wideKeysFrom ·))) = true)
    (h18 : (s.vars.all (P.varReadable ·)) = true)
    (h19 : (fn.resultTypes.all (fun t => P.readableRec t && decide (t < P.types.size))) = true)
    (h20 : ((c.ifacesOut == fn.resultTypes.toList.any (P.ifacesRec ·))) = true)
    (h21 : ((c.loopsOut == fn.resultTypes.toList.any (P.loopsFrom ·))) = true)
    (h22 : ((c.plainKeys == P.plainKeys)) = true)
    (h23 : (c.shortTexts.isNone) = true)
    (h24 : (P.stopsHeard) = true)
    (h25 : (P.mayEnter) = true)
    (h26 : ((c.lifted == P.liftsFinal)) = true)
    (h27 : ((P.make == some c.make)) = true)
    (h28 : ((c.kinds == (if c.domain.isEmpty then [] else fn.params.toList.map fun t => match P.underlying t with | some (.int k) => some k | _ => none))) = true)
    (h29 : ((c.pinned == c.pinnedBy)) = true)
    (h30 : ((c.veiled == (fn.params.toList ++ s.plain.varTypes P ++ fn.resultTypes.toList).any (P.veiledRec ·))) = true)
    (h31 : (c.veiledFits P fn.params.toList (fn.params.toList ++ s.plain.varTypes P ++ fn.resultTypes.toList)) = true)
    : joinedFacts P f fn s c = true := by
  unfold joinedFacts
  exact and_mk (and_mk (and_mk (and_mk (and_mk (and_mk (and_mk (and_mk (and_mk (and_mk (and_mk (and_mk (and_mk (and_mk (and_mk (and_mk (and_mk (and_mk (and_mk (and_mk (and_mk (and_mk (and_mk (and_mk (and_mk (and_mk (and_mk (and_mk (and_mk (and_mk (and_mk (h0) h1) h2) h3) h4) h5) h6) h7) h8) h9) h10) h11) h12) h13) h14) h15) h16) h17) h18) h19) h20) h21) h22) h23) h24) h25) h26) h27) h28) h29) h30) h31
theorem p_laidOut : laidOutB Try.prog = true := by kernel_rfl
theorem p_mapsRowed : mapsRowed Try.prog = true := by kernel_rfl
theorem p_stops : (Try.prog.stops == []) = true := by kernel_rfl
theorem p_stopKnobs : (Try.prog.stopKnobs == []) = true := by kernel_rfl
theorem p_plainKeys : Try.prog.plainKeys = true := by kernel_rfl
theorem p_stopsHeard : Try.prog.stopsHeard = true := by kernel_rfl
theorem p_own : ownKnob Try.prog.godebug = none := by kernel_rfl
end Go.Proofs.Ytleopmeaaabejaa
