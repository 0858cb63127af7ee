/-
  Contracts of the generated helpers on sheets and slices of sheets. Conditions: at most 2^30 elements, sizes of Go strings.
  Contracts of ColorOf of the program and of the reference. Conditions: at most 2^30 elements.
-/
import Derived.Deep.RegionWith
import Derived.Test.YtleopmeaaabejaaJ06
namespace Go.Proofs.Ytleopmeaaabejaa
set_option linter.unusedVariables false
set_option linter.unusedSimpArgs false
set_option maxRecDepth 100000
open Go.ChangeShapes Go.WideShapes Go.ChangeAt Go.RowKit Go.Deep

def shSz (l : List Rul) : Int := l.length + rulsz l
def shsSz (l : List (List Rul)) : Int := (l.map shSz).sum
theorem shSz_nonneg (l : List Rul) : 0 ≤ shSz l := by have := rulsz_nonneg l; unfold shSz; omega
theorem shsSz_nonneg (l : List (List Rul)) : 0 ≤ shsSz l := by
  induction l with
  | nil => simp [shsSz]
  | cons a l ih => have := shSz_nonneg a; simp only [shsSz, List.map_cons, List.sum_cons] at *; omega
theorem shsSz_mem {l : List (List Rul)} {a : List Rul} (h : a ∈ l) : shSz a ≤ shsSz l := by
  induction l with
  | nil => cases h
  | cons b l ih =>
    have h1 : shsSz (b :: l) = shSz b + shsSz l := by simp [shsSz]
    have h2 := shsSz_nonneg l
    have h3 := shSz_nonneg b
    rw [h1]
    rcases List.mem_cons.1 h with rfl | h
    · omega
    · have := ih h; omega
theorem shsSz_take {l : List (List Rul)} {k : Nat} (h : k < l.length) : shsSz (l.take (k + 1)) = shsSz (l.take k) + shSz l[k] := by
  rw [List.take_succ_eq_append_getElem h, shsSz, shsSz, List.map_append, List.sum_append]; simp
def GotSh (w : World) (ek : TypeId) (l : List Rul) (r : Ending) (w' : World) : Prop :=
  ∃ A c, r = .returned (.agg #[.slice A l.length c]) ∧ Own w' w.heap.size w'.heap.size ek 2 (.slice A l.length c) l.length (rulV l) ∧ Below w.heap.size w w'
theorem run_make_one {P : Program} (t e : TypeId) (z : Value) (bytes : Nat) (ht : P.underlying t = some (.slice e)) (hinfo : (P.info? e).map (fun i => (i.zero, i.size, i.bytes)) = some (some z, 1, bytes)) (n : Nat) (hb : bytes * n ≤ 281474976710656) (h63 : n ≤ 9223372036854775807) (w : World) :
    (Instr.makeSlice t (.int .i64 (n : Int)) (.int .i64 (n : Int))).run P w = .ok (.slice (some ⟨w.heap.size, 0, none⟩) n n) (w.alloc (.cells (madeCells z.cells (n * 1)) e)) := by
  obtain ⟨i, hi, hz, hs, hby⟩ := info_parts hinfo
  have h2 : (i.bytes : Int) * (n : Int) ≤ 281474976710656 := by
    rw [hby]
    have h : ((bytes * n : Nat) : Int) ≤ 281474976710656 := by omega
    rwa [Int.natCast_mul] at h
  have hr := run_make (P := P) w t e i z ht hi hz .i64 .i64 n n (by omega) (Int.le_refl _) h2 (by omega)
  simp only [Int.toNat_natCast, hs] at hr
  exact hr
theorem szSheet_any {A : Option Addr} {c : Nat} (l : List Rul) (w : World) (hx : Reads w w.heap.size 2 A l.length (rulV l)) (h2 : l.length ≤ 9223372036854775807) (hz : ∀ a ∈ l, okRul a) (left : Int) (h0 : 0 ≤ left) (h1 : left ≤ 1048576) :
    Calls Try.prog 52 #[.agg #[.slice A l.length c], .int .i64 left] w (Sz left (shSz l) w) := by
  have hb0 := (Below.refl w.heap.size w).alloc (Nat.le_refl _) (.cells #[.slice A l.length c] 82)
  have hx' := (hx.below hb0).more hb0.size
  have hT : Hid (shSz l = l.length + rulsz l) := rfl
  go_enter Try.func52, Try.ntmps52
  go_wp2_with (go_at_call 69; refine (szRuleS_r (l := l) _ hx' h2 hz _ h0 h1).mono ?_; rintro e w1 ⟨r, rfl, ra, rb, rc, bb⟩)
  all_goals
    go_ret
    refine ⟨_, rfl, ?_, ?_, ?_, hb0.trans (bb.mono hb0.size)⟩
    all_goals (have := hT.out; omega)
theorem eqSheet_yes {A A' : Option Addr} {c c' : Nat} (l : List Rul) (w : World) (hx : Reads w w.heap.size 2 A l.length (rulV l)) (hy : Reads w w.heap.size 2 A' l.length (rulV l)) (hn : l.length ≤ 1073741824) :
    Calls Try.prog 28 #[.agg #[.slice A l.length c], .agg #[.slice A' l.length c']] w fun e w' => e = .returned (.bool true) ∧ Below w.heap.size w w' := by
  have hb0 := ((Below.refl w.heap.size w).alloc (Nat.le_refl _) (.cells #[.slice A l.length c] 54)).alloc (by simp) (.cells #[.slice A' l.length c'] 54)
  have hx' := (hx.below hb0).more hb0.size
  have hy' := (hy.below hb0).more hb0.size
  go_enter Try.func28, Try.ntmps28
  go_wp2_with (go_at_call 58; refine (eqRuleS_yes (l := l) _ hx' hy' hn).mono ?_; rintro e w1 ⟨rfl, bb⟩)
  go_ret
  exact ⟨rfl, hb0.trans (bb.mono hb0.size)⟩
set_option maxHeartbeats 800000 in
theorem toSheet_any {A : Option Addr} {c : Nat} (l : List Rul) (w : World) (hx : Reads w w.heap.size 2 A l.length (rulV l)) (hn : l.length ≤ 1073741824) :
    Calls Try.prog 54 #[.agg #[.slice A l.length c]] w (GotSh w 84 l) := by
  have hb0 := (((Below.refl w.heap.size w).alloc (Nat.le_refl _) (.cells #[.slice A l.length c] 82)).alloc (by simp) (.cells #[.slice none 0 0] 54)).alloc (by simp; omega) (.cells #[.slice none 0 0] 54)
  have hx' := (hx.below hb0).more hb0.size
  go_enter Try.func54, Try.ntmps54
  go_wp2_with (go_at_call 70; refine (toRuleS_any (l := l) _ hx' hn).mono ?_; rintro e w1 ⟨A', c', rfl, o1, b1⟩; obtain ⟨hc, hf⟩ := bcell b1; have zz := b1.size; simp at zz)
  refine bodyPost_ret (v := .agg #[.slice A' l.length c']) (by simp [results, Try.results54, go_sem, hc, hf, zz]) rfl ⟨A', c', rfl, ?_, ?_⟩
  · exact ((o1.set (p := ⟨w.heap.size + 1 + 1, 0, none⟩) (by first | omega | (simp; done) | (simp; omega)) (.slice A' l.length c')).set (p := ⟨w.heap.size + 1, 0, none⟩) (by first | omega | (simp; done) | (simp; omega)) (.slice A' l.length c')).wide (by first | omega | (simp; done) | (simp; omega)) (by simp)
  · exact (((hb0.trans (b1.mono hb0.size)).setCell (p := ⟨w.heap.size + 1 + 1, 0, none⟩) (by first | omega | (simp; done) | (simp; omega)) (.slice A' l.length c')).setCell (p := ⟨w.heap.size + 1, 0, none⟩) (by first | omega | (simp; done) | (simp; omega)) (.slice A' l.length c'))
set_option maxHeartbeats 400000 in
theorem szSheetS_any {A : Option Addr} {n c : Nat} {l : List (List Rul)} (w : World) (hx : ReadsN shN w w.heap.size A n l) (hn : n ≤ 9223372036854775807) (hz : ∀ a ∈ l, okSh a) (left : Int) (h0 : 0 ≤ left) (h1 : left ≤ 1048576) :
    Calls Try.prog 24 #[.slice A n c, .int .i64 left] w (Sz left (n + shsSz l) w) := by
  have hnn := shsSz_nonneg l
  by_cases hbig : left < n
  · go_enter Try.func24, Try.ntmps24
    go_wp2
    go_ret
    exact ⟨-1, rfl, by omega, by omega, by omega, Below.refl _ _⟩
  · have lx := Lib.hid hx.len
    have hle : (n : Int) ≤ left := by omega
    go_enter Try.func24, Try.ntmps24
    go_wp2
    go_loopw [1, 5] (fun p i wr => ∃ (k : Nat) (m : Int), k ≤ n ∧ i = .int .i64 k ∧ p = .int .i64 m ∧ 0 ≤ m ∧ m ≤ left ∧ Hid (n + shsSz (l.take k) + m ≤ left) ∧ Below w.heap.size w wr) (fun _ i _ => n - (intOf i).toNat)
    case atStart => exact ⟨0, left - n, Nat.zero_le _, rfl, rfl, by omega, by omega, by show _ ≤ _; simp [shsSz]; omega, Below.refl _ _⟩
    case round =>
      obtain ⟨k, m, hk, rfl, rfl, hm0, hm1, hcur, hbel⟩ := hrel
      have hbs := hbel.size
      by_cases hlt : k < n
      · obtain ⟨b0, off0, rfl, hab, hcx⟩ := (hx.below hbel).sheet hlt
        have hl1 : k < l.length := by rw [lx.out]; exact hlt
        obtain ⟨A', c', hr, hc0⟩ := hcx hl1
        obtain ⟨z2, z3⟩ := hz l[k] (List.getElem_mem _)
        unfold maxLen at z2
        have hT : Hid (shsSz (l.take (k + 1)) = shsSz (l.take k) + shSz l[k]) := shsSz_take hl1
        generalize l[k] = a at *
        have hr' := hr.more hbs
        clear hx hz hcx hr
        go_wp2_with (go_at_call 52; refine (szSheet_any a _ hr' (by omega) z3 m hm0 (by omega)).mono ?_; rintro e w1 ⟨r, rfl, hr1, hr2, hr3, b1⟩; have H3 := Lib.hid hr3; clear hr3)
        all_goals first
          | (go_ret; exact ⟨-1, rfl, by omega, by omega, by omega, hbel.trans (b1.mono hbs)⟩)
          | (go_roundw
             case rel => exact ⟨k + 1, r, by omega, by go_num, rfl, by omega, by omega, by show _ ≤ _; rw [hT.out]; have := H3.out (by omega); have := hcur.out; omega, hbel.trans (b1.mono hbs)⟩
             case measure => simp [intOf]; omega)
      · obtain rfl : k = n := by omega
        have he : Hid (l.take k = l) := by show _ = _; exact List.take_of_length_le (by rw [lx.out]; exact Nat.le_refl _)
        clear hx hz
        go_wp2
        go_ret
        exact ⟨m, rfl, by omega, by omega, fun _ => by have := hcur.out; rw [he.out] at this; exact this, hbel⟩
set_option maxHeartbeats 400000 in
theorem eqSheetS_yes {A A' : Option Addr} {n n' c c' : Nat} {l : List (List Rul)} (w : World) (hx : ReadsN shN w w.heap.size A n l) (hy : ReadsN shN w w.heap.size A' n' l) (hn : n ≤ 1073741824) (hm : ∀ a ∈ l, a.length ≤ 1073741824) :
    Calls Try.prog 29 #[.slice A n c, .slice A' n' c'] w fun e w' => e = .returned (.bool true) ∧ Below w.heap.size w w' := by
  have lx := hx.len
  have ly := hy.len
  obtain rfl : n = n' := by omega
  have Lx := Lib.hid lx
  clear lx ly
  go_enter Try.func29, Try.ntmps29
  go_wp2
  go_loopw [5] (fun i wr => ∃ k : Nat, k ≤ n ∧ i = .int .i64 k ∧ Below w.heap.size w wr) (fun i _ => n - (intOf i).toNat)
  case atStart => exact ⟨0, Nat.zero_le _, rfl, Below.refl _ _⟩
  case round =>
    obtain ⟨k, hk, rfl, hbel⟩ := hrel
    have hbs := hbel.size
    by_cases hlt : k < n
    · obtain ⟨b0, off0, rfl, hab, hcx⟩ := (hx.below hbel).sheet hlt
      obtain ⟨b1, off1, rfl, hab', hcy⟩ := (hy.below hbel).sheet hlt
      have hl1 : k < l.length := by rw [Lx.out]; exact hlt
      obtain ⟨A1, c1, hr, hc0⟩ := hcx hl1
      obtain ⟨A2, c2, hs, hd0⟩ := hcy hl1
      have hm1 := hm l[k] (List.getElem_mem _)
      have hk0 : (0 : Int) ≤ (k : Int) := Int.natCast_nonneg _
      have hk9 : (k : Int) < (n : Int) := by omega
      generalize l[k] = a at *
      have hr' : Reads wr.drew wr.drew.heap.size 2 A1 a.length (rulV a) := hr.more hbs
      have hs' : Reads wr.drew wr.drew.heap.size 2 A2 a.length (rulV a) := hs.more hbs
      clear hx hy hcx hcy hm hr hs
      go_wp2_with fail
      go_region_with (go_at_call 28; refine (eqSheet_yes a _ hr' hs' hm1).mono ?_; rintro e w1 ⟨rfl, bb1⟩)
      all_goals
        go_wp2
        go_roundw
        case rel => exact ⟨k + 1, by omega, by go_num, (hbel.drew).trans (bb1.mono hbs)⟩
        case measure => simp [intOf]; omega
    · obtain rfl : k = n := by omega
      go_wp2
      go_ret
      exact ⟨rfl, hbel⟩
theorem info_Sheet : (Try.prog.info? 54).map (fun i => (i.zero, i.size, i.bytes)) = some (some (.agg #[.slice none 0 0]), 1, 24) := by kernel_rfl
set_option maxHeartbeats 1000000 in
theorem toSheetS_any {A : Option Addr} {n c : Nat} {l : List (List Rul)} (w : World) (hx : ReadsN shN w w.heap.size A n l) (hn : n ≤ 1073741824) (hm : ∀ a ∈ l, a.length ≤ 1073741824) :
    Calls Try.prog 26 #[.slice A n c] w (GotN shN w 54 84 n l) := by
  have hmk := fun W => run_make_one (P := Try.prog) 56 54 (.agg #[.slice none 0 0]) 24 Try.underlying56 info_Sheet n (by omega) (by omega) W
  have lx := Lib.hid hx.len
  go_enter Try.func26, Try.ntmps26
  go_wp2
  go_loopw [4] (fun i wr => ∃ k : Nat, k ≤ n ∧ i = .int .i64 k ∧ ∃ (cur : List Value) (L : List (List Rul × Hd)), wr.ownsRow w.heap.size 54 1 (.slice (some ⟨w.heap.size, 0, none⟩) n n) n cur ∧ Hid (cur.take k = shN.flat L) ∧ Hid (L.map (·.1) = l.take k) ∧
      Hid (∀ x ∈ L, Own wr (w.heap.size + 1) wr.heap.size 84 2 (.slice x.2.1 x.1.length x.2.2) x.1.length (rulV x.1)) ∧ Hid ((L.map fun x => hdBlock x.2).Pairwise sep) ∧ w.heap.size < wr.heap.size ∧ Below w.heap.size w wr)
    (fun i _ => n - (intOf i).toNat)
  case atStart =>
    exact ⟨0, Nat.zero_le _, rfl, _, [], World.ownsRow_lit w _ n (Nat.le_refl _) (by simp only [maxLen]; omega) (by rw [size_madeCells]; omega), by show _ = _; simp [Nest.flat_nil], by show _ = _; simp, fun x hx => (by cases hx), (show List.Pairwise sep _ from List.Pairwise.nil), by simp, (Below.refl _ _).alloc (Nat.le_refl _) _⟩
  case round =>
    obtain ⟨k, hk, rfl, cur, L, hown, hall, hL, hkids, hsep, hsz, hbel⟩ := hrel
    have hbs := hbel.size
    by_cases hlt : k < n
    · obtain ⟨b0, off0, rfl, hab, hcx⟩ := (hx.below hbel).sheet hlt
      have hl1 : k < l.length := by rw [lx.out]; exact hlt
      obtain ⟨A1, c1, hr, hc0⟩ := hcx hl1
      have hm1 := hm l[k] (List.getElem_mem _)
      have hL1 : Hid (L.map (·.1) ++ [l[k]] = l.take (k + 1)) := by show _ = _; rw [hL.out, List.take_succ_eq_append_getElem hl1]
      have hLk : Hid (L.length = k) := by show _ = _; have := congrArg List.length hL.out; rw [List.length_map, List.length_take] at this; have := lx.out; omega
      generalize l[k] = a at *
      have hr' := hr.more hbs
      have hcl : Hid (cur.length = n) := by have h := hown.1; show _ = _; omega
      clear hx hmk hcx hm hr
      go_wp2_with (go_at_call 54; refine (toSheet_any a _ hr' hm1).mono ?_; rintro e w1 ⟨A2, c2, rfl, o1, b1⟩; have ho1 := own_next hown b1; obtain ⟨u0, hu0, hf0⟩ := own_any (idx := k) ho1 (by omega))
      clear hu0 hf0
      have hs0 := (ho1.stored k (.slice A2 a.length c2)).1
      have hbz := b1.size
      have hfin : Hid ((cur.set k (.slice A2 a.length c2)).take (k + 1) = shN.flat (L ++ [(a, (A2, c2))])) := by
        show _ = _
        have e0 := set_take (cur := cur) (T := shN.flat (L ++ [(a, (A2, c2))])) (i := k) (u := .slice A2 a.length c2) (by
          rw [hall.out, Nest.flat_append, List.take_append_of_le_length (by rw [Nest.flat_len, hLk.out]; show k ≤ k * 1; omega), List.take_of_length_le (by rw [Nest.flat_len, hLk.out]; show k * 1 ≤ k; omega)]) (by
          have := Nest.flat_at (N := shN) (L := L ++ [(a, (A2, c2))]) (i := k) (j := 0) (by rw [List.length_append, hLk.out]; simp) (by show 0 < 1; omega)
          rw [List.getElem_append_right (by rw [hLk.out]; exact Nat.le_refl _)] at this
          simp [hLk.out, shN, Nest.cells] at this
          simpa [shN] using this) (by have := hcl.out; omega)
        rw [e0, List.take_of_length_le (by rw [Nest.flat_len, List.length_append, hLk.out]; show (k + 1) * 1 ≤ k + 1; omega)]
      have hsep2 : Hid (((L ++ [(a, (A2, c2))]).map fun x => hdBlock x.2).Pairwise sep) := by
        show List.Pairwise _ _
        rw [List.map_append, List.pairwise_append]
        refine ⟨hsep.out, by simp, fun x hx y hy => ?_⟩
        obtain ⟨z, hz, rfl⟩ := List.mem_map.1 hx
        simp at hy
        subst hy
        exact sep_lt (m := wr.heap.size) (fun q hq => (hkids.out z hz).2 q (by rw [hdBlock_eq (c' := z.2.2)]; exact hq)) (fun q hq => o1.ge q (by rw [hdBlock_eq (c' := c2)]; exact hq))
      have hb2 := (hbel.trans (b1.mono hbs)).setCell (p := ⟨w.heap.size, k, none⟩) (Nat.le_refl _) (.slice A2 a.length c2)
      have hz2 : w.heap.size < w1.heap.size := by omega
      have hkids2 : Hid (∀ x ∈ L ++ [(a, (A2, c2))], Own (w1.setCell ⟨w.heap.size, k, none⟩ (.slice A2 a.length c2)) (w.heap.size + 1) w1.heap.size 84 2 (.slice x.2.1 x.1.length x.2.2) x.1.length (rulV x.1)) := by
        show ∀ x ∈ L ++ [(a, (A2, c2))], _
        intro x hx
        rcases List.mem_append.1 hx with hx | hx
        · exact (((hkids.out x hx).below b1).wide (Nat.le_refl _) hbz).set (by simp) _
        · simp at hx
          subst hx
          exact (o1.wide (by omega) (Nat.le_refl _)).set (by simp) _
      clear ho1 hown b1 hall hkids hsep o1
      go_roundw
      case rel => exact ⟨k + 1, by omega, by go_num, _, L ++ [(a, (A2, c2))], hs0, hfin, (by show _ = _; rw [List.map_append]; exact hL1.out), (by simpa using hkids2), hsep2, (by simpa using hz2), hb2⟩
      case measure => simp [intOf]; omega
    · obtain rfl : k = n := by omega
      have he : cur = shN.flat L := by
        have h1 := hall.out
        rw [List.take_of_length_le (by have := hown.1; omega)] at h1
        exact h1
      subst he
      have hl9 : Hid (L.map (·.1) = l) := by show _ = _; rw [hL.out, List.take_of_length_le (by rw [lx.out]; exact Nat.le_refl _)]
      clear hmk hall hx hm
      go_wp2
      go_ret
      refine ⟨_, _, L, rfl, hl9.out, ⟨Own.of_row hown, fun x hx => (hkids.out x hx).wide (by omega) (Nat.le_refl _), hsep.out, fun x hx => ?_⟩, hbel⟩
      exact sep_lt (m := w.heap.size + 1) (fun q hq => by have e : some w.heap.size = some q := hq; injection e with e; omega) (fun q hq => (hkids.out x hx).ge q (by rw [hdBlock_eq (c' := x.2.2)]; exact hq))
end Go.Proofs.Ytleopmeaaabejaa

namespace Go.Proofs.Ytleopmeaaabejaa
set_option linter.unusedVariables false
set_option linter.unusedSimpArgs false
set_option maxRecDepth 100000
open Go.ChangeShapes Go.WideShapes Go.ChangeAt Go.RowKit Go.Deep

/-- the color that the first m rules of a sheet give, the last first; of the first k sheets, the last first -/
def colS (r : List Rul) (nm : ByteArray) : Nat → Option Int
  | 0 => none
  | m + 1 => match r[m]? with
    | some a => if a.1.toList == nm.toList then some a.2 else colS r nm m
    | none => colS r nm m
def colL (l : List (List Rul)) (nm : ByteArray) : Nat → Int
  | 0 => 0
  | k + 1 => match l[k]? with
    | some r => match colS r nm r.length with
      | some z => z
      | none => colL l nm k
    | none => colL l nm k
def colOf (l : List (List Rul)) (nm : ByteArray) : Int := colL l nm l.length
theorem colS_yes {r : List Rul} {nm : ByteArray} {m : Nat} (h : m < r.length) (he : (r[m].1.toList == nm.toList) = true) : colS r nm (m + 1) = some r[m].2 := by
  rw [colS, List.getElem?_eq_getElem h]; simp only [he, if_true]
theorem colS_no {r : List Rul} {nm : ByteArray} {m : Nat} (h : m < r.length) (he : (r[m].1.toList == nm.toList) = false) : colS r nm (m + 1) = colS r nm m := by
  rw [colS, List.getElem?_eq_getElem h]; simp only [he]; rfl
theorem colL_none {l : List (List Rul)} {nm : ByteArray} {k : Nat} (h : k < l.length) (he : colS l[k] nm l[k].length = none) : colL l nm (k + 1) = colL l nm k := by
  rw [colL, List.getElem?_eq_getElem h]; simp only [he]
theorem colL_some {l : List (List Rul)} {nm : ByteArray} {k : Nat} {z : Int} (h : k < l.length) (he : colS l[k] nm l[k].length = some z) : colL l nm (k + 1) = z := by
  rw [colL, List.getElem?_eq_getElem h]; simp only [he]
set_option maxHeartbeats 800000 in
theorem colorOf_spec {A : Option Addr} {n c : Nat} {l : List (List Rul)} (nm : ByteArray) (w : World) (hx : ReadsN shN w w.heap.size A n l) (hn : n ≤ 1073741824) (hm : ∀ a ∈ l, a.length ≤ 1073741824) :
    Calls Try.prog 53 #[.slice A n c, .string nm] w fun e w' => e = .returned (.int .i64 (colOf l nm)) ∧ w = w' := by
  have lx := Lib.hid hx.len
  obtain ⟨V, hV⟩ : ∃ V, V = colOf l nm := ⟨_, rfl⟩
  have HV : Hid (colL l nm n = V) := by show _ = _; rw [hV, colOf, lx.out]
  rw [← hV]
  clear hV
  go_enter Try.func53, Try.ntmps53
  go_wp2
  go_loop [5] (fun i => ∃ k : Nat, k ≤ n ∧ i = .int .i64 ((k : Int) - 1) ∧ Hid (colL l nm k = V)) (fun i => (intOf i + 1).toNat)
  case atStart => exact ⟨n, Nat.le_refl _, rfl, HV⟩
  case round =>
    obtain ⟨k, hk, rfl, hcur⟩ := hrel
    rcases k with _ | k
    · have hres : Hid (0 = V) := hcur.out
      go_wp2
      go_ret
      exact ⟨ret_int hres.out, rfl⟩
    · have ek : ((k + 1 : Nat) : Int) - 1 = (k : Int) := by omega
      rw [ek]
      clear ek
      have hlt : k < n := by omega
      obtain ⟨b0, off0, rfl, hab, hcx⟩ := hx.sheet hlt
      have hl1 : k < l.length := by rw [lx.out]; exact hlt
      obtain ⟨A1, c1, hr, hc0⟩ := hcx hl1
      have hk0 : (0 : Int) ≤ (k : Int) := Int.natCast_nonneg _
      have hk9 : (k : Int) < (n : Int) := by omega
      have hm1 := hm l[k] (List.getElem_mem _)
      have hnone : Hid (colS l[k] nm l[k].length = none → colL l nm k = V) := fun h => by rw [← hcur.out, colL_none hl1 h]
      have hsome : Hid (∀ z, colS l[k] nm l[k].length = some z → z = V) := fun z h => by rw [← hcur.out, colL_some hl1 h]
      generalize l[k] = r at *
      clear hcx hcur
      go_wp2
      go_loop [6] (fun i => ∃ m : Nat, m ≤ r.length ∧ i = .int .i64 ((m : Int) - 1) ∧ Hid (colS r nm m = colS r nm r.length)) (fun i => (intOf i + 1).toNat)
      case atStart => exact ⟨r.length, Nat.le_refl _, rfl, rfl⟩
      case round =>
        obtain ⟨m, hm2, rfl, hcur⟩ := hrel
        rcases m with _ | m
        · have hres := Lib.hid (hnone.out (by rw [← hcur.out]; rfl))
          go_wp2
          go_round
          case rel => exact ⟨k, by omega, rfl, hres⟩
          case measure => first | (simp [intOf]; done) | (simp [intOf]; omega)
        · have em : ((m + 1 : Nat) : Int) - 1 = (m : Int) := by omega
          rw [em]
          clear em
          have hmlt : m < r.length := by omega
          obtain ⟨b1, off1, rfl, hab', hcy⟩ := hr.rul hmlt
          obtain ⟨hd0, hd1⟩ := hcy hmlt
          have hm0 : (0 : Int) ≤ (m : Int) := Int.natCast_nonneg _
          have hm9 : (m : Int) < (r.length : Int) := by omega
          cases he : (r[m].1.toList == nm.toList)
          · have hres : Hid (colS r nm m = colS r nm r.length) := by show _ = _; rw [← hcur.out, colS_no hmlt he]
            generalize r[m] = x at *
            clear hcy hcur
            go_wp2
            go_round
            case rel => exact ⟨m, by omega, rfl, hres⟩
            case measure => first | (simp [intOf]; done) | (simp [intOf]; omega)
          · have hres : Hid (r[m].2 = V) := hsome.out _ (by rw [← hcur.out, colS_yes hmlt he])
            generalize r[m] = x at *
            clear hcy hcur
            go_wp2
            go_ret
            exact ⟨ret_int hres.out, rfl⟩
set_option maxHeartbeats 800000 in
theorem colorOf_impl {A : Option Addr} {n c : Nat} {l : List (List Rul)} (nm : ByteArray) (w : World) (hx : ReadsN shN w w.heap.size A n l) (hn : n ≤ 1073741824) (hm : ∀ a ∈ l, a.length ≤ 1073741824) :
    Calls Try.prog 57 #[.slice A n c, .string nm] w fun e w' => e = .returned (.int .i64 (colOf l nm)) ∧ w = w' := by
  have lx := Lib.hid hx.len
  obtain ⟨V, hV⟩ : ∃ V, V = colOf l nm := ⟨_, rfl⟩
  have HV : Hid (colL l nm n = V) := by show _ = _; rw [hV, colOf, lx.out]
  rw [← hV]
  clear hV
  go_enter Try.func57, Try.ntmps57
  go_wp2
  go_loop [5] (fun i => ∃ k : Nat, k ≤ n ∧ i = .int .i64 ((k : Int) - 1) ∧ Hid (colL l nm k = V)) (fun i => (intOf i + 1).toNat)
  case atStart => exact ⟨n, Nat.le_refl _, rfl, HV⟩
  case round =>
    obtain ⟨k, hk, rfl, hcur⟩ := hrel
    rcases k with _ | k
    · have hres : Hid (0 = V) := hcur.out
      go_wp2
      go_ret
      exact ⟨ret_int hres.out, rfl⟩
    · have ek : ((k + 1 : Nat) : Int) - 1 = (k : Int) := by omega
      rw [ek]
      clear ek
      have hlt : k < n := by omega
      obtain ⟨b0, off0, rfl, hab, hcx⟩ := hx.sheet hlt
      have hl1 : k < l.length := by rw [lx.out]; exact hlt
      obtain ⟨A1, c1, hr, hc0⟩ := hcx hl1
      have hk0 : (0 : Int) ≤ (k : Int) := Int.natCast_nonneg _
      have hk9 : (k : Int) < (n : Int) := by omega
      have hm1 := hm l[k] (List.getElem_mem _)
      have hnone : Hid (colS l[k] nm l[k].length = none → colL l nm k = V) := fun h => by rw [← hcur.out, colL_none hl1 h]
      have hsome : Hid (∀ z, colS l[k] nm l[k].length = some z → z = V) := fun z h => by rw [← hcur.out, colL_some hl1 h]
      generalize l[k] = r at *
      clear hcx hcur
      go_wp2
      go_loop [6] (fun i => ∃ m : Nat, m ≤ r.length ∧ i = .int .i64 ((m : Int) - 1) ∧ Hid (colS r nm m = colS r nm r.length)) (fun i => (intOf i + 1).toNat)
      case atStart => exact ⟨r.length, Nat.le_refl _, rfl, rfl⟩
      case round =>
        obtain ⟨m, hm2, rfl, hcur⟩ := hrel
        rcases m with _ | m
        · have hres := Lib.hid (hnone.out (by rw [← hcur.out]; rfl))
          go_wp2
          go_round
          case rel => exact ⟨k, by omega, rfl, hres⟩
          case measure => first | (simp [intOf]; done) | (simp [intOf]; omega)
        · have em : ((m + 1 : Nat) : Int) - 1 = (m : Int) := by omega
          rw [em]
          clear em
          have hmlt : m < r.length := by omega
          obtain ⟨b1, off1, rfl, hab', hcy⟩ := hr.rul hmlt
          obtain ⟨hd0, hd1⟩ := hcy hmlt
          have hm0 : (0 : Int) ≤ (m : Int) := Int.natCast_nonneg _
          have hm9 : (m : Int) < (r.length : Int) := by omega
          cases he : (r[m].1.toList == nm.toList)
          · have hres : Hid (colS r nm m = colS r nm r.length) := by show _ = _; rw [← hcur.out, colS_no hmlt he]
            generalize r[m] = x at *
            clear hcy hcur
            go_wp2
            go_round
            case rel => exact ⟨m, by omega, rfl, hres⟩
            case measure => first | (simp [intOf]; done) | (simp [intOf]; omega)
          · have hres : Hid (r[m].2 = V) := hsome.out _ (by rw [← hcur.out, colS_yes hmlt he])
            generalize r[m] = x at *
            clear hcy hcur
            go_wp2
            go_ret
            exact ⟨ret_int hres.out, rfl⟩
end Go.Proofs.Ytleopmeaaabejaa
