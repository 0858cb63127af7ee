/-
  Contracts of the generated helpers on slices of nodes: measure, compare, copy. Conditions: sizes of Go strings and slices, at most 2^30 elements.
-/
import Derived.Test.YtflcknknkekkfaaTk2
import Derived.Test.YtflcknknkekkfaaNd1
import Derived.Deep.RegionWith
namespace Go.Proofs.Ytflcknknkekkfaa
set_option linter.unusedVariables false
set_option linter.unusedSimpArgs false
set_option maxRecDepth 100000
open Go.ChangeShapes Go.WideShapes Go.ChangeAt Go.RowKit Go.Deep

def nodsSz (l : List Nod) : Int := (l.map nodSz).sum
theorem nodSz_nonneg (t : Nod) : 0 ≤ nodSz t := by have := s2sz_nonneg t.attrs; unfold nodSz; omega
theorem nodsSz_nonneg (l : List Nod) : 0 ≤ nodsSz l := by
  induction l with
  | nil => simp [nodsSz]
  | cons a l ih => have := nodSz_nonneg a; simp only [nodsSz, List.map_cons, List.sum_cons] at *; omega
theorem nodsSz_mem {l : List Nod} {a : Nod} (h : a ∈ l) : nodSz a ≤ nodsSz l := by
  induction l with
  | nil => cases h
  | cons b l ih =>
    have h1 : nodsSz (b :: l) = nodSz b + nodsSz l := by simp [nodsSz]
    have h2 := nodsSz_nonneg l
    have h3 := nodSz_nonneg b
    rw [h1]
    rcases List.mem_cons.1 h with rfl | h
    · omega
    · have := ih h; omega
theorem nodsSz_take {l : List Nod} {k : Nat} (h : k < l.length) : nodsSz (l.take (k + 1)) = nodsSz (l.take k) + nodSz l[k] := by
  rw [List.take_succ_eq_append_getElem h, nodsSz, nodsSz, List.map_append, List.sum_append]; simp
theorem attrs_le_nodSz (t : Nod) : (t.attrs.length : Int) ≤ nodSz t := by have := s2sz_nonneg t.attrs; unfold nodSz; omega
set_option maxHeartbeats 400000 in
theorem szNodeS_any {A : Option Addr} {n c : Nat} {l : List Nod} (w : World) (hx : ReadsN nodN w w.heap.size A n l) (hn : n ≤ 9223372036854775807) (hz : ∀ a ∈ l, okNod a) (left : Int) (h0 : 0 ≤ left) (h1 : left ≤ 1048576) :
    Calls Try.prog 76 #[.slice A n c, .int .i64 left] w (Sz left (n + nodsSz l) w) := by
  have hnn := nodsSz_nonneg l
  by_cases hbig : left < n
  · go_enter Try.func76, Try.ntmps76
    go_wp2
    go_ret
    exact ⟨-1, rfl, by omega, by omega, by omega, Below.refl _ _⟩
  · have lx := Lib.hid hx.len
    have hle : (n : Int) ≤ left := by omega
    go_enter Try.func76, Try.ntmps76
    go_wp2
    go_loopw [1, 5] (fun p i wr => ∃ (k : Nat) (m : Int), k ≤ n ∧ i = .int .i64 k ∧ p = .int .i64 m ∧ 0 ≤ m ∧ m ≤ left ∧ Hid (n + nodsSz (l.take k) + m ≤ left) ∧ Below w.heap.size w wr) (fun _ i _ => n - (intOf i).toNat)
    case atStart => exact ⟨0, left - n, Nat.zero_le _, rfl, rfl, by omega, by omega, by show _ ≤ _; simp [nodsSz]; omega, Below.refl _ _⟩
    case round =>
      obtain ⟨k, m, hk, rfl, rfl, hm0, hm1, hcur, hbel⟩ := hrel
      have hbs := hbel.size
      by_cases hlt : k < n
      · obtain ⟨b0, off0, rfl, hab, hcx⟩ := (hx.below hbel).nod hlt
        have hl1 : k < l.length := by rw [lx.out]; exact hlt
        obtain ⟨A', c', hr, hc0, hc1, hc2, hc3⟩ := hcx hl1
        obtain ⟨z1, z4, _, z2, z3⟩ := hz l[k] (List.getElem_mem _)
        unfold maxLen at z2
        have hT : Hid (nodsSz (l.take (k + 1)) = nodsSz (l.take k) + nodSz l[k]) := nodsSz_take hl1
        generalize l[k] = a at *
        have hr' := hr.more hbs
        clear hx hz hcx hr
        go_wp2_with (go_at_call 102; refine (szNode_any a _ hr' z1 (by omega) z3 z4 m hm0 (by omega)).mono ?_; rintro e w1 ⟨r, rfl, hr1, hr2, hr3, b1⟩; have H3 := Lib.hid hr3; clear hr3)
        all_goals first
          | (go_ret; exact ⟨-1, rfl, by omega, by omega, by omega, hbel.trans (b1.mono hbs)⟩)
          | (go_roundw
             case rel => exact ⟨k + 1, r, by omega, by go_num, rfl, by omega, by omega, by show _ ≤ _; rw [hT.out]; have := H3.out (by omega); have := hcur.out; omega, hbel.trans (b1.mono hbs)⟩
             case measure => simp [intOf]; omega)
      · obtain rfl : k = n := by omega
        have he : Hid (l.take k = l) := by show _ = _; exact List.take_of_length_le (by rw [lx.out]; exact Nat.le_refl _)
        clear hx hz
        go_wp2
        go_ret
        exact ⟨m, rfl, by omega, by omega, fun _ => by have := hcur.out; rw [he.out] at this; exact this, hbel⟩
theorem info_Node : (Try.prog.info? 74).map (fun i => (i.zero, i.size, i.bytes)) = some (some (.agg #[.string ⟨#[]⟩, .string ⟨#[]⟩, .int .i64 0, .slice none 0 0]), 4, 64) := by kernel_rfl
theorem row_Node : RowT Try.prog 49 74 4 64 := RowT.mk' Try.underlying49 info_Node rfl (by omega)
set_option maxHeartbeats 400000 in
theorem eqNodeS_yes {A A' : Option Addr} {n n' c c' : Nat} {l : List Nod} (w : World) (hx : ReadsN nodN w w.heap.size A n l) (hy : ReadsN nodN w w.heap.size A' n' l) (hn : n ≤ 1073741824) (hm : ∀ a ∈ l, a.attrs.length ≤ 1073741824) :
    Calls Try.prog 70 #[.slice A n c, .slice A' n' c'] w fun e w' => e = .returned (.bool true) ∧ Below w.heap.size w w' := by
  have lx := hx.len
  have ly := hy.len
  obtain rfl : n = n' := by omega
  have Lx := Lib.hid lx
  clear lx ly
  go_enter Try.func70, Try.ntmps70
  go_wp2
  go_loopw [5] (fun i wr => ∃ k : Nat, k ≤ n ∧ i = .int .i64 k ∧ Below w.heap.size w wr) (fun i _ => n - (intOf i).toNat)
  case atStart => exact ⟨0, Nat.zero_le _, rfl, Below.refl _ _⟩
  case round =>
    obtain ⟨k, hk, rfl, hbel⟩ := hrel
    have hbs := hbel.size
    by_cases hlt : k < n
    · obtain ⟨b0, off0, rfl, hab, hcx⟩ := (hx.below hbel).nod hlt
      obtain ⟨b1, off1, rfl, hab', hcy⟩ := (hy.below hbel).nod hlt
      have hl1 : k < l.length := by rw [Lx.out]; exact hlt
      obtain ⟨A1, c1, hr, hc0, hc1, hc2, hc3⟩ := hcx hl1
      obtain ⟨A2, c2, hs, hd0, hd1, hd2, hd3⟩ := hcy hl1
      have hm1 := hm l[k] (List.getElem_mem _)
      have hk0 : (0 : Int) ≤ (k : Int) := Int.natCast_nonneg _
      have hk9 : (k : Int) < (n : Int) := by omega
      generalize l[k] = a at *
      have hr' : Reads wr.drew wr.drew.heap.size 2 A1 a.attrs.length (s2V a.attrs) := hr.more hbs
      have hs' : Reads wr.drew wr.drew.heap.size 2 A2 a.attrs.length (s2V a.attrs) := hs.more hbs
      clear hx hy hcx hcy hm hr hs
      go_wp2_with fail
      go_region_with (go_at_call 101; refine (eqNode_yes a _ hr' hs' hm1).mono ?_; rintro e w1 ⟨rfl, bb1⟩)
      all_goals
        go_wp2
        go_roundw
        case rel => exact ⟨k + 1, by omega, by go_num, (hbel.drew).trans (bb1.mono hbs)⟩
        case measure => simp [intOf]; omega
    · obtain rfl : k = n := by omega
      go_wp2
      go_ret
      exact ⟨rfl, hbel⟩
set_option maxHeartbeats 1000000 in
theorem toNodeS_any {A : Option Addr} {n c : Nat} {l : List Nod} (w : World) (hx : ReadsN nodN w w.heap.size A n l) (hn : n ≤ 1073741824) (hm : ∀ a ∈ l, a.attrs.length ≤ 1073741824) :
    Calls Try.prog 78 #[.slice A n c] w (GotN nodN w 74 94 n l) := by
  have hmk := fun W => run_make_four (P := Try.prog) 49 74 (.agg #[.string ⟨#[]⟩, .string ⟨#[]⟩, .int .i64 0, .slice none 0 0]) 64 Try.underlying49 info_Node n (by omega) (by omega) W
  have lx := Lib.hid hx.len
  go_enter Try.func78, Try.ntmps78
  go_wp2
  go_loopw [4] (fun i wr => ∃ k : Nat, k ≤ n ∧ i = .int .i64 k ∧ ∃ (cur : List Value) (L : List (Nod × Hd)), wr.ownsRow w.heap.size 74 4 (.slice (some ⟨w.heap.size, 0, none⟩) n n) n cur ∧ Hid (cur.take (k * 4) = nodN.flat L) ∧ Hid (L.map (·.1) = l.take k) ∧
      Hid (∀ x ∈ L, Own wr (w.heap.size + 1) wr.heap.size 94 2 (.slice x.2.1 x.1.attrs.length x.2.2) x.1.attrs.length (s2V x.1.attrs)) ∧ Hid ((L.map fun x => hdBlock x.2).Pairwise sep) ∧ w.heap.size < wr.heap.size ∧ Below w.heap.size w wr)
    (fun i _ => n - (intOf i).toNat)
  case atStart =>
    exact ⟨0, Nat.zero_le _, rfl, _, [], World.ownsRow_lit w _ n (Nat.le_refl _) (by simp only [maxLen]; omega) (by rw [size_madeCells]), by show _ = _; simp [Nest.flat_nil], by show _ = _; simp, fun x hx => (by cases hx), (show List.Pairwise sep _ from List.Pairwise.nil), by simp, (Below.refl _ _).alloc (Nat.le_refl _) _⟩
  case round =>
    obtain ⟨k, hk, rfl, cur, L, hown, hall, hL, hkids, hsep, hsz, hbel⟩ := hrel
    have hbs := hbel.size
    by_cases hlt : k < n
    · obtain ⟨b0, off0, rfl, hab, hcx⟩ := (hx.below hbel).nod hlt
      have hl1 : k < l.length := by rw [lx.out]; exact hlt
      obtain ⟨A1, c1, hr, hc0, hc1, hc2, hc3⟩ := hcx hl1
      have hm1 := hm l[k] (List.getElem_mem _)
      have hL1 : Hid (L.map (·.1) ++ [l[k]] = l.take (k + 1)) := by show _ = _; rw [hL.out, List.take_succ_eq_append_getElem hl1]
      have hLk : Hid (L.length = k) := by show _ = _; have := congrArg List.length hL.out; rw [List.length_map, List.length_take] at this; have := lx.out; omega
      generalize l[k] = a at *
      have hr' := hr.more hbs
      have hcl : Hid (cur.length = n * 4) := hown.1
      clear hx hmk hcx hm hr
      go_wp2_with (go_at_call 103; refine (toNode_any a _ hr' hm1).mono ?_; rintro e w1 ⟨A2, c2, rfl, o1, b1⟩; have ho1 := own_next hown b1; obtain ⟨u0, hu0, hf0⟩ := own_any ho1 (show k * 4 < n * 4 by omega); obtain ⟨u1, hu1, hf1⟩ := own_any ho1 (show k * 4 + 1 < n * 4 by omega); obtain ⟨u2, hu2, hf2⟩ := own_any ho1 (show k * 4 + 2 < n * 4 by omega); obtain ⟨u3, hu3, hf3⟩ := own_any ho1 (show k * 4 + 3 < n * 4 by omega))
      clear hu0 hu1 hu2 hu3 hf0 hf1 hf2 hf3
      have hs0 := (ho1.stored (k * 4) (.string a.name)).1
      have hs1 := (hs0.stored (k * 4 + 1) (.string a.text)).1
      have hs2 := (hs1.stored (k * 4 + 2) (.int .i64 a.parent)).1
      have hs3 := (hs2.stored (k * 4 + 3) (.slice A2 a.attrs.length c2)).1
      have hbz := b1.size
      have hfl : Hid (∀ j, j < 4 → (nodN.flat (L ++ [(a, (A2, c2))]))[k * 4 + j]? = [.string a.name, .string a.text, .int .i64 a.parent, .slice A2 a.attrs.length c2][j]?) := fun j hj => by
        have := Nest.flat_at (N := nodN) (L := L ++ [(a, (A2, c2))]) (i := k) (j := j) (by rw [List.length_append, hLk.out]; simp) hj
        rw [List.getElem_append_right (by rw [hLk.out]; exact Nat.le_refl _)] at this
        simp [hLk.out] at this
        exact this
      have ht0 : Hid (cur.take (k * 4) = (nodN.flat (L ++ [(a, (A2, c2))])).take (k * 4)) := by
        show _ = _
        rw [hall.out, Nest.flat_append, List.take_append_of_le_length (by rw [Nest.flat_len, hLk.out]; exact Nat.le_refl _), List.take_of_length_le (by rw [Nest.flat_len, hLk.out]; exact Nat.le_refl _)]
      have hfin : Hid (((((cur.set (k * 4) (.string a.name)).set (k * 4 + 1) (.string a.text)).set (k * 4 + 2) (.int .i64 a.parent)).set (k * 4 + 3) (.slice A2 a.attrs.length c2)).take ((k + 1) * 4) = nodN.flat (L ++ [(a, (A2, c2))])) := by
        show _ = _
        have e0 := set_take ht0.out (hfl.out 0 (by omega)) (by have := hcl.out; omega)
        have e1 := set_take e0 (hfl.out 1 (by omega)) (by have := hcl.out; simp; omega)
        have e2 := set_take e1 (hfl.out 2 (by omega)) (by have := hcl.out; simp; omega)
        have e3 := set_take e2 (hfl.out 3 (by omega)) (by have := hcl.out; simp; omega)
        rw [show (k + 1) * 4 = k * 4 + 3 + 1 by omega, e3, List.take_of_length_le (by rw [Nest.flat_len, List.length_append, hLk.out]; show (k + 1) * 4 ≤ _; omega)]
      have hsep2 : Hid (((L ++ [(a, (A2, c2))]).map fun x => hdBlock x.2).Pairwise sep) := by
        show List.Pairwise _ _
        rw [List.map_append, List.pairwise_append]
        refine ⟨hsep.out, by simp, fun x hx y hy => ?_⟩
        obtain ⟨z, hz, rfl⟩ := List.mem_map.1 hx
        simp at hy
        subst hy
        exact sep_lt (m := wr.heap.size) (fun q hq => (hkids.out z hz).2 q (by rw [hdBlock_eq (c' := z.2.2)]; exact hq)) (fun q hq => o1.ge q (by rw [hdBlock_eq (c' := c2)]; exact hq))
      have hb2 := (((((hbel.trans (b1.mono hbs)).setCell (p := ⟨w.heap.size, k * 4, none⟩) (Nat.le_refl _) (.string a.name)).setCell (p := ⟨w.heap.size, k * 4 + 1, none⟩) (Nat.le_refl _) (.string a.text)).setCell (p := ⟨w.heap.size, k * 4 + 2, none⟩) (Nat.le_refl _) (.int .i64 a.parent)).setCell (p := ⟨w.heap.size, k * 4 + 3, none⟩) (Nat.le_refl _) (.slice A2 a.attrs.length c2))
      have hz2 : w.heap.size < w1.heap.size := by omega
      have hkids2 : Hid (∀ x ∈ L ++ [(a, (A2, c2))], Own ((((w1.setCell ⟨w.heap.size, k * 4, none⟩ (.string a.name)).setCell ⟨w.heap.size, k * 4 + 1, none⟩ (.string a.text)).setCell ⟨w.heap.size, k * 4 + 2, none⟩ (.int .i64 a.parent)).setCell ⟨w.heap.size, k * 4 + 3, none⟩ (.slice A2 a.attrs.length c2)) (w.heap.size + 1) w1.heap.size 94 2 (.slice x.2.1 x.1.attrs.length x.2.2) x.1.attrs.length (s2V x.1.attrs)) := by
        show ∀ x ∈ L ++ [(a, (A2, c2))], _
        intro x hx
        rcases List.mem_append.1 hx with hx | hx
        · exact (((((hkids.out x hx).below b1).wide (Nat.le_refl _) hbz).set (by simp) _).set (by simp) _).set (by simp) _ |>.set (by simp) _
        · simp at hx
          subst hx
          exact ((((o1.wide (by omega) (Nat.le_refl _)).set (by simp) _).set (by simp) _).set (by simp) _).set (by simp) _
      clear ho1 hs0 hs1 hs2 hown b1 hfl ht0 hall hkids hsep o1
      go_roundw
      case rel => exact ⟨k + 1, by omega, by go_num, _, L ++ [(a, (A2, c2))], hs3, hfin, (by show _ = _; rw [List.map_append]; exact hL1.out), (by simpa using hkids2), hsep2, (by simpa using hz2), hb2⟩
      case measure => simp [intOf]; omega
    · obtain rfl : k = n := by omega
      have he : cur = nodN.flat L := by
        have h1 := hall.out
        rw [List.take_of_length_le (by have := hown.1; omega)] at h1
        exact h1
      subst he
      have hl9 : Hid (L.map (·.1) = l) := by show _ = _; rw [hL.out, List.take_of_length_le (by rw [lx.out]; exact Nat.le_refl _)]
      clear hmk hall hx hm
      go_wp2
      go_ret
      refine ⟨_, _, L, rfl, hl9.out, ⟨Own.of_row hown, fun x hx => (hkids.out x hx).wide (by omega) (Nat.le_refl _), hsep.out, fun x hx => ?_⟩, hbel⟩
      exact sep_lt (m := w.heap.size + 1) (fun q hq => by have e : some w.heap.size = some q := hq; injection e with e; omega) (fun q hq => (hkids.out x hx).ge q (by rw [hdBlock_eq (c' := x.2.2)]; exact hq))
end Go.Proofs.Ytflcknknkekkfaa
