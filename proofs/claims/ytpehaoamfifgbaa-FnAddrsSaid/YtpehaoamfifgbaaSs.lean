/-
  Contract of the library's Compact at pairs in order. Condition: at most 2^30 elements, in order.
-/
import Derived.Test.YtpehaoamfifgbaaSr
import Derived.Test.YtpehaoamfifgbaaSp
namespace Go.Proofs.Ytpehaoamfifgbaa
set_option linter.unusedVariables false
set_option linter.unusedSimpArgs false
set_option maxRecDepth 100000
open Go.ChangeShapes Go.WideShapes Go.ChangeAt Go.RowKit Go.Deep

theorem passAt {l x : List S2} {m : Nat} (hs : l.Pairwise fun a b => leA a b = true) (hm : m + 1 < l.length) (h : SortOf (l.take (m + 1)) x) :
    (l[m + 1] = l[m] → SortOf (l.take (m + 2)) x) ∧ (l[m + 1] ≠ l[m] → SortOf (l.take (m + 2)) (x ++ [l[m + 1]])) := by
  have e : l.take (m + 2) = l.take (m + 1) ++ [l[m + 1]] := List.take_succ_eq_append_getElem hm
  have e1 : l.take (m + 1) = l.take m ++ [l[m]] := List.take_succ_eq_append_getElem (by omega)
  rw [e]
  exact SortOf.pass (List.Pairwise.sublist (List.take_sublist _ _) hs) (by rw [e1]; exact List.getLast?_concat) h (List.pairwise_iff_getElem.1 hs m (m + 1) (by omega) hm (by omega))
theorem s2V_set (l : List S2) (k : Nat) (a : S2) (hk : k < l.length) : s2V (l.set k a) = ((s2V l).set (k * 2) (.string a.1)).set (k * 2 + 1) (.string a.2) := by
  apply List.ext_getElem?
  intro i
  have hl := s2V_length l
  by_cases hi : i < l.length * 2
  · have e : i = (i / 2) * 2 ∨ i = (i / 2) * 2 + 1 := by omega
    have hq : i / 2 < l.length := by omega
    have hq' : i / 2 < (l.set k a).length := by rw [List.length_set]; exact hq
    rcases e with e | e <;> rw [e]
    · rw [s2V_at0 hq', List.getElem?_set, List.getElem?_set, if_neg (by omega), s2V_at0 hq]
      by_cases hk' : k = i / 2
      · rw [if_pos (by omega), if_pos (by omega)]; simp [hk']
      · rw [if_neg (by omega), List.getElem_set_ne hk']
    · rw [s2V_at1 hq', List.getElem?_set, List.getElem?_set, s2V_at1 hq]
      by_cases hk' : k = i / 2
      · rw [if_pos (by omega), if_pos (by simp; omega)]; simp [hk']
      · rw [if_neg (by omega), if_neg (by omega), List.getElem_set_ne hk']
  · rw [List.getElem?_eq_none (by rw [s2V_length, List.length_set]; omega), List.getElem?_eq_none (by simp; omega)]
theorem set_take {α : Type} (l : List α) (k : Nat) (a : α) (hk : k < l.length) : (l.set k a).take (k + 1) = l.take k ++ [a] := by
  rw [List.take_succ_eq_append_getElem (by rw [List.length_set]; exact hk), List.getElem_set_self, List.take_set_of_le (Nat.le_refl _)]
theorem own_pair {w : World} {lo e g n c k : Nat} {l : List S2} (h : w.ownsRow lo e 2 (.slice (some ⟨g, 0, none⟩) n c) n (s2V l)) (hk : k < l.length) :
    w.cell? ⟨g, k * 2, none⟩ = some (.string l[k].1) ∧ w.cell? ⟨g, k * 2 + 1, none⟩ = some (.string l[k].2) ∧ w.frozen? ⟨g, k * 2, none⟩ = false ∧ w.frozen? ⟨g, k * 2 + 1, none⟩ = false := by
  have hl : (s2V l).length = n * 2 := h.1
  rw [s2V_length] at hl
  have h1 := h.cellAt (k * 2) (by omega)
  have h2 := h.cellAt (k * 2 + 1) (by omega)
  rw [s2V_at0 hk] at h1
  rw [s2V_at1 hk] at h2
  exact ⟨h1, h2, h.frozenAt _, h.frozenAt _⟩
theorem eqIn_pair (a b : S2) : s2eq a b = decide (a = b) := s2eq_iff a b
/-- the state of Compact's second loop: first equal neighbour k0; j elements of the rest passed; k kept -/
structure Cmpct (l : List S2) (k0 j k : Nat) (cur : List S2) : Prop where
  len : cur.length = l.length
  pos : 1 ≤ k
  le : k ≤ k0 + j
  got : SortOf (l.take (k0 + j + 1)) (cur.take k)
  rest : ∀ i, k0 + j ≤ i → cur[i]? = l[i]?
theorem Cmpct.same {l cur : List S2} {k0 j k : Nat} (h : Cmpct l k0 j k cur) (hs : l.Pairwise fun a b => leA a b = true) (hm : k0 + j + 1 < l.length) (he : l[k0 + j + 1] = l[k0 + j]) : Cmpct l k0 (j + 1) k cur :=
  ⟨h.len, h.pos, by have := h.le; omega, (passAt hs hm h.got).1 he, fun i hi => h.rest i (by omega)⟩
theorem Cmpct.more {l cur : List S2} {k0 j k : Nat} (h : Cmpct l k0 j k cur) (hs : l.Pairwise fun a b => leA a b = true) (hm : k0 + j + 1 < l.length) (he : l[k0 + j + 1] ≠ l[k0 + j]) : Cmpct l k0 (j + 1) (k + 1) (cur.set k l[k0 + j + 1]) := by
  have hk := h.le
  have hl := h.len
  refine ⟨by rw [List.length_set]; exact hl, by omega, by omega, ?_, fun i hi => ?_⟩
  · rw [set_take _ _ _ (by omega)]
    exact (passAt hs hm h.got).2 he
  · rw [List.getElem?_set_ne (by omega)]
    exact h.rest i (by omega)
theorem Cmpct.start {l : List S2} {i : Nat} (hs : l.Pairwise fun a b => leA a b = true) (hm : i + 1 < l.length) (h : SortOf (l.take (i + 1)) (l.take (i + 1))) (he : l[i + 1] = l[i]) : Cmpct l (i + 1) 0 (i + 1) l :=
  ⟨rfl, by omega, by omega, (passAt hs hm h).1 he, fun _ _ => rfl⟩
theorem Cmpct.at_ {l cur : List S2} {k0 j k i : Nat} (h : Cmpct l k0 j k cur) (hi : k0 + j ≤ i) (hl : i < l.length) : ∃ hc : i < cur.length, cur[i] = l[i] := by
  have hc : i < cur.length := by rw [h.len]; exact hl
  have := h.rest i hi
  rw [List.getElem?_eq_getElem hc, List.getElem?_eq_getElem hl] at this
  exact ⟨hc, Option.some.inj this⟩

set_option maxHeartbeats 4000000 in
theorem compactAddr_any {lo hi g n c : Nat} {l : List S2} (w : World) (hx : Own w lo hi 25 2 (.slice (some ⟨g, 0, none⟩) n c) n (s2V l)) (hs : Hid (l.Pairwise fun a b => leA a b = true)) (hn : n ≤ 1073741824) (h2 : 1 < n) (hlo : lo ≤ g) (hhi : g < hi) (hc1 : n ≤ c) (hc2 : c ≤ 9223372036854775807) :
    Calls Try.prog 37 #[.slice (some ⟨g, 0, none⟩) n c] w fun e w' => ∃ x, SortOf l x ∧ x.length ≤ l.length ∧ 0 < x.length ∧ e = .returned (.slice (some ⟨g, 0, none⟩) x.length c) ∧ Own w' lo hi 25 2 (.slice (some ⟨g, 0, none⟩) x.length c) x.length (s2V x) ∧ Keeps (Span lo hi) w w' := by
  have hl := Lib.hid (show l.length = n by have := hx.len; rw [s2V_length] at this; omega)
  have hgd := guard_Addr
  obtain ⟨hx1, hx2⟩ := hx
  go_enter Try.func37, Try.ntmps37
  go_wp2
  go_loopw [3] (fun i wr => ∃ k : Nat, k + 1 ≤ n ∧ i = .int .i64 (k + 1 : Int) ∧ Hid (SortOf (l.take (k + 1)) (l.take (k + 1))) ∧ wr.ownsRow lo 25 2 (.slice (some ⟨g, 0, none⟩) n c) n (s2V l) ∧ Keeps (Span lo hi) w wr) (fun i _ => n - (intOf i).toNat)
  case atStart =>
    refine ⟨0, by omega, by simp, ?_, hx1, Keeps.refl _ _⟩
    have h0 : 0 < l.length := by rw [hl.out]; omega
    have e : l.take 1 = [l[0]] := by
      have := List.take_succ_eq_append_getElem h0
      simpa using this
    show SortOf (l.take 1) (l.take 1)
    rw [e]
    exact ⟨by simp [Srt], fun _ => Iff.rfl⟩
  case round =>
    obtain ⟨i, hi1, rfl, hso, hown, hkp⟩ := hrel
    by_cases hlt : i + 1 < n
    · have hl1 : i + 1 < l.length := by rw [hl.out]; exact hlt
      obtain ⟨c0, c1, f0, f1⟩ := own_pair hown (k := i) (by omega)
      obtain ⟨d0, d1, g0, g1⟩ := own_pair hown (k := i + 1) hl1
      have hq := eqIn_Addr l[i + 1] l[i]
      have hpass := Lib.hid (passAt hs.out hl1 hso.out)
      have hi9 : (i : Int) + 1 < (n : Int) := by omega
      have hst := Lib.hid (Cmpct.start hs.out hl1 hso.out)
      cases he : s2eq l[i + 1] l[i]
      · have hne : l[i + 1] ≠ l[i] := by rw [s2eq_iff] at he; simpa using he
        have hso' : Hid (SortOf (l.take (i + 1 + 1)) (l.take (i + 1 + 1))) := by
          have h9 := hpass.out.2 hne
          rw [← List.take_succ_eq_append_getElem hl1] at h9
          exact h9
        rw [he] at hq
        generalize l[i + 1] = a at *
        generalize l[i] = b at *
        clear hpass hst hne hso he
        go_wp2_with fail
        go_region
        all_goals
          go_wp2
          go_roundw
          case rel => exact ⟨i + 1, by omega, by go_num, hso', hown, ⟨hkp.os, hkp.tape, hkp.output, hkp.size, hkp.block⟩⟩
          case measure => simp [intOf]; omega
      · have hee : l[i + 1] = l[i] := by rw [s2eq_iff] at he; simpa using he
        have hcm := Lib.hid (hst.out hee)
        rw [he] at hq
        generalize l[i + 1] = a at *
        generalize l[i] = b at *
        clear hpass hst hee hso he
        have hkp1 : Keeps (Span lo hi) w wr.drew := ⟨hkp.os, hkp.tape, hkp.output, hkp.size, hkp.block⟩
        have hown1 : wr.drew.ownsRow lo 25 2 (.slice (some ⟨g, 0, none⟩) n c) n (s2V l) := hown
        clear hkp hown
        have hci : i + 1 < c := by omega
        have hni : (i : Int) + 1 ≤ (n : Int) := by omega
        have hnc : (n : Int) ≤ (c : Int) := by omega
        go_wp2_with fail
        go_region
        all_goals
          clear c0 c1 f0 f1 d0 d1 g0 g1
          go_wp2
          go_loopw [3, 5] (fun kv jv wr => ∃ (j k : Nat) (cur : List S2), i + 1 + j + 1 ≤ n ∧ kv = .int .i64 k ∧ jv = .int .i64 (j + 1 : Int) ∧ Hid (Cmpct l (i + 1) j k cur) ∧ wr.ownsRow lo 25 2 (.slice (some ⟨g, 0, none⟩) n c) n (s2V cur) ∧ Keeps (Span lo hi) w wr) (fun _ jv _ => n - (intOf jv).toNat)
          case atStart => exact ⟨0, i + 1, l, by omega, by go_num, by simp, hcm, hown1, hkp1⟩
          case round =>
            clear hown1 hkp1 hcm
            obtain ⟨j, k, cur, hj, rfl, rfl, hcm, hown, hkp⟩ := hrel
            have hk1 := hcm.out.pos
            have hk2 := hcm.out.le
            by_cases hlt2 : i + 1 + j + 1 < n
            · have hl2 : i + 1 + j + 1 < l.length := by rw [hl.out]; exact hlt2
              obtain ⟨ca, ea⟩ := hcm.out.at_ (i := i + 1 + j) (by omega) (by omega)
              obtain ⟨cb, eb⟩ := hcm.out.at_ (i := i + 1 + j + 1) (by omega) hl2
              obtain ⟨c0, c1, f0, f1⟩ := own_pair hown ca
              obtain ⟨d0, d1, g0, g1⟩ := own_pair hown cb
              rw [ea] at c0 c1
              rw [eb] at d0 d1
              have hlen := hcm.out.len
              obtain ⟨k0', k1', q0, q1⟩ := own_pair hown (k := k) (by omega)
              have hq := eqIn_Addr l[i + 1 + j + 1] l[i + 1 + j]
              have hjn : (j : Int) + 1 < ((n - (i + 1) : Nat) : Int) := by omega
              have hkn : (k : Int) < (n : Int) := by omega
              have e1 : (i + 1 + j) * 2 = (i + 1) * 2 + j * 2 := by omega
              have e2 : (i + 1 + j + 1) * 2 = (i + 1) * 2 + (j + 1) * 2 := by omega
              rw [e1] at c0 c1 f0 f1
              rw [e2] at d0 d1 g0 g1
              clear e1 e2
              have hkd : Keeps (Span lo hi) w wr.drew := ⟨hkp.os, hkp.tape, hkp.output, hkp.size, hkp.block⟩
              have hod : wr.drew.ownsRow lo 25 2 (.slice (some ⟨g, 0, none⟩) n c) n (s2V cur) := hown
              cases he : s2eq l[i + 1 + j + 1] l[i + 1 + j]
              · have hne : l[i + 1 + j + 1] ≠ l[i + 1 + j] := by rw [s2eq_iff] at he; simpa using he
                have hcm' := Lib.hid (hcm.out.more hs.out hl2 hne)
                rw [he] at hq
                generalize l[i + 1 + j + 1] = p at *
                generalize l[i + 1 + j] = q at *
                have hs2 := ((hod.stored (k * 2) (.string p.1)).1.stored (k * 2 + 1) (.string p.2)).1
                rw [← s2V_set cur k p (by omega)] at hs2
                have hk2 := (hkd.trans (keeps_set wr.drew (p := ⟨g, k * 2, none⟩) (.string p.1) ⟨hlo, hhi⟩)).trans (keeps_set _ (p := ⟨g, k * 2 + 1, none⟩) (.string p.2) ⟨hlo, hhi⟩)
                clear he hne hcm ea eb hod hkd hown hkp
                go_wp2_with fail
                go_region
                all_goals
                  go_wp2
                  go_roundw
                  case rel => exact ⟨j + 1, k + 1, _, by omega, by go_num, by go_num, hcm', hs2, hk2⟩
                  case measure => simp [intOf]; omega
              · have hee : l[i + 1 + j + 1] = l[i + 1 + j] := by rw [s2eq_iff] at he; simpa using he
                have hcm' := Lib.hid (hcm.out.same hs.out hl2 hee)
                rw [he] at hq
                generalize l[i + 1 + j + 1] = p at *
                generalize l[i + 1 + j] = q at *
                clear he hee hcm ea eb hown hkp k0' k1' q0 q1
                go_wp2_with fail
                go_region
                all_goals
                  go_wp2
                  go_roundw
                  case rel => exact ⟨j + 1, k, _, by omega, rfl, by go_num, hcm', hod, hkd⟩
                  case measure => simp [intOf]; omega
            · have hjn : ((n - (i + 1) : Nat) : Int) ≤ (j : Int) + 1 := by omega
              have hkn : (k : Int) < (n : Int) := by omega
              have hkn' : (k : Int) ≤ (n : Int) := by omega
              have hkc : (k : Int) ≤ (c : Int) := by omega
              have hkc' : k < c := by omega
              have hlen := hcm.out.len
              have hfin : Hid (SortOf l (cur.take k)) := by
                have h9 := hcm.out.got
                rw [List.take_of_length_le (by rw [hl.out]; omega)] at h9
                exact h9
              have hcl : (s2V cur).length = n * 2 := hown.1
              obtain ⟨vs, hclr⟩ := run_clear_two (P := Try.prog) wr 33 25 0 (.agg #[.string ⟨#[]⟩, .string ⟨#[]⟩]) (.string ⟨#[]⟩) (.string ⟨#[]⟩) Try.underlying33 (fun w => by kernel_rfl) rfl rfl rfl g (k * 2) (n - k) (c - k) (by omega)
                (fun m hm => by rw [hown.cellAt (k * 2 + m) (by omega), List.getElem?_eq_getElem (by omega)]; rfl) (fun m hm => hown.frozenAt _)
              have hfr := Own.front (w' := wr.setCells g (k * 2) vs) (vs := vs) ⟨hown, hx2⟩ (show k ≤ n by omega) (by omega) rfl
              have hkf := hkp.trans ((setCells_keeps g vs (k * 2) wr).mono (T := Span lo hi) fun m hm => by subst hm; exact ⟨hlo, hhi⟩)
              rw [s2V_take] at hfr
              have hln : (cur.take k).length = k := by rw [List.length_take, hlen, hl.out]; omega
              clear hcm hown hkp
              go_wp2
              go_ret
              exact ⟨cur.take k, hfin.out, by rw [hln, hl.out]; omega, by rw [hln]; omega, by rw [hln]; rfl, by rw [hln]; exact hfr, hkf⟩
    · obtain rfl : i + 1 = n := by omega
      have hfin : Hid (SortOf l l) := by
        have h9 := hso.out
        rw [List.take_of_length_le (by rw [hl.out]; exact Nat.le_refl _)] at h9
        exact h9
      go_wp2
      go_ret
      exact ⟨l, hfin.out, Nat.le_refl _, by rw [hl.out]; omega, by rw [hl.out]; rfl, by rw [hl.out]; exact ⟨hown, hx2⟩, hkp⟩
theorem compactAddr_few {A : Option Addr} {n c : Nat} (w : World) (hn : n < 2) : Calls Try.prog 37 #[.slice A n c] w fun e w' => e = .returned (.slice A n c) ∧ w = w' := by
  have hn' : (n : Int) < 2 := by omega
  go_enter Try.func37, Try.ntmps37
  go_wp2
  go_ret
  exact ⟨rfl, rfl⟩
end Go.Proofs.Ytpehaoamfifgbaa
