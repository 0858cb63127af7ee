/-
  Contract of SortAddrs of the reference. Condition: at most 2^30 elements.
-/
import Derived.Test.YtipfhedbeeabdaaSo
import Derived.Test.YtipfhedbeeabdaaHas
import Derived.Test.YtipfhedbeeabdaaAdd
import Derived.Test.YtipfhedbeeabdaaAds
import Derived.Deep.RegionHeld3
import Derived.Deep.QuietTactic
import Derived.BigQuiet
namespace Go.Proofs.Ytipfhedbeeabdaa
set_option linter.unusedVariables false
set_option linter.unusedSimpArgs false
set_option maxRecDepth 100000
open Go.ChangeShapes Go.WideShapes Go.ChangeAt Go.RowKit Go.Deep

theorem Reads.take2 {w : World} {B n m : Nat} {A : Option Addr} {l : List S2} (h : Reads w B 2 A n (s2V l)) (hm : m ≤ n) : Reads w B 2 A m (s2V (l.take m)) := by
  have hl := h.len2
  refine ⟨by rw [s2V_length, List.length_take]; have : min m l.length = m := by omega
             rw [this], fun h0 => ?_⟩
  obtain ⟨ad, e, hb, hc⟩ := h.2 (by omega)
  refine ⟨ad, e, hb, fun j u hu => hc j u ?_⟩
  rw [← s2V_take, List.getElem?_take] at hu
  split at hu
  · exact hu
  · cases hu
theorem Reads.drop2 {w : World} {B n m b off : Nat} {l : List S2} (h : Reads w B 2 (some ⟨b, off, none⟩) n (s2V l)) (hm : m ≤ n) : Reads w B 2 (some ⟨b, off + m * 2, none⟩) (n - m) (s2V (l.drop m)) := by
  have hl := h.len2
  refine ⟨by rw [s2V_length, List.length_drop, hl], fun h0 => ?_⟩
  obtain ⟨b', off', e, hb, hc⟩ := h.place (by omega) (by omega)
  injection e with e
  injection e with e1 e2
  subst e1 e2
  refine ⟨_, rfl, hb, fun j u hu => ?_⟩
  rw [← s2V_drop, List.getElem?_drop] at hu
  have := hc _ _ hu
  have hadd : (⟨b, off + m * 2, none⟩ : Addr).add j = ⟨b, off + (m * 2 + j), none⟩ := by unfold Addr.add; split <;> simp_all <;> omega
  rw [hadd]
  exact this
theorem Reads.pair (w : World) (a b : Value) (t : TypeId) : Reads (w.alloc (.cells #[a, b] t)) (w.heap.size + 1) 2 (some ⟨w.heap.size, 0, none⟩) 1 [a, b] := by
  refine ⟨rfl, fun _ => ⟨_, rfl, by simp, fun j x hx => ?_⟩⟩
  have hadd : (⟨w.heap.size, 0, none⟩ : Addr).add j = ⟨w.heap.size, j, none⟩ := by unfold Addr.add; split <;> simp_all
  rw [hadd, World.cell?_alloc_at _ _ _ _ rfl]
  simpa using hx
theorem Own.shape {w : World} {lo hi n c : Nat} {e : TypeId} {size : Nat} {A : Option Addr} {xs : List Value} (h : Own w lo hi e size (.slice A n c) n xs) : (A = none ∧ n = 0 ∧ c = 0) ∨ ∃ g, A = some ⟨g, 0, none⟩ ∧ n ≤ c ∧ c ≤ 9223372036854775807 := by
  obtain ⟨⟨h1, h2⟩, h3⟩ := h
  rcases h2 with ⟨hv, hn⟩ | ⟨g, cap, cur, hv, hb, hg, hn, hc, hs, ht⟩
  · injection hv with h4 _ h5
    exact .inl ⟨h4, hn, h5⟩
  · injection hv with hA _ hcap
    unfold maxLen at hc
    exact .inr ⟨g, hA, by omega, by omega⟩
def GotSort (w : World) (e : TypeId) (l : List S2) (r : Ending) (w' : World) : Prop :=
  ∃ x A c, SortOf l x ∧ x.length ≤ l.length ∧ r = .returned (.slice A x.length c) ∧ Own w' w.heap.size w'.heap.size e 2 (.slice A x.length c) x.length (s2V x) ∧ Below w.heap.size w w'
set_option maxHeartbeats 4000000 in
theorem sortAddrs_spec {A : Option Addr} {n c : Nat} {l : List S2} (w : World) (hx : Reads w w.heap.size 2 A n (s2V l)) (hn : n ≤ 1073741824) :
    Calls Try.prog 18 #[.slice A n c] w (GotSort w 25 l) := by
  have hl := Lib.hid hx.len2
  go_enter Try.func18, Try.ntmps18
  go_wp2
  go_loopw [4, 3] (fun i s wr => ∃ (k : Nat) (x : List S2) (A1 : Option Addr) (c1 : Nat), k ≤ n ∧ i = .int .i64 k ∧ s = .slice A1 x.length c1 ∧ Hid (SortOf (l.take k) x) ∧ x.length ≤ k ∧ Own wr w.heap.size wr.heap.size 25 2 (.slice A1 x.length c1) x.length (s2V x) ∧ Below w.heap.size w wr) (fun i _ _ => n - (intOf i).toNat)
  case atStart =>
    refine ⟨0, [], _, _, Nat.zero_le _, rfl, rfl, by show SortOf _ _; rw [List.take_zero]; exact SortOf.nil, Nat.le_refl _, ?_, (Below.refl _ _).alloc (Nat.le_refl _) _⟩
    have h0 := own_empty w 25 2
    exact Own.of_row h0
  case round =>
    obtain ⟨k, x, A1, c1, hk, rfl, rfl, hs, hxk, ho, hbel⟩ := hrel
    have hw0 := hbel.size
    by_cases hlt : k < n
    · obtain ⟨b0, off0, rfl, hb0, hcx⟩ := (hx.below hbel).two hlt
      have hl1 : k < l.length := by rw [hl.out]; exact hlt
      obtain ⟨hc0, hc1⟩ := hcx hl1
      have htk : Hid (l.take (k + 1) = l.take k ++ [l[k]]) := List.take_succ_eq_append_getElem hl1
      clear hcx
      generalize l[k] = a at *
      have hk0 : (0 : Int) ≤ (k : Int) := Int.natCast_nonneg _
      have hk9 : (k : Int) < (n : Int) := by omega
      have hrd := ho.reads (Nat.le_refl _)
      have hcall := hasAddr_spec (c := c1) a wr hrd (by omega)
      cases hh : hasA x a
      · have hna : Hid (a ∉ x) := fun h => by rw [hasA_iff.2 h] at hh; cases hh
        rw [hh] at hcall
        clear hh
        go_wp2_with (go_at_call 38; refine hcall.mono ?_; rintro e w5 ⟨rfl, b5⟩)
        have hcap := ho.shape
        have hsx := Lib.hid hs.out.srt
        have hw5 := b5.size
        have hrdx := ho.below b5
        obtain ⟨wo, rfl⟩ : ∃ x : World, x = wr := ⟨wr, rfl⟩
        go_loopw [5] (fun i wq => ∃ m : Nat, m ≤ x.length ∧ i = .int .i64 m ∧ Hid (∀ j (h : j < x.length), m ≤ j → cmpA a x[j] < 0) ∧ Below w5.heap.size w5 wq) (fun i _ => (intOf i).toNat)
        case atStart => exact ⟨x.length, Nat.le_refl _, rfl, fun j h h1 => by omega, Below.refl _ _⟩
        case round =>
          obtain ⟨m, hm, rfl, habove, hbq⟩ := hrel
          have hbo : Below wo.heap.size wo wr := b5.trans (hbq.mono hw5)
          have hszo : wo.heap.size ≤ wr.heap.size := hbo.size
          have hc0r := (hbo.cell (p := ⟨b0, off0 + k * 2, none⟩) (Nat.lt_of_lt_of_le hb0 hw0)).trans hc0
          have hc1r := (hbo.cell (p := ⟨b0, off0 + k * 2 + 1, none⟩) (Nat.lt_of_lt_of_le hb0 hw0)).trans hc1
          rcases Nat.eq_zero_or_pos m with h0 | h0
          · subst h0
            clear hcall hrd hrdx
            rcases hcap with ⟨rfl, hx0, rfl⟩ | ⟨g, rfl, hcap1, hcap2⟩
            · obtain rfl := List.eq_nil_of_length_eq_zero hx0
              simp only [List.length_nil] at *
              go_wp2
              go_quiet (fail)
              have hbW : Below wo.heap.size wo ((wr.drewN nq)) := below_drewN hbo nq
              have hszW : wo.heap.size ≤ ((wr.drewN nq)).heap.size := hbW.size
              have hb0W : b0 < ((wr.drewN nq)).heap.size := Nat.lt_of_lt_of_le (Nat.lt_of_lt_of_le hb0 hw0) hszW
              have hc0W : ((wr.drewN nq)).cell? ⟨b0, off0 + k * 2, none⟩ = some (.string a.1) := (hbW.cell (p := ⟨b0, off0 + k * 2, none⟩) (Nat.lt_of_lt_of_le hb0 hw0)).trans hc0
              have hc1W : ((wr.drewN nq)).cell? ⟨b0, off0 + k * 2 + 1, none⟩ = some (.string a.2) := (hbW.cell (p := ⟨b0, off0 + k * 2 + 1, none⟩) (Nat.lt_of_lt_of_le hb0 hw0)).trans hc1
              have he0 := own_empty (wr.drewN nq) 25 2
              go_wp2_with (first
                | (at_builtin
                   refine wpList_app row_Addr rfl (.tmp 39) (.tmp 42) rfl ((wr.drewN nq)).heap.size _ 0 0 [] rfl he0 0 none 0 0 [] rfl Reads.none_ (by simp) 0 [] (by omega) rfl ⟨by omega, by omega⟩ (by simp) ?_
                   intro A6 c6 w6 o6 b6
                   have z6 := b6.size
                   simp only [World.size_alloc] at z6
                   have q6 := ((Below.refl ((wr.drewN nq)).heap.size ((wr.drewN nq))).alloc (Nat.le_refl _) (.cells #[] 25)).trans b6
                   have d0 : w6.cell? ⟨b0, off0 + k * 2, none⟩ = some (.string a.1) := (q6.cell (p := ⟨b0, off0 + k * 2, none⟩) hb0W).trans hc0W
                   have d1 : w6.cell? ⟨b0, off0 + k * 2 + 1, none⟩ = some (.string a.2) := (q6.cell (p := ⟨b0, off0 + k * 2 + 1, none⟩) hb0W).trans hc1W
                   have o6' := (Own.of_row o6).below ((Below.refl _ _).alloc (Nat.le_refl _) (.cells #[.string a.1, .string a.2] 25))
                   have hr2 := Reads.pair w6 (.string a.1) (.string a.2) 25)
                | (at_builtin
                   refine wpList_app row_Addr rfl (.tmp 44) (.tmp 49) rfl ((wr.drewN nq)).heap.size _ 0 _ [] rfl o6'.1 (w6.heap.size + 1) (some ⟨w6.heap.size, 0, none⟩) 1 _ [.string a.1, .string a.2] rfl hr2 (s2_one [a]) 1 (s2V [a]) (by omega) rfl ⟨by omega, by omega⟩ (by simp only [World.size_alloc]; omega) ?_
                   intro A7 c7 w7 o7 b7
                   have z7 := b7.size
                   simp only [World.size_alloc] at z7
                   have q7 := (q6.alloc (by omega) (.cells #[.string a.1, .string a.2] 25)).trans b7)
                | (at_builtin
                   refine wpList_app row_Addr rfl (.tmp 51) (.tmp 54) rfl ((wr.drewN nq)).heap.size _ 1 _ (s2V [a]) rfl o7 0 none 0 0 [] rfl Reads.none_ (by simp) 1 (s2V [a]) (by omega) (by simp) ⟨by omega, by omega⟩ (by omega) ?_
                   intro A8 c8 w8 o8 b8
                   have q8 := q7.trans b8))
              have hs2 : Hid (SortOf (l.take (k + 1)) [a]) := by show SortOf _ _; rw [htk.out]; have h := hs.out.ins (a := a) (k := 0) (Nat.zero_le _) (fun j h _ => absurd h (by simp)) (fun j h _ => absurd h (by simp)); simpa using h
              go_roundw
              case rel => exact ⟨k + 1, [a], A8, c8, by omega, by go_num, rfl, hs2, by simp, (Own.of_row o8).wide (by omega) (Nat.le_refl _), hbel.trans ((hbW.trans (q8.mono hszW)).mono hw0)⟩
              case measure => simp [intOf]; omega
            · go_wp2
              go_quiet (fail)
              have hbW : Below wo.heap.size wo ((wr.drewN nq)) := below_drewN hbo nq
              have hszW : wo.heap.size ≤ ((wr.drewN nq)).heap.size := hbW.size
              have hb0W : b0 < ((wr.drewN nq)).heap.size := Nat.lt_of_lt_of_le (Nat.lt_of_lt_of_le hb0 hw0) hszW
              have hc0W : ((wr.drewN nq)).cell? ⟨b0, off0 + k * 2, none⟩ = some (.string a.1) := (hbW.cell (p := ⟨b0, off0 + k * 2, none⟩) (Nat.lt_of_lt_of_le hb0 hw0)).trans hc0
              have hc1W : ((wr.drewN nq)).cell? ⟨b0, off0 + k * 2 + 1, none⟩ = some (.string a.2) := (hbW.cell (p := ⟨b0, off0 + k * 2 + 1, none⟩) (Nat.lt_of_lt_of_le hb0 hw0)).trans hc1
              have hoW := ho.below hbW
              have hrW := hoW.reads hszW
              have hr1 := (hrW.take2 (m := 0) (by omega)).over (B := wo.heap.size) hszW (.cells #[] 25)
              have hr3 := hrW.drop2 (m := 0) (by omega)
              have he0 := own_empty (wr.drewN nq) 25 2
              have hlt1 : (x.take (0)).length = 0 := by rw [List.length_take]; omega
              have hcapI : (x.length : Int) ≤ (c1 : Int) := by omega
              have hN1 : 0 + 1 + (x.length - (0)) = (x.take (0) ++ [a] ++ x.drop (0)).length := by simp only [List.length_append, List.length_take, List.length_drop, List.length_cons, List.length_nil]; omega
              have hN2 : (x.take (0) ++ [a] ++ x.drop (0)).length ≤ 1099511627776 := by simp only [List.length_append, List.length_take, List.length_drop, List.length_cons, List.length_nil]; omega
              have hZ1 : s2V (x.take (0) ++ [a]) ++ s2V (x.drop (0)) = s2V (x.take (0) ++ [a] ++ x.drop (0)) := (s2V_append _ _).symm
              go_wp2_with (first
                | (at_builtin
                   refine wpList_app row_Addr rfl (.tmp 39) (.tmp 42) rfl ((wr.drewN nq)).heap.size _ 0 0 [] rfl he0 wo.heap.size (some ⟨g, 0, none⟩) (0) c1 (s2V (x.take (0))) rfl hr1 (s2_one _) (0) (s2V (x.take (0))) (by omega) rfl ⟨by omega, by omega⟩ (by simp) ?_
                   intro A6 c6 w6 o6 b6
                   have z6 := b6.size
                   simp only [World.size_alloc] at z6
                   have q6 := ((Below.refl ((wr.drewN nq)).heap.size ((wr.drewN nq))).alloc (Nat.le_refl _) (.cells #[] 25)).trans b6
                   have d0 : w6.cell? ⟨b0, off0 + k * 2, none⟩ = some (.string a.1) := (q6.cell (p := ⟨b0, off0 + k * 2, none⟩) hb0W).trans hc0W
                   have d1 : w6.cell? ⟨b0, off0 + k * 2 + 1, none⟩ = some (.string a.2) := (q6.cell (p := ⟨b0, off0 + k * 2 + 1, none⟩) hb0W).trans hc1W
                   have o6' := (Own.of_row o6).below ((Below.refl _ _).alloc (Nat.le_refl _) (.cells #[.string a.1, .string a.2] 25))
                   have hr2 := Reads.pair w6 (.string a.1) (.string a.2) 25)
                | (at_builtin
                   refine wpList_app row_Addr rfl (.tmp 44) (.tmp 49) rfl ((wr.drewN nq)).heap.size _ (0) _ (s2V (x.take (0))) rfl o6'.1 (w6.heap.size + 1) (some ⟨w6.heap.size, 0, none⟩) 1 _ [.string a.1, .string a.2] rfl hr2 (s2_one [a]) (0 + 1) (s2V (x.take (0) ++ [a])) (by omega) (by rw [s2V_append]; rfl) ⟨by omega, by omega⟩ (by simp only [World.size_alloc]; omega) ?_
                   intro A7 c7 w7 o7 b7
                   have z7 := b7.size
                   simp only [World.size_alloc] at z7
                   have q7 := (q6.alloc (by omega) (.cells #[.string a.1, .string a.2] 25)).trans b7
                   have hr3' := hr3.below (q7.mono hszW))
                | (at_builtin
                   refine wpList_app row_Addr rfl (.tmp 51) (.tmp 54) rfl ((wr.drewN nq)).heap.size _ (0 + 1) _ (s2V (x.take (0) ++ [a])) rfl o7 wo.heap.size (some ⟨g, 0 + (0) * 2, none⟩) (x.length - (0)) (c1 - (0)) (s2V (x.drop (0))) ?_ hr3' (s2_one _) (x.take (0) ++ [a] ++ x.drop (0)).length (s2V (x.take (0) ++ [a] ++ x.drop (0))) hN1 hZ1 ⟨hN2, by omega⟩ (by omega) ?_
                   · first | rfl | (simp [go_sem]; done)
                   intro A8 c8 w8 o8 b8
                   have q8 := q7.trans b8))
              have hs2 : Hid (SortOf (l.take (k + 1)) (x.take (0) ++ [a] ++ x.drop (0))) := by show SortOf _ _; rw [htk.out]; exact hs.out.ins (Nat.zero_le _) habove.out (fun j h h1 => by omega)
              have hlen8 : (x.take (0) ++ [a] ++ x.drop (0)).length ≤ k + 1 := by simp only [List.length_append, List.length_take, List.length_drop, List.length_cons, List.length_nil]; omega
              go_roundw
              case rel => exact ⟨k + 1, x.take (0) ++ [a] ++ x.drop (0), A8, c8, by omega, by go_num, rfl, hs2, hlen8, (Own.of_row o8).wide (by omega) (Nat.le_refl _), hbel.trans ((hbW.trans (q8.mono hszW)).mono hw0)⟩
              case measure => simp [intOf]; omega
          · obtain ⟨p, rfl⟩ : ∃ p, m = p + 1 := ⟨m - 1, by omega⟩
            rcases hcap with ⟨_, hx0, _⟩ | ⟨g, rfl, hcap1, hcap2⟩
            · omega
            have hpx : p < x.length := by omega
            have hrr := (hrdx.below (hbq)).reads (Nat.le_trans (Nat.le_refl _) hszo)
            obtain ⟨b2, off2, hA, hb2, hcy⟩ := hrr.two hpx
            injection hA with hA
            injection hA with hA1 hA2
            subst hA1 hA2
            obtain ⟨g0, g1⟩ := hcy hpx
            simp only [Nat.zero_add] at g0 g1
            clear hcy hrr
            have hw1 : IntKind.i64.wrap ((p : Int) + 1 - 1) = (p : Int) := by rw [IntKind.wrap_i64]; omega
            have hw2 : IntKind.i64.wrap (p : Int) = (p : Int) := by rw [IntKind.wrap_i64]; omega
            have hp0 : (0 : Int) ≤ (p : Int) := Int.natCast_nonneg _
            have hp9 : (p : Int) < (x.length : Int) := by omega
            have hd1 : decide ((0 : Int) < (p : Int) + 1) = true := by first | (simp; done) | (simp; omega)
            have hd2 : (0 : Int) < (p : Int) + 1 := by omega
            have hne : a ≠ x[p] := fun h => hna.out (by rw [h]; exact List.getElem_mem _)
            have hbelow := fun (h : cmpA x[p] a < 0) => srt_below hsx.out hpx h
            have hab : cmpA a x[p] < 0 → Hid (∀ j (h : j < x.length), p ≤ j → cmpA a x[j] < 0) := fun h j hj h1 => by
              by_cases e : j = p
              · subst e; exact h
              · exact habove.out j hj (by omega)
            generalize hy : x[p] = y at *
            have hcmp := compareAddrs_spec a y
            have hcs := cmpA_vals a y
            have han := cmpA_anti a y
            generalize hV : cmpA a y = V at *
            clear hcall hrd hrdx
            by_cases hv : V < 0
            · have habove2 := hab hv
              have hvd : decide (V < 0) = true := by simpa using hv
              go_wp2_with fail
              go_region_held3 (fun v : World => v.cell? ⟨b0, off0 + k * 2, none⟩ = some (.string a.1) ∧ v.cell? ⟨b0, off0 + k * 2 + 1, none⟩ = some (.string a.2) ∧ v.cell? ⟨g, p * 2, none⟩ = some (.string y.1) ∧ v.cell? ⟨g, p * 2 + 1, none⟩ = some (.string y.2))
                ((first | exact ⟨hc0r, hc1r, g0, g1⟩ | exact ⟨k0, k1, k2, k3⟩))
                (first
                  | (go_at_call 39
                     refine (hcmp _).mono ?_
                     rintro e w7 ⟨rfl, b7⟩
                     have b7' : Below wr.heap.size wr w7 := (Below.refl _ wr).drew.trans b7
                     have k0 := (b7'.cell (p := ⟨b0, off0 + k * 2, none⟩) (Nat.lt_of_lt_of_le (Nat.lt_of_lt_of_le hb0 hw0) hszo)).trans hc0r
                     have k1 := (b7'.cell (p := ⟨b0, off0 + k * 2 + 1, none⟩) (Nat.lt_of_lt_of_le (Nat.lt_of_lt_of_le hb0 hw0) hszo)).trans hc1r
                     have k2 := (b7'.cell (p := ⟨g, p * 2, none⟩) (Nat.lt_of_lt_of_le hb2 (Nat.le_trans (Nat.le_refl _) hszo))).trans g0
                     have k3 := (b7'.cell (p := ⟨g, p * 2 + 1, none⟩) (Nat.lt_of_lt_of_le hb2 (Nat.le_trans (Nat.le_refl _) hszo))).trans g1))
              all_goals
                go_wp2
                go_roundw
                case rel => first | exact ⟨p, by omega, by go_num, habove2, hbq.trans (b7'.mono hbq.size)⟩ | ((repeat apply Exists.intro); exact ⟨⟨p, by omega, by go_num, habove2, hbq.trans (b7'.mono hbq.size)⟩, rfl⟩)
                case measure => simp [intOf]
            · have hv1 : V = 1 := by
                rcases hcs with h | ⟨h, h2⟩ | h
                · omega
                · exact absurd h2 hne
                · exact h
              subst hv1
              have hvd : decide ((1 : Int) < 0) = false := by simp
              have hlow := hbelow (by omega)
              have hab2 := habove
              clear hab hne hv
              go_wp2_with fail
              go_region_held3 (fun v : World => v.cell? ⟨b0, off0 + k * 2, none⟩ = some (.string a.1) ∧ v.cell? ⟨b0, off0 + k * 2 + 1, none⟩ = some (.string a.2) ∧ v.cell? ⟨g, p * 2, none⟩ = some (.string y.1) ∧ v.cell? ⟨g, p * 2 + 1, none⟩ = some (.string y.2))
                ((first | exact ⟨hc0r, hc1r, g0, g1⟩ | exact ⟨k0, k1, k2, k3⟩))
                (first
                  | (go_at_call 39
                     refine (hcmp _).mono ?_
                     rintro e w9 ⟨rfl, b7⟩
                     have b7' : Below wr.heap.size wr w9 := (Below.refl _ wr).drew.trans b7
                     have k0 := (b7'.cell (p := ⟨b0, off0 + k * 2, none⟩) (Nat.lt_of_lt_of_le (Nat.lt_of_lt_of_le hb0 hw0) hszo)).trans hc0r
                     have k1 := (b7'.cell (p := ⟨b0, off0 + k * 2 + 1, none⟩) (Nat.lt_of_lt_of_le (Nat.lt_of_lt_of_le hb0 hw0) hszo)).trans hc1r
                     have k2 := (b7'.cell (p := ⟨g, p * 2, none⟩) (Nat.lt_of_lt_of_le hb2 (Nat.le_trans (Nat.le_refl _) hszo))).trans g0
                     have k3 := (b7'.cell (p := ⟨g, p * 2 + 1, none⟩) (Nat.lt_of_lt_of_le hb2 (Nat.le_trans (Nat.le_refl _) hszo))).trans g1))
              all_goals
                have hbW : Below wo.heap.size wo (w9) := hbo.trans (b7'.mono hszo)
                have hszW : wo.heap.size ≤ (w9).heap.size := hbW.size
                have hb0W : b0 < (w9).heap.size := Nat.lt_of_lt_of_le (Nat.lt_of_lt_of_le hb0 hw0) hszW
                have hc0W : (w9).cell? ⟨b0, off0 + k * 2, none⟩ = some (.string a.1) := (hbW.cell (p := ⟨b0, off0 + k * 2, none⟩) (Nat.lt_of_lt_of_le hb0 hw0)).trans hc0
                have hc1W : (w9).cell? ⟨b0, off0 + k * 2 + 1, none⟩ = some (.string a.2) := (hbW.cell (p := ⟨b0, off0 + k * 2 + 1, none⟩) (Nat.lt_of_lt_of_le hb0 hw0)).trans hc1
                by_cases hc9 : c1 = p + 1
                · subst hc9
                  have hoW := ho.below hbW
                  have hrW := hoW.reads hszW
                  have hr1 := (hrW.take2 (m := p + 1) (by omega)).over (B := wo.heap.size) hszW (.cells #[] 25)
                  have hr3 : Reads (w9) wo.heap.size 2 (some ⟨g, 0, none⟩) 0 [] := ⟨rfl, fun h => absurd h (by omega)⟩
                  have he0 := own_empty w9 25 2
                  have hlt1 : (x.take (p + 1)).length = p + 1 := by rw [List.length_take]; omega
                  have hcapI : (x.length : Int) ≤ ((p + 1 : Nat) : Int) := by omega
                  have hN1 : Hid (p + 1 + 1 + 0 = (x.take (p + 1) ++ [a] ++ x.drop (p + 1)).length) := by show _ = _; simp only [List.length_append, List.length_take, List.length_drop, List.length_cons, List.length_nil]; omega
                  have hN2 : (x.take (p + 1) ++ [a] ++ x.drop (p + 1)).length ≤ 1099511627776 := by simp only [List.length_append, List.length_take, List.length_drop, List.length_cons, List.length_nil]; omega
                  have hdr : x.drop (p + 1) = [] := List.drop_eq_nil_of_le (by omega)
                  have hZ1 : Hid (s2V (x.take (p + 1) ++ [a]) ++ [] = s2V (x.take (p + 1) ++ [a] ++ x.drop (p + 1))) := by show _ = _; rw [hdr, List.append_nil, List.append_nil]
                  clear hdr
                  go_wp2_with (first
                    | (at_builtin
                       refine wpList_app row_Addr rfl (.tmp 39) (.tmp 42) rfl (w9).heap.size _ 0 0 [] rfl he0 wo.heap.size (some ⟨g, 0, none⟩) (p + 1) (p + 1) (s2V (x.take (p + 1))) rfl hr1 (s2_one _) (p + 1) (s2V (x.take (p + 1))) (by omega) rfl ⟨by omega, by omega⟩ (by simp) ?_
                       intro A6 c6 w6 o6 b6
                       have z6 := b6.size
                       simp only [World.size_alloc] at z6
                       have q6 := ((Below.refl (w9).heap.size (w9)).alloc (Nat.le_refl _) (.cells #[] 25)).trans b6
                       have d0 : w6.cell? ⟨b0, off0 + k * 2, none⟩ = some (.string a.1) := (q6.cell (p := ⟨b0, off0 + k * 2, none⟩) hb0W).trans hc0W
                       have d1 : w6.cell? ⟨b0, off0 + k * 2 + 1, none⟩ = some (.string a.2) := (q6.cell (p := ⟨b0, off0 + k * 2 + 1, none⟩) hb0W).trans hc1W
                       have o6' := (Own.of_row o6).below ((Below.refl _ _).alloc (Nat.le_refl _) (.cells #[.string a.1, .string a.2] 25))
                       have hr2 := Reads.pair w6 (.string a.1) (.string a.2) 25)
                    | (at_builtin
                       refine wpList_app row_Addr rfl (.tmp 44) (.tmp 49) rfl (w9).heap.size _ (p + 1) _ (s2V (x.take (p + 1))) rfl o6'.1 (w6.heap.size + 1) (some ⟨w6.heap.size, 0, none⟩) 1 _ [.string a.1, .string a.2] rfl hr2 (s2_one [a]) (p + 1 + 1) (s2V (x.take (p + 1) ++ [a])) (by omega) (by rw [s2V_append]; rfl) ⟨by omega, by omega⟩ (by simp only [World.size_alloc]; omega) ?_
                       intro A7 c7 w7 o7 b7
                       have z7 := b7.size
                       simp only [World.size_alloc] at z7
                       have q7 := (q6.alloc (by omega) (.cells #[.string a.1, .string a.2] 25)).trans b7
                       have hr3' := hr3.below (q7.mono hszW))
                    | (at_builtin
                       refine wpList_app row_Addr rfl (.tmp 51) (.tmp 54) rfl (w9).heap.size _ (p + 1 + 1) _ (s2V (x.take (p + 1) ++ [a])) rfl o7 wo.heap.size (some ⟨g, 0, none⟩) 0 0 [] ?_ hr3' (by simp) (x.take (p + 1) ++ [a] ++ x.drop (p + 1)).length (s2V (x.take (p + 1) ++ [a] ++ x.drop (p + 1))) hN1.out hZ1.out ⟨hN2, by omega⟩ (by omega) ?_
                       · first | rfl | (simp [go_sem]; done)
                       intro A8 c8 w8 o8 b8
                       have q8 := q7.trans b8))
                  have hs2 : Hid (SortOf (l.take (k + 1)) (x.take (p + 1) ++ [a] ++ x.drop (p + 1))) := by show SortOf _ _; rw [htk.out]; exact hs.out.ins (by omega) hab2.out hlow
                  have hlen8 : (x.take (p + 1) ++ [a] ++ x.drop (p + 1)).length ≤ k + 1 := by simp only [List.length_append, List.length_take, List.length_drop, List.length_cons, List.length_nil]; omega
                  go_roundw
                  case rel => exact ⟨k + 1, x.take (p + 1) ++ [a] ++ x.drop (p + 1), A8, c8, by omega, by go_num, by first | rfl | (congr 1; done) | (congr 1; simp only [List.length_append, List.length_take, List.length_drop, List.length_cons, List.length_nil]; done) | (congr 1; simp only [List.length_append, List.length_take, List.length_drop, List.length_cons, List.length_nil]; omega), hs2, hlen8, (Own.of_row o8).wide (by omega) (Nat.le_refl _), hbel.trans ((hbW.trans (q8.mono hszW)).mono hw0)⟩
                  case measure => simp [intOf]; omega
                · have hc9' : (p : Int) + 1 < (c1 : Int) := by omega
                  have hoW := ho.below hbW
                  have hrW := hoW.reads hszW
                  have hr1 := (hrW.take2 (m := p + 1) (by omega)).over (B := wo.heap.size) hszW (.cells #[] 25)
                  have hr3 := hrW.drop2 (m := p + 1) (by omega)
                  have he0 := own_empty w9 25 2
                  have hlt1 : (x.take (p + 1)).length = p + 1 := by rw [List.length_take]; omega
                  have hcapI : (x.length : Int) ≤ ((c1 : Nat) : Int) := by omega
                  have hN1 : p + 1 + 1 + (x.length - (p + 1)) = (x.take (p + 1) ++ [a] ++ x.drop (p + 1)).length := by simp only [List.length_append, List.length_take, List.length_drop, List.length_cons, List.length_nil]; omega
                  have hN2 : (x.take (p + 1) ++ [a] ++ x.drop (p + 1)).length ≤ 1099511627776 := by simp only [List.length_append, List.length_take, List.length_drop, List.length_cons, List.length_nil]; omega
                  have hZ1 : s2V (x.take (p + 1) ++ [a]) ++ s2V (x.drop (p + 1)) = s2V (x.take (p + 1) ++ [a] ++ x.drop (p + 1)) := (s2V_append _ _).symm
                  go_wp2_with (first
                    | (at_builtin
                       refine wpList_app row_Addr rfl (.tmp 39) (.tmp 42) rfl (w9).heap.size _ 0 0 [] rfl he0 wo.heap.size (some ⟨g, 0, none⟩) (p + 1) (c1) (s2V (x.take (p + 1))) rfl hr1 (s2_one _) (p + 1) (s2V (x.take (p + 1))) (by omega) rfl ⟨by omega, by omega⟩ (by simp) ?_
                       intro A6 c6 w6 o6 b6
                       have z6 := b6.size
                       simp only [World.size_alloc] at z6
                       have q6 := ((Below.refl (w9).heap.size (w9)).alloc (Nat.le_refl _) (.cells #[] 25)).trans b6
                       have d0 : w6.cell? ⟨b0, off0 + k * 2, none⟩ = some (.string a.1) := (q6.cell (p := ⟨b0, off0 + k * 2, none⟩) hb0W).trans hc0W
                       have d1 : w6.cell? ⟨b0, off0 + k * 2 + 1, none⟩ = some (.string a.2) := (q6.cell (p := ⟨b0, off0 + k * 2 + 1, none⟩) hb0W).trans hc1W
                       have o6' := (Own.of_row o6).below ((Below.refl _ _).alloc (Nat.le_refl _) (.cells #[.string a.1, .string a.2] 25))
                       have hr2 := Reads.pair w6 (.string a.1) (.string a.2) 25)
                    | (at_builtin
                       refine wpList_app row_Addr rfl (.tmp 44) (.tmp 49) rfl (w9).heap.size _ (p + 1) _ (s2V (x.take (p + 1))) rfl o6'.1 (w6.heap.size + 1) (some ⟨w6.heap.size, 0, none⟩) 1 _ [.string a.1, .string a.2] rfl hr2 (s2_one [a]) (p + 1 + 1) (s2V (x.take (p + 1) ++ [a])) (by omega) (by rw [s2V_append]; rfl) ⟨by omega, by omega⟩ (by simp only [World.size_alloc]; omega) ?_
                       intro A7 c7 w7 o7 b7
                       have z7 := b7.size
                       simp only [World.size_alloc] at z7
                       have q7 := (q6.alloc (by omega) (.cells #[.string a.1, .string a.2] 25)).trans b7
                       have hr3' := hr3.below (q7.mono hszW))
                    | (at_builtin
                       refine wpList_app row_Addr rfl (.tmp 51) (.tmp 54) rfl (w9).heap.size _ (p + 1 + 1) _ (s2V (x.take (p + 1) ++ [a])) rfl o7 wo.heap.size (some ⟨g, 0 + (p + 1) * 2, none⟩) (x.length - (p + 1)) ((c1) - (p + 1)) (s2V (x.drop (p + 1))) ?_ hr3' (s2_one _) (x.take (p + 1) ++ [a] ++ x.drop (p + 1)).length (s2V (x.take (p + 1) ++ [a] ++ x.drop (p + 1))) hN1 hZ1 ⟨hN2, by omega⟩ (by omega) ?_
                       · first | rfl | (simp [go_sem]; done)
                       intro A8 c8 w8 o8 b8
                       have q8 := q7.trans b8))
                  have hs2 : Hid (SortOf (l.take (k + 1)) (x.take (p + 1) ++ [a] ++ x.drop (p + 1))) := by show SortOf _ _; rw [htk.out]; exact hs.out.ins (by omega) hab2.out hlow
                  have hlen8 : (x.take (p + 1) ++ [a] ++ x.drop (p + 1)).length ≤ k + 1 := by simp only [List.length_append, List.length_take, List.length_drop, List.length_cons, List.length_nil]; omega
                  go_roundw
                  case rel => exact ⟨k + 1, x.take (p + 1) ++ [a] ++ x.drop (p + 1), A8, c8, by omega, by go_num, by first | rfl | (congr 1; done) | (congr 1; simp only [List.length_append, List.length_take, List.length_drop, List.length_cons, List.length_nil]; done) | (congr 1; simp only [List.length_append, List.length_take, List.length_drop, List.length_cons, List.length_nil]; omega), hs2, hlen8, (Own.of_row o8).wide (by omega) (Nat.le_refl _), hbel.trans ((hbW.trans (q8.mono hszW)).mono hw0)⟩
                  case measure => simp [intOf]; omega
      · have hin := hasA_iff.1 hh
        have hs2 : Hid (SortOf (l.take (k + 1)) x) := by show SortOf _ _; rw [htk.out]; exact hs.out.more ((hs.out.mem a).1 hin)
        rw [hh] at hcall
        clear hh hin hs
        go_wp2_with (go_at_call 38; refine hcall.mono ?_; rintro e w5 ⟨rfl, b5⟩)
        go_roundw
        case rel => exact ⟨k + 1, x, A1, c1, by omega, by go_num, rfl, hs2, by omega, (ho.below b5).wide (Nat.le_refl _) b5.size, hbel.trans (b5.mono hw0)⟩
        case measure => simp [intOf]; omega
    · obtain rfl : n = k := by omega
      have hs2 : Hid (SortOf l x) := by have h := hs.out; rw [List.take_of_length_le (by rw [hl.out]; exact Nat.le_refl _)] at h; exact h
      clear hs
      go_wp2
      go_ret
      exact ⟨x, A1, c1, hs2.out, by rw [hl.out]; exact hxk, rfl, ho, hbel⟩
end Go.Proofs.Ytipfhedbeeabdaa
