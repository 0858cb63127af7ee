/-
  Contract of JoinSheets of the reference. Conditions: at most 2^30 elements.
-/
import Derived.Deep.LoopGhost
import Derived.Test.YtleopmeaaabejaaJ08
import Derived.Test.YtleopmeaaabejaaJ09
namespace Go.Proofs.Ytleopmeaaabejaa
set_option linter.unusedVariables false
set_option linter.unusedSimpArgs false
set_option maxRecDepth 100000
open Go.ChangeShapes Go.WideShapes Go.ChangeAt Go.RowKit Go.Deep

theorem rulV_take (l : List Rul) (k : Nat) : (rulV l).take (k * 2) = rulV (l.take k) := by
  induction l generalizing k with
  | nil => simp [rulV]
  | cons a l ih =>
    cases k with
    | zero => simp [rulV]
    | succ k => rw [rulV_cons, List.take_succ_cons, rulV_cons, show (k + 1) * 2 = k * 2 + 1 + 1 by omega, List.take_succ_cons, List.take_succ_cons, ih]
theorem rulV_drop (l : List Rul) (k : Nat) : (rulV l).drop (k * 2) = rulV (l.drop k) := by
  induction l generalizing k with
  | nil => simp [rulV]
  | cons a l ih =>
    cases k with
    | zero => simp [rulV]
    | succ k => rw [rulV_cons, List.drop_succ_cons, show (k + 1) * 2 = k * 2 + 1 + 1 by omega, List.drop_succ_cons, List.drop_succ_cons, ih]
theorem Reads.takeR {w : World} {B n m : Nat} {A : Option Addr} {l : List Rul} (h : Reads w B 2 A n (rulV l)) (hm : m ≤ n) : Reads w B 2 A m (rulV (l.take m)) := by
  have hl := h.lenR
  refine ⟨by rw [rulV_length, List.length_take]; have : min m l.length = m := by omega
             rw [this], fun h0 => ?_⟩
  obtain ⟨ad, e, hb, hc⟩ := h.2 (by omega)
  refine ⟨ad, e, hb, fun j u hu => hc j u ?_⟩
  rw [← rulV_take, List.getElem?_take] at hu
  split at hu
  · exact hu
  · cases hu
theorem Reads.dropR {w : World} {B n m b off : Nat} {l : List Rul} (h : Reads w B 2 (some ⟨b, off, none⟩) n (rulV l)) (hm : m ≤ n) : Reads w B 2 (some ⟨b, off + m * 2, none⟩) (n - m) (rulV (l.drop m)) := by
  have hl := h.lenR
  refine ⟨by rw [rulV_length, List.length_drop, hl], fun h0 => ?_⟩
  obtain ⟨b', off', e, hb, hc⟩ := h.place (by omega) (by omega)
  injection e with e
  injection e with e1 e2
  subst e1 e2
  refine ⟨_, rfl, hb, fun j u hu => ?_⟩
  rw [← rulV_drop, List.getElem?_drop] at hu
  have := hc _ _ hu
  have hadd : (⟨b, off + m * 2, none⟩ : Addr).add j = ⟨b, off + (m * 2 + j), none⟩ := by unfold Addr.add; split <;> simp_all <;> omega
  rw [hadd]
  exact this
theorem Own.shapeK {w : World} {lo hi n c : Nat} {e : TypeId} {size : Nat} {A : Option Addr} {xs : List Value} (h : Own w lo hi e size (.slice A n c) n xs) : (A = none ∧ n = 0 ∧ c = 0) ∨ ∃ g, A = some ⟨g, 0, none⟩ ∧ n ≤ c ∧ c ≤ 9223372036854775807 := by
  obtain ⟨⟨h1, h2⟩, h3⟩ := h
  rcases h2 with ⟨hv, hn⟩ | ⟨g, cap, cur, hv, hb, hg, hn, hc, hs, ht⟩
  · injection hv with h4 _ h5
    exact .inl ⟨h4, hn, h5⟩
  · injection hv with hA _ hcap
    unfold maxLen at hc
    exact .inr ⟨g, hA, by omega, by omega⟩
/-- the state of the loops: the result's box, the sheet's box, the rules laid so far -/
structure JsC (w : World) (T er : TypeId) (l : List (List Rul)) (x : List ByteArray) (A : Option Addr) (c : Nat) (W : World) : Prop where
  res : BoxAt W w.heap.size [.slice none 0 0] T
  box : BoxAt W (w.heap.size + 1) [.slice A x.length c] T
  own : Own W (w.heap.size + 2) W.heap.size er 2 (.slice A x.length c) x.length (rulV (jsR l x))
  bel : Below w.heap.size w W
section
variable {w W W' : World} {T er : TypeId} {l : List (List Rul)} {x y : List ByteArray} {A A' : Option Addr} {c c' N : Nat}
theorem JsC.big (h : JsC w T er l x A c W) : w.heap.size + 2 ≤ W.heap.size := by have := h.box.lt; omega
theorem JsC.ins (h : JsC w T er l x A c W) (hq : Below W.heap.size W W') (hN : y.length = N) (ho : W'.ownsRow W.heap.size er 2 (.slice A' N c') N (rulV (jsR l y))) : JsC w T er l y A' c' (W'.setCell ⟨w.heap.size + 1, 0, none⟩ (.slice A' N c')) := by
  have hb := h.big
  subst hN
  refine ⟨(h.res.next hq).other (p := ⟨w.heap.size + 1, 0, none⟩) (show w.heap.size ≠ w.heap.size + 1 by omega) _, (h.box.next hq).put (j := 0) _, ?_, (h.bel.trans (hq.mono (by omega))).setCell (p := ⟨w.heap.size + 1, 0, none⟩) (by show w.heap.size ≤ w.heap.size + 1; omega) _⟩
  exact ((Own.of_row ho).keep (keeps_set (S := fun k => k = w.heap.size + 1) W' (p := ⟨w.heap.size + 1, 0, none⟩) _ rfl) (fun k hk => by omega)).wide (by omega) (by simp [World.setCell])
end
theorem jsR_one (l : List (List Rul)) (nm : ByteArray) : rulV (jsR l [nm]) = [.string nm, .int .i64 (colOf l nm)] := rfl
set_option maxHeartbeats 8000000 in
theorem joinSheets_spec {A : Option Addr} {n c : Nat} {l : List (List Rul)} (w : World) (hx : ReadsN shN w w.heap.size A n l) (hn : n ≤ 1073741824) (hm : ∀ a ∈ l, a.length ≤ 1073741824) (hN : (nmsL l).length ≤ 1073741824) :
    Calls Try.prog 25 #[.slice A n c] w (GotJs w 84 l) := by
  have lx := Lib.hid hx.len
  have hcall := fun (W : World) (nm : ByteArray) (h : Below w.heap.size w W) => colorOf_spec (c := c) nm W ((hx.below h).more h.size) hn hm
  have HC := Lib.hid hcall
  clear hcall
  have hpre : Hid (∀ k, k ≤ l.length → (nmsL (l.take k)).length ≤ (nmsL l).length) := Lib.hid fun k hk => by
    have : nmsL l = nmsL (l.take k) ++ nmsL (l.drop k) := by unfold nmsL; rw [← List.flatMap_append, List.take_append_drop]
    rw [this, List.length_append]; omega
  go_enter Try.func25, Try.ntmps25
  go_wp2_with (fail)
  go_loopw [4] (fun i wr => ∃ (k : Nat) (x : List ByteArray) (A1 : Option Addr) (c1 : Nat), k ≤ n ∧ i = .int .i64 k ∧ JsC w 54 84 l x A1 c1 wr ∧ Hid (SortS (nmsL (l.take k)) x) ∧ x.length ≤ (nmsL (l.take k)).length) (fun i _ => n - (intOf i).toNat)
  case atStart =>
    refine ⟨0, [], none, 0, Nat.zero_le _, rfl, ?_, SortS.nil, Nat.le_refl _⟩
    have b0 := BoxAt.new (w := w) rfl [.slice none 0 0] 54
    have b1 := BoxAt.new (w := w.alloc (.cells #[.slice none 0 0] 54)) (g := w.heap.size + 1) (by simp) [.slice none 0 0] 54
    exact ⟨b0.alloc _, b1, own_zero _ _ _ _ _, ((Below.refl _ _).alloc (Nat.le_refl _) _).alloc (by simp) _⟩
  case round =>
    obtain ⟨k, x, A1, c1, hk, rfl, hC, hs, hxl⟩ := hrel
    by_cases hlt : k < n
    · obtain ⟨b0, off0, rfl, hab, hcx⟩ := hx.sheet hlt
      have hl1 : k < l.length := by rw [lx.out]; exact hlt
      obtain ⟨A2, c2, hr, hc0⟩ := hcx hl1
      have hsucc : Hid (nmsL (l.take (k + 1)) = nmsL (l.take k) ++ nmR l[k]) := Lib.hid (nmsL_succ hl1)
      have htot : (nmsL (l.take k)).length + (nmR l[k]).length ≤ 1073741824 := by
        have h1 := hpre.out (k + 1) (by omega)
        rw [hsucc.out, List.length_append] at h1
        omega
      have hk0 : (0 : Int) ≤ (k : Int) := Int.natCast_nonneg _
      have hk9 : (k : Int) < (n : Int) := by omega
      have hm1 := hm l[k] (List.getElem_mem _)
      generalize nmsL (l.take k) = x0 at *
      generalize l[k] = r at *
      clear hcx
      go_wp2_with (fail)
      go_loopw [5] (fun i wq => ∃ (m : Nat) (x : List ByteArray) (A1 : Option Addr) (c1 : Nat), m ≤ r.length ∧ i = .int .i64 m ∧ JsC w 54 84 l x A1 c1 wq ∧ Hid (SortS (x0 ++ nmR (r.take m)) x) ∧ x.length ≤ (x0 ++ nmR (r.take m)).length) (fun i _ => r.length - (intOf i).toNat)
      case atStart => exact ⟨0, x, A1, c1, Nat.zero_le _, rfl, hC, by simpa [nmR] using hs, by simpa [nmR] using hxl⟩
      case round =>
        clear hC hs hxl
        obtain ⟨m, x, A1, c1, hm2, rfl, hC, hs, hxl⟩ := hrel
        have hc0r := (hC.bel.cell (p := ⟨b0, off0 + k, none⟩) hab).trans hc0
        by_cases hml : m < r.length
        · obtain ⟨b1, off1, rfl, hb1, hcy⟩ := hr.rul hml
          obtain ⟨hd0, hd1⟩ := hcy hml
          replace hd0 := (hC.bel.cell (p := ⟨b1, off1 + m * 2, none⟩) hb1).trans hd0
          replace hd1 := (hC.bel.cell (p := ⟨b1, off1 + m * 2 + 1, none⟩) hb1).trans hd1
          have hs2 : Hid (x0 ++ nmR (r.take (m + 1)) = x0 ++ nmR (r.take m) ++ [r[m].1]) := by show _ = _; rw [nmR_succ hml, List.append_assoc]
          have hyl : (x0 ++ nmR (r.take m)).length ≤ 1073741824 := by
            rw [List.length_append]
            have : (nmR (r.take m)).length ≤ (nmR r).length := by unfold nmR; rw [List.length_map, List.length_map, List.length_take]; omega
            omega
          have hm0 : (0 : Int) ≤ (m : Int) := Int.natCast_nonneg _
          have hm9 : (m : Int) < (r.length : Int) := by omega
          generalize x0 ++ nmR (r.take m) = y at *
          generalize r[m] = a at *
          obtain ⟨nm, co⟩ := a
          simp only at hd0 hd1 hs2
          have K0 := hC.box.cell 0 _ rfl
          have F0 := hC.box.open_ 0
          have hcap := hC.own.shapeK
          have hxN : x.length ≤ 1073741824 := by omega
          clear hcy
          obtain ⟨wo, rfl⟩ : ∃ z : World, z = wr := ⟨wr, rfl⟩
          go_wp2_with (fail)
          go_loopw [7] (fun s wq => ∃ p : Nat, p ≤ x.length ∧ s = .int .i64 p ∧ Hid (∀ j (h : j < x.length), p ≤ j → cmpS nm x[j] < 0) ∧ wo = wq) (fun s _ => (intOf s).toNat)
          case atStart => exact ⟨x.length, Nat.le_refl _, rfl, fun j h h1 => by omega, rfl⟩
          case round =>
            obtain ⟨p, hp, rfl, habove, rfl⟩ := hrel
            rcases Nat.eq_zero_or_pos p with h0 | h0
            · subst h0
              have hlow : ∀ j (hj : j < x.length), j < 0 → cmpS x[j] nm < 0 := fun j h h1 => by omega
              rcases hcap with ⟨rfl, hx0, rfl⟩ | ⟨g, rfl, hcap1, hcap2⟩
              · obtain rfl := List.eq_nil_of_length_eq_zero hx0
                simp only [List.length_nil] at *
                have hbig := hC.big
                have hs9 : Hid (SortS (y ++ [nm]) [nm]) := Lib.hid (by have h := hs.out.ins (a := nm) (k := 0) (Nat.le_refl _) (fun j h _ => absurd h (by simp)) (fun j h _ => absurd h (by simp)); simpa using h)
                have K0a : (wo.alloc (.cells #[] 84)).cell? ⟨w.heap.size + 1, 0, none⟩ = some (.slice none 0 0) := (World.cell?_alloc_some _ _ _ (by rw [K0]; rfl)).trans K0
                have he0 := own_empty wo 84 2
                have hxw := fun (W : World) (h : Below wo.heap.size wo W) => HC.out W nm (hC.bel.trans (h.mono (by omega)))
                have HX := Lib.hid hxw
                clear hxw
                go_wp2_with (at_builtin
                             refine wpList_app row_Rule rfl (.tmp 66) (.tmp 70) rfl wo.heap.size _ 0 0 [] rfl he0 0 none 0 0 [] ?_ Reads.none_ (by simp) 0 [] (by omega) rfl ⟨by omega, by omega⟩ (by simp) ?_
                             · first | rfl | (simp [go_sem]; done)
                             intro A6 c6 w6 o6 b6
                             have z6 := b6.size
                             simp only [World.size_alloc] at z6
                             have q6 := ((Below.refl wo.heap.size wo).alloc (Nat.le_refl _) (.cells #[] 84)).trans b6)
                go_at_call 53
                refine (HX.out _ q6).mono ?_
                rintro e w6' ⟨rfl, rfl⟩
                have o6' := (Own.of_row o6).below ((Below.refl _ _).alloc (Nat.le_refl _) (.cells #[.string nm, .int .i64 (colOf l nm)] 84))
                have hr2 := Reads.pair2 w6 (.string nm) (.int .i64 (colOf l nm)) 84
                have q6a := q6.alloc (by omega) (.cells #[.string nm, .int .i64 (colOf l nm)] 84)
                go_wp2_with (first
                  | (at_builtin
                     refine wpList_app row_Rule rfl (.tmp 72) (.tmp 78) rfl wo.heap.size _ 0 _ [] rfl o6'.1 (w6.heap.size + 1) (some ⟨w6.heap.size, 0, none⟩) 1 _ [.string nm, .int .i64 (colOf l nm)] rfl hr2 (rul_one [(nm, colOf l nm)]) 1 (rulV (jsR l [nm])) (by omega) rfl ⟨by omega, by omega⟩ (by simp only [World.size_alloc]; omega) ?_
                     intro A7 c7 w7 o7 b7
                     have z7 := b7.size
                     simp only [World.size_alloc] at z7
                     have q7 := q6a.trans b7
                     have K7 := (q7.cell (p := ⟨w.heap.size + 1, 0, none⟩) (by show w.heap.size + 1 < wo.heap.size; omega)).trans K0)
                  | (at_builtin
                     refine wpList_app row_Rule rfl (.tmp 80) (.tmp 84) rfl wo.heap.size _ 1 _ (rulV (jsR l [nm])) rfl o7 0 none 0 0 [] ?_ Reads.none_ (by simp) 1 (rulV (jsR l [nm])) (by omega) (by simp) ⟨by omega, by omega⟩ (by omega) ?_
                     · first | rfl | (simp [go_sem]; done)
                     intro A8 c8 w8 o8 b8
                     have q8 := q7.trans b8
                     have K8 := (q8.cell (p := ⟨w.heap.size + 1, 0, none⟩) (by show w.heap.size + 1 < wo.heap.size; omega)).trans K0
                     have F8 := (q8.frozen (p := ⟨w.heap.size + 1, 0, none⟩) (by show w.heap.size + 1 < wo.heap.size; omega)).trans F0))
                have hfin := hC.ins q8 (y := [nm]) rfl o8
                go_roundw
                case rel => exact ⟨m + 1, [nm], A8, c8, by omega, by go_num, hfin, by rw [hs2.out]; exact hs9, by rw [hs2.out, List.length_append]; simp⟩
                case measure => simp [intOf]; omega
              · skip
                have hbig := hC.big
                have hs9 : Hid (SortS (y ++ [nm]) (x.take 0 ++ [nm] ++ x.drop 0)) := Lib.hid (hs.out.ins (by omega) habove.out hlow)
                have hoR := hC.own.reads (Nat.le_refl _)
                have hr1 := (hoR.takeR (m := 0) (by omega)).over (Nat.le_refl _) (.cells #[] 84)
                rw [jsR_take] at hr1
                have hr3 := hoR.dropR (m := 0) (by omega)
                rw [jsR_drop] at hr3
                have hcapI : (x.length : Int) ≤ ((c1 : Int) : Int) := by omega
                have hYl : Hid ((x.take 0 ++ [nm] ++ x.drop 0).length = x.length + 1) := by show _ = _; simp only [List.length_append, List.length_take, List.length_drop, List.length_cons, List.length_nil]; omega
                have hNN : x.length + 1 ≤ 1099511627776 := by omega
                have hN1 : Hid (0 + 1 + (x.length - 0) = x.length + 1) := by show _ = _; omega
                have hZ1 : Hid (rulV (jsR l (x.take 0 ++ [nm])) ++ rulV (jsR l (x.drop 0)) = rulV (jsR l (x.take 0 ++ [nm] ++ x.drop 0))) := by show _ = _; rw [jsR_app l (x.take 0 ++ [nm]), rulV_append]
                have K0a : (wo.alloc (.cells #[] 84)).cell? ⟨w.heap.size + 1, 0, none⟩ = some (.slice (some ⟨g, 0, none⟩) x.length c1) := (World.cell?_alloc_some _ _ _ (by rw [K0]; rfl)).trans K0
                have he0 := own_empty wo 84 2
                have hxw := fun (W : World) (h : Below wo.heap.size wo W) => HC.out W nm (hC.bel.trans (h.mono (by omega)))
                have HX := Lib.hid hxw
                clear hxw
                go_wp2_with (at_builtin
                             refine wpList_app row_Rule rfl (.tmp 66) (.tmp 70) rfl wo.heap.size _ 0 0 [] rfl he0 wo.heap.size (some ⟨g, 0, none⟩) 0 c1 (rulV (jsR l (x.take 0))) ?_ hr1 (rul_one _) 0 (rulV (jsR l (x.take 0))) (by omega) rfl ⟨by omega, by omega⟩ (by simp) ?_
                             · first | rfl | (simp [go_sem]; done)
                             intro A6 c6 w6 o6 b6
                             have z6 := b6.size
                             simp only [World.size_alloc] at z6
                             have q6 := ((Below.refl wo.heap.size wo).alloc (Nat.le_refl _) (.cells #[] 84)).trans b6)
                go_at_call 53
                refine (HX.out _ q6).mono ?_
                rintro e w6' ⟨rfl, rfl⟩
                have o6' := (Own.of_row o6).below ((Below.refl _ _).alloc (Nat.le_refl _) (.cells #[.string nm, .int .i64 (colOf l nm)] 84))
                have hr2 := Reads.pair2 w6 (.string nm) (.int .i64 (colOf l nm)) 84
                have q6a := q6.alloc (by omega) (.cells #[.string nm, .int .i64 (colOf l nm)] 84)
                go_wp2_with (first
                  | (at_builtin
                     refine wpList_app row_Rule rfl (.tmp 72) (.tmp 78) rfl wo.heap.size _ 0 _ (rulV (jsR l (x.take 0))) rfl o6'.1 (w6.heap.size + 1) (some ⟨w6.heap.size, 0, none⟩) 1 _ [.string nm, .int .i64 (colOf l nm)] rfl hr2 (rul_one [(nm, colOf l nm)]) (0 + 1) (rulV (jsR l (x.take 0 ++ [nm]))) (by omega) (by rw [jsR_app, rulV_append]; rfl) ⟨by omega, by omega⟩ (by simp only [World.size_alloc]; omega) ?_
                     intro A7 c7 w7 o7 b7
                     have z7 := b7.size
                     simp only [World.size_alloc] at z7
                     have q7 := q6a.trans b7
                     have K7 := (q7.cell (p := ⟨w.heap.size + 1, 0, none⟩) (by show w.heap.size + 1 < wo.heap.size; omega)).trans K0
                     have hr3' := hr3.below q7)
                  | (at_builtin
                     refine wpList_app row_Rule rfl (.tmp 80) (.tmp 84) rfl wo.heap.size _ (0 + 1) _ (rulV (jsR l (x.take 0 ++ [nm]))) rfl o7 wo.heap.size (some ⟨g, 0 + 0 * 2, none⟩) (x.length - 0) (c1 - 0) (rulV (jsR l (x.drop 0))) ?_ hr3' (rul_one _) (x.length + 1) (rulV (jsR l (x.take 0 ++ [nm] ++ x.drop 0))) hN1.out hZ1.out ⟨hNN, by omega⟩ (by omega) ?_
                     · first | rfl | (simp [go_sem]; done)
                     intro A8 c8 w8 o8 b8
                     have q8 := q7.trans b8
                     have K8 := (q8.cell (p := ⟨w.heap.size + 1, 0, none⟩) (by show w.heap.size + 1 < wo.heap.size; omega)).trans K0
                     have F8 := (q8.frozen (p := ⟨w.heap.size + 1, 0, none⟩) (by show w.heap.size + 1 < wo.heap.size; omega)).trans F0))
                have hfin := hC.ins q8 (y := (x.take 0 ++ [nm] ++ x.drop 0)) hYl.out o8
                go_roundw
                case rel => exact ⟨m + 1, (x.take 0 ++ [nm] ++ x.drop 0), A8, c8, by omega, by go_num, hfin, by rw [hs2.out]; exact hs9, by rw [hs2.out, hYl.out, List.length_append]; show _ ≤ y.length + 1; omega⟩
                case measure => simp [intOf]; omega
            · obtain ⟨q, rfl⟩ : ∃ q, p = q + 1 := ⟨p - 1, by omega⟩
              rcases hcap with ⟨_, hx0, _⟩ | ⟨g, rfl, hcap1, hcap2⟩
              · omega
              have hqx : q < x.length := by omega
              obtain ⟨b2, off2, hA, hb2, hcy⟩ := (hC.own.reads (Nat.le_refl _)).rul hqx
              injection hA with hA
              injection hA with hA1 hA2
              subst hA1 hA2
              obtain ⟨g0, g1⟩ := hcy (by rw [jsR_len]; exact hqx)
              rw [jsR_get hqx] at g0 g1
              simp only [Nat.zero_add] at g0 g1
              clear hcy
              have hw1 : IntKind.i64.wrap ((q : Int) + 1 - 1) = (q : Int) := by rw [IntKind.wrap_i64]; omega
              have hw2 : IntKind.i64.wrap (q : Int) = (q : Int) := by rw [IntKind.wrap_i64]; omega
              have hp0 : (0 : Int) ≤ (q : Int) := Int.natCast_nonneg _
              have hp9 : (q : Int) < (x.length : Int) := by omega
              have hd1' : decide ((0 : Int) < (q : Int) + 1) = true := by first | (simp; done) | (simp; omega)
              have hd2' : (0 : Int) < (q : Int) + 1 := by omega
              have hbelow := fun h => hs.out.below (a := nm) hqx h
              have hin := hs.out.mem x[q]
              cases hb : Op.bytesLess nm.toList x[q].toList
              · cases he : (x[q].toList == nm.toList)
                · have hlow := hbelow (cmpS_rest hb he)
                  clear hbelow hin
                  generalize hxq : x[q] = u at *
                  by_cases hc9 : c1 = q + 1
                  · subst hc9
                    have hbig := hC.big
                    have hs9 : Hid (SortS (y ++ [nm]) (x.take (q + 1) ++ [nm] ++ x.drop (q + 1))) := Lib.hid (hs.out.ins (by omega) habove.out hlow)
                    have hoR := hC.own.reads (Nat.le_refl _)
                    have hr1 := (hoR.takeR (m := (q + 1)) (by omega)).over (Nat.le_refl _) (.cells #[] 84)
                    rw [jsR_take] at hr1
                    have hr3 : Reads wo wo.heap.size 2 (some ⟨g, 0, none⟩) 0 [] := ⟨rfl, fun h => absurd h (by omega)⟩
                    have hdr : x.drop (q + 1) = [] := List.drop_eq_nil_of_le (by omega)
                    have hcapI : (x.length : Int) ≤ (((q + 1 : Nat) : Int) : Int) := by omega
                    have hYl : Hid ((x.take (q + 1) ++ [nm] ++ x.drop (q + 1)).length = x.length + 1) := by show _ = _; simp only [List.length_append, List.length_take, List.length_drop, List.length_cons, List.length_nil]; omega
                    have hNN : x.length + 1 ≤ 1099511627776 := by omega
                    have hN1 : Hid ((q + 1) + 1 + 0 = x.length + 1) := by show _ = _; omega
                    have hZ1 : Hid (rulV (jsR l (x.take (q + 1) ++ [nm])) ++ [] = rulV (jsR l (x.take (q + 1) ++ [nm] ++ x.drop (q + 1)))) := by show _ = _; rw [hdr, List.append_nil, List.append_nil]
                    clear hdr
                    have K0a : (wo.alloc (.cells #[] 84)).cell? ⟨w.heap.size + 1, 0, none⟩ = some (.slice (some ⟨g, 0, none⟩) x.length (q + 1)) := (World.cell?_alloc_some _ _ _ (by rw [K0]; rfl)).trans K0
                    have he0 := own_empty wo 84 2
                    have hxw := fun (W : World) (h : Below wo.heap.size wo W) => HC.out W nm (hC.bel.trans (h.mono (by omega)))
                    have HX := Lib.hid hxw
                    clear hxw
                    go_wp2_with (at_builtin
                                 refine wpList_app row_Rule rfl (.tmp 66) (.tmp 70) rfl wo.heap.size _ 0 0 [] rfl he0 wo.heap.size (some ⟨g, 0, none⟩) (q + 1) (q + 1) (rulV (jsR l (x.take (q + 1)))) ?_ hr1 (rul_one _) (q + 1) (rulV (jsR l (x.take (q + 1)))) (by omega) rfl ⟨by omega, by omega⟩ (by simp) ?_
                                 · first | rfl | (simp [go_sem]; done)
                                 intro A6 c6 w6 o6 b6
                                 have z6 := b6.size
                                 simp only [World.size_alloc] at z6
                                 have q6 := ((Below.refl wo.heap.size wo).alloc (Nat.le_refl _) (.cells #[] 84)).trans b6)
                    go_at_call 53
                    refine (HX.out _ q6).mono ?_
                    rintro e w6' ⟨rfl, rfl⟩
                    have o6' := (Own.of_row o6).below ((Below.refl _ _).alloc (Nat.le_refl _) (.cells #[.string nm, .int .i64 (colOf l nm)] 84))
                    have hr2 := Reads.pair2 w6 (.string nm) (.int .i64 (colOf l nm)) 84
                    have q6a := q6.alloc (by omega) (.cells #[.string nm, .int .i64 (colOf l nm)] 84)
                    go_wp2_with (first
                      | (at_builtin
                         refine wpList_app row_Rule rfl (.tmp 72) (.tmp 78) rfl wo.heap.size _ (q + 1) _ (rulV (jsR l (x.take (q + 1)))) rfl o6'.1 (w6.heap.size + 1) (some ⟨w6.heap.size, 0, none⟩) 1 _ [.string nm, .int .i64 (colOf l nm)] rfl hr2 (rul_one [(nm, colOf l nm)]) ((q + 1) + 1) (rulV (jsR l (x.take (q + 1) ++ [nm]))) (by omega) (by rw [jsR_app, rulV_append]; rfl) ⟨by omega, by omega⟩ (by simp only [World.size_alloc]; omega) ?_
                         intro A7 c7 w7 o7 b7
                         have z7 := b7.size
                         simp only [World.size_alloc] at z7
                         have q7 := q6a.trans b7
                         have K7 := (q7.cell (p := ⟨w.heap.size + 1, 0, none⟩) (by show w.heap.size + 1 < wo.heap.size; omega)).trans K0
                         have hr3' := hr3.below q7)
                      | (at_builtin
                         refine wpList_app row_Rule rfl (.tmp 80) (.tmp 84) rfl wo.heap.size _ ((q + 1) + 1) _ (rulV (jsR l (x.take (q + 1) ++ [nm]))) rfl o7 wo.heap.size (some ⟨g, 0, none⟩) 0 0 [] ?_ hr3' (by simp) (x.length + 1) (rulV (jsR l (x.take (q + 1) ++ [nm] ++ x.drop (q + 1)))) hN1.out hZ1.out ⟨hNN, by omega⟩ (by omega) ?_
                         · first | rfl | (simp [go_sem]; done)
                         intro A8 c8 w8 o8 b8
                         have q8 := q7.trans b8
                         have K8 := (q8.cell (p := ⟨w.heap.size + 1, 0, none⟩) (by show w.heap.size + 1 < wo.heap.size; omega)).trans K0
                         have F8 := (q8.frozen (p := ⟨w.heap.size + 1, 0, none⟩) (by show w.heap.size + 1 < wo.heap.size; omega)).trans F0))
                    have hfin := hC.ins q8 (y := (x.take (q + 1) ++ [nm] ++ x.drop (q + 1))) hYl.out o8
                    go_roundw
                    case rel => exact ⟨m + 1, (x.take (q + 1) ++ [nm] ++ x.drop (q + 1)), A8, c8, by omega, by go_num, hfin, by rw [hs2.out]; exact hs9, by rw [hs2.out, hYl.out, List.length_append]; show _ ≤ y.length + 1; omega⟩
                    case measure => simp [intOf]; omega
                  · have hc9' : (q : Int) + 1 < (c1 : Int) := by omega
                    have hbig := hC.big
                    have hs9 : Hid (SortS (y ++ [nm]) (x.take (q + 1) ++ [nm] ++ x.drop (q + 1))) := Lib.hid (hs.out.ins (by omega) habove.out hlow)
                    have hoR := hC.own.reads (Nat.le_refl _)
                    have hr1 := (hoR.takeR (m := (q + 1)) (by omega)).over (Nat.le_refl _) (.cells #[] 84)
                    rw [jsR_take] at hr1
                    have hr3 := hoR.dropR (m := (q + 1)) (by omega)
                    rw [jsR_drop] at hr3
                    have hcapI : (x.length : Int) ≤ ((c1 : Int) : Int) := by omega
                    have hYl : Hid ((x.take (q + 1) ++ [nm] ++ x.drop (q + 1)).length = x.length + 1) := by show _ = _; simp only [List.length_append, List.length_take, List.length_drop, List.length_cons, List.length_nil]; omega
                    have hNN : x.length + 1 ≤ 1099511627776 := by omega
                    have hN1 : Hid ((q + 1) + 1 + (x.length - (q + 1)) = x.length + 1) := by show _ = _; omega
                    have hZ1 : Hid (rulV (jsR l (x.take (q + 1) ++ [nm])) ++ rulV (jsR l (x.drop (q + 1))) = rulV (jsR l (x.take (q + 1) ++ [nm] ++ x.drop (q + 1)))) := by show _ = _; rw [jsR_app l (x.take (q + 1) ++ [nm]), rulV_append]
                    have K0a : (wo.alloc (.cells #[] 84)).cell? ⟨w.heap.size + 1, 0, none⟩ = some (.slice (some ⟨g, 0, none⟩) x.length c1) := (World.cell?_alloc_some _ _ _ (by rw [K0]; rfl)).trans K0
                    have he0 := own_empty wo 84 2
                    have hxw := fun (W : World) (h : Below wo.heap.size wo W) => HC.out W nm (hC.bel.trans (h.mono (by omega)))
                    have HX := Lib.hid hxw
                    clear hxw
                    go_wp2_with (at_builtin
                                 refine wpList_app row_Rule rfl (.tmp 66) (.tmp 70) rfl wo.heap.size _ 0 0 [] rfl he0 wo.heap.size (some ⟨g, 0, none⟩) (q + 1) c1 (rulV (jsR l (x.take (q + 1)))) ?_ hr1 (rul_one _) (q + 1) (rulV (jsR l (x.take (q + 1)))) (by omega) rfl ⟨by omega, by omega⟩ (by simp) ?_
                                 · first | rfl | (simp [go_sem]; done)
                                 intro A6 c6 w6 o6 b6
                                 have z6 := b6.size
                                 simp only [World.size_alloc] at z6
                                 have q6 := ((Below.refl wo.heap.size wo).alloc (Nat.le_refl _) (.cells #[] 84)).trans b6)
                    go_at_call 53
                    refine (HX.out _ q6).mono ?_
                    rintro e w6' ⟨rfl, rfl⟩
                    have o6' := (Own.of_row o6).below ((Below.refl _ _).alloc (Nat.le_refl _) (.cells #[.string nm, .int .i64 (colOf l nm)] 84))
                    have hr2 := Reads.pair2 w6 (.string nm) (.int .i64 (colOf l nm)) 84
                    have q6a := q6.alloc (by omega) (.cells #[.string nm, .int .i64 (colOf l nm)] 84)
                    go_wp2_with (first
                      | (at_builtin
                         refine wpList_app row_Rule rfl (.tmp 72) (.tmp 78) rfl wo.heap.size _ (q + 1) _ (rulV (jsR l (x.take (q + 1)))) rfl o6'.1 (w6.heap.size + 1) (some ⟨w6.heap.size, 0, none⟩) 1 _ [.string nm, .int .i64 (colOf l nm)] rfl hr2 (rul_one [(nm, colOf l nm)]) ((q + 1) + 1) (rulV (jsR l (x.take (q + 1) ++ [nm]))) (by omega) (by rw [jsR_app, rulV_append]; rfl) ⟨by omega, by omega⟩ (by simp only [World.size_alloc]; omega) ?_
                         intro A7 c7 w7 o7 b7
                         have z7 := b7.size
                         simp only [World.size_alloc] at z7
                         have q7 := q6a.trans b7
                         have K7 := (q7.cell (p := ⟨w.heap.size + 1, 0, none⟩) (by show w.heap.size + 1 < wo.heap.size; omega)).trans K0
                         have hr3' := hr3.below q7)
                      | (at_builtin
                         refine wpList_app row_Rule rfl (.tmp 80) (.tmp 84) rfl wo.heap.size _ ((q + 1) + 1) _ (rulV (jsR l (x.take (q + 1) ++ [nm]))) rfl o7 wo.heap.size (some ⟨g, 0 + (q + 1) * 2, none⟩) (x.length - (q + 1)) (c1 - (q + 1)) (rulV (jsR l (x.drop (q + 1)))) ?_ hr3' (rul_one _) (x.length + 1) (rulV (jsR l (x.take (q + 1) ++ [nm] ++ x.drop (q + 1)))) hN1.out hZ1.out ⟨hNN, by omega⟩ (by omega) ?_
                         · first | rfl | (simp [go_sem]; done)
                         intro A8 c8 w8 o8 b8
                         have q8 := q7.trans b8
                         have K8 := (q8.cell (p := ⟨w.heap.size + 1, 0, none⟩) (by show w.heap.size + 1 < wo.heap.size; omega)).trans K0
                         have F8 := (q8.frozen (p := ⟨w.heap.size + 1, 0, none⟩) (by show w.heap.size + 1 < wo.heap.size; omega)).trans F0))
                    have hfin := hC.ins q8 (y := (x.take (q + 1) ++ [nm] ++ x.drop (q + 1))) hYl.out o8
                    go_roundw
                    case rel => exact ⟨m + 1, (x.take (q + 1) ++ [nm] ++ x.drop (q + 1)), A8, c8, by omega, by go_num, hfin, by rw [hs2.out]; exact hs9, by rw [hs2.out, hYl.out, List.length_append]; show _ ≤ y.length + 1; omega⟩
                    case measure => simp [intOf]; omega
                · have hmr : Hid (SortS (y ++ [nm]) x) := by
                    have e1 : x[q] = nm := by rw [toList_eq_iff] at he; simpa using he
                    rw [e1] at hin
                    exact hs.out.more (hin.1 (by rw [← e1]; exact List.getElem_mem _))
                  clear hbelow hin
                  generalize x[q] = u at *
                  go_wp2
                  go_roundw
                  case rel => exact ⟨m + 1, x, _, c1, by omega, by go_num, hC, by rw [hs2.out]; exact hmr, by rw [hs2.out, List.length_append]; omega⟩
                  case measure => simp [intOf]; omega
              · have habove2 : Hid (∀ j (h : j < x.length), q ≤ j → cmpS nm x[j] < 0) := fun j hj h1 => by
                  by_cases e : j = q
                  · subst e
                    have := cmpS_less nm x[j]
                    rw [hb] at this
                    simpa using this.symm
                  · exact habove.out j hj (by omega)
                clear hbelow hin
                generalize x[q] = u at *
                go_wp2
                go_roundw
                case rel => exact ⟨q, by omega, by go_num, habove2, by first | rfl | trivial⟩
                case measure => simp [intOf]
        · obtain rfl : m = r.length := by omega
          have ht : Hid (x0 ++ nmR (r.take r.length) = nmsL (l.take (k + 1))) := by show _ = _; rw [hsucc.out, List.take_length]
          rw [ht.out] at hs hxl
          go_wp2
          go_roundw
          case rel => exact ⟨k + 1, x, A1, c1, by omega, by go_num, hC, hs, hxl⟩
          case measure => simp [intOf]; omega
    · obtain rfl : k = n := by omega
      have hall : Hid (l.take k = l) := by show _ = _; exact List.take_of_length_le (by rw [lx.out]; exact Nat.le_refl _)
      rw [hall.out] at hs hxl
      have hbig := hC.big
      have K8 := hC.box.cell 0 _ rfl
      have K2 := hC.res.cell 0 _ rfl
      have F2 := hC.res.open_ 0
      have bz := hC.res.put (j := 0) (.slice A1 x.length c1)
      have f0 := bz.cell 0 _ rfl
      have hof := (hC.own.keep (keeps_set (S := fun k => k = w.heap.size) wr (p := ⟨w.heap.size, 0, none⟩) (.slice A1 x.length c1) rfl) (fun k hk => by omega)).wide (lo' := w.heap.size) (hi' := (wr.setCell ⟨w.heap.size, 0, none⟩ (.slice A1 x.length c1)).heap.size) (by omega) (by simp [World.setCell])
      have hbf := hC.bel.setCell (p := ⟨w.heap.size, 0, none⟩) (Nat.le_refl _) (.slice A1 x.length c1)
      clear bz hC
      go_wp2
      exact bodyPost_ret (v := .agg #[.slice A1 x.length c1]) (by simp [results, Try.results25, go_sem, f0]) rfl ⟨x, A1, c1, hs.out, hxl, rfl, hof, hbf⟩
end Go.Proofs.Ytleopmeaaabejaa
