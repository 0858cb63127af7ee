/-
  Contracts of l6Close and of AddToken of the reference at a closing token; AddToken of both in one word. Condition: at most 2^30 elements.
-/
import Derived.Test.YtleopmeaaabejaaP11
import Derived.Test.YtleopmeaaabejaaP13
import Derived.Test.YtleopmeaaabejaaP03
namespace Go.Proofs.Ytleopmeaaabejaa
set_option linter.unusedVariables false
set_option linter.unusedSimpArgs false
set_option maxRecDepth 100000
open Go.ChangeShapes Go.WideShapes Go.ChangeAt Go.RowKit Go.Deep

/-- the two boxes of a call of l6Close -/
structure ClsAt (tB : TypeId) (H : Nat) (W0 : World) (u v : Value) (W : World) : Prop where
  bB : HasBox W H [u, v] tB
  bR : HasBox W (H + 1) [.slice none 0 0, .slice none 0 0] tB
  below : Below H W0 W
  hsz : W0.heap.size = H
theorem ClsAt.next {tB : TypeId} {H : Nat} {W0 W W' : World} {u v : Value} (h : ClsAt tB H W0 u v W) (hb : Below W.heap.size W W') : ClsAt tB H W0 u v W' :=
  ⟨h.bB.below hb h.bB.lt, h.bR.below hb h.bR.lt, h.below.trans (hb.mono (by have := h.below.size; have := h.hsz; omega)), h.hsz⟩
theorem ClsAt.put1 {tB : TypeId} {H : Nat} {W0 W : World} {u v : Value} (h : ClsAt tB H W0 u v W) (x : Value) : ClsAt tB H W0 u x (W.setCell ⟨H, 1, none⟩ x) :=
  ⟨h.bB.put x, h.bR.other (by show H + 1 ≠ H; omega) _, h.below.setCell (Nat.le_refl _) _, h.hsz⟩
theorem ClsAt.facts {tB : TypeId} {H : Nat} {W0 W : World} {u v : Value} (h : ClsAt tB H W0 u v W) :
    (W.cell? ⟨H, 0, none⟩ = some u ∧ W.cell? ⟨H, 1, none⟩ = some v ∧ W.frozen? ⟨H, 0, none⟩ = false ∧ W.frozen? ⟨H, 1, none⟩ = false) ∧
    (W.cell? ⟨H + 1, 0, none⟩ = some (.slice none 0 0) ∧ W.cell? ⟨H + 1, 1, none⟩ = some (.slice none 0 0) ∧ W.frozen? ⟨H + 1, 0, none⟩ = false ∧ W.frozen? ⟨H + 1, 1, none⟩ = false) :=
  ⟨⟨h.bB.cell 0 _ rfl, h.bB.cell 1 _ rfl, h.bB.open_ 0, h.bB.open_ 1⟩, ⟨h.bR.cell 0 _ rfl, h.bR.cell 1 _ rfl, h.bR.open_ 0, h.bR.open_ 1⟩⟩
theorem ClsAt.fin {tB : TypeId} {H : Nat} {W0 W : World} {u v : Value} (h : ClsAt tB H W0 u v W) (x y : Value) : Below H W0 ((W.setCell ⟨H + 1, 0, none⟩ x).setCell ⟨H + 1, 1, none⟩ y) :=
  (h.below.setCell (by show H ≤ H + 1; omega) x).setCell (by show H ≤ H + 1; omega) y
theorem ret_b {u x y : Value} (h : x = y) : Ending.returned (.agg #[u, x]) = .returned (.agg #[u, y]) := by rw [h]

set_option maxHeartbeats 1000000 in
theorem l6Close_spec {A A' : Option Addr} {n c n' c' : Nat} {b : Bld} (name : ByteArray) (w : World) (hx : ReadsB w w.heap.size A n A' n' b) (hn : n ≤ 1073741824) (hn' : n' ≤ 1073741824) (hc : n' ≤ c') (hc2 : c' ≤ 9223372036854775807) :
    Calls Try.prog 41 #[.agg #[.slice A n c, .slice A' n' c'], .string name] w fun e w' => e = .returned (.agg #[.slice A n c, .slice A' (clsF b name (n' - 1)) c']) ∧ Below w.heap.size w w' := by
  have Hlen := Lib.hid hx.len
  have st : ClsAt 27 w.heap.size w (.slice A n c) (.slice A' n' c') ((w.alloc (.cells #[.slice A n c, .slice A' n' c'] 27)).alloc (.cells #[.slice none 0 0, .slice none 0 0] 27)) :=
    ⟨(HasBox.new w [.slice A n c, .slice A' n' c'] _).alloc _, HasBox.new' (by simp) [.slice none 0 0, .slice none 0 0] _, ((Below.refl _ w).alloc (Nat.le_refl _) _).alloc (by simp) _, rfl⟩
  go_enter Try.func41, Try.ntmps41
  go_wp2
  go_loopw [5] (fun i wr => ∃ z : Int, i = .int .i64 z ∧ -1 ≤ z ∧ z < n' ∧ Hid (clsF b name (n' - 1) = clsF b name z.toNat) ∧ Below (w.heap.size + 1 + 1) ((w.alloc (.cells #[.slice A n c, .slice A' n' c'] 27)).alloc (.cells #[.slice none 0 0, .slice none 0 0] 27)) wr) (fun i _ => (intOf i).toNat)
  case atStart => exact ⟨(n' : Int) - 1, rfl, by omega, by omega, by show _ = _; congr 1; omega, Below.refl _ _⟩
  case round =>
    obtain ⟨z, rfl, hz1, hz2, hcl, hbel⟩ := hrel
    have st' := st.next (by simp only [World.size_alloc]; exact hbel)
    obtain ⟨⟨f00, f01, f02, f03⟩, ⟨f10, f11, f12, f13⟩⟩ := st'.facts
    have hwr := st'.below
    by_cases hz : 1 ≤ z
    · obtain ⟨k, rfl⟩ : ∃ k : Nat, z = (k : Int) + 1 := ⟨(z - 1).toNat, by omega⟩
      have hk1 : k + 1 < n' := by omega
      obtain ⟨b0, off0, rfl, hb0, hcx⟩ := (hx.2.below hwr).num hk1
      have hl1 : k + 1 < b.opens.length := by rw [Hlen.out.2]; exact hk1
      have g1 := hcx hl1
      clear hcx
      have hng := hitB_neg (name := name) hl1
      have hfr := hitB_far (name := name) hl1
      have hat := fun j => hitB_at (name := name) (j := j) hl1
      generalize b.opens[k + 1] = o at *
      have hclm : hitB b name (k + 1) = false → Hid (clsF b name (n' - 1) = clsF b name k) := fun h => by
        show _ = _
        rw [hcl.out, show ((k : Int) + 1).toNat = k + 1 by omega, clsF_miss h]
      have hclh : hitB b name (k + 1) = true → Hid (clsF b name (n' - 1) = k + 1) := fun h => by
        show _ = _
        rw [hcl.out, show ((k : Int) + 1).toNat = k + 1 by omega, clsF_hit h]
      clear hcl
      by_cases ho : 0 ≤ o ∧ o < n
      · obtain ⟨j, rfl⟩ := Int.eq_ofNat_of_zero_le ho.1
        have hj : j < n := by omega
        obtain ⟨b1, off1, rfl, hb1, hcy⟩ := (hx.1.below hwr).nod hj
        have hl2 : j < b.nodes.length := by rw [Hlen.out.1]; exact hj
        obtain ⟨Ax, cx, hrk, e0, e1, e2, e3⟩ := hcy hl2
        have hh := hat j rfl hl2
        clear hng hfr hat hcy hrk e1 e2 e3
        have hq : inR (j : Int) 0 ((n : Int) - 1) = true := inR_mk (by omega) (by omega)
        generalize b.nodes[j].name = nm at *
        have hd : (0 : Int) ≤ (j : Int) := by omega
        have hd2 : (j : Int) < (n : Int) := by omega
        by_cases hqq : nm = name
        · subst hqq
          have hcl2 := hclh (by rw [hh]; simp)
          clear hclm hclh hh
          have hq2 : (nm.toList == nm.toList) = true := by simp
          have hk9 : (k : Int) + 1 ≤ (c' : Int) := by omega
          have hkk : (0 : Int) ≤ (k : Int) + 1 := by omega
          have st2 := st'.put1 (.slice (some ⟨b0, off0, none⟩) (k + 1) c')
          obtain ⟨⟨p00, p01, p02, p03⟩, ⟨p10, p11, p12, p13⟩⟩ := st2.facts
          go_wp2_with (go_at_call 50; refine (inRange_spec _ _ _ _).mono ?_; rintro e w' ⟨rfl, rfl⟩; rw [hq])
          refine bodyPost_ret (v := .agg #[.slice (some ⟨b1, off1, none⟩) n c, .slice (some ⟨b0, off0, none⟩) (k + 1) c']) (by simp [results, Try.results41, go_sem, p00, p01, p10, p11, p12, p13]) rfl ⟨ret_b (by rw [hcl2.out]), st2.fin _ _⟩
        · have hcl2 := hclm (by rw [hh]; simpa using hqq)
          clear hclm hclh hh
          have hq2 := str_ne hqq
          go_wp2_with (go_at_call 50; refine (inRange_spec _ _ _ _).mono ?_; rintro e w' ⟨rfl, rfl⟩; rw [hq])
          go_roundw
          case rel => exact ⟨(k : Int), by go_num, by omega, by omega, hcl2, hbel⟩
          case measure => simp [intOf]
      · have hq : inR o 0 ((n : Int) - 1) = false := by simp [inR]; omega
        have hcl2 := hclm (by
          rcases Int.lt_or_le o 0 with h | h
          · exact hng h
          · exact hfr (by rw [Hlen.out.1]; omega))
        clear hclm hclh hng hfr hat ho
        go_wp2_with (go_at_call 50; refine (inRange_spec _ _ _ _).mono ?_; rintro e w' ⟨rfl, rfl⟩; rw [hq])
        go_roundw
        case rel => exact ⟨(k : Int), by go_num, by omega, by omega, hcl2, hbel⟩
        case measure => simp [intOf]
    · have hcl2 : Hid (n' = clsF b name (n' - 1)) := by
        show _ = _
        rw [hcl.out, show z.toNat = 0 by omega, clsF, Hlen.out.2]
      clear hcl
      go_wp2
      refine bodyPost_ret (v := .agg #[.slice A n c, .slice A' n' c']) (by simp [results, Try.results41, go_sem, f00, f01, f10, f11, f12, f13]) rfl ⟨ret_b (by rw [← hcl2.out]), st'.fin _ _⟩

set_option maxHeartbeats 1000000 in
theorem addToken_spec_close {A A' At : Option Addr} {n c n' c' ct m : Nat} {b : Bld} {name text : ByteArray} (w : World) (hx : ReadsB w w.heap.size A n A' n' b) (hn : n ≤ 1073741824) (hn' : n' ≤ 1073741824) (hka : ∀ a ∈ b.nodes, a.attrs.length ≤ 1073741824) :
    Calls Try.prog 16 #[.agg #[.slice A n c, .slice A' n' c'], .agg #[.int .i64 2, .string name, .slice At m ct, .string text]] w (GotBI w 33 104 3 (⟨b.nodes, b.opens.take (clsF b name (n' - 1))⟩, -1)) := by
  have hlen := Lib.hid hx.len
  have hb3 : Below w.heap.size w _ := (((Below.refl _ w).alloc (Nat.le_refl _) (.cells #[.slice A n c, .slice A' n' c'] 27)).alloc (by simp) (.cells #[.int .i64 2, .string name, .slice At m ct, .string text] 40)).alloc (by simp; omega) (.cells #[.slice none 0 0, .slice none 0 0] 27)
  have hx3 := hx.next hb3
  have hor := clsF_or b name (n' - 1)
  rw [hlen.out.2] at hor
  go_enter Try.func16, Try.ntmps16
  go_wp2_with (first
    | (go_at_call 40
       refine (l6Copy_spec (b := b) _ hx3 hn hn' hka).mono ?_
       rintro e w4 ⟨A4, c4, A5, c5, L, rfl, o4, b4⟩
       simp only [World.size_alloc] at o4 b4
       have z4 := b4.size
       simp only [World.size_alloc] at z4
       obtain ⟨st, ow⟩ := AddAt.of o4 b4
       have cap := o4.opens.capLe
       unfold maxLen at cap
       have hrd := ow.own.rd (by simp)
       obtain ⟨⟨f00, f01⟩, ⟨f10, f11, f12, f13⟩, ⟨f20, f21, f22, f23⟩, ⟨f30, f31, f32, f33⟩⟩ := st.facts)
    | (go_at_call 41
       refine (l6Close_spec (b := b) name _ hrd hn hn' cap.1 (by omega)).mono ?_
       rintro e w6 ⟨rfl, b6⟩
       have st6 := st.next b6
       obtain ⟨⟨h00, h01⟩, ⟨h10, h11, h12, h13⟩, ⟨h20, h21, h22, h23⟩, ⟨h30, h31, h32, h33⟩⟩ := st6.facts))
  have ow6 := (ow.below b6).cut (m := clsF b name (n' - 1)) (by omega) (by omega)
  have z6 := b6.size
  simp only [World.size_alloc] at z6
  obtain ⟨ob, bl⟩ := st6.fin ow6 (by omega) (.slice A4 n c4) (.slice A5 (clsF b name (n' - 1)) c5)
  exact bodyPost_ret (v := .tuple #[.agg #[.slice A4 n c4, .slice A5 (clsF b name (n' - 1)) c5], .int .i64 (-1)]) (by simp [results, Try.results16, go_sem, h20, h21, h22, h23]) rfl (GotBI.of rfl hlen.out.1 (by have := hlen.out.2; simp; omega) ob bl)
theorem last_at {l : List Int} {p : Nat} (h : l.length = p + 1) : ∃ par, l[p]? = some par ∧ l.getLastD 0 = par := by
  have hp : p < l.length := by omega
  refine ⟨l[p], List.getElem?_eq_getElem hp, ?_⟩
  rw [List.getLastD_eq_getLast?, List.getLast?_eq_getElem?, h, Nat.add_sub_cancel, List.getElem?_eq_getElem hp]
  rfl
theorem addB_k1 {b : Bld} {name text : ByteArray} {attrs : List S2} (vv : Bool) (hv : voidB name = vv) (hf : b.nodes.length < 40) (h0 : b.opens.length ≠ 0) (h8 : vv = true ∨ b.opens.length < 8) :
    addB b ⟨1, name, attrs, text⟩ = (⟨b.nodes ++ [⟨name, ⟨#[]⟩, b.opens.getLastD 0, attrs⟩], if vv then b.opens else b.opens ++ [(b.nodes.length : Int)]⟩, (b.nodes.length : Int)) := by
  rw [addB_add (by simp) (by simp [addsB]) (by
    simp only [fullB, hv]
    rcases h8 with h8 | h8 <;> simp [h8, h0] <;> omega)]
  cases vv <;> simp [newNode, addOpens, hv]
theorem addB_k3 {b : Bld} {name text : ByteArray} {attrs : List S2} (ht : 0 < text.size) (hf : b.nodes.length < 40) (h0 : b.opens.length ≠ 0) :
    addB b ⟨3, name, attrs, text⟩ = (⟨b.nodes ++ [⟨⟨#[]⟩, text, b.opens.getLastD 0, []⟩], b.opens⟩, (b.nodes.length : Int)) := by
  have hne : ¬ text = ⟨#[]⟩ := by rintro rfl; exact absurd ht (by simp [ByteArray.size])
  rw [addB_add (by simp) (by simp [addsB, hne]) (by simp [fullB, h0]; omega)]
  simp [newNode, addOpens]
theorem addB_full {b : Bld} {t : Tok} (hk : t.kind ≠ 2) (h : 40 ≤ b.nodes.length ∨ b.opens.length = 0 ∨ (t.kind = 1 ∧ voidB t.name = false ∧ 8 ≤ b.opens.length)) : addB b t = (b, -1) := by
  refine addB_stay hk (.inr ?_)
  rcases h with h | h | ⟨h1, h2, h3⟩
  · simp [fullB, h]
  · simp [fullB, h]
  · simp [fullB, h1, h2, h3]
theorem addB_none {b : Bld} {t : Tok} (h1 : t.kind ≠ 1) (h2 : t.kind ≠ 2) (h3 : t.kind ≠ 3 ∨ t.text = ⟨#[]⟩) : addB b t = (b, -1) := by
  refine addB_stay h2 (.inl ?_)
  rcases h3 with h3 | h3 <;> simp [addsB, h1, h3]
set_option maxHeartbeats 1000000 in
theorem addToken_impl {A A' At : Option Addr} {n c n' c' ct : Nat} {b : Bld} {t : Tok} (w : World) (hx : ReadsB w w.heap.size A n A' n' b) (hn : n ≤ 1073741824) (hn' : n' ≤ 1073741824) (hka : ∀ a ∈ b.nodes, a.attrs.length ≤ 1073741824)
    (hi : ∀ z ∈ b.opens, -9223372036854775808 ≤ z ∧ z ≤ 9223372036854775807) (ht : Reads w w.heap.size 2 At t.attrs.length (s2V t.attrs)) (hm : t.attrs.length ≤ 1073741824) :
    Calls Try.prog 15 #[.agg #[.slice A n c, .slice A' n' c'], .agg #[.int .i64 t.kind, .string t.name, .slice At t.attrs.length ct, .string t.text]] w (GotBI w 33 104 3 (addB b t)) := by
  have hlen := hx.len
  by_cases k2 : t.kind = 2
  · exact addToken_impl_close w hx hn hn' hka hi k2
  obtain ⟨kind, name, attrs, text⟩ := t
  simp only at k2 ht hm ⊢
  by_cases k1 : kind = 1
  · subst k1
    by_cases h40 : 40 ≤ n
    · rw [addB_full k2 (.inl (by omega))]
      cases hv : voidB name
      · exact addToken_impl_stay_k1a_false (kind := 0) w hx hn hn' hka hv h40
      · exact addToken_impl_stay_k1a_true (kind := 0) w hx hn hn' hka hv h40
    rcases n' with _ | p
    · rw [addB_full k2 (.inr (.inl hlen.2))]
      cases hv : voidB name
      · exact addToken_impl_stay_k1b_false (kind := 0) w hx hn hn' hka hv (by omega)
      · exact addToken_impl_stay_k1b_true (kind := 0) w hx hn hn' hka hv (by omega)
    obtain ⟨par, hp, hl⟩ := last_at hlen.2
    cases hv : voidB name
    · by_cases h8 : p + 1 < 8
      · rw [addB_k1 false hv (by omega) (by omega) (.inr (by omega)), hl, hlen.1]
        exact addToken_impl_add_k1f w hx hn hn' hka ht hm hp hv (by omega) h8
      · rw [addB_full k2 (.inr (.inr ⟨rfl, hv, by omega⟩))]
        exact addToken_impl_stay_k1c (kind := 0) w hx hn hn' hka hv (by omega) (by omega) (by omega)
    · rw [addB_k1 true hv (by omega) (by omega) (.inl rfl), hl, hlen.1]
      exact addToken_impl_add_k1t w hx hn hn' hka ht hm hp hv (by omega)
  by_cases k3 : kind = 3
  · subst k3
    by_cases ht0 : text.size = 0
    · obtain rfl := bytes_nil ht0
      rw [addB_none k1 k2 (.inr rfl)]
      exact addToken_impl_stay_k3e (kind := 0) (text := ⟨#[]⟩) w hx hn hn' hka
    by_cases h40 : 40 ≤ n
    · rw [addB_full k2 (.inl (by omega))]
      exact addToken_impl_stay_k3a (kind := 0) w hx hn hn' hka (by omega) h40
    rcases n' with _ | p
    · rw [addB_full k2 (.inr (.inl hlen.2))]
      exact addToken_impl_stay_k3b (kind := 0) w hx hn hn' hka (by omega) (by omega)
    obtain ⟨par, hp, hl⟩ := last_at hlen.2
    rw [addB_k3 (by omega) (by omega) (by omega), hl, hlen.1]
    exact addToken_impl_add_k3 w hx hn hn' hka ht hm hp (by omega) (by omega)
  · rw [addB_none k1 k2 (.inl k3)]
    exact addToken_impl_stay_ko w hx hn hn' hka k1 k2 k3
set_option maxHeartbeats 1000000 in
theorem addToken_spec {A A' At : Option Addr} {n c n' c' ct : Nat} {b : Bld} {t : Tok} (w : World) (hx : ReadsB w w.heap.size A n A' n' b) (hn : n ≤ 1073741824) (hn' : n' ≤ 1073741824) (hka : ∀ a ∈ b.nodes, a.attrs.length ≤ 1073741824)
    (ht : Reads w w.heap.size 2 At t.attrs.length (s2V t.attrs)) (hm : t.attrs.length ≤ 1073741824) :
    Calls Try.prog 16 #[.agg #[.slice A n c, .slice A' n' c'], .agg #[.int .i64 t.kind, .string t.name, .slice At t.attrs.length ct, .string t.text]] w (GotBI w 33 104 3 (addB b t)) := by
  have hlen := hx.len
  obtain ⟨kind, name, attrs, text⟩ := t
  simp only at ht hm ⊢
  by_cases k2 : kind = 2
  · subst k2
    rw [addB_close rfl, hlen.2]
    exact addToken_spec_close w hx hn hn' hka
  by_cases k1 : kind = 1
  · subst k1
    by_cases h40 : 40 ≤ n
    · rw [addB_full k2 (.inl (by omega))]
      cases hv : voidB name
      · exact addToken_spec_stay_k1a_false (kind := 0) w hx hn hn' hka hv h40
      · exact addToken_spec_stay_k1a_true (kind := 0) w hx hn hn' hka hv h40
    rcases n' with _ | p
    · rw [addB_full k2 (.inr (.inl hlen.2))]
      cases hv : voidB name
      · exact addToken_spec_stay_k1b_false (kind := 0) w hx hn hn' hka hv (by omega)
      · exact addToken_spec_stay_k1b_true (kind := 0) w hx hn hn' hka hv (by omega)
    obtain ⟨par, hp, hl⟩ := last_at hlen.2
    cases hv : voidB name
    · by_cases h8 : p + 1 < 8
      · rw [addB_k1 false hv (by omega) (by omega) (.inr (by omega)), hl, hlen.1]
        exact addToken_spec_add_k1f w hx hn hn' hka ht hm hp hv (by omega) h8
      · rw [addB_full k2 (.inr (.inr ⟨rfl, hv, by omega⟩))]
        exact addToken_spec_stay_k1c (kind := 0) w hx hn hn' hka hv (by omega) (by omega) (by omega)
    · rw [addB_k1 true hv (by omega) (by omega) (.inl rfl), hl, hlen.1]
      exact addToken_spec_add_k1t w hx hn hn' hka ht hm hp hv (by omega)
  by_cases k3 : kind = 3
  · subst k3
    by_cases ht0 : text.size = 0
    · obtain rfl := bytes_nil ht0
      rw [addB_none k1 k2 (.inr rfl)]
      by_cases h40 : 40 ≤ n
      · exact addToken_spec_stay_k3ea (kind := 0) (text := ⟨#[]⟩) w hx hn hn' hka h40
      rcases n' with _ | p
      · exact addToken_spec_stay_k3eb (kind := 0) (text := ⟨#[]⟩) w hx hn hn' hka (by omega)
      obtain ⟨par, hp, hl⟩ := last_at hlen.2
      exact addToken_spec_stay_k3ec (kind := 0) (text := ⟨#[]⟩) w hx hn hn' hka hp (by omega)
    by_cases h40 : 40 ≤ n
    · rw [addB_full k2 (.inl (by omega))]
      exact addToken_spec_stay_k3a (kind := 0) w hx hn hn' hka (by omega) h40
    rcases n' with _ | p
    · rw [addB_full k2 (.inr (.inl hlen.2))]
      exact addToken_spec_stay_k3b (kind := 0) w hx hn hn' hka (by omega) (by omega)
    obtain ⟨par, hp, hl⟩ := last_at hlen.2
    rw [addB_k3 (by omega) (by omega) (by omega), hl, hlen.1]
    exact addToken_spec_add_k3 w hx hn hn' hka ht hm hp (by omega) (by omega)
  · rw [addB_none k1 k2 (.inl k3)]
    by_cases h40 : 40 ≤ n
    · exact addToken_spec_stay_koa w hx hn hn' hka k1 k2 k3 h40
    rcases n' with _ | p
    · exact addToken_spec_stay_kob w hx hn hn' hka k1 k2 k3 (by omega)
    obtain ⟨par, hp, hl⟩ := last_at hlen.2
    exact addToken_spec_stay_koc w hx hn hn' hka hp k1 k2 k3 (by omega)
end Go.Proofs.Ytleopmeaaabejaa
