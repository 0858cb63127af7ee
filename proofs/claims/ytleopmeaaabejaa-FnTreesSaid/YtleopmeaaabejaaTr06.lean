/-
  The law FnTexts: its walk. No condition.
-/
import Derived.Test.YtleopmeaaabejaaTr01
import Derived.Test.YtleopmeaaabejaaP10
import Derived.Test.YtleopmeaaabejaaP09
namespace Go.Proofs.Ytleopmeaaabejaa
set_option linter.unusedVariables false
set_option linter.unusedSimpArgs false
set_option maxRecDepth 100000
open Go.ChangeShapes Go.WideShapes Go.ChangeAt Go.RowKit Go.Deep

/-- a drawn builder in a box of the law's -/
structure BoxB (g : Nat) (T : TypeId) (A : Option Addr) (c : Nat) (A' : Option Addr) (c' : Nat) (b : Bld) (W : World) : Prop where
  box : BoxAt W g [.slice A b.nodes.length c, .slice A' b.opens.length c'] T
  rd : ReadsB W W.heap.size A b.nodes.length A' b.opens.length b
section
variable {g : Nat} {T e ek ei : TypeId} {A : Option Addr} {c : Nat} {A' : Option Addr} {c' : Nat} {b : Bld} {W W' : World} {L : List (Nod × Hd)}
theorem BoxB.new {lo : Nat} (o : OwnB W lo W.heap.size e ek ei A b.nodes.length c A' b.opens.length c' b L) : BoxB W.heap.size T A c A' c' b (W.alloc (.cells #[.slice A b.nodes.length c, .slice A' b.opens.length c'] T)) :=
  have al : Below W.heap.size W (W.alloc (.cells #[.slice A b.nodes.length c, .slice A' b.opens.length c'] T)) := (Below.refl _ _).alloc (Nat.le_refl _) _
  ⟨BoxAt.new rfl _ _, (o.rd (Nat.le_refl _)).next al⟩
theorem BoxB.next (h : BoxB g T A c A' c' b W) (hb : Below W.heap.size W W') : BoxB g T A c A' c' b W' := ⟨h.box.next hb, h.rd.next hb⟩
theorem BoxB.cells (h : BoxB g T A c A' c' b W) : W.cell? ⟨g, 0, none⟩ = some (.slice A b.nodes.length c) ∧ W.cell? ⟨g, 1, none⟩ = some (.slice A' b.opens.length c') := h.box.two'.1
end
theorem text_le {b : Bld} (h : SmallB b) {k : Nat} (hk : k < b.nodes.length) : b.nodes[k].text.size ≤ 50000 := by
  have h1 := h.sz b.nodes[k] (List.getElem_mem _)
  have h2 := s2sz_nonneg b.nodes[k].attrs
  unfold nodSz at h1
  omega
theorem textN_le {b : Bld} (h : SmallB b) (n : Int) (k : Nat) : (textN (b.nodes.take k) n).size ≤ 2050000 := by
  have h1 := textN_size (b.nodes.take k) n
  have h2 := h.size
  rcases Nat.lt_or_ge b.nodes.length k with h3 | h3
  · rw [List.take_of_length_le (by omega)] at h1 ⊢
    omega
  · have h4 := nodsSz_le (l := b.nodes) (k := k) h3
    omega
set_option maxHeartbeats 4000000 in
theorem texts_walk (w : World) (A : Option Addr) (n c : Nat) (zs : List Int) (ha : ArgInts .u8 w A n zs) : Calls Try.prog 3 #[.slice A n c] w fun e w' => e = .returned (.bool true) ∧ Below w.heap.size w w' := by
  obtain ⟨hl, hmx, hx, hwf⟩ := ha
  have hz : ∀ z ∈ zs, 0 ≤ z ∧ z ≤ 255 := u8_all hwf
  clear hwf hl
  by_cases hn : n ≤ 1048576
  · go_enter Try.func3, Try.ntmps3
    go_wp2_with (fail)
    go_at_call 6
    refine (big_no _ hn).mono ?_
    rintro e w0 ⟨rfl, rfl⟩
    go_wp2_with (fail)
    go_at_call 7
    refine (drawTextOf_any _ hx hn hz).mono ?_
    rintro e w1 ⟨b, A1, c1, A1', c1', L1, x, hs, ⟨nn, g1, g2, rfl⟩, rfl, o1, hb⟩
    have al : Below w1.heap.size w1 (w1.alloc (.cells #[.slice A1 b.nodes.length c1, .slice A1' b.opens.length c1'] 27)) := (Below.refl _ _).alloc (Nat.le_refl _) _
    have b3 := BoxB.new (T := 27) o1
    replace hx := (hx.next hb).next al
    replace hb := hb.trans (al.mono hb.size)
    have hsz := hs.size
    have hno := hs.nodes
    obtain ⟨K0, K1⟩ := b3.cells
    go_wp2_with (fail)
    generalize w1.alloc (.cells #[.slice A1 b.nodes.length c1, .slice A1' b.opens.length c1'] 27) = W1 at *
    clear al o1
    go_at_call 8
    refine (textOf_impl b nn _ b3.rd (by omega) (by omega) (by omega) (by omega)).mono ?_
    rintro e W2 ⟨rfl, b2⟩
    replace hx := hx.next b2
    replace hb := hb.trans (b2.mono hb.size)
    replace b3 := b3.next b2
    clear b2 K0 K1
    obtain ⟨K0, K1⟩ := b3.cells
    have hTX : Hid (textN (b.nodes.take b.nodes.length) nn = textN b.nodes nn) := by show _ = _; rw [List.take_of_length_le (Nat.le_refl _)]
    have hTs : (textN b.nodes nn).size ≤ 2050000 := by have := textN_le hs nn b.nodes.length; rw [hTX.out] at this; exact this
    have hTsp := fun W (h : ReadsB W W.heap.size A1 b.nodes.length A1' b.opens.length b) => textOf_spec (c := c1) (c' := c1') b nn W h (by omega) (by omega) (by omega) (by omega)
    have htl := fun k => textN_le hs nn k
    have hte := fun k hk => text_le hs (k := k) hk
    obtain ⟨TX, hTX2⟩ : ∃ TX, TX = textN b.nodes nn := ⟨_, rfl⟩
    rw [← hTX2] at hTX hTs hTsp ⊢
    have hRn := b3.rd.1
    go_wp2_with (fail)
    go_loop [6, 7] (fun s i => ∃ k m : Nat, k ≤ b.nodes.length ∧ i = .int .i64 k ∧ s = .int .i64 m ∧ m ≤ 2050000 ∧ Hid (m = (textN (b.nodes.take k) nn).size)) (fun _ i => b.nodes.length - (intOf i).toNat)
    case atStart => exact ⟨0, 0, Nat.zero_le _, rfl, rfl, Nat.zero_le _, rfl⟩
    case round =>
      obtain ⟨k, m, hk, rfl, rfl, hm0, hcur⟩ := hrel
      by_cases hlt : k < b.nodes.length
      · obtain ⟨b0, off0, rfl, hab, hcx⟩ := hRn.nod hlt
        obtain ⟨Ax, cx, hr, hc0, hc1, hc2, hc3⟩ := hcx hlt
        have hk0 : (0 : Int) ≤ (k : Int) := Int.natCast_nonneg _
        have hk9 : (k : Int) < (b.nodes.length : Int) := by omega
        have hmn := htl (k + 1)
        have hxt := hte k hlt
        by_cases hy : isText b.nodes[k] nn
        · rw [textN_yes hlt hy, ByteArray.size_append, ← hcur.out] at hmn
          have hm : Hid (m + b.nodes[k].text.size = (textN (b.nodes.take (k + 1)) nn).size) := by show _ = _; rw [textN_yes hlt hy, ByteArray.size_append, ← hcur.out]
          obtain ⟨hp, hz0⟩ := hy
          have hn0 := bytes_nil hz0
          generalize b.nodes[k] = x at *
          obtain ⟨xn, xt, xp, xa⟩ := x
          simp only at *
          subst hp hn0
          clear hcx hr hcur hz0 htl hte hTsp hx hb hRn
          go_wp2
          go_round
          case rel => exact ⟨k + 1, m + xt.size, by omega, by go_num, by go_num, by omega, hm⟩
          case measure => simp [intOf]; omega
        · have hm : Hid (m = (textN (b.nodes.take (k + 1)) nn).size) := by show _ = _; rw [textN_no hlt hy]; exact hcur.out
          generalize b.nodes[k] = x at *
          obtain ⟨xn, xt, xp, xa⟩ := x
          simp only at *
          clear hcx hr hcur htl hte hTsp hx hb hRn
          by_cases hz0 : xn.size = 0
          · have hp : ¬ xp = nn := fun h => hy ⟨h, hz0⟩
            have hn0 := bytes_nil hz0
            subst hn0
            have e1 : (xp == nn) = false := by simpa using hp
            clear hy hz0 hp
            go_wp2
            go_round
            case rel => exact ⟨k + 1, m, by omega, by go_num, rfl, by omega, hm⟩
            case measure => simp [intOf]; omega
          · have e1 := toList_ne hz0
            clear hy hz0
            go_wp2
            go_round
            case rel => exact ⟨k + 1, m, by omega, by go_num, rfl, by omega, hm⟩
            case measure => simp [intOf]; omega
      · obtain rfl : k = b.nodes.length := by omega
        have hmT := hcur.out
        rw [hTX.out] at hmT
        subst hmT
        clear hcur htl hte hRn hTX
        go_wp2_with (fail)
        go_at_call 9
        refine (drawCountName_any _ hx hn hz).mono ?_
        rintro e w4 ⟨b', A4, c4, A4', c4', L4, x, hs', ⟨nm, rfl⟩, rfl, o4, b4⟩
        have al : Below w4.heap.size w4 (w4.alloc (.cells #[.slice A4 b'.nodes.length c4, .slice A4' b'.opens.length c4'] 27)) := (Below.refl _ _).alloc (Nat.le_refl _) _
        have b8 := BoxB.new (T := 27) o4
        replace hx := (hx.next b4).next al
        replace b3 := (b3.next b4).next al
        replace hb := (hb.trans (b4.mono hb.size)).trans (al.mono (by have := b4.size; have := hb.size; omega))
        have hno' := hs'.nodes
        clear K0 K1
        obtain ⟨K0, K1⟩ := b3.cells
        obtain ⟨M0, M1⟩ := b8.cells
        have hRn := b8.rd.1
        have hCN : Hid (cntN (b'.nodes.take b'.nodes.length) nm = cntN b'.nodes nm) := by show _ = _; rw [List.take_of_length_le (Nat.le_refl _)]
        have hCi := fun W (h : ReadsB W W.heap.size A4 b'.nodes.length A4' b'.opens.length b') => countName_impl (c := c4) (c' := c4') b' nm W h (by omega)
        have hCl := cntN_le b'.nodes nm
        obtain ⟨CN, hCN2⟩ : ∃ CN, CN = cntN b'.nodes nm := ⟨_, rfl⟩
        rw [← hCN2] at hCN hCi hCl
        clear al b4 o4
        go_wp2_with (fail)
        generalize w4.alloc (.cells #[.slice A4 b'.nodes.length c4, .slice A4' b'.opens.length c4'] 27) = W4 at *
        go_loop [10, 11] (fun s i => ∃ k m : Nat, k ≤ b'.nodes.length ∧ i = .int .i64 k ∧ s = .int .i64 m ∧ m ≤ k ∧ Hid (m = cntN (b'.nodes.take k) nm)) (fun _ i => b'.nodes.length - (intOf i).toNat)
        case atStart => exact ⟨0, 0, Nat.zero_le _, rfl, rfl, Nat.zero_le _, (by simp [cntN] : 0 = cntN (b'.nodes.take 0) nm)⟩
        case round =>
          obtain ⟨k, m, hk, rfl, rfl, hm0, hcur⟩ := hrel
          by_cases hlt : k < b'.nodes.length
          · obtain ⟨b0, off0, rfl, hab, hcx⟩ := hRn.nod hlt
            obtain ⟨Ax, cx, hr, hc0, hc1, hc2, hc3⟩ := hcx hlt
            have hk0 : (0 : Int) ≤ (k : Int) := Int.natCast_nonneg _
            have hk9 : (k : Int) < (b'.nodes.length : Int) := by omega
            cases he : (b'.nodes[k].name.toList == nm.toList)
            · have hm : Hid (m = cntN (b'.nodes.take (k + 1)) nm) := by show _ = _; rw [cntN_no hlt he]; exact hcur.out
              generalize b'.nodes[k] = x at *
              clear hcx hr hcur hCi hTsp hx hb hRn
              go_wp2
              go_round
              case rel => exact ⟨k + 1, m, by omega, by go_num, rfl, by omega, hm⟩
              case measure => simp [intOf]; omega
            · have hm : Hid (m + 1 = cntN (b'.nodes.take (k + 1)) nm) := by show _ = _; rw [cntN_yes hlt he, ← hcur.out]
              generalize b'.nodes[k] = x at *
              clear hcx hr hcur hCi hTsp hx hb hRn
              go_wp2
              go_round
              case rel => exact ⟨k + 1, m + 1, by omega, by go_num, by go_num, by omega, hm⟩
              case measure => simp [intOf]; omega
          · obtain rfl : k = b'.nodes.length := by omega
            have hmC := hcur.out
            rw [hCN.out] at hmC
            subst hmC
            clear hcur hRn hCN
            go_wp2_with (fail)
            go_at_call 10
            refine (drawIsVoid_any _ hx hn hz).mono ?_
            rintro e w5 ⟨v, rfl, b5⟩
            replace b3 := b3.next b5
            replace b8 := b8.next b5
            replace hb := hb.trans (b5.mono hb.size)
            clear hx b5 K0 K1 M0 M1
            obtain ⟨K0, K1⟩ := b3.cells
            go_wp2_with (fail)
            go_at_call 11
            refine (hTsp _ b3.rd).mono ?_
            rintro e w6 ⟨rfl, b6⟩
            replace b8 := b8.next b6
            replace hb := hb.trans (b6.mono hb.size)
            obtain ⟨M0, M1⟩ := b8.cells
            clear K0 K1 hTsp
            go_wp2_with (fail)
            go_at_call 12
            refine (hCi _ b8.rd).mono ?_
            rintro e w7 ⟨rfl, b7⟩
            replace hb := hb.trans (b7.mono hb.size)
            clear M0 M1 hCi
            have hv := fun W => isVoid_impl v W
            rw [voidB_eq] at hv
            cases e1 : (v.toList == [105, 109, 103])
            · cases e2 : (v.toList == [108, 105, 110, 107])
              · rw [e1, e2] at hv
                go_wp2_with (fail)
                go_at_call 13
                refine (hv _).mono ?_
                rintro e w8 ⟨rfl, rfl⟩
                go_wp2
                go_ret
                exact ⟨rfl, hb⟩
              · rw [e1, e2] at hv
                go_wp2_with (fail)
                go_at_call 13
                refine (hv _).mono ?_
                rintro e w8 ⟨rfl, rfl⟩
                go_wp2
                go_ret
                exact ⟨rfl, hb⟩
            · rw [e1] at hv
              simp only [Bool.true_or] at hv
              go_wp2_with (fail)
              go_at_call 13
              refine (hv _).mono ?_
              rintro e w8 ⟨rfl, rfl⟩
              go_wp2
              go_ret
              exact ⟨rfl, hb⟩
  · go_enter Try.func3, Try.ntmps3
    go_wp2_with (go_at_call 6; refine (big_yes _ hn hmx).mono ?_; rintro e w0 ⟨rfl, rfl⟩)
    go_ret
    exact ⟨rfl, Below.refl _ _⟩
end Go.Proofs.Ytleopmeaaabejaa
