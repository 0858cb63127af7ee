/-
  The law FnTexts: its walk. No condition.
  The closed facts of the seat's program that every row asks, each proved once. No condition.
  Proved: each named law of this file returns true for every input, and its arguments read afterwards as before. No condition.
-/
import Derived.Test.YtleopmeaaabejaaTx01
import Derived.Test.YtleopmeaaabejaaP10
import Derived.Test.YtleopmeaaabejaaP09
import Derived.Test.YtleopmeaaabejaaRows
import Derived.JoinedOf
import Derived.KernelRfl
namespace Go.Proofs.Ytleopmeaaabejaa
set_option linter.unusedVariables false
set_option linter.unusedSimpArgs false
set_option maxRecDepth 100000
open Go.ChangeShapes Go.WideShapes Go.ChangeAt Go.RowKit Go.Deep

/-- a drawn builder in a box of the law's -/
structure BoxB (g : Nat) (T : TypeId) (A : Option Addr) (c : Nat) (A' : Option Addr) (c' : Nat) (b : Bld) (W : World) : Prop where
  box : BoxAt W g [.slice A b.nodes.length c, .slice A' b.opens.length c'] T
  rd : ReadsB W W.heap.size A b.nodes.length A' b.opens.length b
section
variable {g : Nat} {T e ek ei : TypeId} {A : Option Addr} {c : Nat} {A' : Option Addr} {c' : Nat} {b : Bld} {W W' : World} {L : List (Nod × Hd)}
theorem BoxB.new {lo : Nat} (o : OwnB W lo W.heap.size e ek ei A b.nodes.length c A' b.opens.length c' b L) : BoxB W.heap.size T A c A' c' b (W.alloc (.cells #[.slice A b.nodes.length c, .slice A' b.opens.length c'] T)) :=
  have al : Below W.heap.size W (W.alloc (.cells #[.slice A b.nodes.length c, .slice A' b.opens.length c'] T)) := (Below.refl _ _).alloc (Nat.le_refl _) _
  ⟨BoxAt.new rfl _ _, (o.rd (Nat.le_refl _)).next al⟩
theorem BoxB.next (h : BoxB g T A c A' c' b W) (hb : Below W.heap.size W W') : BoxB g T A c A' c' b W' := ⟨h.box.next hb, h.rd.next hb⟩
theorem BoxB.cells (h : BoxB g T A c A' c' b W) : W.cell? ⟨g, 0, none⟩ = some (.slice A b.nodes.length c) ∧ W.cell? ⟨g, 1, none⟩ = some (.slice A' b.opens.length c') := h.box.two'.1
end
theorem text_le {b : Bld} (h : SmallB b) {k : Nat} (hk : k < b.nodes.length) : b.nodes[k].text.size ≤ 50000 := by
  have h1 := h.sz b.nodes[k] (List.getElem_mem _)
  have h2 := s2sz_nonneg b.nodes[k].attrs
  unfold nodSz at h1
  omega
theorem textN_le {b : Bld} (h : SmallB b) (n : Int) (k : Nat) : (textN (b.nodes.take k) n).size ≤ 2050000 := by
  have h1 := textN_size (b.nodes.take k) n
  have h2 := h.size
  rcases Nat.lt_or_ge b.nodes.length k with h3 | h3
  · rw [List.take_of_length_le (by omega)] at h1 ⊢
    omega
  · have h4 := nodsSz_le (l := b.nodes) (k := k) h3
    omega
set_option maxHeartbeats 4000000 in
theorem texts_walk (w : World) (A : Option Addr) (n c : Nat) (zs : List Int) (ha : ArgInts .u8 w A n zs) : Calls Try.prog 3 #[.slice A n c] w fun e w' => e = .returned (.bool true) ∧ Below w.heap.size w w' := by
  obtain ⟨hl, hmx, hx, hwf⟩ := ha
  have hz : ∀ z ∈ zs, 0 ≤ z ∧ z ≤ 255 := u8_all hwf
  clear hwf hl
  by_cases hn : n ≤ 1048576
  · go_enter Try.func3, Try.ntmps3
    go_wp2_with (fail)
    go_at_call 6
    refine (big_no _ hn).mono ?_
    rintro e w0 ⟨rfl, rfl⟩
    go_wp2_with (fail)
    go_at_call 7
    refine (drawTextOf_any _ hx hn hz).mono ?_
    rintro e w1 ⟨b, A1, c1, A1', c1', L1, x, hs, ⟨nn, g1, g2, rfl⟩, rfl, o1, hb⟩
    have al : Below w1.heap.size w1 (w1.alloc (.cells #[.slice A1 b.nodes.length c1, .slice A1' b.opens.length c1'] 27)) := (Below.refl _ _).alloc (Nat.le_refl _) _
    have b3 := BoxB.new (T := 27) o1
    replace hx := (hx.next hb).next al
    replace hb := hb.trans (al.mono hb.size)
    have hsz := hs.size
    have hno := hs.nodes
    obtain ⟨K0, K1⟩ := b3.cells
    go_wp2_with (fail)
    generalize w1.alloc (.cells #[.slice A1 b.nodes.length c1, .slice A1' b.opens.length c1'] 27) = W1 at *
    clear al o1
    go_at_call 8
    refine (textOf_impl b nn _ b3.rd (by omega) (by omega) (by omega) (by omega)).mono ?_
    rintro e W2 ⟨rfl, b2⟩
    replace hx := hx.next b2
    replace hb := hb.trans (b2.mono hb.size)
    replace b3 := b3.next b2
    clear b2 K0 K1
    obtain ⟨K0, K1⟩ := b3.cells
    have hTX : Hid (textN (b.nodes.take b.nodes.length) nn = textN b.nodes nn) := by show _ = _; rw [List.take_of_length_le (Nat.le_refl _)]
    have hTs : (textN b.nodes nn).size ≤ 2050000 := by have := textN_le hs nn b.nodes.length; rw [hTX.out] at this; exact this
    have hTsp := fun W (h : ReadsB W W.heap.size A1 b.nodes.length A1' b.opens.length b) => textOf_spec (c := c1) (c' := c1') b nn W h (by omega) (by omega) (by omega) (by omega)
    have htl := fun k => textN_le hs nn k
    have hte := fun k hk => text_le hs (k := k) hk
    obtain ⟨TX, hTX2⟩ : ∃ TX, TX = textN b.nodes nn := ⟨_, rfl⟩
    rw [← hTX2] at hTX hTs hTsp ⊢
    have hRn := b3.rd.1
    go_wp2_with (fail)
    go_loop [6, 7] (fun s i => ∃ k m : Nat, k ≤ b.nodes.length ∧ i = .int .i64 k ∧ s = .int .i64 m ∧ m ≤ 2050000 ∧ Hid (m = (textN (b.nodes.take k) nn).size)) (fun _ i => b.nodes.length - (intOf i).toNat)
    case atStart => exact ⟨0, 0, Nat.zero_le _, rfl, rfl, Nat.zero_le _, rfl⟩
    case round =>
      obtain ⟨k, m, hk, rfl, rfl, hm0, hcur⟩ := hrel
      by_cases hlt : k < b.nodes.length
      · obtain ⟨b0, off0, rfl, hab, hcx⟩ := hRn.nod hlt
        obtain ⟨Ax, cx, hr, hc0, hc1, hc2, hc3⟩ := hcx hlt
        have hk0 : (0 : Int) ≤ (k : Int) := Int.natCast_nonneg _
        have hk9 : (k : Int) < (b.nodes.length : Int) := by omega
        have hmn := htl (k + 1)
        have hxt := hte k hlt
        by_cases hy : isText b.nodes[k] nn
        · rw [textN_yes hlt hy, ByteArray.size_append, ← hcur.out] at hmn
          have hm : Hid (m + b.nodes[k].text.size = (textN (b.nodes.take (k + 1)) nn).size) := by show _ = _; rw [textN_yes hlt hy, ByteArray.size_append, ← hcur.out]
          obtain ⟨hp, hz0⟩ := hy
          have hn0 := bytes_nil hz0
          generalize b.nodes[k] = x at *
          obtain ⟨xn, xt, xp, xa⟩ := x
          simp only at *
          subst hp hn0
          clear hcx hr hcur hz0 htl hte hTsp hx hb hRn
          go_wp2
          go_round
          case rel => exact ⟨k + 1, m + xt.size, by omega, by go_num, by go_num, by omega, hm⟩
          case measure => simp [intOf]; omega
        · have hm : Hid (m = (textN (b.nodes.take (k + 1)) nn).size) := by show _ = _; rw [textN_no hlt hy]; exact hcur.out
          generalize b.nodes[k] = x at *
          obtain ⟨xn, xt, xp, xa⟩ := x
          simp only at *
          clear hcx hr hcur htl hte hTsp hx hb hRn
          by_cases hz0 : xn.size = 0
          · have hp : ¬ xp = nn := fun h => hy ⟨h, hz0⟩
            have hn0 := bytes_nil hz0
            subst hn0
            have e1 : (xp == nn) = false := by simpa using hp
            clear hy hz0 hp
            go_wp2
            go_round
            case rel => exact ⟨k + 1, m, by omega, by go_num, rfl, by omega, hm⟩
            case measure => simp [intOf]; omega
          · have e1 := toList_ne hz0
            clear hy hz0
            go_wp2
            go_round
            case rel => exact ⟨k + 1, m, by omega, by go_num, rfl, by omega, hm⟩
            case measure => simp [intOf]; omega
      · obtain rfl : k = b.nodes.length := by omega
        have hmT := hcur.out
        rw [hTX.out] at hmT
        subst hmT
        clear hcur htl hte hRn hTX
        go_wp2_with (fail)
        go_at_call 9
        refine (drawCountName_any _ hx hn hz).mono ?_
        rintro e w4 ⟨b', A4, c4, A4', c4', L4, x, hs', ⟨nm, rfl⟩, rfl, o4, b4⟩
        have al : Below w4.heap.size w4 (w4.alloc (.cells #[.slice A4 b'.nodes.length c4, .slice A4' b'.opens.length c4'] 27)) := (Below.refl _ _).alloc (Nat.le_refl _) _
        have b8 := BoxB.new (T := 27) o4
        replace hx := (hx.next b4).next al
        replace b3 := (b3.next b4).next al
        replace hb := (hb.trans (b4.mono hb.size)).trans (al.mono (by have := b4.size; have := hb.size; omega))
        have hno' := hs'.nodes
        clear K0 K1
        obtain ⟨K0, K1⟩ := b3.cells
        obtain ⟨M0, M1⟩ := b8.cells
        have hRn := b8.rd.1
        have hCN : Hid (cntN (b'.nodes.take b'.nodes.length) nm = cntN b'.nodes nm) := by show _ = _; rw [List.take_of_length_le (Nat.le_refl _)]
        have hCi := fun W (h : ReadsB W W.heap.size A4 b'.nodes.length A4' b'.opens.length b') => countName_impl (c := c4) (c' := c4') b' nm W h (by omega)
        have hCl := cntN_le b'.nodes nm
        obtain ⟨CN, hCN2⟩ : ∃ CN, CN = cntN b'.nodes nm := ⟨_, rfl⟩
        rw [← hCN2] at hCN hCi hCl
        clear al b4 o4
        go_wp2_with (fail)
        generalize w4.alloc (.cells #[.slice A4 b'.nodes.length c4, .slice A4' b'.opens.length c4'] 27) = W4 at *
        go_loop [10, 11] (fun s i => ∃ k m : Nat, k ≤ b'.nodes.length ∧ i = .int .i64 k ∧ s = .int .i64 m ∧ m ≤ k ∧ Hid (m = cntN (b'.nodes.take k) nm)) (fun _ i => b'.nodes.length - (intOf i).toNat)
        case atStart => exact ⟨0, 0, Nat.zero_le _, rfl, rfl, Nat.zero_le _, (by simp [cntN] : 0 = cntN (b'.nodes.take 0) nm)⟩
        case round =>
          obtain ⟨k, m, hk, rfl, rfl, hm0, hcur⟩ := hrel
          by_cases hlt : k < b'.nodes.length
          · obtain ⟨b0, off0, rfl, hab, hcx⟩ := hRn.nod hlt
            obtain ⟨Ax, cx, hr, hc0, hc1, hc2, hc3⟩ := hcx hlt
            have hk0 : (0 : Int) ≤ (k : Int) := Int.natCast_nonneg _
            have hk9 : (k : Int) < (b'.nodes.length : Int) := by omega
            cases he : (b'.nodes[k].name.toList == nm.toList)
            · have hm : Hid (m = cntN (b'.nodes.take (k + 1)) nm) := by show _ = _; rw [cntN_no hlt he]; exact hcur.out
              generalize b'.nodes[k] = x at *
              clear hcx hr hcur hCi hTsp hx hb hRn
              go_wp2
              go_round
              case rel => exact ⟨k + 1, m, by omega, by go_num, rfl, by omega, hm⟩
              case measure => simp [intOf]; omega
            · have hm : Hid (m + 1 = cntN (b'.nodes.take (k + 1)) nm) := by show _ = _; rw [cntN_yes hlt he, ← hcur.out]
              generalize b'.nodes[k] = x at *
              clear hcx hr hcur hCi hTsp hx hb hRn
              go_wp2
              go_round
              case rel => exact ⟨k + 1, m + 1, by omega, by go_num, by go_num, by omega, hm⟩
              case measure => simp [intOf]; omega
          · obtain rfl : k = b'.nodes.length := by omega
            have hmC := hcur.out
            rw [hCN.out] at hmC
            subst hmC
            clear hcur hRn hCN
            go_wp2_with (fail)
            go_at_call 10
            refine (drawIsVoid_any _ hx hn hz).mono ?_
            rintro e w5 ⟨v, rfl, b5⟩
            replace b3 := b3.next b5
            replace b8 := b8.next b5
            replace hb := hb.trans (b5.mono hb.size)
            clear hx b5 K0 K1 M0 M1
            obtain ⟨K0, K1⟩ := b3.cells
            go_wp2_with (fail)
            go_at_call 11
            refine (hTsp _ b3.rd).mono ?_
            rintro e w6 ⟨rfl, b6⟩
            replace b8 := b8.next b6
            replace hb := hb.trans (b6.mono hb.size)
            obtain ⟨M0, M1⟩ := b8.cells
            clear K0 K1 hTsp
            go_wp2_with (fail)
            go_at_call 12
            refine (hCi _ b8.rd).mono ?_
            rintro e w7 ⟨rfl, b7⟩
            replace hb := hb.trans (b7.mono hb.size)
            clear M0 M1 hCi
            have hv := fun W => isVoid_impl v W
            rw [voidB_eq] at hv
            cases e1 : (v.toList == [105, 109, 103])
            · cases e2 : (v.toList == [108, 105, 110, 107])
              · rw [e1, e2] at hv
                go_wp2_with (fail)
                go_at_call 13
                refine (hv _).mono ?_
                rintro e w8 ⟨rfl, rfl⟩
                go_wp2
                go_ret
                exact ⟨rfl, hb⟩
              · rw [e1, e2] at hv
                go_wp2_with (fail)
                go_at_call 13
                refine (hv _).mono ?_
                rintro e w8 ⟨rfl, rfl⟩
                go_wp2
                go_ret
                exact ⟨rfl, hb⟩
            · rw [e1] at hv
              simp only [Bool.true_or] at hv
              go_wp2_with (fail)
              go_at_call 13
              refine (hv _).mono ?_
              rintro e w8 ⟨rfl, rfl⟩
              go_wp2
              go_ret
              exact ⟨rfl, hb⟩
  · go_enter Try.func3, Try.ntmps3
    go_wp2_with (go_at_call 6; refine (big_yes _ hn hmx).mono ?_; rintro e w0 ⟨rfl, rfl⟩)
    go_ret
    exact ⟨rfl, Below.refl _ _⟩
end Go.Proofs.Ytleopmeaaabejaa

namespace Go.Proofs.Ytleopmeaaabejaa
set_option maxRecDepth 100000

def initSigns : List Char := List.map Char.ofNat [104, 97, 114, 110, 101, 115, 115, 32, 52, 99, 97, 101, 53, 51, 54, 52, 54, 102, 101, 55, 48, 54, 54, 50, 51, 48, 56, 100, 53, 56, 57, 53, 99, 101, 97, 55, 50, 52, 50, 48, 100, 56, 99, 48, 49, 99, 52, 49, 51, 48, 100, 51, 53, 97, 56, 56, 53, 50, 56, 49, 54, 56, 52, 100, 57, 56, 56, 51, 102, 100, 56, 97, 32, 99, 117, 116, 32, 97, 116, 32, 108, 111, 111, 112, 46, 101, 120, 97, 109, 112, 108, 101, 47, 103, 48, 48, 53, 56, 54, 47, 108, 97, 119, 115, 46, 70, 110, 84, 101, 120, 116, 115, 32, 108, 111, 111, 112, 46, 101, 120, 97, 109, 112, 108, 101, 47, 103, 48, 48, 53, 56, 54, 47, 108, 97, 119, 115, 46, 70, 110, 84, 114, 101, 101, 115, 32, 108, 111, 111, 112, 46, 101, 120, 97, 109, 112, 108, 101, 47, 103, 48, 48, 53, 56, 54, 47, 108, 97, 119, 115, 46, 70, 110, 69, 120, 97, 99, 116, 74, 111, 105, 110, 83, 104, 101, 101, 116, 115]
theorem init_eq : Try.prog.initOrder = String.ofList initSigns := by
  conv => lhs; whnf
  kernel_rfl
theorem init_list : Try.prog.initOrder.toList = initSigns := (congrArg String.toList init_eq).trans String.toList_ofList
def word0 : List Char := List.map Char.ofNat [99, 117, 116]
def wordsR : List (List Char) := List.map (List.map Char.ofNat) [[97, 116], [108, 111, 111, 112, 46, 101, 120, 97, 109, 112, 108, 101, 47, 103, 48, 48, 53, 56, 54, 47, 108, 97, 119, 115, 46, 70, 110, 84, 101, 120, 116, 115], [108, 111, 111, 112, 46, 101, 120, 97, 109, 112, 108, 101, 47, 103, 48, 48, 53, 56, 54, 47, 108, 97, 119, 115, 46, 70, 110, 84, 114, 101, 101, 115], [108, 111, 111, 112, 46, 101, 120, 97, 109, 112, 108, 101, 47, 103, 48, 48, 53, 56, 54, 47, 108, 97, 119, 115, 46, 70, 110, 69, 120, 97, 99, 116, 74, 111, 105, 110, 83, 104, 101, 101, 116, 115]]
theorem init_words : behindMainWord (wordsSigns initSigns) = word0 :: wordsR := by kernel_rfl
theorem p_words : behindMainWord (wordsSigns Try.prog.initOrder.toList) = word0 :: wordsR := (congrArg (fun l => behindMainWord (wordsSigns l)) init_list).trans init_words
theorem make_of {P : Program} {c : List Char} {rest : List (List Char)} (h : behindMainWord (wordsSigns P.initOrder.toList) = c :: rest) (h1 : (c == "gc".toList || c == "spec".toList) = false) (h2 : (c == "cut".toList) = true) : P.make = some .cut := by
  unfold Program.make
  rw [h]
  simp only [h1, h2, Bool.false_eq_true, if_false, Bool.true_or, if_true]
theorem lifts_of {P : Program} {c : List Char} {rest : List (List Char)} (h : behindMainWord (wordsSigns P.initOrder.toList) = c :: rest) (h1 : (stripLifts liftWords (c :: rest)).1 = []) : P.headLifts = [] := by
  unfold Program.headLifts
  rw [h]
  simp only [h1, ite_self]
theorem liftsFinal_of {P : Program} {c : List Char} {rest : List (List Char)} (h : behindMainWord (wordsSigns P.initOrder.toList) = c :: rest) (h1 : P.headLifts = []) (h2 : (some c == some "carried".toList) = false) : P.liftsFinal = false := by
  unfold Program.liftsFinal
  simp only [h, h1, List.head?_cons, h2, Bool.false_and, List.contains_nil, Bool.or_false]
theorem mayEnter_of {P : Program} {c : List Char} {rest : List (List Char)} (h : behindMainWord (wordsSigns P.initOrder.toList) = c :: rest)
    (h3 : ((stripLifts liftWords (c :: rest)).2.head? == some "cut".toList &&
      ((stripLifts liftWords (c :: rest)).1.contains "finals" || !P.laysLater) && ((stripLifts liftWords (c :: rest)).1.contains "reflectrows" || !P.bearsReflect) &&
      ((stripLifts liftWords (c :: rest)).1.contains "reflectrows" || !(stripLifts liftWords (c :: rest)).1.contains "leanrows") &&
      P.doorFits (stripLifts liftWords (c :: rest)).1) = true) : P.mayEnter = true := by
  unfold Program.mayEnter
  rw [h]
  simp only [h3, Bool.or_true]
theorem p_lifts : Try.prog.headLifts = [] := lifts_of p_words (by kernel_rfl)
theorem p_liftsFinal : Try.prog.liftsFinal = false := liftsFinal_of p_words p_lifts (by kernel_rfl)
theorem p_make : Try.prog.make = some .cut := make_of p_words (by kernel_rfl) (by kernel_rfl)
theorem p_mayEnter : Try.prog.mayEnter = true := mayEnter_of p_words (by kernel_rfl)
theorem and_mk {a b : Bool} (ha : a = true) (hb : b = true) : (a && b) = true := by rw [ha, hb]; rfl
theorem joined_mk {P : Program} {f : FuncId} {fn : Func} {s : ChangeSpec} {c : OpenClaim}
    (h0 : (c.wf (OpenSpec.ofChange s)) = true)
    (h1 : (laidOutB P) = true)
    (h2 : (mapsRowed P) = true)
    (h3 : (fn.params.all (P.readableRec ·)) = true)
    (h4 : (namedTie P c.named s.vars) = true)
    (h5 : ((c.stops == [])) = true)
    (h6 : ((P.stops == [])) = true)
    (h7 : ((c.knobs == [])) = true)
    (h8 : ((P.stopKnobs == [])) = true)
    (h9 : ((c.inPlace == P.inPlace f)) = true)
    (h10 : ((c.unfollowed == P.unfollowed f)) = true)
    (h11 : ((c.recurses == P.recurses f)) = true)
    (h12 : ((c.named == P.varsNamed f)) = true)
    (h13 : ((c.maps == (fn.params.toList ++ s.plain.varTypes P).any (P.mapsRec ·))) = true)
    (h14 : ((c.ifaces == (fn.params.toList ++ s.plain.varTypes P).any (P.ifacesRec ·))) = true)
    (h15 : ((c.mapsOut == P.mapsAmong fn.resultTypes.toList)) = true)
    (h16 : ((c.loops == (fn.params.toList ++ s.plain.varTypes P).any (P.loopsFrom ·))) = true)
    (h17 : ((c.wideKeys == (fn.params.toList ++ s.plain.varTypes P ++ fn.resultTypes.toList).any (P.wideKeysFrom ·))) = true)
    (h18 : (s.vars.all (P.varReadable ·)) = true)
    (h19 : (fn.resultTypes.all (fun t => P.readableRec t && decide (t < P.types.size))) = true)
    (h20 : ((c.ifacesOut == fn.resultTypes.toList.any (P.ifacesRec ·))) = true)
    (h21 : ((c.loopsOut == fn.resultTypes.toList.any (P.loopsFrom ·))) = true)
    (h22 : ((c.plainKeys == P.plainKeys)) = true)
    (h23 : (c.shortTexts.isNone) = true)
    (h24 : (P.stopsHeard) = true)
    (h25 : (P.mayEnter) = true)
    (h26 : ((c.lifted == P.liftsFinal)) = true)
    (h27 : ((P.make == some c.make)) = true)
    (h28 : ((c.kinds == (if c.domain.isEmpty then [] else fn.params.toList.map fun t => match P.underlying t with | some (.int k) => some k | _ => none))) = true)
    (h29 : ((c.pinned == c.pinnedBy)) = true)
    (h30 : ((c.veiled == (fn.params.toList ++ s.plain.varTypes P ++ fn.resultTypes.toList).any (P.veiledRec ·))) = true)
    (h31 : (c.veiledFits P fn.params.toList (fn.params.toList ++ s.plain.varTypes P ++ fn.resultTypes.toList)) = true)
    : joinedFacts P f fn s c = true := by
  unfold joinedFacts
  exact and_mk (and_mk (and_mk (and_mk (and_mk (and_mk (and_mk (and_mk (and_mk (and_mk (and_mk (and_mk (and_mk (and_mk (and_mk (and_mk (and_mk (and_mk (and_mk (and_mk (and_mk (and_mk (and_mk (and_mk (and_mk (and_mk (and_mk (and_mk (and_mk (and_mk (and_mk (h0) h1) h2) h3) h4) h5) h6) h7) h8) h9) h10) h11) h12) h13) h14) h15) h16) h17) h18) h19) h20) h21) h22) h23) h24) h25) h26) h27) h28) h29) h30) h31
theorem p_laidOut : laidOutB Try.prog = true := by kernel_rfl
theorem p_mapsRowed : mapsRowed Try.prog = true := by kernel_rfl
theorem p_stops : (Try.prog.stops == []) = true := by kernel_rfl
theorem p_stopKnobs : (Try.prog.stopKnobs == []) = true := by kernel_rfl
theorem p_plainKeys : Try.prog.plainKeys = true := by kernel_rfl
theorem p_stopsHeard : Try.prog.stopsHeard = true := by kernel_rfl
theorem p_own : ownKnob Try.prog.godebug = none := by kernel_rfl
end Go.Proofs.Ytleopmeaaabejaa

namespace Go.Proofs.Ytleopmeaaabejaa
open Go.ChangeShapes Go.WideShapes Go.ChangeAt Go.RowKit
open Go.ChangeMaps (open_string shut_string)
set_option linter.unusedVariables false
set_option maxRecDepth 100000

theorem fnTexts_lifted (os : Os) (started : os.Started) (H : Type) (enc : TypeId × Value → H) :
    ReturnsInHanded {} Try.checked os 3 .any (Rows.fnTextsSpec.pre6 enc Try.prog Try.f3 Rows.fnTextsRow.domain false) (Rows.fnTextsSpec.post enc Try.prog Try.f3 false true false false) := by
  refine returnsInHanded_of_change (C := Try.checked) own started (by kernel_rfl) Try.func3
    (ChangeSpec.witness6 (enc := enc) (C := Try.checked) false ⟨#[], #[.slice none 0 0], []⟩ 8 (by kernel_rfl) (by kernel_rfl) (by kernel_rfl) (by kernel_rfl)) ?_
  intro W base args ds gs before hval0 hW hcnd _
  have hval : ∀ (j : Nat) t v, Try.f3.params[j]? = some t → args[j]? = some v → Value.okWide Try.prog W .any base t v := hval0
  have hW' := hW
  obtain ⟨p, q, hA0, hV, rfl, hfz, hnd⟩ := hW
  have hA : DataW.TrodAll enc Try.prog W 0 (fun _ => true) true Try.f3.params.toList args.toList ds p := hA0
  rw [Try.params3] at hA hval
  obtain ⟨v0, vs0, d0, ds0, p0, q0, hargs, rfl, rfl, h0, r0⟩ := trodAll_cons hA
  obtain ⟨rfl, rfl, rfl⟩ := trodAll_nil r0
  obtain rfl : args = #[v0] := by cases args; simp_all
  obtain ⟨rfl, rfl⟩ := trodVars_none hV
  have k0 := h0
  have lt0 : ∀ x ∈ p0, x.block < W.heap.size := by obtain ⟨m, hm⟩ := k0; exact DataW.trod_lt m _ _ _ hm
  obtain ⟨a0, n0, c0, z0, rfl, w0⟩ := open_slice_ints Try.underlying22 Try.underlying5 (by kernel_rfl) (hval 0 22 v0 rfl rfl) k0
  clear hA0 hval0
  refine (texts_walk W a0 n0 c0 z0 w0).mono fun e W' ⟨he, bel⟩ => ?_
  subst he
  exact ⟨_, rfl, _, _, _, [], _, [], hW', trodAll_mk1 (shut_bool Try.underlying4 _), (trodAll_cons_mk (Below.trod laidOut (by kernel_rfl) (of_decide_eq_true (by kernel_rfl)) k0 bel lt0) trodAll_mk0), rfl, bel.frame _, fun h => by cases h⟩

theorem fnTexts_closed : joinedFacts Try.prog 3 Try.f3 Rows.fnTextsSpec Rows.fnTextsRow = true :=
  joined_mk (by as_aux_lemma => kernel_rfl) p_laidOut p_mapsRowed (by as_aux_lemma => kernel_rfl) (by as_aux_lemma => kernel_rfl) (by as_aux_lemma => kernel_rfl) p_stops (by as_aux_lemma => kernel_rfl) p_stopKnobs (by as_aux_lemma => kernel_rfl) (by as_aux_lemma => kernel_rfl) (by as_aux_lemma => kernel_rfl) (by as_aux_lemma => kernel_rfl) (by as_aux_lemma => kernel_rfl) (by as_aux_lemma => kernel_rfl) (by as_aux_lemma => kernel_rfl) (by as_aux_lemma => kernel_rfl) (by as_aux_lemma => kernel_rfl) (by as_aux_lemma => kernel_rfl) (by as_aux_lemma => kernel_rfl) (by as_aux_lemma => kernel_rfl) (by as_aux_lemma => kernel_rfl) (by rw [p_plainKeys]; kernel_rfl) (by as_aux_lemma => kernel_rfl) p_stopsHeard p_mayEnter (by rw [p_liftsFinal]; kernel_rfl) (by rw [p_make]; kernel_rfl) (by as_aux_lemma => kernel_rfl) (by as_aux_lemma => kernel_rfl) (by as_aux_lemma => kernel_rfl) (by as_aux_lemma => kernel_rfl)

theorem fnTexts_holds : Rows.FnTextsSaid :=
  OpenClaim.holds_of_wide 3 Try.f3 rfl rfl rfl rfl rfl rfl rfl ⟨rfl, rfl, rfl, rfl, rfl⟩ rfl rfl rfl rfl rfl (by kernel_rfl) Try.func3 fnTexts_closed
    (of_decide_eq_true (by kernel_rfl)) (by unfold Func.isWrapper; first | (rw [if_pos (by decide +kernel)]; kernel_rfl) | (rw [if_neg (by decide +kernel)]; exact ⟨rfl, rfl⟩))
    (fun os started H enc _ => fnTexts_lifted os started H enc)

end Go.Proofs.Ytleopmeaaabejaa
