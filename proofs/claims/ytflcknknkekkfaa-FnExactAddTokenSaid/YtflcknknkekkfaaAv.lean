/-
  Contracts of AddToken of the program. Condition: at most 2^30 elements.
-/
import Derived.Test.YtflcknknkekkfaaAu
import Derived.Test.YtflcknknkekkfaaCpb
import Derived.Test.YtflcknknkekkfaaOne
import Derived.Test.YtflcknknkekkfaaCmp
import Derived.Test.YtflcknknkekkfaaEb
import Derived.Deep.QuietTactic
import Derived.BigQuiet
namespace Go.Proofs.Ytflcknknkekkfaa
set_option linter.unusedVariables false
set_option linter.unusedSimpArgs false
set_option maxRecDepth 100000
open Go.ChangeShapes Go.WideShapes Go.ChangeAt Go.RowKit Go.Deep

/-- the three boxes of a call of AddToken, laid from block H on, and the copy's box at G -/
structure AddAt (tB tT : TypeId) (H : Nat) (W0 : World) (A : Option Addr) (n c : Nat) (A' : Option Addr) (n' c' : Nat) (kind : Int) (name text : ByteArray) (At : Option Addr) (m ct : Nat) (G : Nat) (u v : Value) (W : World) : Prop where
  bB : HasBox W H [.slice A n c, .slice A' n' c'] tB
  bT : HasBox W (H + 1) [.int .i64 kind, .string name, .slice At m ct, .string text] tT
  bR : HasBox W (H + 1 + 1) [.slice none 0 0, .slice none 0 0] tB
  bG : HasBox W G [u, v] tB
  gh : H + 1 + 1 + 1 ≤ G
  below : Below H W0 W
  hsz : W0.heap.size = H
def AddX (H G : Nat) : Nat → Prop := fun k => k < H + 1 + 1 + 1 ∨ k = G
section
variable {tB tT e ek ei : TypeId} {H n c n' c' m ct G : Nat} {W0 W W' : World} {A A' At : Option Addr} {kind : Int} {name text : ByteArray} {u v : Value}
theorem AddAt.next (h : AddAt tB tT H W0 A n c A' n' c' kind name text At m ct G u v W) (hb : Below W.heap.size W W') : AddAt tB tT H W0 A n c A' n' c' kind name text At m ct G u v W' :=
  ⟨h.bB.below hb h.bB.lt, h.bT.below hb h.bT.lt, h.bR.below hb h.bR.lt, h.bG.below hb h.bG.lt, h.gh, h.below.trans (hb.mono (by have := h.below.size; have := h.hsz; omega)), h.hsz⟩
theorem AddAt.keep {hi : Nat} (h : AddAt tB tT H W0 A n c A' n' c' kind name text At m ct G u v W) (hb : Keeps (fun k => H + 1 + 1 + 1 ≤ k ∧ k < hi ∧ ¬ AddX H G k) W W') : AddAt tB tT H W0 A n c A' n' c' kind name text At m ct G u v W' := by
  have hs := h.below.size
  have h0 := h.hsz
  exact ⟨h.bB.keep hb (fun hk => by have := hk.1; omega), h.bT.keep hb (fun hk => by have := hk.1; omega), h.bR.keep hb (fun hk => by have := hk.1; omega), h.bG.keep hb (fun hk => hk.2.2 (.inr rfl)), h.gh, h.below.trans (hb.below (by omega) fun k hk => by have := hk.1; omega), h.hsz⟩
theorem AddAt.put0 (h : AddAt tB tT H W0 A n c A' n' c' kind name text At m ct G u v W) (x : Value) : AddAt tB tT H W0 A n c A' n' c' kind name text At m ct G x v (W.setCell ⟨G, 0, none⟩ x) :=
  have hg := h.gh
  ⟨h.bB.other (by show H ≠ G; omega) _, h.bT.other (by show H + 1 ≠ G; omega) _, h.bR.other (by show H + 1 + 1 ≠ G; omega) _, h.bG.put x, h.gh, h.below.setCell (by show H ≤ G; omega) _, h.hsz⟩
theorem AddAt.put1 (h : AddAt tB tT H W0 A n c A' n' c' kind name text At m ct G u v W) (x : Value) : AddAt tB tT H W0 A n c A' n' c' kind name text At m ct G u x (W.setCell ⟨G, 1, none⟩ x) :=
  have hg := h.gh
  ⟨h.bB.other (by show H ≠ G; omega) _, h.bT.other (by show H + 1 ≠ G; omega) _, h.bR.other (by show H + 1 + 1 ≠ G; omega) _, h.bG.put x, h.gh, h.below.setCell (by show H ≤ G; omega) _, h.hsz⟩
theorem AddAt.facts (h : AddAt tB tT H W0 A n c A' n' c' kind name text At m ct G u v W) :
    (W.cell? ⟨H, 0, none⟩ = some (.slice A n c) ∧ W.cell? ⟨H, 1, none⟩ = some (.slice A' n' c')) ∧
    (W.cell? ⟨H + 1, 0, none⟩ = some (.int .i64 kind) ∧ W.cell? ⟨H + 1, 1, none⟩ = some (.string name) ∧ W.cell? ⟨H + 1, 2, none⟩ = some (.slice At m ct) ∧ W.cell? ⟨H + 1, 3, none⟩ = some (.string text)) ∧
    (W.cell? ⟨H + 1 + 1, 0, none⟩ = some (.slice none 0 0) ∧ W.cell? ⟨H + 1 + 1, 1, none⟩ = some (.slice none 0 0) ∧ W.frozen? ⟨H + 1 + 1, 0, none⟩ = false ∧ W.frozen? ⟨H + 1 + 1, 1, none⟩ = false) ∧
    (W.cell? ⟨G, 0, none⟩ = some u ∧ W.cell? ⟨G, 1, none⟩ = some v ∧ W.frozen? ⟨G, 0, none⟩ = false ∧ W.frozen? ⟨G, 1, none⟩ = false) :=
  ⟨⟨h.bB.cell 0 _ rfl, h.bB.cell 1 _ rfl⟩, ⟨h.bT.cell 0 _ rfl, h.bT.cell 1 _ rfl, h.bT.cell 2 _ rfl, h.bT.cell 3 _ rfl⟩, ⟨h.bR.cell 0 _ rfl, h.bR.cell 1 _ rfl, h.bR.open_ 0, h.bR.open_ 1⟩, ⟨h.bG.cell 0 _ rfl, h.bG.cell 1 _ rfl, h.bG.open_ 0, h.bG.open_ 1⟩⟩
theorem AddAt.of {w w4 : World} {A4 A5 : Option Addr} {c4 c5 : Nat} {b : Bld} {L : List (Nod × Hd)}
    (o4 : OwnB w4 (w.heap.size + 1 + 1 + 1) w4.heap.size e ek ei A4 n c4 A5 n' c5 b L)
    (b4 : Below (w.heap.size + 1 + 1 + 1) (((w.alloc (.cells #[.slice A n c, .slice A' n' c'] tB)).alloc (.cells #[.int .i64 kind, .string name, .slice At m ct, .string text] tT)).alloc (.cells #[.slice none 0 0, .slice none 0 0] tB)) w4) :
    AddAt tB tT w.heap.size w A n c A' n' c' kind name text At m ct w4.heap.size (.slice A4 n c4) (.slice A5 n' c5) (w4.alloc (.cells #[.slice A4 n c4, .slice A5 n' c5] tB)) ∧
    OwnX (AddX w.heap.size w4.heap.size) (w4.alloc (.cells #[.slice A4 n c4, .slice A5 n' c5] tB)) (w.heap.size + 1 + 1 + 1) w4.heap.size e ek ei A4 n c4 A5 n' c5 b L := by
  have hs := b4.size
  simp only [World.size_alloc] at hs
  have hb3 : Below w.heap.size w (((w.alloc (.cells #[.slice A n c, .slice A' n' c'] tB)).alloc (.cells #[.int .i64 kind, .string name, .slice At m ct, .string text] tT)).alloc (.cells #[.slice none 0 0, .slice none 0 0] tB)) := (((Below.refl _ w).alloc (Nat.le_refl _) _).alloc (by simp) _).alloc (by simp; omega) _
  refine ⟨⟨?_, ?_, ?_, HasBox.new _ _ _, hs, ?_, rfl⟩, (o4.apart_from fun k hk => by unfold AddX at hk; omega).alloc _⟩
  · exact ((((HasBox.new w [.slice A n c, .slice A' n' c'] tB).alloc _).alloc _).below b4 (by omega)).alloc _
  · exact (((HasBox.new' (by simp) [.int .i64 kind, .string name, .slice At m ct, .string text] tT).alloc _).below b4 (by omega)).alloc _
  · exact ((HasBox.new' (by simp) [.slice none 0 0, .slice none 0 0] tB).below b4 (by omega)).alloc _
  · exact (hb3.trans (b4.mono (by omega))).alloc (by omega) _
/-- the result is laid into its box: the end of the call -/
theorem AddAt.fin {A4 A5 : Option Addr} {n4 c4 n5 c5 hi : Nat} {b : Bld} {L : List (Nod × Hd)} (h : AddAt tB tT H W0 A n c A' n' c' kind name text At m ct G u v W) (o : OwnX (AddX H G) W (H + 1 + 1 + 1) hi e ek ei A4 n4 c4 A5 n5 c5 b L) (hh : hi ≤ W.heap.size) (x y : Value) :
    OwnB ((W.setCell ⟨H + 1 + 1, 0, none⟩ x).setCell ⟨H + 1 + 1, 1, none⟩ y) H ((W.setCell ⟨H + 1 + 1, 0, none⟩ x).setCell ⟨H + 1 + 1, 1, none⟩ y).heap.size e ek ei A4 n4 c4 A5 n5 c5 b L ∧ Below H W0 ((W.setCell ⟨H + 1 + 1, 0, none⟩ x).setCell ⟨H + 1 + 1, 1, none⟩ y) :=
  ⟨(((o.set (p := ⟨H + 1 + 1, 0, none⟩) (.inl (by show H + 1 + 1 < _; omega)) x).set (p := ⟨H + 1 + 1, 1, none⟩) (.inl (by show H + 1 + 1 < _; omega)) y).own).wide (by omega) (by simp [World.setCell]; exact hh),
   (h.below.setCell (by show H ≤ H + 1 + 1; omega) x).setCell (by show H ≤ H + 1 + 1; omega) y⟩
end
theorem hitB_neg {b : Bld} {name : ByteArray} {i : Nat} (h : i < b.opens.length) (hm : b.opens[i] < 0) : hitB b name i = false := by
  simp [hitB, List.getElem?_eq_getElem h]
  intro h0; omega
theorem hitB_far {b : Bld} {name : ByteArray} {i : Nat} (h : i < b.opens.length) (hm : (b.nodes.length : Int) ≤ b.opens[i]) : hitB b name i = false := by
  have : b.nodes[b.opens[i].toNat]? = none := List.getElem?_eq_none (by omega)
  simp [hitB, List.getElem?_eq_getElem h, this]
theorem hitB_at {b : Bld} {name : ByteArray} {i j : Nat} (h : i < b.opens.length) (hm : b.opens[i] = (j : Int)) (hj : j < b.nodes.length) : hitB b name i = decide (b.nodes[j].name = name) := by
  simp [hitB, List.getElem?_eq_getElem h, hm, List.getElem?_eq_getElem hj]

set_option maxHeartbeats 1000000 in
theorem addToken_impl_close {A A' At : Option Addr} {n c n' c' ct : Nat} {b : Bld} {t : Tok} (w : World) (hx : ReadsB w w.heap.size A n A' n' b) (hn : n ≤ 1073741824) (hn' : n' ≤ 1073741824) (hka : ∀ a ∈ b.nodes, a.attrs.length ≤ 1073741824)
    (hi : ∀ z ∈ b.opens, -9223372036854775808 ≤ z ∧ z ≤ 9223372036854775807) (hk : t.kind = 2) :
    Calls Try.prog 53 #[.agg #[.slice A n c, .slice A' n' c'], .agg #[.int .i64 t.kind, .string t.name, .slice At t.attrs.length ct, .string t.text]] w (GotBI w 74 94 3 (addB b t)) := by
  obtain ⟨kind, name, attrs, text⟩ := t
  simp only at hk
  subst hk
  have hlen := hx.len
  have hres := Lib.hid (addB_close (b := b) (t := ⟨2, name, attrs, text⟩) rfl)
  simp only at *
  have hb3 : Below w.heap.size w (((w.alloc (.cells #[.slice A n c, .slice A' n' c'] 52)).alloc (.cells #[.int .i64 2, .string name, .slice At attrs.length ct, .string text] 35)).alloc (.cells #[.slice none 0 0, .slice none 0 0] 52)) := (((Below.refl _ w).alloc (Nat.le_refl _) _).alloc (by simp) _).alloc (by simp; omega) _
  have hx3 := hx.next hb3
  have Hlen := Lib.hid hlen
  clear hlen
  go_enter Try.func53, Try.ntmps53
  go_wp2_with (
    go_at_call 97
    refine (copyBuilder_impl (b := b) _ hx3 hn hn' hka).mono ?_
    rintro e w4 ⟨A4, c4, A5, c5, L, rfl, o4, b4⟩
    simp only [World.size_alloc] at o4 b4
    obtain ⟨st, ow⟩ := AddAt.of o4 b4
    have cap := o4.opens.capLe
    unfold maxLen at cap
    obtain ⟨⟨f00, f01⟩, ⟨f10, f11, f12, f13⟩, ⟨f20, f21, f22, f23⟩, ⟨f30, f31, f32, f33⟩⟩ := st.facts)
  go_loopw [7] (fun i wr => ∃ z : Int, i = .int .i64 z ∧ -1 ≤ z ∧ z < n' ∧ Hid (clsF b name (n' - 1) = clsF b name z.toNat) ∧ Below (w4.heap.size + 1) (w4.alloc (.cells #[.slice A4 n c4, .slice A5 n' c5] 52)) wr) (fun i _ => (intOf i).toNat)
  case atStart => exact ⟨(n' : Int) - 1, rfl, by omega, by omega, by show _ = _; congr 1; omega, Below.refl _ _⟩
  case round =>
    obtain ⟨z, rfl, hz1, hz2, hcl, hbel⟩ := hrel
    have st' := st.next (by rw [World.size_alloc]; exact hbel)
    clear f00 f01 f10 f11 f12 f13 f20 f21 f22 f23 f30 f31 f32 f33
    obtain ⟨⟨f00, f01⟩, ⟨f10, f11, f12, f13⟩, ⟨f20, f21, f22, f23⟩, ⟨f30, f31, f32, f33⟩⟩ := st'.facts
    have hwr := st'.below
    by_cases hz : 1 ≤ z
    · obtain ⟨k, rfl⟩ : ∃ k : Nat, z = (k : Int) + 1 := ⟨(z - 1).toNat, by omega⟩
      have hk1 : k + 1 < n' := by omega
      obtain ⟨b0, off0, rfl, hb0, hcx⟩ := (hx.2.below hwr).num hk1
      have hl1 : k + 1 < b.opens.length := by rw [Hlen.out.2]; exact hk1
      have g1 := hcx hl1
      clear hcx
      have him := hi _ (List.getElem_mem hl1)
      have hng := hitB_neg (name := name) hl1
      have hfr := hitB_far (name := name) hl1
      have hat := fun j => hitB_at (name := name) (j := j) hl1
      generalize b.opens[k + 1] = o at *
      have hclm : hitB b name (k + 1) = false → Hid (clsF b name (n' - 1) = clsF b name k) := fun h => by
        show _ = _
        rw [hcl.out, show ((k : Int) + 1).toNat = k + 1 by omega, clsF_miss h]
      have hclh : hitB b name (k + 1) = true → Hid (clsF b name (n' - 1) = k + 1) := fun h => by
        show _ = _
        rw [hcl.out, show ((k : Int) + 1).toNat = k + 1 by omega, clsF_hit h]
      clear hcl
      by_cases ho1 : o < 0
      · have hcl2 := hclm (hng ho1)
        clear hng hfr hat hclm hclh
        have hd : decide ((0 : Int) ≤ o) = false := by simpa using ho1
        go_wp2
        go_quiet (fail)
        go_wp2
        go_roundw
        case rel => exact ⟨(k : Int), by go_num, by omega, by omega, hcl2, below_drewN hbel _⟩
        case measure => simp [intOf]
      · by_cases ho2 : (n : Int) ≤ o
        · have hcl2 := hclm (hfr (by rw [Hlen.out.1]; exact ho2))
          clear hng hfr hat hclm hclh
          have hd : (0 : Int) ≤ o := by omega
          have hd2 : decide (o < (n : Int)) = false := by simpa using ho2
          go_wp2
          go_quiet (fail)
          go_wp2
          go_roundw
          case rel => exact ⟨(k : Int), by go_num, by omega, by omega, hcl2, below_drewN hbel _⟩
          case measure => simp [intOf]
        · obtain ⟨j, rfl⟩ := Int.eq_ofNat_of_zero_le (by omega : 0 ≤ o)
          have hj : j < n := by omega
          obtain ⟨b1, off1, rfl, hb1, hcy⟩ := (hx.1.below hwr).nod hj
          have hl2 : j < b.nodes.length := by rw [Hlen.out.1]; exact hj
          obtain ⟨Ax, cx, hrk, e0, e1, e2, e3⟩ := hcy hl2
          have hh := hat j rfl hl2
          clear hng hfr hat hcy hrk e1 e2 e3
          generalize b.nodes[j].name = nm at *
          have hd : (0 : Int) ≤ (j : Int) := by omega
          have hd2 : (j : Int) < (n : Int) := by omega
          by_cases hq : nm = name
          · subst hq
            have hcl2 := hclh (by rw [hh]; simp)
            clear hclm hclh hh
            have hq2 : (nm.toList == nm.toList) = true := by simp
            have hk9 : (k : Int) + 1 ≤ (c5 : Int) := by omega
            have hkk : (0 : Int) ≤ (k : Int) + 1 := by omega
            have hsz := hbel.size
            simp only [World.size_alloc] at hsz
            go_wp2
            go_quiet (fail)
            have st2 := (st'.next (below_drewN (Below.refl _ _) nq)).put1 (.slice A5 (k + 1) c5)
            have ow2 := (((ow.below (by rw [World.size_alloc]; exact hbel)).below (below_drewN (Below.refl _ _) nq)).set (p := ⟨w4.heap.size, 1, none⟩) (.inr rfl) (.slice A5 (k + 1) c5)).cut (m := k + 1) (by omega) (.inl (by omega))
            obtain ⟨⟨p00, p01⟩, ⟨p10, p11, p12, p13⟩, ⟨p20, p21, p22, p23⟩, ⟨p30, p31, p32, p33⟩⟩ := st2.facts
            obtain ⟨ob, bl⟩ := st2.fin ow2 (by simp [World.setCell]; omega) (.slice A4 n c4) (.slice A5 (k + 1) c5)
            go_wp2
            refine bodyPost_ret (v := .tuple #[.agg #[.slice A4 n c4, .slice A5 (k + 1) c5], .int .i64 (-1)]) (by simp [results, Try.results53, go_sem, p20, p21, p22, p23, p30, p31]) rfl (GotBI.of (b' := ⟨b.nodes, b.opens.take (k + 1)⟩) ?_ Hlen.out.1 (by simp; omega) ob bl)
            rw [hres.out, Hlen.out.2, hcl2.out]
          · have hcl2 := hclm (by rw [hh]; simpa using hq)
            clear hclm hclh hh
            have hq2 := str_ne hq
            go_wp2
            go_quiet (fail)
            go_wp2
            go_roundw
            case rel => exact ⟨(k : Int), by go_num, by omega, by omega, hcl2, below_drewN hbel _⟩
            case measure => simp [intOf]
    · have hcl2 : Hid (clsF b name (n' - 1) = n') := by
        show _ = _
        rw [hcl.out, show z.toNat = 0 by omega, clsF, Hlen.out.2]
      clear hcl
      go_wp2
      obtain ⟨ob, bl⟩ := st'.fin ((ow.below (by rw [World.size_alloc]; exact hbel))) (by have := hbel.size; simp at this; omega) (.slice A4 n c4) (.slice A5 n' c5)
      refine bodyPost_ret (v := .tuple #[.agg #[.slice A4 n c4, .slice A5 n' c5], .int .i64 (-1)]) (by simp [results, Try.results53, go_sem, f20, f21, f22, f23, f30, f31]) rfl (GotBI.of (b' := b) ?_ Hlen.out.1 Hlen.out.2 ob bl)
      rw [hres.out, Hlen.out.2, hcl2.out, List.take_of_length_le (by rw [Hlen.out.2]; exact Nat.le_refl _)]
end Go.Proofs.Ytflcknknkekkfaa
