/-
  Contracts of AddToken of the program. Condition: at most 2^30 elements.
  Contracts of IsVoid of the program and of the reference. No condition.
  Contract of the reference's copy of a builder. Condition: at most 2^30 elements.
-/
import Derived.Deep.QuietTactic
import Derived.BigQuiet
import Derived.Test.YtleopmeaaabejaaP07
import Derived.Test.YtleopmeaaabejaaP08
import Derived.Test.YtleopmeaaabejaaP01
import Derived.Test.YtleopmeaaabejaaP09
namespace Go.Proofs.Ytleopmeaaabejaa
set_option linter.unusedVariables false
set_option linter.unusedSimpArgs false
set_option maxRecDepth 100000
open Go.ChangeShapes Go.WideShapes Go.ChangeAt Go.RowKit Go.Deep

/-- the three boxes of a call of AddToken, laid from block H on, and the copy's box at G -/
structure AddAt (tB tT : TypeId) (H : Nat) (W0 : World) (A : Option Addr) (n c : Nat) (A' : Option Addr) (n' c' : Nat) (kind : Int) (name text : ByteArray) (At : Option Addr) (m ct : Nat) (G : Nat) (u v : Value) (W : World) : Prop where
  bB : HasBox W H [.slice A n c, .slice A' n' c'] tB
  bT : HasBox W (H + 1) [.int .i64 kind, .string name, .slice At m ct, .string text] tT
  bR : HasBox W (H + 1 + 1) [.slice none 0 0, .slice none 0 0] tB
  bG : HasBox W G [u, v] tB
  gh : H + 1 + 1 + 1 ≤ G
  below : Below H W0 W
  hsz : W0.heap.size = H
def AddX (H G : Nat) : Nat → Prop := fun k => k < H + 1 + 1 + 1 ∨ k = G
section
variable {tB tT e ek ei : TypeId} {H n c n' c' m ct G : Nat} {W0 W W' : World} {A A' At : Option Addr} {kind : Int} {name text : ByteArray} {u v : Value}
theorem AddAt.next (h : AddAt tB tT H W0 A n c A' n' c' kind name text At m ct G u v W) (hb : Below W.heap.size W W') : AddAt tB tT H W0 A n c A' n' c' kind name text At m ct G u v W' :=
  ⟨h.bB.below hb h.bB.lt, h.bT.below hb h.bT.lt, h.bR.below hb h.bR.lt, h.bG.below hb h.bG.lt, h.gh, h.below.trans (hb.mono (by have := h.below.size; have := h.hsz; omega)), h.hsz⟩
theorem AddAt.keep {hi : Nat} (h : AddAt tB tT H W0 A n c A' n' c' kind name text At m ct G u v W) (hb : Keeps (fun k => H + 1 + 1 + 1 ≤ k ∧ k < hi ∧ ¬ AddX H G k) W W') : AddAt tB tT H W0 A n c A' n' c' kind name text At m ct G u v W' := by
  have hs := h.below.size
  have h0 := h.hsz
  exact ⟨h.bB.keep hb (fun hk => by have := hk.1; omega), h.bT.keep hb (fun hk => by have := hk.1; omega), h.bR.keep hb (fun hk => by have := hk.1; omega), h.bG.keep hb (fun hk => hk.2.2 (.inr rfl)), h.gh, h.below.trans (hb.below (by omega) fun k hk => by have := hk.1; omega), h.hsz⟩
theorem AddAt.put0 (h : AddAt tB tT H W0 A n c A' n' c' kind name text At m ct G u v W) (x : Value) : AddAt tB tT H W0 A n c A' n' c' kind name text At m ct G x v (W.setCell ⟨G, 0, none⟩ x) :=
  have hg := h.gh
  ⟨h.bB.other (by show H ≠ G; omega) _, h.bT.other (by show H + 1 ≠ G; omega) _, h.bR.other (by show H + 1 + 1 ≠ G; omega) _, h.bG.put x, h.gh, h.below.setCell (by show H ≤ G; omega) _, h.hsz⟩
theorem AddAt.put1 (h : AddAt tB tT H W0 A n c A' n' c' kind name text At m ct G u v W) (x : Value) : AddAt tB tT H W0 A n c A' n' c' kind name text At m ct G u x (W.setCell ⟨G, 1, none⟩ x) :=
  have hg := h.gh
  ⟨h.bB.other (by show H ≠ G; omega) _, h.bT.other (by show H + 1 ≠ G; omega) _, h.bR.other (by show H + 1 + 1 ≠ G; omega) _, h.bG.put x, h.gh, h.below.setCell (by show H ≤ G; omega) _, h.hsz⟩
theorem AddAt.facts (h : AddAt tB tT H W0 A n c A' n' c' kind name text At m ct G u v W) :
    (W.cell? ⟨H, 0, none⟩ = some (.slice A n c) ∧ W.cell? ⟨H, 1, none⟩ = some (.slice A' n' c')) ∧
    (W.cell? ⟨H + 1, 0, none⟩ = some (.int .i64 kind) ∧ W.cell? ⟨H + 1, 1, none⟩ = some (.string name) ∧ W.cell? ⟨H + 1, 2, none⟩ = some (.slice At m ct) ∧ W.cell? ⟨H + 1, 3, none⟩ = some (.string text)) ∧
    (W.cell? ⟨H + 1 + 1, 0, none⟩ = some (.slice none 0 0) ∧ W.cell? ⟨H + 1 + 1, 1, none⟩ = some (.slice none 0 0) ∧ W.frozen? ⟨H + 1 + 1, 0, none⟩ = false ∧ W.frozen? ⟨H + 1 + 1, 1, none⟩ = false) ∧
    (W.cell? ⟨G, 0, none⟩ = some u ∧ W.cell? ⟨G, 1, none⟩ = some v ∧ W.frozen? ⟨G, 0, none⟩ = false ∧ W.frozen? ⟨G, 1, none⟩ = false) :=
  ⟨⟨h.bB.cell 0 _ rfl, h.bB.cell 1 _ rfl⟩, ⟨h.bT.cell 0 _ rfl, h.bT.cell 1 _ rfl, h.bT.cell 2 _ rfl, h.bT.cell 3 _ rfl⟩, ⟨h.bR.cell 0 _ rfl, h.bR.cell 1 _ rfl, h.bR.open_ 0, h.bR.open_ 1⟩, ⟨h.bG.cell 0 _ rfl, h.bG.cell 1 _ rfl, h.bG.open_ 0, h.bG.open_ 1⟩⟩
theorem AddAt.of {w w4 : World} {A4 A5 : Option Addr} {c4 c5 : Nat} {b : Bld} {L : List (Nod × Hd)}
    (o4 : OwnB w4 (w.heap.size + 1 + 1 + 1) w4.heap.size e ek ei A4 n c4 A5 n' c5 b L)
    (b4 : Below (w.heap.size + 1 + 1 + 1) (((w.alloc (.cells #[.slice A n c, .slice A' n' c'] tB)).alloc (.cells #[.int .i64 kind, .string name, .slice At m ct, .string text] tT)).alloc (.cells #[.slice none 0 0, .slice none 0 0] tB)) w4) :
    AddAt tB tT w.heap.size w A n c A' n' c' kind name text At m ct w4.heap.size (.slice A4 n c4) (.slice A5 n' c5) (w4.alloc (.cells #[.slice A4 n c4, .slice A5 n' c5] tB)) ∧
    OwnX (AddX w.heap.size w4.heap.size) (w4.alloc (.cells #[.slice A4 n c4, .slice A5 n' c5] tB)) (w.heap.size + 1 + 1 + 1) w4.heap.size e ek ei A4 n c4 A5 n' c5 b L := by
  have hs := b4.size
  simp only [World.size_alloc] at hs
  have hb3 : Below w.heap.size w (((w.alloc (.cells #[.slice A n c, .slice A' n' c'] tB)).alloc (.cells #[.int .i64 kind, .string name, .slice At m ct, .string text] tT)).alloc (.cells #[.slice none 0 0, .slice none 0 0] tB)) := (((Below.refl _ w).alloc (Nat.le_refl _) _).alloc (by simp) _).alloc (by simp; omega) _
  refine ⟨⟨?_, ?_, ?_, HasBox.new _ _ _, hs, ?_, rfl⟩, (o4.apart_from fun k hk => by unfold AddX at hk; omega).alloc _⟩
  · exact ((((HasBox.new w [.slice A n c, .slice A' n' c'] tB).alloc _).alloc _).below b4 (by omega)).alloc _
  · exact (((HasBox.new' (by simp) [.int .i64 kind, .string name, .slice At m ct, .string text] tT).alloc _).below b4 (by omega)).alloc _
  · exact ((HasBox.new' (by simp) [.slice none 0 0, .slice none 0 0] tB).below b4 (by omega)).alloc _
  · exact (hb3.trans (b4.mono (by omega))).alloc (by omega) _
/-- the result is laid into its box: the end of the call -/
theorem AddAt.fin {A4 A5 : Option Addr} {n4 c4 n5 c5 hi : Nat} {b : Bld} {L : List (Nod × Hd)} (h : AddAt tB tT H W0 A n c A' n' c' kind name text At m ct G u v W) (o : OwnX (AddX H G) W (H + 1 + 1 + 1) hi e ek ei A4 n4 c4 A5 n5 c5 b L) (hh : hi ≤ W.heap.size) (x y : Value) :
    OwnB ((W.setCell ⟨H + 1 + 1, 0, none⟩ x).setCell ⟨H + 1 + 1, 1, none⟩ y) H ((W.setCell ⟨H + 1 + 1, 0, none⟩ x).setCell ⟨H + 1 + 1, 1, none⟩ y).heap.size e ek ei A4 n4 c4 A5 n5 c5 b L ∧ Below H W0 ((W.setCell ⟨H + 1 + 1, 0, none⟩ x).setCell ⟨H + 1 + 1, 1, none⟩ y) :=
  ⟨(((o.set (p := ⟨H + 1 + 1, 0, none⟩) (.inl (by show H + 1 + 1 < _; omega)) x).set (p := ⟨H + 1 + 1, 1, none⟩) (.inl (by show H + 1 + 1 < _; omega)) y).own).wide (by omega) (by simp [World.setCell]; exact hh),
   (h.below.setCell (by show H ≤ H + 1 + 1; omega) x).setCell (by show H ≤ H + 1 + 1; omega) y⟩
end
theorem hitB_neg {b : Bld} {name : ByteArray} {i : Nat} (h : i < b.opens.length) (hm : b.opens[i] < 0) : hitB b name i = false := by
  simp [hitB, List.getElem?_eq_getElem h]
  intro h0; omega
theorem hitB_far {b : Bld} {name : ByteArray} {i : Nat} (h : i < b.opens.length) (hm : (b.nodes.length : Int) ≤ b.opens[i]) : hitB b name i = false := by
  have : b.nodes[b.opens[i].toNat]? = none := List.getElem?_eq_none (by omega)
  simp [hitB, List.getElem?_eq_getElem h, this]
theorem hitB_at {b : Bld} {name : ByteArray} {i j : Nat} (h : i < b.opens.length) (hm : b.opens[i] = (j : Int)) (hj : j < b.nodes.length) : hitB b name i = decide (b.nodes[j].name = name) := by
  simp [hitB, List.getElem?_eq_getElem h, hm, List.getElem?_eq_getElem hj]

set_option maxHeartbeats 1000000 in
theorem addToken_impl_close {A A' At : Option Addr} {n c n' c' ct : Nat} {b : Bld} {t : Tok} (w : World) (hx : ReadsB w w.heap.size A n A' n' b) (hn : n ≤ 1073741824) (hn' : n' ≤ 1073741824) (hka : ∀ a ∈ b.nodes, a.attrs.length ≤ 1073741824)
    (hi : ∀ z ∈ b.opens, -9223372036854775808 ≤ z ∧ z ≤ 9223372036854775807) (hk : t.kind = 2) :
    Calls Try.prog 15 #[.agg #[.slice A n c, .slice A' n' c'], .agg #[.int .i64 t.kind, .string t.name, .slice At t.attrs.length ct, .string t.text]] w (GotBI w 33 104 3 (addB b t)) := by
  obtain ⟨kind, name, attrs, text⟩ := t
  simp only at hk
  subst hk
  have hlen := hx.len
  have hres := Lib.hid (addB_close (b := b) (t := ⟨2, name, attrs, text⟩) rfl)
  simp only at *
  have hb3 : Below w.heap.size w (((w.alloc (.cells #[.slice A n c, .slice A' n' c'] 27)).alloc (.cells #[.int .i64 2, .string name, .slice At attrs.length ct, .string text] 40)).alloc (.cells #[.slice none 0 0, .slice none 0 0] 27)) := (((Below.refl _ w).alloc (Nat.le_refl _) _).alloc (by simp) _).alloc (by simp; omega) _
  have hx3 := hx.next hb3
  have Hlen := Lib.hid hlen
  clear hlen
  go_enter Try.func15, Try.ntmps15
  go_wp2_with (
    go_at_call 39
    refine (copyBuilder_impl (b := b) _ hx3 hn hn' hka).mono ?_
    rintro e w4 ⟨A4, c4, A5, c5, L, rfl, o4, b4⟩
    simp only [World.size_alloc] at o4 b4
    obtain ⟨st, ow⟩ := AddAt.of o4 b4
    have cap := o4.opens.capLe
    unfold maxLen at cap
    obtain ⟨⟨f00, f01⟩, ⟨f10, f11, f12, f13⟩, ⟨f20, f21, f22, f23⟩, ⟨f30, f31, f32, f33⟩⟩ := st.facts)
  go_loopw [7] (fun i wr => ∃ z : Int, i = .int .i64 z ∧ -1 ≤ z ∧ z < n' ∧ Hid (clsF b name (n' - 1) = clsF b name z.toNat) ∧ Below (w4.heap.size + 1) (w4.alloc (.cells #[.slice A4 n c4, .slice A5 n' c5] 27)) wr) (fun i _ => (intOf i).toNat)
  case atStart => exact ⟨(n' : Int) - 1, rfl, by omega, by omega, by show _ = _; congr 1; omega, Below.refl _ _⟩
  case round =>
    obtain ⟨z, rfl, hz1, hz2, hcl, hbel⟩ := hrel
    have st' := st.next (by rw [World.size_alloc]; exact hbel)
    clear f00 f01 f10 f11 f12 f13 f20 f21 f22 f23 f30 f31 f32 f33
    obtain ⟨⟨f00, f01⟩, ⟨f10, f11, f12, f13⟩, ⟨f20, f21, f22, f23⟩, ⟨f30, f31, f32, f33⟩⟩ := st'.facts
    have hwr := st'.below
    by_cases hz : 1 ≤ z
    · obtain ⟨k, rfl⟩ : ∃ k : Nat, z = (k : Int) + 1 := ⟨(z - 1).toNat, by omega⟩
      have hk1 : k + 1 < n' := by omega
      obtain ⟨b0, off0, rfl, hb0, hcx⟩ := (hx.2.below hwr).num hk1
      have hl1 : k + 1 < b.opens.length := by rw [Hlen.out.2]; exact hk1
      have g1 := hcx hl1
      clear hcx
      have him := hi _ (List.getElem_mem hl1)
      have hng := hitB_neg (name := name) hl1
      have hfr := hitB_far (name := name) hl1
      have hat := fun j => hitB_at (name := name) (j := j) hl1
      generalize b.opens[k + 1] = o at *
      have hclm : hitB b name (k + 1) = false → Hid (clsF b name (n' - 1) = clsF b name k) := fun h => by
        show _ = _
        rw [hcl.out, show ((k : Int) + 1).toNat = k + 1 by omega, clsF_miss h]
      have hclh : hitB b name (k + 1) = true → Hid (clsF b name (n' - 1) = k + 1) := fun h => by
        show _ = _
        rw [hcl.out, show ((k : Int) + 1).toNat = k + 1 by omega, clsF_hit h]
      clear hcl
      by_cases ho1 : o < 0
      · have hcl2 := hclm (hng ho1)
        clear hng hfr hat hclm hclh
        have hd : decide ((0 : Int) ≤ o) = false := by simpa using ho1
        go_wp2
        go_quiet (fail)
        go_wp2
        go_roundw
        case rel => exact ⟨(k : Int), by go_num, by omega, by omega, hcl2, below_drewN hbel _⟩
        case measure => simp [intOf]
      · by_cases ho2 : (n : Int) ≤ o
        · have hcl2 := hclm (hfr (by rw [Hlen.out.1]; exact ho2))
          clear hng hfr hat hclm hclh
          have hd : (0 : Int) ≤ o := by omega
          have hd2 : decide (o < (n : Int)) = false := by simpa using ho2
          go_wp2
          go_quiet (fail)
          go_wp2
          go_roundw
          case rel => exact ⟨(k : Int), by go_num, by omega, by omega, hcl2, below_drewN hbel _⟩
          case measure => simp [intOf]
        · obtain ⟨j, rfl⟩ := Int.eq_ofNat_of_zero_le (by omega : 0 ≤ o)
          have hj : j < n := by omega
          obtain ⟨b1, off1, rfl, hb1, hcy⟩ := (hx.1.below hwr).nod hj
          have hl2 : j < b.nodes.length := by rw [Hlen.out.1]; exact hj
          obtain ⟨Ax, cx, hrk, e0, e1, e2, e3⟩ := hcy hl2
          have hh := hat j rfl hl2
          clear hng hfr hat hcy hrk e1 e2 e3
          generalize b.nodes[j].name = nm at *
          have hd : (0 : Int) ≤ (j : Int) := by omega
          have hd2 : (j : Int) < (n : Int) := by omega
          by_cases hq : nm = name
          · subst hq
            have hcl2 := hclh (by rw [hh]; simp)
            clear hclm hclh hh
            have hq2 : (nm.toList == nm.toList) = true := by simp
            have hk9 : (k : Int) + 1 ≤ (c5 : Int) := by omega
            have hkk : (0 : Int) ≤ (k : Int) + 1 := by omega
            have hsz := hbel.size
            simp only [World.size_alloc] at hsz
            go_wp2
            go_quiet (fail)
            have st2 := (st'.next (below_drewN (Below.refl _ _) nq)).put1 (.slice A5 (k + 1) c5)
            have ow2 := (((ow.below (by rw [World.size_alloc]; exact hbel)).below (below_drewN (Below.refl _ _) nq)).set (p := ⟨w4.heap.size, 1, none⟩) (.inr rfl) (.slice A5 (k + 1) c5)).cut (m := k + 1) (by omega) (.inl (by omega))
            obtain ⟨⟨p00, p01⟩, ⟨p10, p11, p12, p13⟩, ⟨p20, p21, p22, p23⟩, ⟨p30, p31, p32, p33⟩⟩ := st2.facts
            obtain ⟨ob, bl⟩ := st2.fin ow2 (by simp [World.setCell]; omega) (.slice A4 n c4) (.slice A5 (k + 1) c5)
            go_wp2
            refine bodyPost_ret (v := .tuple #[.agg #[.slice A4 n c4, .slice A5 (k + 1) c5], .int .i64 (-1)]) (by simp [results, Try.results15, go_sem, p20, p21, p22, p23, p30, p31]) rfl (GotBI.of (b' := ⟨b.nodes, b.opens.take (k + 1)⟩) ?_ Hlen.out.1 (by simp; omega) ob bl)
            rw [hres.out, Hlen.out.2, hcl2.out]
          · have hcl2 := hclm (by rw [hh]; simpa using hq)
            clear hclm hclh hh
            have hq2 := str_ne hq
            go_wp2
            go_quiet (fail)
            go_wp2
            go_roundw
            case rel => exact ⟨(k : Int), by go_num, by omega, by omega, hcl2, below_drewN hbel _⟩
            case measure => simp [intOf]
    · have hcl2 : Hid (clsF b name (n' - 1) = n') := by
        show _ = _
        rw [hcl.out, show z.toNat = 0 by omega, clsF, Hlen.out.2]
      clear hcl
      go_wp2
      obtain ⟨ob, bl⟩ := st'.fin ((ow.below (by rw [World.size_alloc]; exact hbel))) (by have := hbel.size; simp at this; omega) (.slice A4 n c4) (.slice A5 n' c5)
      refine bodyPost_ret (v := .tuple #[.agg #[.slice A4 n c4, .slice A5 n' c5], .int .i64 (-1)]) (by simp [results, Try.results15, go_sem, f20, f21, f22, f23, f30, f31]) rfl (GotBI.of (b' := b) ?_ Hlen.out.1 Hlen.out.2 ob bl)
      rw [hres.out, Hlen.out.2, hcl2.out, List.take_of_length_le (by rw [Hlen.out.2]; exact Nat.le_refl _)]
end Go.Proofs.Ytleopmeaaabejaa

namespace Go.Proofs.Ytleopmeaaabejaa
set_option linter.unusedVariables false
set_option linter.unusedSimpArgs false
set_option maxRecDepth 100000
open Go.ChangeShapes Go.WideShapes Go.ChangeAt Go.RowKit Go.Deep

theorem str_lit_eq {a : ByteArray} (l : List UInt8) : (a.toList == l) = decide (a = ⟨l.toArray⟩) := by
  have := toList_eq_iff (a := a) (b := ⟨l.toArray⟩)
  rw [Lib.toList_data ⟨l.toArray⟩] at this
  simpa using this
theorem voidB_eq (s : ByteArray) : voidB s = (s.toList == [105, 109, 103] || s.toList == [108, 105, 110, 107]) := by
  rw [str_lit_eq, str_lit_eq]; rfl
theorem isVoid_impl (s : ByteArray) (w : World) : Calls Try.prog 13 #[.string s] w fun e w' => e = .returned (.bool (voidB s)) ∧ w' = w := by
  rw [voidB_eq]
  go_enter Try.func13, Try.ntmps13
  go_wp2
  all_goals go_ret
  all_goals refine ⟨?_, rfl⟩
  all_goals first | rfl | (rename_i h; simp [h])
theorem isVoid_spec (s : ByteArray) (w : World) : Calls Try.prog 42 #[.string s] w fun e w' => e = .returned (.bool (voidB s)) ∧ w' = w := by
  rw [voidB_eq]
  go_enter Try.func42, Try.ntmps42
  go_wp2
  all_goals go_ret
  all_goals refine ⟨?_, rfl⟩
  all_goals first | rfl | (rename_i h; simp [h])
end Go.Proofs.Ytleopmeaaabejaa

namespace Go.Proofs.Ytleopmeaaabejaa
set_option linter.unusedVariables false
set_option linter.unusedSimpArgs false
set_option maxRecDepth 100000
open Go.ChangeShapes Go.WideShapes Go.ChangeAt Go.RowKit Go.Deep

theorem l6Attrs_spec {A : Option Addr} {n c : Nat} {l : List S2} (w : World) (hx : Reads w w.heap.size 2 A n (s2V l)) (hn : n ≤ 1073741824) :
    Calls Try.prog 43 #[.slice A n c] w (GotRow w 104 2 n (s2V l)) := by
  have h0 := own_empty w 104 2
  have hx1 := hx.over (Nat.le_refl _) (.cells #[] 104)
  clear hx
  go_enter Try.func43, Try.ntmps43
  go_wp2_with (at_builtin; refine wpList_app row_Attr rfl (.tmp 3) (.tmp 4) rfl w.heap.size _ 0 0 [] rfl h0 w.heap.size A n c (s2V l) rfl hx1 (s2_one _) n (s2V l) (by omega) rfl ⟨by omega, by omega⟩ (by simp) ?_; intro A1 c1 w1 ho hb)
  go_ret
  exact ⟨_, _, rfl, Own.of_row ho, ((Below.refl _ w).alloc (Nat.le_refl _) _).trans hb⟩

set_option maxHeartbeats 1000000 in
theorem l6Copy_spec {A A' : Option Addr} {n c n' c' : Nat} {b : Bld} (w : World) (hx : ReadsB w w.heap.size A n A' n' b) (hn : n ≤ 1073741824) (hn' : n' ≤ 1073741824) (hka : ∀ a ∈ b.nodes, a.attrs.length ≤ 1073741824) :
    Calls Try.prog 40 #[.agg #[.slice A n c, .slice A' n' c']] w (GotB w 33 104 3 n n' b) := by
  have hb3 : Below w.heap.size w (((w.alloc (.cells #[.slice A n c, .slice A' n' c'] 27)).alloc (.cells #[.slice none 0 0, .slice none 0 0] 27)).alloc (.cells #[] 3)) := (((Below.refl _ w).alloc (Nat.le_refl _) _).alloc (by simp) _).alloc (by simp; omega) _
  have hx3 := hx.2.below hb3
  have ho := own_empty2 w (.cells #[.slice A n c, .slice A' n' c'] 27) (.cells #[.slice none 0 0, .slice none 0 0] 27) 3 1
  go_enter Try.func40, Try.ntmps40
  go_wp2_with (at_builtin; refine wpList_app row_ops rfl (.tmp 6) (.tmp 8) rfl (w.heap.size + 1 + 1) _ 0 0 [] rfl ho w.heap.size A' n' c' (b.opens.map (Value.int .i64)) rfl hx3 (ints_one _ _) n' (b.opens.map (Value.int .i64)) (by omega) rfl ⟨by omega, by omega⟩ (by simp) ?_; intro A4 c4 w4 ho4 hb4; have hs4 := hb4.size; simp only [World.size_alloc] at hs4; have K0 : w4.cell? ⟨w.heap.size, 0, none⟩ = some (.slice A n c) := ((bcell hb4).1 _ _ (by omega)).trans (by simp [go_sem]); have K1 : (w4.alloc (.cells #[.slice none 0 0, .slice A4 n' c4] 27)).cell? ⟨w.heap.size, 0, none⟩ = some (.slice A n c) := by simp [World.cell?_alloc_some, K0])
  go_loopw [4] (fun i wr => ∃ (k : Nat) (Ak : Option Addr) (ck : Nat) (L : List (Nod × Hd)), k ≤ n ∧ i = .int .i64 k ∧ CopyAt 33 104 27 w4 (w.heap.size + 1 + 1) w4.heap.size b (.slice A4 n' c4) k Ak ck L wr)
    (fun i _ => n - (intOf i).toNat)
  case atStart =>
    refine ⟨0, none, 0, [], Nat.zero_le _, rfl, by simp, ?_, by { show (w4.heap.push _)[w4.heap.size]? = _; exact Array.getElem?_push_size }, (Below.refl _ _).alloc (Nat.le_refl _) _⟩
    exact ⟨⟨⟨by simp [Nest.flat], .inl ⟨rfl, rfl⟩⟩, fun k hk => by cases hk⟩, by simp, by simp, by simp⟩
  case round =>
    obtain ⟨k, Ak, ck, L, hk, rfl, h⟩ := hrel
    have hb4' : Below w.heap.size w w4 := hb3.trans (hb4.mono (by omega))
    have hbr : Below w.heap.size w wr := hb4'.trans (h.bel.mono hb4'.size)
    have hg3 : w4.heap.size < wr.heap.size := (Array.getElem?_eq_some_iff.1 h.box).1
    have K0r : wr.cell? ⟨w.heap.size, 0, none⟩ = some (.slice A n c) := ((bcell h.bel).1 _ _ (by omega)).trans K0
    by_cases hlt : k < n
    · obtain ⟨b0, off0, rfl, hb0, hx4⟩ := (hx.1.below hbr).nod hlt
      have hl1 : k < b.nodes.length := by rw [hx.1.len]; exact hlt
      obtain ⟨Ax, cx, hrk, e0, e1, e2, e3⟩ := hx4 hl1
      have hfst : Hid (b.nodes.take (k + 1) = b.nodes.take k ++ [b.nodes[k]]) := List.take_succ_eq_append_getElem hl1
      have hka' := hka b.nodes[k] (List.getElem_mem _)
      generalize b.nodes[k] = nd at *
      obtain ⟨name, text, parent, attrs⟩ := nd
      simp only at hrk e0 e1 e2 e3
      clear hx4
      obtain ⟨x0, x1, xf0, xf1⟩ := two_cells h.box
      have hW5 : Below wr.heap.size wr (wr.alloc (.cells #[.string name, .string text, .int .i64 parent, .slice Ax attrs.length cx] 33)) := (Below.refl _ wr).alloc (Nat.le_refl _) _
      have K0a : (wr.alloc (.cells #[.string name, .string text, .int .i64 parent, .slice Ax attrs.length cx] 33)).cell? ⟨w.heap.size, 0, none⟩ = some (.slice (some ⟨b0, off0, none⟩) n c) := by simp [World.cell?_alloc_some, K0r]
      have e3a : (wr.alloc (.cells #[.string name, .string text, .int .i64 parent, .slice Ax attrs.length cx] 33)).cell? ⟨b0, off0 + k * 4 + 3, none⟩ = some (.slice Ax attrs.length cx) := by simp [World.cell?_alloc_some, e3]
      have hrk5 := hrk.below (hW5.mono hbr.size)
      have hla : attrs.length ≤ 1073741824 := hka'
      go_wp2_with (first
        | (go_at_call 43
           refine (l6Attrs_spec (l := attrs) _ (hrk5.more (by simp; omega)) (by omega)).mono ?_
           rintro e w6 ⟨A6, c6, rfl, o6, hb6⟩
           simp only [World.size_alloc] at hb6
           have ho6 := o6.1
           simp only [World.size_alloc] at ho6
           have hs6 := hb6.size
           simp only [World.size_alloc] at hs6
           have hb6' : Below wr.heap.size wr w6 := hW5.trans (hb6.mono (by omega))
           have t0 : w6.cell? ⟨wr.heap.size, 0, none⟩ = some (.string name) := ((bcell hb6).1 _ _ (by omega)).trans (by simp [go_sem])
           have t1 : w6.cell? ⟨wr.heap.size, 1, none⟩ = some (.string text) := ((bcell hb6).1 _ _ (by omega)).trans (by simp [go_sem])
           have t2 : w6.cell? ⟨wr.heap.size, 2, none⟩ = some (.int .i64 parent) := ((bcell hb6).1 _ _ (by omega)).trans (by simp [go_sem])
           have t3 : w6.cell? ⟨wr.heap.size, 3, none⟩ = some (.slice Ax attrs.length cx) := ((bcell hb6).1 _ _ (by omega)).trans (by simp [go_sem])
           have tf3 : w6.frozen? ⟨wr.heap.size, 3, none⟩ = false := ((bcell hb6).2 _ _ (by omega)).trans (by rw [frozen?_alloc_cells]; simp [World.frozen?])
           have y0 : w6.cell? ⟨w4.heap.size, 0, none⟩ = some (.slice Ak k ck) := ((bcell hb6').1 _ _ (by omega)).trans x0)
        | (at_builtin
           have hr4 := Reads.four (w6.setCell ⟨wr.heap.size, 3, none⟩ (.slice A6 attrs.length c6)) (.string name) (.string text) (.int .i64 parent) (.slice A6 attrs.length c6) 33
           rw [show (w6.setCell ⟨wr.heap.size, 3, none⟩ (.slice A6 attrs.length c6)).heap.size = w6.heap.size by simp [World.setCell]] at hr4
           have hbW := (hb6'.setCell (p := ⟨wr.heap.size, 3, none⟩) (by simp) (.slice A6 attrs.length c6)).alloc (by simp; omega) (.cells #[.string name, .string text, .int .i64 parent, .slice A6 attrs.length c6] 33)
           refine wpList_push (N := nodN) (bytes := 64) row_Node rfl (.tmp 32) (.tmp 34) rfl (lo := w4.heap.size + 1) (m := wr.heap.size) (ek := 104) (L := L) (A := Ak) (n := k) (c := ck) ?_ (by simp; omega) (by omega) (⟨name, text, parent, attrs⟩, (A6, c6)) ?_ rfl (some ⟨w6.heap.size, 0, none⟩) 1 _ rfl hr4 (by omega) (by omega) ?_
           · exact h.own.below hbW
           · exact (((Own.of_row ho6).set (p := ⟨wr.heap.size, 3, none⟩) (by simp) _).below ((Below.refl _ _).alloc (Nat.le_refl _) _)).wide (by omega) (by simp)
           intro A8 c8 w8 ho8 hk8
           have box8 : w8.heap[w4.heap.size]? = some (.cells #[.slice Ak k ck, .slice A4 n' c4] 27) := (hk8.block _ (Nat.lt_of_lt_of_le hg3 hbW.size) (fun hS => by have := h.own.row.geb _ hS; omega)).trans ((hbW.block _ hg3).trans h.box)
           obtain ⟨y8, _, yf8, _⟩ := two_cells box8))
      go_roundw
      case rel =>
        refine ⟨k + 1, A8, c8, _, by omega, by go_num, ⟨?_, (ho8.set (p := ⟨w4.heap.size, 0, none⟩) (by simp) _).wide (Nat.le_refl _) (by simp [World.setCell]), two_set0 box8 _, ?_⟩⟩
        · rw [List.map_append, h.fst, hfst.out]; rfl
        · exact ((h.bel.trans (hbW.mono (by omega))).trans (hk8.below (B := w4.heap.size) (Nat.le_trans (Nat.le_of_lt hg3) hbW.size) (fun j hS => by have := h.own.row.geb _ hS; omega))).setCell (p := ⟨w4.heap.size, 0, none⟩) (by simp) _
      case measure => simp [intOf]; omega
    · obtain rfl : k = n := by omega
      obtain ⟨x0, x1, xf0, xf1⟩ := two_cells h.box
      have r0 : w4.cell? ⟨w.heap.size + 1, 0, none⟩ = some (.slice none 0 0) := ((bcell hb4).1 _ _ (by omega)).trans (by simp [go_sem])
      have r1 : w4.cell? ⟨w.heap.size + 1, 1, none⟩ = some (.slice none 0 0) := ((bcell hb4).1 _ _ (by omega)).trans (by simp [go_sem])
      have q0 : wr.cell? ⟨w.heap.size + 1, 0, none⟩ = some (.slice none 0 0) := ((bcell h.bel).1 _ _ (by omega)).trans r0
      have q1 : wr.cell? ⟨w.heap.size + 1, 1, none⟩ = some (.slice none 0 0) := ((bcell h.bel).1 _ _ (by omega)).trans r1
      have qf0 : wr.frozen? ⟨w.heap.size + 1, 0, none⟩ = false := ((bcell h.bel).2 _ _ (by omega)).trans (((bcell hb4).2 _ _ (by omega)).trans (by rw [frozen?_alloc_cells, frozen?_alloc_cells, frozen?_alloc_cells]; simp [World.frozen?]))
      have qf1 : wr.frozen? ⟨w.heap.size + 1, 1, none⟩ = false := ((bcell h.bel).2 _ _ (by omega)).trans (((bcell hb4).2 _ _ (by omega)).trans (by rw [frozen?_alloc_cells, frozen?_alloc_cells, frozen?_alloc_cells]; simp [World.frozen?]))
      go_wp2
      have hopn : Own wr (w.heap.size + 1 + 1) w4.heap.size 3 1 (.slice A4 n' c4) n' (b.opens.map (Value.int .i64)) := (Own.of_row ho4).below h.bel
      have ob : OwnB wr (w.heap.size + 1 + 1) wr.heap.size 33 104 3 Ak k ck A4 n' c4 b L :=
        ⟨by rw [h.fst, List.take_of_length_le (by rw [hx.1.len]; exact Nat.le_refl _)], h.own.wide (by omega) (Nat.le_refl _), hopn.wide (Nat.le_refl _) (by omega), fun j hj hf => by
          have h1 := hopn.2 j hj
          have h2 := h.own.foot_span j hf
          have h3 : w4.heap.size + 1 ≤ j := h2.1
          omega⟩
      have ob2 := (ob.set (p := ⟨w.heap.size + 1, 0, none⟩) (by simp) (.slice Ak k ck)).set (p := ⟨w.heap.size + 1, 1, none⟩) (by simp) (.slice A4 n' c4)
      have bl2 := (hbr.setCell (p := ⟨w.heap.size + 1, 0, none⟩) (by simp) (.slice Ak k ck)).setCell (p := ⟨w.heap.size + 1, 1, none⟩) (by simp) (.slice A4 n' c4)
      refine bodyPost_ret (v := .agg #[.slice Ak k ck, .slice A4 n' c4]) (by simp [results, Try.results40, go_sem, q0, q1]) rfl ⟨Ak, ck, A4, c4, L, rfl, ob2.wide (by omega) (by simp [World.setCell]), bl2⟩
end Go.Proofs.Ytleopmeaaabejaa
