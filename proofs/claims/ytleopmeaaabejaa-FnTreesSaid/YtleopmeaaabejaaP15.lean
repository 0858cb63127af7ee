/-
  Contracts of AddTokens of the program and of the reference. Condition: at most 2^30 elements.
  Plain words: what builders that are drawn look like: few nodes, few open, short texts. No program is named. No condition.
  Plain facts on the first place of a byte in a string. No program is named. No condition.
-/
import Derived.Test.YtleopmeaaabejaaP14
import Derived.Test.YtleopmeaaabejaaP09
import Derived.Test.YtleopmeaaabejaaP04
import Derived.Lib.Bytealg
import Derived.Test.YtleopmeaaabejaaP01
namespace Go.Proofs.Ytleopmeaaabejaa
set_option linter.unusedVariables false
set_option linter.unusedSimpArgs false
set_option maxRecDepth 100000
open Go.ChangeShapes Go.WideShapes Go.ChangeAt Go.RowKit Go.Deep

structure OkB (b : Bld) : Prop where
  nodes : b.nodes.length ≤ 1073741824
  opens : b.opens.length ≤ 1073741824
  attrs : ∀ a ∈ b.nodes, a.attrs.length ≤ 1073741824
  ints : ∀ z ∈ b.opens, -9223372036854775808 ≤ z ∧ z ≤ 9223372036854775807
theorem addB_cases (b : Bld) (t : Tok) : ((∃ m, (addB b t).1 = ⟨b.nodes, b.opens.take m⟩) ∧ (addB b t).2 = -1) ∨
    (b.nodes.length < 40 ∧ b.opens.length ≠ 0 ∧ ∃ par ∈ b.opens, ∃ x : Nod, x.parent = par ∧ x.attrs.length ≤ t.attrs.length ∧ (addB b t).1.nodes = b.nodes ++ [x] ∧ ((addB b t).1.opens = b.opens ∨ (b.opens.length < 8 ∧ (addB b t).1.opens = b.opens ++ [(b.nodes.length : Int)])) ∧ (addB b t).2 = b.nodes.length) := by
  obtain ⟨kind, name, attrs, text⟩ := t
  by_cases k2 : kind = 2
  · subst k2
    rw [addB_close rfl]
    exact .inl ⟨⟨_, rfl⟩, rfl⟩
  have hstay : addB b ⟨kind, name, attrs, text⟩ = (b, -1) → ((∃ m, (addB b ⟨kind, name, attrs, text⟩).1 = ⟨b.nodes, b.opens.take m⟩) ∧ (addB b ⟨kind, name, attrs, text⟩).2 = -1) := fun h => by
    rw [h]
    exact ⟨⟨b.opens.length, by simp⟩, rfl⟩
  by_cases h40 : 40 ≤ b.nodes.length
  · exact .inl (hstay (addB_full k2 (.inl h40)))
  by_cases h0 : b.opens.length = 0
  · exact .inl (hstay (addB_full k2 (.inr (.inl h0))))
  obtain ⟨p, hp⟩ : ∃ p, b.opens.length = p + 1 := ⟨b.opens.length - 1, by omega⟩
  obtain ⟨par, hpar, hl⟩ := last_at hp
  have hmem : par ∈ b.opens := List.mem_of_getElem? hpar
  by_cases k1 : kind = 1
  · subst k1
    cases hv : voidB name
    · by_cases h8 : b.opens.length < 8
      · right
        rw [addB_k1 false hv (by omega) h0 (.inr h8), hl]
        exact ⟨by omega, h0, par, hmem, ⟨name, ⟨#[]⟩, par, attrs⟩, rfl, Nat.le_refl _, rfl, .inr ⟨h8, by simp⟩, rfl⟩
      · exact .inl (hstay (addB_full k2 (.inr (.inr ⟨rfl, hv, by omega⟩))))
    · right
      rw [addB_k1 true hv (by omega) h0 (.inl rfl), hl]
      exact ⟨by omega, h0, par, hmem, ⟨name, ⟨#[]⟩, par, attrs⟩, rfl, Nat.le_refl _, rfl, .inl (by simp), rfl⟩
  by_cases k3 : kind = 3
  · subst k3
    by_cases ht0 : text.size = 0
    · exact .inl (hstay (addB_none k1 k2 (.inr (bytes_nil ht0))))
    · right
      rw [addB_k3 (by omega) (by omega) h0, hl]
      exact ⟨by omega, h0, par, hmem, ⟨⟨#[]⟩, text, par, []⟩, rfl, Nat.zero_le _, rfl, .inl rfl, rfl⟩
  · exact .inl (hstay (addB_none k1 k2 (.inl k3)))
theorem OkB.add {b : Bld} {t : Tok} (h : OkB b) (ht : t.attrs.length ≤ 1073741824) : OkB (addB b t).1 := by
  rcases addB_cases b t with ⟨⟨m, e⟩, _⟩ | ⟨h40, h0, par, hpar, x, hx1, hx2, e1, e2, _⟩
  · rw [e]
    exact ⟨h.nodes, by simp only [List.length_take]; have := h.opens; omega, h.attrs, fun z hz => h.ints z (List.mem_of_mem_take hz)⟩
  · refine ⟨by rw [e1]; simp; omega, ?_, fun a ha => ?_, fun z hz => ?_⟩
    · rcases e2 with e2 | ⟨h8, e2⟩
      · rw [e2]; exact h.opens
      · rw [e2]; simp; omega
    · rw [e1] at ha
      rcases List.mem_append.1 ha with ha | ha
      · exact h.attrs a ha
      · simp only [List.mem_singleton] at ha
        subst ha
        omega
    · rcases e2 with e2 | ⟨h8, e2⟩
      · rw [e2] at hz; exact h.ints z hz
      · rw [e2] at hz
        rcases List.mem_append.1 hz with hz | hz
        · exact h.ints z hz
        · simp only [List.mem_singleton] at hz
          omega
theorem addsL_snoc (b : Bld) (l : List Tok) (t : Tok) : addsL b (l ++ [t]) = (addB (addsL b l) t).1 := by simp [addsL]
theorem addsL_take {b : Bld} {l : List Tok} {k : Nat} (h : k < l.length) : addsL b (l.take (k + 1)) = (addB (addsL b (l.take k)) l[k]).1 := by
  rw [List.take_succ_eq_append_getElem h, addsL_snoc]
theorem OkB.adds {b : Bld} (h : OkB b) : ∀ l : List Tok, (∀ t ∈ l, t.attrs.length ≤ 1073741824) → OkB (addsL b l) := by
  intro l
  induction l generalizing b with
  | nil => intro _; exact h
  | cons t l ih => intro hl; exact ih (h.add (hl t (by simp))) fun x hx => hl x (by simp [hx])

/-- the boxes of a call of AddTokens -/
structure AdsAt (tB : TypeId) (H : Nat) (W0 : World) (u0 v0 : Value) (G : Nat) (u v : Value) (W : World) : Prop where
  bB : HasBox W H [u0, v0] tB
  bR : HasBox W (H + 1) [.slice none 0 0, .slice none 0 0] tB
  bG : HasBox W G [u, v] tB
  gh : H + 1 + 1 ≤ G
  below : Below H W0 W
  hsz : W0.heap.size = H
def AdsX (H G : Nat) : Nat → Prop := fun k => k < H + 1 + 1 ∨ k = G
section
variable {tB : TypeId} {H G : Nat} {W0 W W' : World} {u0 v0 u v : Value}
theorem AdsAt.next (h : AdsAt tB H W0 u0 v0 G u v W) (hb : Below W.heap.size W W') : AdsAt tB H W0 u0 v0 G u v W' :=
  ⟨h.bB.below hb h.bB.lt, h.bR.below hb h.bR.lt, h.bG.below hb h.bG.lt, h.gh, h.below.trans (hb.mono (by have := h.below.size; have := h.hsz; omega)), h.hsz⟩
theorem AdsAt.put (h : AdsAt tB H W0 u0 v0 G u v W) (x y : Value) : AdsAt tB H W0 u0 v0 G x y ((W.setCell ⟨G, 0, none⟩ x).setCell ⟨G, 1, none⟩ y) :=
  have hg := h.gh
  ⟨(h.bB.other (by show H ≠ G; omega) _).other (by show H ≠ G; omega) _, (h.bR.other (by show H + 1 ≠ G; omega) _).other (by show H + 1 ≠ G; omega) _, (h.bG.put (j := 0) x).put (j := 1) y, h.gh, (h.below.setCell (by show H ≤ G; omega) _).setCell (by show H ≤ G; omega) _, h.hsz⟩
theorem AdsAt.facts (h : AdsAt tB H W0 u0 v0 G u v W) :
    (W.cell? ⟨H, 0, none⟩ = some u0 ∧ W.cell? ⟨H, 1, none⟩ = some v0) ∧
    (W.cell? ⟨H + 1, 0, none⟩ = some (.slice none 0 0) ∧ W.cell? ⟨H + 1, 1, none⟩ = some (.slice none 0 0) ∧ W.frozen? ⟨H + 1, 0, none⟩ = false ∧ W.frozen? ⟨H + 1, 1, none⟩ = false) ∧
    (W.cell? ⟨G, 0, none⟩ = some u ∧ W.cell? ⟨G, 1, none⟩ = some v ∧ W.frozen? ⟨G, 0, none⟩ = false ∧ W.frozen? ⟨G, 1, none⟩ = false) :=
  ⟨⟨h.bB.cell 0 _ rfl, h.bB.cell 1 _ rfl⟩, ⟨h.bR.cell 0 _ rfl, h.bR.cell 1 _ rfl, h.bR.open_ 0, h.bR.open_ 1⟩, ⟨h.bG.cell 0 _ rfl, h.bG.cell 1 _ rfl, h.bG.open_ 0, h.bG.open_ 1⟩⟩
theorem AdsAt.of {w w4 : World} {e ek ei : TypeId} {n n' c4 c5 : Nat} {A4 A5 : Option Addr} {b : Bld} {L : List (Nod × Hd)}
    (o4 : OwnB w4 (w.heap.size + 1 + 1) w4.heap.size e ek ei A4 n c4 A5 n' c5 b L)
    (b4 : Below (w.heap.size + 1 + 1) ((w.alloc (.cells #[u0, v0] tB)).alloc (.cells #[.slice none 0 0, .slice none 0 0] tB)) w4) :
    AdsAt tB w.heap.size w u0 v0 w4.heap.size (.slice A4 n c4) (.slice A5 n' c5) (w4.alloc (.cells #[.slice A4 n c4, .slice A5 n' c5] tB)) ∧
    OwnX (AdsX w.heap.size w4.heap.size) (w4.alloc (.cells #[.slice A4 n c4, .slice A5 n' c5] tB)) (w.heap.size + 1 + 1) w4.heap.size e ek ei A4 n c4 A5 n' c5 b L := by
  have hs := b4.size
  simp only [World.size_alloc] at hs
  have hb3 : Below w.heap.size w ((w.alloc (.cells #[u0, v0] tB)).alloc (.cells #[.slice none 0 0, .slice none 0 0] tB)) := ((Below.refl _ w).alloc (Nat.le_refl _) _).alloc (by simp) _
  refine ⟨⟨?_, ?_, HasBox.new _ _ _, hs, ?_, rfl⟩, (o4.apart_from fun k hk => by unfold AdsX at hk; omega).alloc _⟩
  · exact (((HasBox.new w [u0, v0] tB).alloc _).below b4 (by omega)).alloc _
  · exact ((HasBox.new' (by simp) [.slice none 0 0, .slice none 0 0] tB).below b4 (by omega)).alloc _
  · exact (hb3.trans (b4.mono (by omega))).alloc (by omega) _
theorem AdsAt.fin {e ek ei : TypeId} {A4 A5 : Option Addr} {lo n4 c4 n5 c5 hi : Nat} {b : Bld} {L : List (Nod × Hd)} (h : AdsAt tB H W0 u0 v0 G u v W) (o : OwnX (AdsX H G) W lo hi e ek ei A4 n4 c4 A5 n5 c5 b L) (hl : H ≤ lo) (hh : hi ≤ W.heap.size) (x y : Value) :
    OwnB ((W.setCell ⟨H + 1, 0, none⟩ x).setCell ⟨H + 1, 1, none⟩ y) H ((W.setCell ⟨H + 1, 0, none⟩ x).setCell ⟨H + 1, 1, none⟩ y).heap.size e ek ei A4 n4 c4 A5 n5 c5 b L ∧ Below H W0 ((W.setCell ⟨H + 1, 0, none⟩ x).setCell ⟨H + 1, 1, none⟩ y) :=
  ⟨(((o.set (p := ⟨H + 1, 0, none⟩) (.inl (by show H + 1 < _; omega)) x).set (p := ⟨H + 1, 1, none⟩) (.inl (by show H + 1 < _; omega)) y).own).wide hl (by simp [World.setCell]; exact hh),
   (h.below.setCell (by show H ≤ H + 1; omega) x).setCell (by show H ≤ H + 1; omega) y⟩
end
theorem GotB.of {w w' : World} {e ek ei : TypeId} {b' b1 : Bld} {n n' c c' : Nat} {A A' : Option Addr} {L : List (Nod × Hd)} (hr : b1 = b') (hn : b'.nodes.length = n) (hn' : b'.opens.length = n')
    (o : OwnB w' w.heap.size w'.heap.size e ek ei A n c A' n' c' b' L) (hb : Below w.heap.size w w') : GotB w e ek ei b1.nodes.length b1.opens.length b1 (.returned (.agg #[.slice A n c, .slice A' n' c'])) w' := by
  subst hr hn hn'
  exact ⟨A, c, A', c', L, rfl, o, hb⟩
/-- where the loop stands: k tokens are added -/
structure AdsInv (tB e ek ei : TypeId) (H : Nat) (W0 : World) (u0 v0 : Value) (G : Nat) (bk : Bld) (wr : World) (A4 A5 : Option Addr) (c4 c5 lo hi : Nat) (L : List (Nod × Hd)) : Prop where
  at_ : AdsAt tB H W0 u0 v0 G (.slice A4 bk.nodes.length c4) (.slice A5 bk.opens.length c5) wr
  own : OwnX (AdsX H G) wr lo hi e ek ei A4 bk.nodes.length c4 A5 bk.opens.length c5 bk L
  low : H ≤ lo
  high : hi ≤ wr.heap.size
set_option maxHeartbeats 1000000 in
theorem addTokens_impl {A A' B : Option Addr} {n c n' c' m d : Nat} {b : Bld} {l : List Tok} (w : World) (hx : ReadsB w w.heap.size A n A' n' b) (hok : OkB b) (hl : ReadsN tokN w w.heap.size B m l) (hm : m ≤ 1073741824) (hla : ∀ t ∈ l, t.attrs.length ≤ 1073741824) :
    Calls Try.prog 22 #[.agg #[.slice A n c, .slice A' n' c'], .slice B m d] w (GotB w 33 104 3 (addsL b l).nodes.length (addsL b l).opens.length (addsL b l)) := by
  have hlen := hx.len
  have hn : n ≤ 1073741824 := by rw [← hlen.1]; exact hok.nodes
  have hn' : n' ≤ 1073741824 := by rw [← hlen.2]; exact hok.opens
  have Hlen := Lib.hid hlen
  have lm := Lib.hid hl.len
  clear hlen
  have hb3 : Below w.heap.size w _ := ((Below.refl _ w).alloc (Nat.le_refl _) (.cells #[.slice A n c, .slice A' n' c'] 27)).alloc (by simp) (.cells #[.slice none 0 0, .slice none 0 0] 27)
  have hx3 := hx.next hb3
  go_enter Try.func22, Try.ntmps22
  go_wp2_with (first
    | (go_at_call 39
       refine (copyBuilder_impl (b := b) _ hx3 hn hn' hok.attrs).mono ?_
       rintro e w4 ⟨A4, c4, A5, c5, L, rfl, o4, b4⟩
       simp only [World.size_alloc] at o4 b4
       obtain ⟨st, ow⟩ := AdsAt.of o4 b4
       have z4 := b4.size
       simp only [World.size_alloc] at z4))
  go_loopw [12] (fun i wr => ∃ (k : Nat) (A4 A5 : Option Addr) (c4 c5 lo hi : Nat) (L : List (Nod × Hd)), k ≤ m ∧ i = .int .i64 k ∧ AdsInv 27 33 104 3 w.heap.size w (.slice A n c) (.slice A' n' c') w4.heap.size (addsL b (l.take k)) wr A4 A5 c4 c5 lo hi L) (fun i _ => m - (intOf i).toNat)
  case atStart =>
    refine ⟨0, A4, A5, c4, c5, w.heap.size + 1 + 1, w4.heap.size, L, Nat.zero_le _, rfl, ⟨?_, ?_, by omega, by simp⟩⟩
    · show AdsAt _ _ _ _ _ _ (.slice A4 b.nodes.length c4) (.slice A5 b.opens.length c5) _
      rw [Hlen.out.1, Hlen.out.2]; exact st
    · show OwnX _ _ _ _ _ _ _ A4 b.nodes.length c4 A5 b.opens.length c5 b _
      rw [Hlen.out.1, Hlen.out.2]; exact ow
  case round =>
    clear st ow o4 b4
    obtain ⟨k, A4, A5, c4, c5, lo, hi, L, hk, rfl, h⟩ := hrel
    obtain ⟨⟨f00, f01⟩, ⟨f10, f11, f12, f13⟩, ⟨f20, f21, f22, f23⟩⟩ := h.at_.facts
    have hwr := h.at_.below
    have hw0 := hwr.size
    by_cases hlt : k < m
    · have hl1 : k < l.length := by rw [lm.out]; exact hlt
      have hbk : OkB (addsL b (l.take k)) := hok.adds _ fun t ht => hla t (List.mem_of_mem_take ht)
      have hstep : Hid (addsL b (l.take (k + 1)) = (addB (addsL b (l.take k)) l[k]).1) := addsL_take hl1
      obtain ⟨b0, off0, rfl, hb0, hcx⟩ := (hl.below hwr).tok hlt
      obtain ⟨At, ct, hrt, e0, e1, e2, e3⟩ := hcx hl1
      have hta := hla _ (List.getElem_mem hl1)
      clear hcx
      generalize hbb : addsL b (l.take k) = bk at *
      clear hbb
      generalize l[k] = t at *
      have hbt := (Below.refl wr.heap.size wr).alloc (Nat.le_refl _) (.cells #[.int .i64 t.kind, .string t.name, .slice At t.attrs.length ct, .string t.text] 40)
      have st1 := h.at_.next hbt
      obtain ⟨⟨h00, h01⟩, ⟨h10, h11, h12, h13⟩, ⟨h20, h21, h22, h23⟩⟩ := st1.facts
      have hrd := (h.own.below hbt).own.rd (by simp; have := h.high; omega)
      have hrt1 := (hrt.below (hbt.mono hw0)).more (B' := (wr.alloc (.cells #[.int .i64 t.kind, .string t.name, .slice At t.attrs.length ct, .string t.text] 40)).heap.size) (by simp; omega)
      go_wp2_with (first
        | (go_at_call 15
           refine (addToken_impl (t := t) _ hrd hbk.nodes hbk.opens hbk.attrs hbk.ints hrt1 hta).mono ?_
           rintro e w6 ⟨A6, c6, A7, c7, L6, rfl, o6, b6⟩
           have z6 := b6.size
           simp only [World.size_alloc] at z6 o6
           have st6 := st1.next b6
           obtain ⟨⟨k00, k01⟩, ⟨k10, k11, k12, k13⟩, ⟨k20, k21, k22, k23⟩⟩ := st6.facts))
      have gl := h.at_.bG.lt
      have gh := h.at_.gh
      have ow6 := ((o6.apart_from (X := AdsX w.heap.size w4.heap.size) fun k hk => by unfold AdsX at hk; omega).set (p := ⟨w4.heap.size, 0, none⟩) (.inr rfl) (.slice A6 (addB bk t).1.nodes.length c6)).set (p := ⟨w4.heap.size, 1, none⟩) (.inr rfl) (.slice A7 (addB bk t).1.opens.length c7)
      have st7 := st6.put (.slice A6 (addB bk t).1.nodes.length c6) (.slice A7 (addB bk t).1.opens.length c7)
      go_roundw
      case rel =>
        refine ⟨k + 1, A6, A7, c6, c7, wr.heap.size + 1, w6.heap.size, L6, by omega, by go_num, ?_⟩
        rw [hstep.out]
        exact ⟨st7, ow6, by omega, by simp [World.setCell]⟩
      case measure => simp [intOf]; omega
    · obtain rfl : k = m := by omega
      have hall : Hid (addsL b l = addsL b (l.take k)) := by show _ = _; rw [List.take_of_length_le (by rw [lm.out]; exact Nat.le_refl _)]
      generalize addsL b (l.take k) = bk at *
      obtain ⟨ob, bl⟩ := h.at_.fin h.own h.low h.high (.slice A4 bk.nodes.length c4) (.slice A5 bk.opens.length c5)
      go_wp2
      exact bodyPost_ret (v := .agg #[.slice A4 bk.nodes.length c4, .slice A5 bk.opens.length c5]) (by simp [results, Try.results22, go_sem, f10, f11, f12, f13, f20, f21]) rfl (GotB.of hall.out rfl rfl ob bl)
set_option maxHeartbeats 1000000 in
theorem addTokens_spec {A A' B : Option Addr} {n c n' c' m d : Nat} {b : Bld} {l : List Tok} (w : World) (hx : ReadsB w w.heap.size A n A' n' b) (hok : OkB b) (hl : ReadsN tokN w w.heap.size B m l) (hm : m ≤ 1073741824) (hla : ∀ t ∈ l, t.attrs.length ≤ 1073741824) :
    Calls Try.prog 23 #[.agg #[.slice A n c, .slice A' n' c'], .slice B m d] w (GotB w 33 104 3 (addsL b l).nodes.length (addsL b l).opens.length (addsL b l)) := by
  have hlen := hx.len
  have hn : n ≤ 1073741824 := by rw [← hlen.1]; exact hok.nodes
  have hn' : n' ≤ 1073741824 := by rw [← hlen.2]; exact hok.opens
  have Hlen := Lib.hid hlen
  have lm := Lib.hid hl.len
  clear hlen
  have hb3 : Below w.heap.size w _ := ((Below.refl _ w).alloc (Nat.le_refl _) (.cells #[.slice A n c, .slice A' n' c'] 27)).alloc (by simp) (.cells #[.slice none 0 0, .slice none 0 0] 27)
  have hx3 := hx.next hb3
  go_enter Try.func23, Try.ntmps23
  go_wp2_with (first
    | (go_at_call 40
       refine (l6Copy_spec (b := b) _ hx3 hn hn' hok.attrs).mono ?_
       rintro e w4 ⟨A4, c4, A5, c5, L, rfl, o4, b4⟩
       simp only [World.size_alloc] at o4 b4
       obtain ⟨st, ow⟩ := AdsAt.of o4 b4
       have z4 := b4.size
       simp only [World.size_alloc] at z4))
  go_loopw [6] (fun i wr => ∃ (k : Nat) (A4 A5 : Option Addr) (c4 c5 lo hi : Nat) (L : List (Nod × Hd)), k ≤ m ∧ i = .int .i64 k ∧ AdsInv 27 33 104 3 w.heap.size w (.slice A n c) (.slice A' n' c') w4.heap.size (addsL b (l.take k)) wr A4 A5 c4 c5 lo hi L) (fun i _ => m - (intOf i).toNat)
  case atStart =>
    refine ⟨0, A4, A5, c4, c5, w.heap.size + 1 + 1, w4.heap.size, L, Nat.zero_le _, rfl, ⟨?_, ?_, by omega, by simp⟩⟩
    · show AdsAt _ _ _ _ _ _ (.slice A4 b.nodes.length c4) (.slice A5 b.opens.length c5) _
      rw [Hlen.out.1, Hlen.out.2]; exact st
    · show OwnX _ _ _ _ _ _ _ A4 b.nodes.length c4 A5 b.opens.length c5 b _
      rw [Hlen.out.1, Hlen.out.2]; exact ow
  case round =>
    clear st ow o4 b4
    obtain ⟨k, A4, A5, c4, c5, lo, hi, L, hk, rfl, h⟩ := hrel
    obtain ⟨⟨f00, f01⟩, ⟨f10, f11, f12, f13⟩, ⟨f20, f21, f22, f23⟩⟩ := h.at_.facts
    have hwr := h.at_.below
    have hw0 := hwr.size
    by_cases hlt : k < m
    · have hl1 : k < l.length := by rw [lm.out]; exact hlt
      have hbk : OkB (addsL b (l.take k)) := hok.adds _ fun t ht => hla t (List.mem_of_mem_take ht)
      have hstep : Hid (addsL b (l.take (k + 1)) = (addB (addsL b (l.take k)) l[k]).1) := addsL_take hl1
      obtain ⟨b0, off0, rfl, hb0, hcx⟩ := (hl.below hwr).tok hlt
      obtain ⟨At, ct, hrt, e0, e1, e2, e3⟩ := hcx hl1
      have hta := hla _ (List.getElem_mem hl1)
      clear hcx
      generalize hbb : addsL b (l.take k) = bk at *
      clear hbb
      generalize l[k] = t at *
      have hrd := h.own.own.rd h.high
      have hrt1 := (hrt.more hw0)
      have gl := h.at_.bG.lt
      have gh := h.at_.gh
      have hk9 : (k : Int) < (m : Int) := by omega
      have hk0 : (0 : Int) ≤ (k : Int) := by omega
      go_wp2_with fail
      go_region_with (go_at_call 16
                      refine (addToken_spec (b := bk) (t := t) _ (by first | exact hrd | exact hrd.drew) hbk.nodes hbk.opens hbk.attrs (by first | exact hrt1 | exact hrt1.drew) hta).mono ?_
                      rintro e w6 ⟨A6, c6, A7, c7, L6, rfl, o6, b6⟩
                      have b6' : Below wr.heap.size wr w6 := (Below.refl _ wr).drew.trans b6
                      have z6 := b6'.size
                      have st6 := h.at_.next b6'
                      obtain ⟨⟨k00, k01⟩, ⟨k10, k11, k12, k13⟩, ⟨k20, k21, k22, k23⟩⟩ := st6.facts)
      all_goals
        go_wp2
        have ow6 := ((o6.apart_from (X := AdsX w.heap.size w4.heap.size) fun k hk => (by unfold AdsX at hk; show k < wr.heap.size ∨ _; omega)).set (p := ⟨w4.heap.size, 0, none⟩) (.inr rfl) (.slice A6 (addB bk t).1.nodes.length c6)).set (p := ⟨w4.heap.size, 1, none⟩) (.inr rfl) (.slice A7 (addB bk t).1.opens.length c7)
        have st7 := st6.put (.slice A6 (addB bk t).1.nodes.length c6) (.slice A7 (addB bk t).1.opens.length c7)
        go_roundw
        case rel =>
          refine ⟨k + 1, A6, A7, c6, c7, wr.heap.size, w6.heap.size, L6, by omega, by go_num, ?_⟩
          rw [hstep.out]
          exact ⟨st7, ow6, by omega, by simp [World.setCell]⟩
        case measure => simp [intOf]; omega
    · obtain rfl : k = m := by omega
      have hall : Hid (addsL b l = addsL b (l.take k)) := by show _ = _; rw [List.take_of_length_le (by rw [lm.out]; exact Nat.le_refl _)]
      generalize addsL b (l.take k) = bk at *
      obtain ⟨ob, bl⟩ := h.at_.fin h.own h.low h.high (.slice A4 bk.nodes.length c4) (.slice A5 bk.opens.length c5)
      go_wp2
      exact bodyPost_ret (v := .agg #[.slice A4 bk.nodes.length c4, .slice A5 bk.opens.length c5]) (by simp [results, Try.results23, go_sem, f10, f11, f12, f13, f20, f21]) rfl (GotB.of hall.out rfl rfl ob bl)
end Go.Proofs.Ytleopmeaaabejaa

namespace Go.Proofs.Ytleopmeaaabejaa
set_option linter.unusedVariables false
set_option linter.unusedSimpArgs false
open Go.RowKit

structure InvB (b : Bld) : Prop where
  nodes : b.nodes.length ≤ 40
  open1 : 1 ≤ b.opens.length
  open8 : b.opens.length ≤ 8
  sz : ∀ a ∈ b.nodes, nodSz a ≤ 50000
  ints : ∀ z ∈ b.opens, 0 ≤ z ∧ z ≤ 40
theorem clsF_pos (b : Bld) (name : ByteArray) (h : 1 ≤ b.opens.length) : ∀ i, 1 ≤ clsF b name i
  | 0 => h
  | i + 1 => by
    rw [clsF]
    split
    · omega
    · exact clsF_pos b name h i
theorem newNode_sz (b : Bld) (t : Tok) : nodSz (newNode b t) ≤ tokSz t := by
  have hz : (⟨#[]⟩ : ByteArray).size = 0 := rfl
  have h1 := s2sz_nonneg t.attrs
  unfold newNode
  split
  · unfold nodSz tokSz
    simp only [hz]
    omega
  · unfold nodSz tokSz
    simp only [hz, List.length_nil]
    have : s2sz [] = 0 := rfl
    omega
theorem InvB.add {b : Bld} {t : Tok} (h : InvB b) (ht : tokSz t ≤ 45000) : InvB (addB b t).1 := by
  have h1 := h.nodes
  have h2 := h.open1
  have h3 := h.open8
  by_cases k2 : t.kind = 2
  · rw [addB_close k2]
    have hc := clsF_pos b t.name h2 (b.opens.length - 1)
    refine ⟨h1, ?_, ?_, h.sz, fun z hz => h.ints z (List.mem_of_mem_take hz)⟩
    · show 1 ≤ (b.opens.take _).length
      rw [List.length_take]; omega
    · show (b.opens.take _).length ≤ 8
      rw [List.length_take]; omega
  · cases ha : addsB t
    · rw [addB_stay k2 (.inl ha)]; exact h
    · cases hf : fullB b t
      · rw [addB_add k2 ha hf]
        unfold fullB at hf
        simp only [Bool.or_eq_false_iff, decide_eq_false_iff_not] at hf
        obtain ⟨⟨f1, f2⟩, f3⟩ := hf
        have hn := newNode_sz b t
        refine ⟨by simp; omega, ?_, ?_, fun a ha => ?_, fun z hz => ?_⟩
        · show 1 ≤ (addOpens b t).length
          unfold addOpens
          split
          · rw [List.length_append]; omega
          · exact h2
        · show (addOpens b t).length ≤ 8
          unfold addOpens
          split
          · rename_i hk
            rw [List.length_append]
            have : ¬ 8 ≤ b.opens.length := by
              intro h8
              rw [hk.2] at f3
              simp [hk.1, h8] at f3
            simp
            omega
          · exact h3
        · rcases List.mem_append.1 ha with ha | ha
          · exact h.sz a ha
          · simp only [List.mem_singleton] at ha
            subst ha
            omega
        · replace hz : z ∈ addOpens b t := hz
          unfold addOpens at hz
          split at hz
          · rcases List.mem_append.1 hz with hz | hz
            · exact h.ints z hz
            · simp only [List.mem_singleton] at hz
              subst hz
              omega
          · exact h.ints z hz
      · rw [addB_stay k2 (.inr hf)]; exact h
theorem InvB.adds : ∀ {l : List Tok} {b : Bld}, InvB b → (∀ t ∈ l, tokSz t ≤ 45000) → InvB (addsL b l)
  | [], _, h, _ => h
  | t :: l, b, h, ht => InvB.adds (l := l) (b := (addB b t).1) (h.add (ht t (by simp))) fun x hx => ht x (List.mem_cons_of_mem _ hx)
theorem InvB.newB : InvB newB := by
  refine ⟨by decide, by decide, by decide, fun a ha => ?_, fun z hz => ?_⟩
  · simp only [Go.Proofs.Ytleopmeaaabejaa.newB, List.mem_singleton] at ha
    subst ha
    decide
  · simp only [Go.Proofs.Ytleopmeaaabejaa.newB, List.mem_singleton] at hz
    subst hz
    omega
/-- a text that is added is one node more -/
def textTok : Tok := ⟨3, ⟨#[]⟩, [], ⟨#[116]⟩⟩
theorem InvB.text {b : Bld} (h : InvB b) (h40 : b.nodes.length < 40) : (addB b textTok).1.nodes.length = b.nodes.length + 1 := by
  have h2 := h.open1
  have ha : addsB textTok = true := by decide
  have hf : fullB b textTok = false := by
    unfold fullB
    simp only [Bool.or_eq_false_iff, decide_eq_false_iff_not]
    refine ⟨⟨by omega, by omega⟩, ?_⟩
    simp [textTok]
  rw [addB_add (by decide) ha hf]
  simp
theorem textTok_sz : tokSz textTok ≤ 45000 := by decide
structure SmallB (b : Bld) : Prop where
  nodes : b.nodes.length ≤ 41
  opens : b.opens.length ≤ 9
  sz : ∀ a ∈ b.nodes, nodSz a ≤ 50000
  ints : ∀ z ∈ b.opens, -9223372036854775808 ≤ z ∧ z ≤ 9223372036854775807
theorem InvB.small {b : Bld} (h : InvB b) : SmallB b := ⟨by have := h.nodes; omega, by have := h.open8; omega, h.sz, fun z hz => by have := h.ints z hz; omega⟩
theorem nodSz_attrs (a : Nod) : (a.attrs.length : Int) ≤ nodSz a ∧ (a.name.size : Int) ≤ nodSz a := by
  have := s2sz_nonneg a.attrs
  unfold nodSz
  omega
theorem SmallB.attrs {b : Bld} (h : SmallB b) : ∀ a ∈ b.nodes, a.attrs.length ≤ 1073741824 := fun a ha => by
  have h1 := h.sz a ha
  have h2 := nodSz_attrs a
  omega
theorem SmallB.names {b : Bld} (h : SmallB b) : ∀ a ∈ b.nodes, a.name.size ≤ 9223372036854775807 := fun a ha => by
  have h1 := h.sz a ha
  have h2 := nodSz_attrs a
  omega
theorem SmallB.okB {b : Bld} (h : SmallB b) : OkB b := ⟨by have := h.nodes; omega, by have := h.opens; omega, h.attrs, h.ints⟩
theorem nods_bound : ∀ (l : List Nod), (∀ a ∈ l, nodSz a ≤ 50000) → nodsSz l ≤ 50000 * l.length
  | [], _ => by simp [nodsSz]
  | a :: l, h => by
    have h1 := nods_bound l fun x hx => h x (List.mem_cons_of_mem _ hx)
    have h2 := h a (by simp)
    have e : nodsSz (a :: l) = nodSz a + nodsSz l := by simp [nodsSz]
    rw [e, List.length_cons]
    omega
theorem SmallB.size {b : Bld} (h : SmallB b) : nodsSz b.nodes ≤ 2050000 := by
  have h1 := nods_bound b.nodes h.sz
  have h2 := h.nodes
  omega
theorem SmallB.more {b : Bld} {x : Nod} (h : InvB b) (hx : nodSz x ≤ 50000) : SmallB ⟨b.nodes ++ [x], b.opens⟩ :=
  ⟨by have := h.nodes; simp; omega, by have := h.open8; show b.opens.length ≤ 9; omega, fun a ha => by
    rcases List.mem_append.1 ha with ha | ha
    · exact h.sz a ha
    · simp only [List.mem_singleton] at ha; subst ha; exact hx, fun z hz => by have := h.ints z hz; omega⟩
theorem SmallB.open_ {b : Bld} {z : Int} (h : InvB b) (hz : 0 ≤ z ∧ z ≤ 99) : SmallB ⟨b.nodes, b.opens ++ [z]⟩ :=
  ⟨by have := h.nodes; show b.nodes.length ≤ 41; omega, by have := h.open8; simp; omega, h.sz, fun y hy => by
    rcases List.mem_append.1 hy with hy | hy
    · have := h.ints y hy; omega
    · simp only [List.mem_singleton] at hy; subst hy; omega⟩
theorem SmallB.none {b : Bld} (h : InvB b) : SmallB ⟨b.nodes, []⟩ := ⟨by have := h.nodes; show b.nodes.length ≤ 41; omega, by simp, h.sz, fun y hy => by cases hy⟩
end Go.Proofs.Ytleopmeaaabejaa

namespace Go.Proofs.Ytleopmeaaabejaa
set_option linter.unusedVariables false
open Go.RowKit

theorem ixL_cases (c : UInt8) : ∀ l : List UInt8, (Lib.indexByte l c = -1 ∧ ∀ b ∈ l, b ≠ c) ∨ ∃ i : Nat, Lib.indexByte l c = i ∧ l[i]? = some c ∧ ∀ j, j < i → l[j]? ≠ some c
  | [] => .inl ⟨rfl, by simp⟩
  | b :: l => by
    by_cases h : b = c
    · exact .inr ⟨0, by simp [Lib.indexByte, h], by simp [h], fun j hj => absurd hj (by omega)⟩
    · rcases ixL_cases c l with ⟨h1, h2⟩ | ⟨i, h1, h2, h3⟩
      · refine .inl ⟨by simp [Lib.indexByte, h, h1], fun x hx => ?_⟩
        rcases List.mem_cons.1 hx with rfl | hx
        · exact h
        · exact h2 x hx
      · refine .inr ⟨i + 1, ?_, by simpa using h2, ?_⟩
        · have hn : ((i : Int) == -1) = false := by rw [beq_eq_false_iff_ne]; omega
          simp [Lib.indexByte, h, h1, hn]
        · intro j hj
          cases j with
          | zero => simpa using h
          | succ j => simpa using h3 j (by omega)
def ixB (s : ByteArray) (c : UInt8) : Int := Lib.indexByte s.data.toList c
theorem ixB_cases (s : ByteArray) (c : UInt8) : (ixB s c = -1 ∧ ∀ i (h : i < s.size), s[i] ≠ c) ∨ ∃ (i : Nat) (h : i < s.size), ixB s c = i ∧ s[i] = c ∧ ∀ j (hj : j < i), s[j] ≠ c := by
  have hs : ∀ i (h : i < s.size), s.data.toList[i]? = some s[i] := by
    intro i h
    rw [Array.getElem?_toList, Array.getElem?_eq_getElem (by exact h)]
    rfl
  rcases ixL_cases c s.data.toList with ⟨h1, h2⟩ | ⟨i, h1, h2, h3⟩
  · exact .inl ⟨h1, fun i h => h2 _ (List.mem_of_getElem? (hs i h))⟩
  · have hi : i < s.size := by
      have := (List.getElem?_eq_some_iff.1 h2).1
      simpa using this
    refine .inr ⟨i, hi, h1, ?_, fun j hj e => h3 j hj ?_⟩
    · rw [hs i hi] at h2; exact Option.some.inj h2
    · rw [hs j (by omega), e]
theorem ixB_none {s : ByteArray} {c : UInt8} (h : ∀ i (h : i < s.size), s[i] ≠ c) : ixB s c = -1 := by
  rcases ixB_cases s c with ⟨h1, _⟩ | ⟨i, hi, _, h1, _⟩
  · exact h1
  · exact absurd h1 (h i hi)
theorem ixB_at {s : ByteArray} {c : UInt8} {i : Nat} (hi : i < s.size) (he : s[i] = c) (hb : ∀ j (hj : j < i), s[j] ≠ c) : ixB s c = i := by
  rcases ixB_cases s c with ⟨_, h2⟩ | ⟨k, hk, h1, h2, h3⟩
  · exact absurd he (h2 i hi)
  · rcases Nat.lt_trichotomy i k with h | h | h
    · exact absurd he (h3 i h)
    · rw [h1, h]
    · exact absurd h2 (hb k h)
end Go.Proofs.Ytleopmeaaabejaa
