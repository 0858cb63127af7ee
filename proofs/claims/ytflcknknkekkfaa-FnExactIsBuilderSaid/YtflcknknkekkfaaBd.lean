/-
  Contracts of the generated helpers on builders: measure, compare, copy, mark, look. Conditions: sizes of Go strings and slices, at most 2^30 elements.
-/
import Derived.Test.YtflcknknkekkfaaNd3
import Derived.Test.YtflcknknkekkfaaByt
namespace Go.Proofs.Ytflcknknkekkfaa
set_option linter.unusedVariables false
set_option linter.unusedSimpArgs false
set_option maxRecDepth 100000
open Go.ChangeShapes Go.WideShapes Go.ChangeAt Go.RowKit Go.Deep

structure Bld where
  nodes : List Nod
  opens : List Int
def bldSz (b : Bld) : Int := b.nodes.length + nodsSz b.nodes + b.opens.length
def ReadsB (w : World) (B : Nat) (A : Option Addr) (n : Nat) (A' : Option Addr) (n' : Nat) (b : Bld) : Prop :=
  ReadsN nodN w B A n b.nodes ∧ Reads w B 1 A' n' (b.opens.map (Value.int .i64))
section
variable {w w' : World} {B B' n n' : Nat} {A A' : Option Addr} {b : Bld}
theorem ReadsB.below (h : ReadsB w B A n A' n' b) (hb : Below B w w') : ReadsB w' B A n A' n' b := ⟨h.1.below hb, h.2.below hb⟩
theorem ReadsB.more (h : ReadsB w B A n A' n' b) (hB : B ≤ B') : ReadsB w B' A n A' n' b := ⟨h.1.more hB, h.2.more hB⟩
theorem ReadsB.next (h : ReadsB w w.heap.size A n A' n' b) (hb : Below w.heap.size w w') : ReadsB w' w'.heap.size A n A' n' b := (h.below hb).more hb.size
theorem ReadsB.drew (h : ReadsB w B A n A' n' b) : ReadsB w.drew B A n A' n' b := h
theorem ReadsB.len (h : ReadsB w B A n A' n' b) : b.nodes.length = n ∧ b.opens.length = n' := ⟨h.1.len, by have := h.2.1; rw [List.length_map] at this; omega⟩
end
structure OwnB (w : World) (lo hi : Nat) (e ek ei : TypeId) (A : Option Addr) (n c : Nat) (A' : Option Addr) (n' c' : Nat) (b : Bld) (L : List (Nod × Hd)) : Prop where
  fst : L.map (·.1) = b.nodes
  nodes : OwnN nodN w lo hi e ek A n c L
  opens : Own w lo hi ei 1 (.slice A' n' c') n' (b.opens.map (Value.int .i64))
  far : ∀ k, (Value.slice A' n' c').ownBlock = some k → ¬ foot A L k
section
variable {w w' : World} {lo hi n c n' c' : Nat} {e ek ei : TypeId} {A A' : Option Addr} {b : Bld} {L : List (Nod × Hd)}
theorem OwnB.keep {S : Nat → Prop} (h : OwnB w lo hi e ek ei A n c A' n' c' b L) (hk : Keeps S w w') (hs : ∀ k, S k → k < lo ∨ hi ≤ k) : OwnB w' lo hi e ek ei A n c A' n' c' b L :=
  ⟨h.fst, h.nodes.keep hk hs, h.opens.keep hk hs, h.far⟩
theorem OwnB.below (h : OwnB w lo hi e ek ei A n c A' n' c' b L) (hb : Below w.heap.size w w') : OwnB w' lo hi e ek ei A n c A' n' c' b L := h.keep (S := Never) (Keeps.of_below hb) fun _ h => h.elim
theorem OwnB.drew (h : OwnB w lo hi e ek ei A n c A' n' c' b L) : OwnB w.drew lo hi e ek ei A n c A' n' c' b L := h.keep (S := Never) (Keeps.of_below (Below.refl _ _).drew) fun _ h => h.elim
theorem OwnB.rd (h : OwnB w lo hi e ek ei A n c A' n' c' b L) (hh : hi ≤ w.heap.size) : ReadsB w w.heap.size A n A' n' b := by
  refine ⟨?_, (h.opens.reads hh).more hh⟩
  have := (h.nodes.reads hh).more hh
  rw [h.fst] at this
  exact this
theorem OwnB.nums (h : OwnB w lo hi e ek ei A n c A' n' c' b L) : nodN.nums L = b.nodes.map nodN.num := by
  rw [← h.fst]
  simp [Nest.nums]
theorem OwnB.set (h : OwnB w lo hi e ek ei A n c A' n' c' b L) {p : Addr} (hp : p.block < lo) (u : Value) : OwnB (w.setCell p u) lo hi e ek ei A n c A' n' c' b L :=
  h.keep (keeps_set (S := fun k => k = p.block) w u rfl) fun k hk => .inl (by rw [hk]; exact hp)
theorem OwnB.wide {lo' hi' : Nat} (h : OwnB w lo hi e ek ei A n c A' n' c' b L) (h1 : lo' ≤ lo) (h2 : hi ≤ hi') : OwnB w lo' hi' e ek ei A n c A' n' c' b L :=
  ⟨h.fst, h.nodes.wide h1 h2, h.opens.wide h1 h2, h.far⟩
end
def GotB (w : World) (e ek ei : TypeId) (n n' : Nat) (b : Bld) (r : Ending) (w' : World) : Prop :=
  ∃ A c A' c' L, r = .returned (.agg #[.slice A n c, .slice A' n' c']) ∧ OwnB w' w.heap.size w'.heap.size e ek ei A n c A' n' c' b L ∧ Below w.heap.size w w'
theorem OwnN.set {α : Type} {N : Nest α} {w : World} {lo hi n c : Nat} {e ek : TypeId} {A : Option Addr} {L : List (α × Hd)} (h : OwnN N w lo hi e ek A n c L) {p : Addr} (hp : p.block < lo) (u : Value) : OwnN N (w.setCell p u) lo hi e ek A n c L :=
  h.keep (keeps_set (S := fun k => k = p.block) w u rfl) fun k hk => .inl (by rw [hk]; exact hp)
theorem OwnN.elsewhere {α : Type} {N : Nest α} {w w' : World} {lo hi n c : Nat} {e ek : TypeId} {A : Option Addr} {L : List (α × Hd)} {S : Nat → Prop} (h : OwnN N w lo hi e ek A n c L) (hk : Keeps S w w') (hs : ∀ k, S k → ¬ foot A L k) : OwnN N w' lo hi e ek A n c L :=
  ⟨h.row.elsewhere hk fun k hS hb => hs k hS (.inl (by rw [← hdBlock_eq A n c]; exact hb)), fun x hx => (h.kids x hx).elsewhere hk fun k hS hb => hs k hS (.inr ⟨x, hx, by rw [← hdBlock_eq x.2.1 (N.num x.1) x.2.2]; exact hb⟩), h.apart, h.off⟩
def mkB (q : Int) (cs : List Nat) (m : Nat) : Bld := ⟨mkNs mkNod q cs, marks .i64 (q + totN cs) m⟩

theorem eqIntS_same {A A' : Option Addr} {n n' c c' : Nat} {xs : List Int} (w : World) (hx : Reads w w.heap.size 1 A n (xs.map (Value.int .i64))) (hy : Reads w w.heap.size 1 A' n' (xs.map (Value.int .i64)))
    (hn : n ≤ 1099511627776) : Calls Try.prog 71 #[.slice A n c, .slice A' n' c'] w fun e w' => e = .returned (.bool true) ∧ Below w.heap.size w w' :=
  (eqIntS_any w hx hy hn).mono fun _ _ ⟨h1, h2⟩ => ⟨by rw [h1, eqL_self], h2⟩
theorem szIntS_any {A : Option Addr} {n c : Nat} (hn : n ≤ 9223372036854775807) (left : Int) (h0 : 0 ≤ left) (h1 : left ≤ 1048576) (w : World) : Calls Try.prog 77 #[.slice A n c, .int .i64 left] w (Sz left n w) := by
  go_enter Try.func77, Try.ntmps77
  go_wp2
  all_goals go_ret
  all_goals refine ⟨_, rfl, ?_, ?_, ?_, Below.refl _ _⟩
  all_goals omega
set_option maxHeartbeats 400000 in
theorem szBuilder_any {A A' : Option Addr} {n c n' c' : Nat} (b : Bld) (w : World) (hx : ReadsB w w.heap.size A n A' n' b) (hn : n ≤ 9223372036854775807) (hz : ∀ a ∈ b.nodes, okNod a) (hn' : n' ≤ 9223372036854775807) (left : Int) (h0 : 0 ≤ left) (h1 : left ≤ 1048576) :
    Calls Try.prog 37 #[.agg #[.slice A n c, .slice A' n' c'], .int .i64 left] w (Sz left (bldSz b) w) := by
  have hl := hx.len
  have hT : Hid (bldSz b = n + nodsSz b.nodes + n') := by show _ = _; rw [bldSz, hl.1, hl.2]
  have hnn := nodsSz_nonneg b.nodes
  have hb0 := (Below.refl w.heap.size w).alloc (Nat.le_refl _) (.cells #[.slice A n c, .slice A' n' c'] 59)
  have hx' := hx.1.next hb0
  generalize bldSz b = T at *
  clear hl hx
  go_enter Try.func37, Try.ntmps37
  go_wp2_with fail
  refine (szNodeS_any (l := b.nodes) _ hx' hn hz _ h0 h1).mono ?_
  rintro e w1 ⟨r, rfl, ra, rb, rc, b1⟩
  have c1 : w1.cell? ⟨w.heap.size, 1, none⟩ = some (.slice A' n' c') := by rw [(bcell b1).1 _ _ (by simp)]; simp [go_sem]
  have hb1 := hb0.trans (b1.mono hb0.size)
  rcases Int.lt_or_le r 0 with hneg | hpos
  · have R3 := Lib.hid rc
    clear rc
    go_wp2
    go_ret
    exact ⟨-1, rfl, by omega, by omega, by omega, hb1⟩
  · have rd := rc hpos
    clear rc
    go_wp2_with fail
    refine (szIntS_any hn' r hpos (by omega) _).mono ?_
    rintro e w2 ⟨r2, rfl, sa, sb, sc, b2⟩
    have hb2 := hb1.trans (b2.mono hb1.size)
    rcases Int.lt_or_le r2 0 with hneg | hpos2
    · have R3 := Lib.hid sc
      clear sc
      go_wp2
      go_ret
      exact ⟨-1, rfl, by omega, by omega, by omega, hb2⟩
    · have sd := sc hpos2
      clear sc
      go_wp2
      go_ret
      exact ⟨r2, rfl, by omega, by omega, fun _ => by rw [hT.out]; omega, hb2⟩
set_option maxHeartbeats 400000 in
theorem eqBuilder_yes {A A' D D' : Option Addr} {n c n' c' m d m' d' : Nat} (b : Bld) (w : World) (hx : ReadsB w w.heap.size A n A' n' b) (hy : ReadsB w w.heap.size D m D' m' b) (hn : n ≤ 1073741824) (hm : ∀ a ∈ b.nodes, a.attrs.length ≤ 1073741824) (hn' : n' ≤ 1073741824) :
    Calls Try.prog 34 #[.agg #[.slice A n c, .slice A' n' c'], .agg #[.slice D m d, .slice D' m' d']] w fun e w' => e = .returned (.bool true) ∧ Below w.heap.size w w' := by
  have hb0 := ((Below.refl w.heap.size w).alloc (Nat.le_refl _) (.cells #[.slice A n c, .slice A' n' c'] 52)).alloc (by simp) (.cells #[.slice D m d, .slice D' m' d'] 52)
  have hx' := hx.next hb0
  have hy' := hy.next hb0
  clear hx hy
  go_enter Try.func34, Try.ntmps34
  go_wp2_with fail
  refine (eqNodeS_yes (l := b.nodes) _ hx'.1 hy'.1 hn hm).mono ?_
  rintro e w1 ⟨rfl, b1⟩
  have c1 : w1.cell? ⟨w.heap.size, 1, none⟩ = some (.slice A' n' c') := by rw [(bcell b1).1 _ _ (by first | omega | (simp; done) | (simp; omega))]; simp [go_sem]
  have c2 : w1.cell? ⟨w.heap.size + 1, 1, none⟩ = some (.slice D' m' d') := by rw [(bcell b1).1 _ _ (by first | omega | (simp; done) | (simp; omega))]; simp [go_sem]
  go_wp2_with fail
  refine (eqIntS_same _ (hx'.next b1).2 (hy'.next b1).2 (by omega)).mono ?_
  rintro e w2 ⟨rfl, b2⟩
  have hb1 := hb0.trans (b1.mono hb0.size)
  go_wp2
  go_ret
  exact ⟨rfl, hb1.trans (b2.mono hb1.size)⟩
set_option maxHeartbeats 800000 in
theorem toBuilder_any {A A' : Option Addr} {n c n' c' : Nat} (b : Bld) (w : World) (hx : ReadsB w w.heap.size A n A' n' b) (hn : n ≤ 1073741824) (hm : ∀ a ∈ b.nodes, a.attrs.length ≤ 1073741824) (hn' : n' ≤ 1073741824) :
    Calls Try.prog 39 #[.agg #[.slice A n c, .slice A' n' c']] w (GotB w 74 94 3 n n' b) := by
  have hb0 := (((Below.refl w.heap.size w).alloc (Nat.le_refl _) (.cells #[.slice A n c, .slice A' n' c'] 59)).alloc (by simp) (.cells #[.slice none 0 0, .slice none 0 0] 52)).alloc (by simp; omega) (.cells #[.slice none 0 0, .slice none 0 0] 52)
  have hx' := hx.next hb0
  go_enter Try.func39, Try.ntmps39
  go_wp2_with fail
  refine (toNodeS_any (l := b.nodes) _ hx'.1 hn hm).mono ?_
  rintro e w1 ⟨A1, c1, L, rfl, hL, o1, b1⟩
  have z1 := b1.size
  simp at z1
  have f0 : w1.cell? ⟨w.heap.size, 1, none⟩ = some (.slice A' n' c') := by rw [(bcell b1).1 _ _ (by first | omega | (simp; done) | (simp; omega))]; simp [go_sem]
  have g0 : w1.cell? ⟨w.heap.size + 1 + 1, 0, none⟩ = some (.slice none 0 0) := by rw [(bcell b1).1 _ _ (by first | omega | (simp; done) | (simp; omega))]; simp [go_sem]
  have g1 : w1.cell? ⟨w.heap.size + 1 + 1, 1, none⟩ = some (.slice none 0 0) := by rw [(bcell b1).1 _ _ (by first | omega | (simp; done) | (simp; omega))]; simp [go_sem]
  have k0 : w1.cell? ⟨w.heap.size + 1, 0, none⟩ = some (.slice none 0 0) := by rw [(bcell b1).1 _ _ (by first | omega | (simp; done) | (simp; omega))]; simp [go_sem]
  have k1 : w1.cell? ⟨w.heap.size + 1, 1, none⟩ = some (.slice none 0 0) := by rw [(bcell b1).1 _ _ (by first | omega | (simp; done) | (simp; omega))]; simp [go_sem]
  have p2 : ∀ o, w1.frozen? ⟨w.heap.size + 1 + 1, o, none⟩ = false := fun o => by rw [(bcell b1).2 _ _ (by first | omega | (simp; done) | (simp; omega))]; simp [go_sem]
  have p1 : ∀ o, w1.frozen? ⟨w.heap.size + 1, o, none⟩ = false := fun o => by rw [(bcell b1).2 _ _ (by first | omega | (simp; done) | (simp; omega))]; simp [go_sem]
  have hb1 := hb0.trans (b1.mono hb0.size)
  clear b1
  go_wp2_with fail
  have hb2 := hb1.setCell (p := ⟨w.heap.size + 1 + 1, 0, none⟩) (by first | omega | (simp; done) | (simp; omega)) (.slice A1 n c1)
  have rr : Reads (w1.setCell ⟨w.heap.size + 1 + 1, 0, none⟩ (.slice A1 n c1)) (w1.setCell ⟨w.heap.size + 1 + 1, 0, none⟩ (.slice A1 n c1)).heap.size 1 A' n' (b.opens.map (Value.int .i64)) := (hx.2.below hb2).more hb2.size
  refine (toIntS_any (xs := b.opens) _ rr (by omega)).mono ?_
  rintro e w2 ⟨A2, c2, rfl, o2, b2⟩
  have z2 := b2.size
  simp at z2
  have g2 : w2.cell? ⟨w.heap.size + 1 + 1, 0, none⟩ = some (.slice A1 n c1) := by rw [(bcell b2).1 _ _ (by first | omega | (simp; done) | (simp; omega))]; simp [go_sem, g0]
  have g3 : w2.cell? ⟨w.heap.size + 1 + 1, 1, none⟩ = some (.slice none 0 0) := by rw [(bcell b2).1 _ _ (by first | omega | (simp; done) | (simp; omega))]; simp [go_sem, g1]
  have k2 : w2.cell? ⟨w.heap.size + 1, 0, none⟩ = some (.slice none 0 0) := by rw [(bcell b2).1 _ _ (by first | omega | (simp; done) | (simp; omega))]; simp [go_sem, k0]
  have k3 : w2.cell? ⟨w.heap.size + 1, 1, none⟩ = some (.slice none 0 0) := by rw [(bcell b2).1 _ _ (by first | omega | (simp; done) | (simp; omega))]; simp [go_sem, k1]
  have p4 : ∀ o, w2.frozen? ⟨w.heap.size + 1 + 1, o, none⟩ = false := fun o => by rw [(bcell b2).2 _ _ (by first | omega | (simp; done) | (simp; omega))]; simp [go_sem, p2]
  have p3 : ∀ o, w2.frozen? ⟨w.heap.size + 1, o, none⟩ = false := fun o => by rw [(bcell b2).2 _ _ (by first | omega | (simp; done) | (simp; omega))]; simp [go_sem, p1]
  have hb3 := hb2.trans (b2.mono hb2.size)
  have oN := ((o1.set (p := ⟨w.heap.size + 1 + 1, 0, none⟩) (by first | omega | (simp; done) | (simp; omega)) (.slice A1 n c1)).below b2)
  have OB : OwnB w2 (w.heap.size + 1 + 1 + 1) w2.heap.size 74 94 3 A1 n c1 A2 n' c2 b L :=
    ⟨hL, oN.wide (by simp) (by omega), o2.wide (by simp; omega) (Nat.le_refl _), fun k hk hf => by have h1 := o2.ge k hk; have h2 := (o1.foot_span k hf).2; simp at h1; omega⟩
  clear b2 rr oN o1 o2 hx hx' g0 g1 k0 k1 p1 p2 f0 hm
  go_wp2
  refine bodyPost_ret (v := .agg #[.slice A1 n c1, .slice A2 n' c2]) (by simp [results, Try.results39, go_sem, g2, g3, k2, k3, p3, p4]) rfl ⟨A1, c1, A2, c2, L, rfl, ?_, ?_⟩
  · exact (((OB.set (p := ⟨w.heap.size + 1 + 1, 1, none⟩) (by first | omega | (simp; done) | (simp; omega)) (.slice A2 n' c2)).set (p := ⟨w.heap.size + 1, 0, none⟩) (by first | omega | (simp; done) | (simp; omega)) (.slice A1 n c1)).set (p := ⟨w.heap.size + 1, 1, none⟩) (by first | omega | (simp; done) | (simp; omega)) (.slice A2 n' c2)).wide (by omega) (by simp)
  · exact (((hb3.setCell (p := ⟨w.heap.size + 1 + 1, 1, none⟩) (by first | omega | (simp; done) | (simp; omega)) (.slice A2 n' c2)).setCell (p := ⟨w.heap.size + 1, 0, none⟩) (by first | omega | (simp; done) | (simp; omega)) (.slice A1 n c1)).setCell (p := ⟨w.heap.size + 1, 1, none⟩) (by first | omega | (simp; done) | (simp; omega)) (.slice A2 n' c2))
set_option maxHeartbeats 800000 in
theorem markBuilder_any {lo hi n c n' c' : Nat} {A A' : Option Addr} {b : Bld} {L : List (Nod × Hd)} {q : Int} (w : World) (hx : OwnB w lo hi 74 94 3 A n c A' n' c' b L) (hh : hi ≤ w.heap.size) (hn : n ≤ 1073741824) (hn' : n' ≤ 1073741824)
    (q0 : 0 < q) (q1 : q + totN (b.nodes.map nodN.num) ≤ 1073741824) : Calls Try.prog 35 #[.agg #[.slice A n c, .slice A' n' c'], .int .i64 q] w
      (Marked w lo hi (fun w' => ReadsB w' hi A n A' n' (mkB q (b.nodes.map nodN.num) n')) (q + totN (b.nodes.map nodN.num) + n')) := by
  have hnum := hx.nums
  rw [← hnum] at q1 ⊢
  clear hnum
  have tn := totN_nonneg (nodN.nums L)
  have hb0 := (Below.refl w.heap.size w).alloc (Nat.le_refl _) (.cells #[.slice A n c, .slice A' n' c'] 52)
  have hx' := hx.below hb0
  have hfs := Lib.hid hx.nodes.foot_span
  have hfar := Lib.hid hx.far
  clear hx
  go_enter Try.func35, Try.ntmps35
  go_wp2_with fail
  refine (markNodeS_foot _ hx'.nodes (by simp; omega) hn q0 q1).mono ?_
  rintro e w1 ⟨rfl, om, b1⟩
  have z1 := b1.size
  simp at z1
  have c1 : w1.cell? ⟨w.heap.size, 1, none⟩ = some (.slice A' n' c') := (keeps_cell b1 (by simp) (fun hk => by have := (hfs.out _ hk).2; omega)).trans (by simp [go_sem])
  have o1 := hx'.opens.elsewhere b1 (fun k hk hk2 => hfar.out k hk2 hk)
  obtain ⟨lo', hi', hn1, hn2, hn3, hn4, hn5⟩ := Own.narrow o1
  have hkp := (Keeps.of_below hb0).trans (b1.mono hfs.out)
  go_wp2_with fail
  refine (markIntS_any (lo := lo') (hi := hi') _ hn1 (by omega) (by omega) (by omega) (by omega)).mono ?_
  rintro e w2 ⟨rfl, k2, b2⟩
  have z2 := b2.size
  have o2 := hn5 _ _ k2
  have om2 : ReadsN nodN w2 hi A n (mkNs mkNod q (nodN.nums L)) := by
    have h4 := (OwnN.elsewhere om b2 (fun k hk hf => hfar.out k (hn4 k hk) (by
      rcases hf with hf | ⟨x, hx, hf⟩
      · exact .inl hf
      · obtain ⟨i, hi', rfl⟩ := List.getElem_of_mem hx
        have hiL : i < L.length := by rw [remark_len mkNod nums_len] at hi'; exact hi'
        rw [remark_get mkNod hi' (by rw [nums_len]; exact hiL) hiL] at hf
        exact .inr ⟨L[i], List.getElem_mem _, hf⟩))).reads (by omega)
    rw [remark_fst mkNod nums_len] at h4
    exact h4
  have hin : ∀ k, Span lo' hi' k → Span lo hi k := fun k hk => ⟨o1.ge k (hn4 k hk), o1.2 k (hn4 k hk)⟩
  have hkp2 := hkp.trans (b2.mono hin)
  have orr := o2.reads (by omega)
  clear b1 b2 hn1 hn5 k2 om hx' c1
  go_wp2
  go_ret
  exact ⟨rfl, ⟨om2, orr⟩, hkp2⟩
set_option maxHeartbeats 800000 in
theorem heldBuilder_any {A A' : Option Addr} {n c n' c' : Nat} {cs : List Nat} {q : Int} (w : World) (hx : ReadsB w w.heap.size A n A' n' (mkB q cs n')) (hn : n ≤ 1073741824) (hn' : n' ≤ 1073741824) (q0 : 0 < q) (q1 : q + totN cs ≤ 1073741824) :
    Calls Try.prog 36 #[.agg #[.slice A n c, .slice A' n' c'], .int .i64 q] w fun e w' => e = .returned (.int .i64 (q + totN cs + n')) ∧ Below w.heap.size w w' := by
  have tn := totN_nonneg cs
  have hb0 := (Below.refl w.heap.size w).alloc (Nat.le_refl _) (.cells #[.slice A n c, .slice A' n' c'] 52)
  have hx' := hx.next hb0
  clear hx
  go_enter Try.func36, Try.ntmps36
  go_wp2_with fail
  refine (heldNodeS_any _ hx'.1 hn q0 q1).mono ?_
  rintro e w1 ⟨rfl, b1⟩
  have c1 : w1.cell? ⟨w.heap.size, 1, none⟩ = some (.slice A' n' c') := by rw [(bcell b1).1 _ _ (by first | omega | (simp; done) | (simp; omega))]; simp [go_sem]
  have hx2 := (hx'.next b1).2
  have hb1 := hb0.trans (b1.mono hb0.size)
  clear hx' b1
  go_wp2_with fail
  refine (heldIntS_any (q := q + totN cs) _ hx2 (by omega) (by omega) (by omega)).mono ?_
  rintro e w2 ⟨rfl, b2⟩
  have hb2 := hb1.trans (b2.mono hb1.size)
  go_wp2
  go_ret
  exact ⟨rfl, hb2⟩
end Go.Proofs.Ytflcknknkekkfaa
