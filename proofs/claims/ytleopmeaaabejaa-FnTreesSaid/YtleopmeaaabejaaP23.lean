/-
  The reference's draw of any builder: a valid one, or one that is spoilt in one place. No condition.
-/
import Derived.Deep.RegionLaw
import Derived.Deep.RegionWith
import Derived.Deep.LoopGhost
import Derived.Deep.RegionHeld3
import Derived.Test.YtleopmeaaabejaaP21
import Derived.Test.YtleopmeaaabejaaP14
import Derived.Test.YtleopmeaaabejaaP07
import Derived.Test.YtleopmeaaabejaaP22
namespace Go.Proofs.Ytleopmeaaabejaa
set_option linter.unusedVariables false
set_option linter.unusedSimpArgs false
set_option maxRecDepth 100000
open Go.ChangeShapes Go.WideShapes Go.ChangeAt Go.RowKit Go.Deep

/-- a builder that is drawn: read, the draw's cursor alone of the old blocks changed -/
def GotSm (g : Nat) (w : World) (e ek ei : TypeId) (r : Ending) (w' : World) : Prop :=
  ∃ (b : Bld) (A : Option Addr) (c : Nat) (A' : Option Addr) (c' : Nat) (L : List (Nod × Hd)), SmallB b ∧ r = .returned (.agg #[.slice A b.nodes.length c, .slice A' b.opens.length c']) ∧
    OwnB w' w.heap.size w'.heap.size e ek ei A b.nodes.length c A' b.opens.length c' b L ∧ Draws g w w'
theorem Draws.drew {g : Nat} {w w1 : World} (h : Draws g w w1) : Draws g w w1.drew := ⟨⟨h.1.os, h.1.tape, h.1.output, h.1.size, h.1.block⟩, h.2⟩
theorem OwnX.keeps {X S : Nat → Prop} {w w' : World} {lo hi n c n' c' : Nat} {e ek ei : TypeId} {A A' : Option Addr} {b : Bld} {L : List (Nod × Hd)} (h : OwnX X w lo hi e ek ei A n c A' n' c' b L) (hk : Keeps S w w') (hs : ∀ k, S k → k < lo ∨ hi ≤ k) : OwnX X w' lo hi e ek ei A n c A' n' c' b L :=
  ⟨h.own.keep hk hs, h.off⟩
/-- the steps at a region that draws its order -/
theorem step_opnX {P : Program} {X : Nat → Prop} {w : World} {T EI bytes : Nat} (R : RowT P T EI 1 bytes) {ops : Array Oper} {o : Oper} {a : Act} {K : Act → World → Prop} {Q : Exit → Act → World → Prop} {F : Prop} (hgd : o.guard = none) (s x : Operand)
    (ho : o.op = .call { callee := .builtin .append, args := #[s, x], argTypes := #[T, T] })
    {lo hi n c n' c' : Nat} {e ek : TypeId} {A A' : Option Addr} {b : Bld} {L : List (Nod × Hd)} (h : OwnX X w lo hi e ek EI A n c A' n' c' b L) (hm : hi ≤ w.heap.size) (hlm : lo ≤ hi) (hX : ∀ k, X k → k < w.heap.size) (v : Int) (hs : a.eval s = .slice A' n' c')
    (A1 : Option Addr) (c1 B : Nat) (hx : a.eval x = .slice A1 1 c1) (hr : Reads w B 1 A1 1 [.int .i64 v]) (hn : n' + 1 ≤ 1099511627776) (hbytes : bytes ≤ 128)
    (hK : ∀ A2 c2 w', OwnX X w' lo w'.heap.size e ek EI A n c A2 (n' + 1) c2 ⟨b.nodes, b.opens ++ [v]⟩ L → Keeps (fun k => lo ≤ k ∧ k < hi ∧ ¬ X k) w w' → K (a.put o.dst (.slice A2 (n' + 1) c2)) w') : if Region.wanted o (yielded ops a.tmps) = true then Oper.wp P o a w K Q else F := by
  have hw : Region.wanted o (yielded ops a.tmps) = true := by simp [Region.wanted, hgd]
  rw [if_pos hw]
  obtain ⟨i, z, hi', hz, hsz, hby, hzs'⟩ := R.inf
  refine wp_append_any w s x T ho lo EI i z 1 bytes R.und hi' hz hsz hby hzs' R.pos _ n' (b.opens.map (Value.int .i64)) hs h.own.opens.1 B A1 1 c1 [.int .i64 v] hx hr (int_one _ _) (by simp only [maxLen]; omega) ?_ (by omega) ?_
  · have := Nat.mul_le_mul hn hbytes; omega
  · intro A2 c2 w' h2 h3 h4
    refine hK A2 c2 w' (h.opn hm hX h2 h3 h4) ((Keeps.of_grown h3).mono fun k hk1 => ⟨h.own.opens.ge k hk1, h.own.opens.2 k hk1, fun hXk => (h.off k hXk).2 hk1⟩)
theorem step_pushX {P : Program} {X : Nat → Prop} {w : World} {T E bytes : Nat} (R : RowT P T E 4 bytes) {ops : Array Oper} {o : Oper} {a : Act} {K : Act → World → Prop} {Q : Exit → Act → World → Prop} {F : Prop} (hgd : o.guard = none) (s x : Operand)
    (ho : o.op = .call { callee := .builtin .append, args := #[s, x], argTypes := #[T, T] })
    {lo hi n c n' c' : Nat} {ek ei : TypeId} {A A' : Option Addr} {b : Bld} {L : List (Nod × Hd)} (h : OwnX X w lo hi E ek ei A n c A' n' c' b L) (hm : hi ≤ w.heap.size) (hlm : lo ≤ hi) (hX : ∀ k, X k → k < w.heap.size) (el : Nod × Hd)
    (hk : Own w hi w.heap.size ek 2 (.slice el.2.1 (nodN.num el.1) el.2.2) (nodN.num el.1) (nodN.kid el.1)) (hkX : ∀ k, X k → hdBlock el.2 ≠ some k) (hs : a.eval s = .slice A n c)
    (A1 : Option Addr) (c1 B : Nat) (hx : a.eval x = .slice A1 1 c1) (hr : Reads w B 4 A1 1 (nodN.cells el)) (hn : n + 1 ≤ 1099511627776) (hbytes : bytes ≤ 128)
    (hK : ∀ A2 c2 w', OwnX X w' lo w'.heap.size E ek ei A2 (n + 1) c2 A' n' c' ⟨b.nodes ++ [el.1], b.opens⟩ (L ++ [el]) → Keeps (fun k => lo ≤ k ∧ k < hi ∧ ¬ X k) w w' → K (a.put o.dst (.slice A2 (n + 1) c2)) w') : if Region.wanted o (yielded ops a.tmps) = true then Oper.wp P o a w K Q else F := by
  have hw : Region.wanted o (yielded ops a.tmps) = true := by simp [Region.wanted, hgd]
  rw [if_pos hw]
  obtain ⟨i, z, hi', hz, hsz, hby, hzs'⟩ := R.inf
  refine wp_append_any w s x T ho lo E i z 4 bytes R.und hi' hz hsz hby hzs' R.pos _ n (nodN.flat L) hs h.own.nodes.row.1 B A1 1 c1 (nodN.cells el) hx hr (nodN.one _ _ _ _) (by simp only [maxLen]; omega) ?_ (by omega) ?_
  · have := Nat.mul_le_mul hn hbytes; omega
  · intro A2 c2 w' h2 h3 h4
    refine hK A2 c2 w' (h.push hm hlm hX hk hkX h2 h3 h4) ((Keeps.of_grown h3).mono fun k hk1 => ⟨h.own.nodes.row.ge k hk1, h.own.nodes.row.2 k hk1, fun hXk => (h.off k hXk).1 (.inl (by rw [← hdBlock_eq A n c]; exact hk1))⟩)
/-- what stays while a region of l6Any runs -/
structure St (w : World) (g k0 k1 lo hi : Nat) (T e ek ei : TypeId) (A : Option Addr) (c : Nat) (A' : Option Addr) (c' : Nat) (b : Bld) (L : List (Nod × Hd)) (W : World) : Prop where
  d : Draws g w W
  bx : BoxAt W k0 [.slice none 0 0, .slice none 0 0] T
  bk : BoxAt W k1 [.slice A b.nodes.length c, .slice A' b.opens.length c'] T
  o : OwnX (fun k => k = k0 ∨ k = k1) W lo hi e ek ei A b.nodes.length c A' b.opens.length c' b L
  hh : hi ≤ W.heap.size
section
variable {w W W' : World} {g k0 k1 lo hi : Nat} {T e ek ei : TypeId} {A : Option Addr} {c : Nat} {A' : Option Addr} {c' : Nat} {b : Bld} {L : List (Nod × Hd)}
theorem St.alloc (h : St w g k0 k1 lo hi T e ek ei A c A' c' b L W) (x : Obj) : St w g k0 k1 lo hi T e ek ei A c A' c' b L (W.alloc x) :=
  ⟨h.d.alloc x, h.bx.alloc x, h.bk.alloc x, h.o.alloc x, by have := h.hh; simp; omega⟩
theorem St.drew (h : St w g k0 k1 lo hi T e ek ei A c A' c' b L W) : St w g k0 k1 lo hi T e ek ei A c A' c' b L W.drew :=
  ⟨h.d.drew, h.bx, h.bk, OwnX.keep (S := Never) h.o ⟨rfl, rfl, rfl, Nat.le_refl _, fun _ _ _ => rfl⟩ (fun _ h => h.elim), h.hh⟩
theorem St.call (h : St w g k0 k1 lo hi T e ek ei A c A' c' b L W) (d : Draws g W W') (hg : g < lo) (h0 : k0 ≠ g) (h1 : k1 ≠ g) : St w g k0 k1 lo hi T e ek ei A c A' c' b L W' :=
  ⟨h.d.trans d, h.bx.keeps' d.1 h0, h.bk.keeps' d.1 h1, h.o.keeps d.1 (fun k hk => by omega), by have := h.hh; have := d.size; omega⟩
theorem St.lt (h : St w g k0 k1 lo hi T e ek ei A c A' c' b L W) : ∀ k, (k = k0 ∨ k = k1) → k < W.heap.size := by
  rintro k (rfl | rfl)
  · exact h.bx.lt
  · exact h.bk.lt
end
/-- a literal's cells -/
structure Lit (W : World) (k : Nat) (vs : List Value) : Prop where
  lt : k < W.heap.size
  at_ : ∀ (j : Nat) (v : Value), vs[j]? = some v → W.cell? ⟨k, j, none⟩ = some v
theorem Lit.new (W : World) (vs : List Value) (t : TypeId) : Lit (W.alloc (.cells vs.toArray t)) W.heap.size vs := ⟨alloc_lt _ _, fun j v h => alloc_vals _ _ _ j v h⟩
theorem Lit.alloc {W : World} {k : Nat} {vs : List Value} (h : Lit W k vs) (o : Obj) : Lit (W.alloc o) k vs :=
  ⟨by have := alloc_lt W o; have := h.lt; omega, fun j v hv => by rw [World.cell?_alloc_some _ _ _ (by rw [h.at_ j v hv]; rfl)]; exact h.at_ j v hv⟩
theorem Lit.call {W W' : World} {k g : Nat} {vs : List Value} (h : Lit W k vs) (d : Draws g W W') (hk : k ≠ g) : Lit W' k vs :=
  ⟨by have := h.lt; have := d.size; omega, fun j v hv => (World.cell?_of_block (d.1.block k h.lt hk)).trans (h.at_ j v hv)⟩
/-- the last store: the result's box is apart from what is read -/
theorem GotSm.of {g : Nat} {w W : World} {X : Nat → Prop} {lo hi : Nat} {e ek ei : TypeId} {b : Bld} {A A' : Option Addr} {c c' : Nat} {L : List (Nod × Hd)} (hb : SmallB b)
    (ho : OwnX X W lo hi e ek ei A b.nodes.length c A' b.opens.length c' b L) (hX : X w.heap.size) (hlo : w.heap.size ≤ lo) (hh : hi ≤ W.heap.size) (hd : Draws g w W) (hg : g < w.heap.size) (u v : Value) :
    GotSm g w e ek ei (.returned (.agg #[.slice A b.nodes.length c, .slice A' b.opens.length c'])) ((W.setCell ⟨w.heap.size, 0, none⟩ u).setCell ⟨w.heap.size, 1, none⟩ v) := by
  have h2 := (ho.set (p := ⟨w.heap.size, 0, none⟩) hX u).set (p := ⟨w.heap.size, 1, none⟩) hX v
  exact ⟨b, A, c, A', c', L, hb, rfl, h2.own.wide hlo (by simp [World.setCell]; omega), hd.next (((Below.refl w.heap.size W).setCell (p := ⟨w.heap.size, 0, none⟩) (Nat.le_refl _) _).setCell (p := ⟨w.heap.size, 1, none⟩) (Nat.le_refl _) _) (Nat.le_refl _) hg⟩
theorem GotSm.of' {g : Nat} {w W : World} {X : Nat → Prop} {lo hi n n' : Nat} {e ek ei : TypeId} {b : Bld} {A A' : Option Addr} {c c' : Nat} {L : List (Nod × Hd)} (hb : SmallB b) (hn : b.nodes.length = n) (hn' : b.opens.length = n')
    (ho : OwnX X W lo hi e ek ei A n c A' n' c' b L) (hX : X w.heap.size) (hlo : w.heap.size ≤ lo) (hh : hi ≤ W.heap.size) (hd : Draws g w W) (hg : g < w.heap.size) (u v : Value) :
    GotSm g w e ek ei (.returned (.agg #[.slice A n c, .slice A' n' c'])) ((W.setCell ⟨w.heap.size, 0, none⟩ u).setCell ⟨w.heap.size, 1, none⟩ v) := by
  subst hn hn'
  exact GotSm.of hb ho hX hlo hh hd hg u v
theorem str_le1 {s : ByteArray} (h : s ∈ ([⟨#[112]⟩, ⟨#[]⟩, ⟨#[81]⟩] : List ByteArray)) : s.size ≤ 1 := by
  simp only [List.mem_cons, List.not_mem_nil, or_false] at h
  rcases h with rfl | rfl | rfl <;> decide
theorem str_le1' {s : ByteArray} (h : s ∈ ([⟨#[]⟩, ⟨#[120]⟩] : List ByteArray)) : s.size ≤ 1 := by
  simp only [List.mem_cons, List.not_mem_nil, or_false] at h
  rcases h with rfl | rfl <;> decide
theorem node_le {nm tx : ByteArray} {z : Int} (h1 : nm.size ≤ 1) (h2 : tx.size ≤ 1) : nodSz ⟨nm, tx, z, []⟩ ≤ 50000 := by
  unfold nodSz
  have : s2sz [] = 0 := rfl
  simp only [List.length_nil, this]
  omega
set_option maxHeartbeats 4000000 in
theorem l6Any_any (w : World) (g : Nat) (hc : Cur w g) : Calls Try.prog 34 #[.pointer (some ⟨g, 0, none⟩)] w (GotSm g w 33 104 3) := by
  have hg := hc.lt
  have hd := (Draws.refl hc).alloc (.cells #[.slice none 0 0, .slice none 0 0] 27)
  have bx := BoxAt.new (w := w) rfl [.slice none 0 0, .slice none 0 0] 27
  have hz0 : (w.alloc (.cells #[.slice none 0 0, .slice none 0 0] 27)).heap.size = w.heap.size + 1 := by simp
  go_enter Try.func34, Try.ntmps34
  go_wp2_with (fail)
  go_at_call 61
  refine (l6Builder_any _ g hd.2).mono ?_
  rintro e w1 ⟨b, A, c, A', c', L, hinv, rfl, o1, d⟩
  have hz1 := d.size
  rw [hz0] at hz1 o1
  replace bx := bx.keeps' d.1 (by omega)
  replace hd := hd.trans d
  clear d
  have oX := (o1.apart_from (X := fun k => k = w.heap.size ∨ k = w1.heap.size) (fun k hk => by omega)).alloc (.cells #[.slice A b.nodes.length c, .slice A' b.opens.length c'] 27)
  have by3 := BoxAt.new (w := w1) rfl [.slice A b.nodes.length c, .slice A' b.opens.length c'] 27
  replace bx := bx.alloc (.cells #[.slice A b.nodes.length c, .slice A' b.opens.length c'] 27)
  replace hd := hd.alloc (.cells #[.slice A b.nodes.length c, .slice A' b.opens.length c'] 27)
  clear o1
  go_wp2_with (fail)
  go_at_call 35
  refine (l1Below_any _ g hd.2 14 (by omega) (by omega)).mono ?_
  rintro e w2 ⟨x, hx1, hx2, rfl, d⟩
  have hz2 := d.size
  simp only [World.size_alloc] at hz2
  replace bx := bx.keeps' d.1 (by omega)
  replace by3 := by3.keeps' d.1 (by omega)
  replace oX : OwnX (fun k => k = w.heap.size ∨ k = w1.heap.size) w2 (w.heap.size + 1) w1.heap.size 33 104 3 A b.nodes.length c A' b.opens.length c' b L :=
    ⟨oX.own.keep d.1 (fun k hk => by omega), oX.off⟩
  replace hd := hd.trans d
  clear d
  have hfin := fun (W : World) (b : Bld) (A : Option Addr) (c : Nat) (A' : Option Addr) (c' : Nat) (hi : Nat) (L : List (Nod × Hd)) hb (ho : OwnX (fun k => k = w.heap.size ∨ k = w1.heap.size) W (w.heap.size + 1) hi 33 104 3 A b.nodes.length c A' b.opens.length c' b L) hh hd => GotSm.of (g := g) (w := w) hb ho (.inl rfl) (by omega) hh hd hg
  have hfin' := Lib.hid hfin
  clear hfin
  by_cases c0 : x = 0
  · subst c0
    clear hx1 hx2
    have hne : w.heap.size ≠ w1.heap.size := by omega
    have hop := hinv.open8
    have hnd := hinv.nodes
    have hgl : g < w.heap.size + 1 := by omega
    have hg0 : w.heap.size ≠ g := by omega
    have hg1 : w1.heap.size ≠ g := by omega
    have st0 : St w g w.heap.size w1.heap.size (w.heap.size + 1) w1.heap.size 27 33 104 3 A c A' c' b L w2 := ⟨hd, bx, by3, oX, by omega⟩
    clear hd bx by3 oX
    go_wp2_with (fail)
    refine wp_region_key (fun v : World => v.cell? ⟨w1.heap.size, 1, none⟩ = some (.slice A' b.opens.length c')) 6 (St w g w.heap.size w1.heap.size (w.heap.size + 1) w1.heap.size 27 33 104 3 A c A' c' b L) (by kernel_rfl) st0.drew ?_
    intro W0 s0
    try simp only [List.replicate, Array.replicate]
    refine wpAnyK_take (i := 0) (v := ?_) rfl (by kernel_rfl) (by kernel_rfl) (by kernel_rfl) rfl (fun _ _ _ h => h) (fun _ => s0.bk.cell 1 _ rfl) (Or.inl ⟨by rfl, ?_⟩) ?_
    rotate_left 1
    · intro wS _; go_simp
      all_goals with_reducible rfl
    try simp only [Act.put, List.getElem_toArray, List.getElem_cons_succ, List.getElem_cons_zero, List.setIfInBounds_toArray, List.set_cons_zero, List.set_cons_succ]
    refine wpAnyK_load (i := 1) (v := ?_) rfl (by kernel_rfl) (by kernel_rfl) (by kernel_rfl) rfl (by kernel_rfl) (by kernel_rfl) (fun _ _ _ h => h) (s0.bk.cell 1 _ rfl) (Or.inl ⟨by rfl, ?_⟩) ?_
    rotate_left 1
    · intro wS hSw; (try dsimp only at hSw); go_simp
      all_goals with_reducible rfl
    try simp only [Act.put, List.getElem_toArray, List.getElem_cons_succ, List.getElem_cons_zero, List.setIfInBounds_toArray, List.set_cons_zero, List.set_cons_succ]
    refine wpAnyK_take (i := 2) (v := ?_) rfl (by kernel_rfl) (by kernel_rfl) (by kernel_rfl) rfl (fun _ _ _ h => h) (fun _ => s0.bk.cell 1 _ rfl) (Or.inl ⟨by rfl, ?_⟩) ?_
    rotate_left 1
    · intro wS _; go_simp
      all_goals with_reducible rfl
    try simp only [Act.put, List.getElem_toArray, List.getElem_cons_succ, List.getElem_cons_zero, List.setIfInBounds_toArray, List.set_cons_zero, List.set_cons_succ]
    refine wpAnyK_ready (rs := [3]) (by kernel_rfl) (by simp) ?_
    refine AllReadyK.cons rfl (fun K hK => ?_) AllReadyK.nil
    go_simp
    have s1 := s0.alloc (.cells #[.int .i64 0, .int .i64 1, .int .i64 2, .int .i64 99] 3)
    have la := Lit.new W0 [.int .i64 0, .int .i64 1, .int .i64 2, .int .i64 99] 3
    have nla : W0.heap.size ≠ g := by have := s0.d.size; omega
    refine hK.out _ _ (fun _ => s1.bk.cell 1 _ rfl) ?_
    clear hK K
    generalize W0.alloc (.cells #[.int .i64 0, .int .i64 1, .int .i64 2, .int .i64 99] 3) = W1 at *
    try simp only [Act.put, List.getElem_toArray, List.getElem_cons_succ, List.getElem_cons_zero, List.setIfInBounds_toArray, List.set_cons_zero, List.set_cons_succ]
    refine wpAnyK_ready (rs := [4]) (by kernel_rfl) (by simp) ?_
    refine AllReadyK.cons rfl (fun K hK => ?_) AllReadyK.nil
    go_simp
    refine (l1Int_any W1 g s1.d.2 W0.heap.size 4 [0, 1, 2, 99] nla (by omega) (by omega) rfl la.at_ la.lt).mono ?_
    rintro e W2 ⟨z, hz, rfl, d⟩
    have s2 := s1.call d hgl hg0 hg1
    refine hK.out _ _ (fun _ => s2.bk.cell 1 _ rfl) ?_
    clear hK K d
    try simp only [Act.put, List.getElem_toArray, List.getElem_cons_succ, List.getElem_cons_zero, List.setIfInBounds_toArray, List.set_cons_zero, List.set_cons_succ]
    have hzb : 0 ≤ z ∧ z ≤ 99 := by simp at hz; omega
    clear hz la
    refine wpAnyK_ready (rs := [5]) (by kernel_rfl) (by simp) ?_
    refine AllReadyK.cons rfl (fun K hK => ?_) AllReadyK.nil
    go_simp
    have s3 := s2.alloc (.cells #[.int .i64 z] 3)
    have rd := Reads.one W2 (.int .i64 z) 3
    refine hK.out _ _ (fun _ => s3.bk.cell 1 _ rfl) ?_
    clear hK K
    generalize W2.alloc (.cells #[.int .i64 z] 3) = W3 at *
    try simp only [Act.put, List.getElem_toArray, List.getElem_cons_succ, List.getElem_cons_zero, List.setIfInBounds_toArray, List.set_cons_zero, List.set_cons_succ]
    refine wpAnyK_ready (rs := [6]) (by kernel_rfl) (by simp) ?_
    refine AllReadyK.cons rfl (fun K hK => ?_) AllReadyK.nil
    refine step_opnX row_i64 rfl (.tmp 11) (.tmp 15) (by rfl) s3.o s3.hh (by omega) s3.lt z (by rfl) (some ⟨W2.heap.size, 0, none⟩) 1 (W2.heap.size + 1) (by rfl) rd (by omega) (by omega) ?_
    intro A6 c6 w6 o7 k6
    refine hK.out _ _ (fun h => absurd h (by decide)) ?_
    clear hK K
    try simp only [Act.put, List.getElem_toArray, List.getElem_cons_succ, List.getElem_cons_zero, List.setIfInBounds_toArray, List.set_cons_zero, List.set_cons_succ]
    refine wpAnyK_take (i := 7) (v := ?_) rfl (by kernel_rfl) (by kernel_rfl) (by kernel_rfl) rfl (fun _ _ _ h => h) (fun h => absurd h (by decide)) (Or.inl ⟨by rfl, ?_⟩) ?_
    rotate_left 1
    · intro wS _; go_simp
      all_goals with_reducible rfl
    try simp only [Act.put, List.getElem_toArray, List.getElem_cons_succ, List.getElem_cons_zero, List.setIfInBounds_toArray, List.set_cons_zero, List.set_cons_succ]
    have b7 := s3.bk.keeps' k6 (fun hk => hk.2.2 (.inr rfl))
    have x7 := s3.bx.keeps' k6 (fun hk => hk.2.2 (.inl rfl))
    have hz6 := k6.size
    have hzk := s3.d.size
    have hh6 := s3.hh
    have d7 : Draws g w w6 := s3.d.next (k6.below (B := w.heap.size) (by omega) (fun k hk => by omega)) (Nat.le_refl _) hg
    obtain ⟨⟨ye0, ye1⟩, rf0, rf1⟩ := b7.two'
    refine wpAnyK_ready (rs := [8]) (by kernel_rfl) (by simp) ?_
    refine AllReadyK.cons rfl (fun K hK => ?_) AllReadyK.nil
    go_simp
    have b8 := b7.put (j := 1) (.slice A6 (b.opens.length + 1) c6)
    have x8 := x7.other (p := ⟨w1.heap.size, 1, none⟩) hne (.slice A6 (b.opens.length + 1) c6)
    have o8 := o7.set (p := ⟨w1.heap.size, 1, none⟩) (.inr rfl) (.slice A6 (b.opens.length + 1) c6)
    have d8 : Draws g w (w6.setCell ⟨w1.heap.size, 1, none⟩ (.slice A6 (b.opens.length + 1) c6)) := d7.next ((Below.refl w.heap.size w6).setCell (p := ⟨w1.heap.size, 1, none⟩) (by show w.heap.size ≤ w1.heap.size; omega) _) (Nat.le_refl _) hg
    have hz8 : (w6.setCell ⟨w1.heap.size, 1, none⟩ (.slice A6 (b.opens.length + 1) c6)).heap.size = w6.heap.size := by simp [World.setCell]
    refine hK.out _ _ (fun h => absurd h (by decide)) ?_
    clear hK K ye0 ye1 rf0 rf1 b7 x7 o7 d7
    generalize w6.setCell ⟨w1.heap.size, 1, none⟩ (.slice A6 (b.opens.length + 1) c6) = W8 at *
    refine wpAnyK_done (by kernel_rfl) ?_ _
    obtain ⟨⟨p0, p1⟩, q0, q1⟩ := x8.two'
    obtain ⟨⟨y0, y1⟩, r0, r1⟩ := b8.two'
    have bz := (x8.put (j := 0) (.slice A b.nodes.length c)).put (j := 1) (.slice A6 (b.opens.length + 1) c6)
    have f0 := bz.cell 0 _ rfl
    have f1 := bz.cell 1 _ rfl
    have hres := GotSm.of' (g := g) (w := w) (n := b.nodes.length) (n' := (b.opens.length + 1)) (SmallB.open_ hinv hzb) rfl (by simp) o8 (.inl rfl) (by omega) (by omega) d8 hg (.slice A b.nodes.length c) (.slice A6 (b.opens.length + 1) c6)
    clear bz x8 b8 o8 d8
    go_wp2
    exact bodyPost_ret (v := .agg #[.slice A b.nodes.length c, .slice A6 (b.opens.length + 1) c6]) (by simp [results, Try.results34, go_sem, f0, f1]) rfl hres
  have e0 : (x == 0) = false := by simpa using c0
  by_cases c1 : x = 1
  · subst c1
    clear hx1 hx2
    have hne : w.heap.size ≠ w1.heap.size := by omega
    have hop := hinv.open8
    have hnd := hinv.nodes
    have hgl : g < w.heap.size + 1 := by omega
    have hg0 : w.heap.size ≠ g := by omega
    have hg1 : w1.heap.size ≠ g := by omega
    have st0 : St w g w.heap.size w1.heap.size (w.heap.size + 1) w1.heap.size 27 33 104 3 A c A' c' b L w2 := ⟨hd, bx, by3, oX, by omega⟩
    clear hd bx by3 oX
    go_wp2_with (fail)
    refine wp_region_key (fun v : World => v.cell? ⟨w1.heap.size, 0, none⟩ = some (.slice A b.nodes.length c)) 13 (St w g w.heap.size w1.heap.size (w.heap.size + 1) w1.heap.size 27 33 104 3 A c A' c' b L) (by kernel_rfl) st0.drew ?_
    intro W0 s0
    try simp only [List.replicate, Array.replicate]
    refine wpAnyK_take (i := 0) (v := ?_) rfl (by kernel_rfl) (by kernel_rfl) (by kernel_rfl) rfl (fun _ _ _ h => h) (fun _ => s0.bk.cell 0 _ rfl) (Or.inl ⟨by rfl, ?_⟩) ?_
    rotate_left 1
    · intro wS _; go_simp
      all_goals with_reducible rfl
    try simp only [Act.put, List.getElem_toArray, List.getElem_cons_succ, List.getElem_cons_zero, List.setIfInBounds_toArray, List.set_cons_zero, List.set_cons_succ]
    refine wpAnyK_load (i := 1) (v := ?_) rfl (by kernel_rfl) (by kernel_rfl) (by kernel_rfl) rfl (by kernel_rfl) (by kernel_rfl) (fun _ _ _ h => h) (s0.bk.cell 0 _ rfl) (Or.inl ⟨by rfl, ?_⟩) ?_
    rotate_left 1
    · intro wS hSw; (try dsimp only at hSw); go_simp
      all_goals with_reducible rfl
    try simp only [Act.put, List.getElem_toArray, List.getElem_cons_succ, List.getElem_cons_zero, List.setIfInBounds_toArray, List.set_cons_zero, List.set_cons_succ]
    refine wpAnyK_take (i := 2) (v := ?_) rfl (by kernel_rfl) (by kernel_rfl) (by kernel_rfl) rfl (fun _ _ _ h => h) (fun _ => s0.bk.cell 0 _ rfl) (Or.inl ⟨by rfl, ?_⟩) ?_
    rotate_left 1
    · intro wS _; go_simp
      all_goals with_reducible rfl
    try simp only [Act.put, List.getElem_toArray, List.getElem_cons_succ, List.getElem_cons_zero, List.setIfInBounds_toArray, List.set_cons_zero, List.set_cons_succ]
    refine wpAnyK_take (i := 5) (v := ?_) rfl (by kernel_rfl) (by kernel_rfl) (by kernel_rfl) rfl (fun _ _ _ h => h) (fun _ => s0.bk.cell 0 _ rfl) (Or.inl ⟨by rfl, ?_⟩) ?_
    rotate_left 1
    · intro wS _; go_simp
      all_goals with_reducible rfl
    try simp only [Act.put, List.getElem_toArray, List.getElem_cons_succ, List.getElem_cons_zero, List.setIfInBounds_toArray, List.set_cons_zero, List.set_cons_succ]
    refine wpAnyK_take (i := 8) (v := ?_) rfl (by kernel_rfl) (by kernel_rfl) (by kernel_rfl) rfl (fun _ _ _ h => h) (fun _ => s0.bk.cell 0 _ rfl) (Or.inl ⟨by rfl, ?_⟩) ?_
    rotate_left 1
    · intro wS _; go_simp
      all_goals with_reducible rfl
    try simp only [Act.put, List.getElem_toArray, List.getElem_cons_succ, List.getElem_cons_zero, List.setIfInBounds_toArray, List.set_cons_zero, List.set_cons_succ]
    refine wpAnyK_ready (rs := [3, 9]) (by kernel_rfl) (by simp) ?_
    refine AllReadyK.cons rfl (fun K hK => ?_) (AllReadyK.cons rfl (fun K hK => ?_) AllReadyK.nil)
    · go_simp
      have s1 := s0.alloc (.cells #[.string ⟨#[112]⟩, .string ⟨#[]⟩, .string ⟨#[81]⟩] 9)
      have lp := Lit.new W0 [.string ⟨#[112]⟩, .string ⟨#[]⟩, .string ⟨#[81]⟩] 9
      have nlp : W0.heap.size ≠ g := by have := s0.d.size; omega
      refine hK.out _ _ (fun _ => s1.bk.cell 0 _ rfl) ?_
      clear hK K
      generalize W0.alloc (.cells #[.string ⟨#[112]⟩, .string ⟨#[]⟩, .string ⟨#[81]⟩] 9) = W1 at *
      try simp only [Act.put, List.getElem_toArray, List.getElem_cons_succ, List.getElem_cons_zero, List.setIfInBounds_toArray, List.set_cons_zero, List.set_cons_succ]
      refine wpAnyK_ready (rs := [4, 9]) (by kernel_rfl) (by simp) ?_
      refine AllReadyK.cons rfl (fun K hK => ?_) (AllReadyK.cons rfl (fun K hK => ?_) AllReadyK.nil)
      · go_simp
        refine (l1Str_any W1 g s1.d.2 _ 3 [⟨#[112]⟩, ⟨#[]⟩, ⟨#[81]⟩] nlp (by omega) (by omega) rfl lp.at_ lp.lt).mono ?_
        rintro e W2 ⟨nm, hnm, rfl, d⟩
        have s2 := s1.call d hgl hg0 hg1
        refine hK.out _ _ (fun _ => s2.bk.cell 0 _ rfl) ?_
        clear hK K d
        try simp only [Act.put, List.getElem_toArray, List.getElem_cons_succ, List.getElem_cons_zero, List.setIfInBounds_toArray, List.set_cons_zero, List.set_cons_succ]
        clear lp nlp
        have hnm1 : nm.size ≤ 1 := str_le1 hnm
        clear hnm
        refine wpAnyK_ready (rs := [6, 9]) (by kernel_rfl) (by simp) ?_
        refine AllReadyK.cons rfl (fun K hK => ?_) (AllReadyK.cons rfl (fun K hK => ?_) AllReadyK.nil)
        · go_simp
          refine (l1Below_any W2 g s2.d.2 3 (by omega) (by omega)).mono ?_
          rintro e W3 ⟨zp, hz1, hz2, rfl, d⟩
          have s3 := s2.call d hgl hg0 hg1
          refine hK.out _ _ (fun _ => s3.bk.cell 0 _ rfl) ?_
          clear hK K d
          try simp only [Act.put, List.getElem_toArray, List.getElem_cons_succ, List.getElem_cons_zero, List.setIfInBounds_toArray, List.set_cons_zero, List.set_cons_succ]
          have hzw : IntKind.i64.wrap (zp - 1) = zp - 1 := by rw [IntKind.wrap_i64]; omega
          refine wpAnyK_take (i := 7) (v := ?_) rfl (by kernel_rfl) (by kernel_rfl) (by kernel_rfl) rfl (fun _ _ _ h => h) (fun _ => s3.bk.cell 0 _ rfl) (Or.inl ⟨by rfl, ?_⟩) ?_
          rotate_left 1
          · intro wS _; go_simp
            all_goals with_reducible rfl
          try simp only [Act.put, List.getElem_toArray, List.getElem_cons_succ, List.getElem_cons_zero, List.setIfInBounds_toArray, List.set_cons_zero, List.set_cons_succ]
          try simp only [hzw]
          refine wpAnyK_ready (rs := [9]) (by kernel_rfl) (by simp) ?_
          refine AllReadyK.cons rfl (fun K hK => ?_) AllReadyK.nil
          go_simp
          have s4 := s3.alloc (.cells #[.string ⟨#[]⟩, .string ⟨#[120]⟩] 9)
          have lx := Lit.new W3 [.string ⟨#[]⟩, .string ⟨#[120]⟩] 9
          have nlx : W3.heap.size ≠ g := by have := s3.d.size; omega
          refine hK.out _ _ (fun _ => s4.bk.cell 0 _ rfl) ?_
          clear hK K
          generalize W3.alloc (.cells #[.string ⟨#[]⟩, .string ⟨#[120]⟩] 9) = W4 at *
          try simp only [Act.put, List.getElem_toArray, List.getElem_cons_succ, List.getElem_cons_zero, List.setIfInBounds_toArray, List.set_cons_zero, List.set_cons_succ]
          refine wpAnyK_ready (rs := [10]) (by kernel_rfl) (by simp) ?_
          refine AllReadyK.cons rfl (fun K hK => ?_) AllReadyK.nil
          go_simp
          refine (l1Str_any W4 g s4.d.2 _ 2 [⟨#[]⟩, ⟨#[120]⟩] nlx (by omega) (by omega) rfl lx.at_ lx.lt).mono ?_
          rintro e W5 ⟨tx, htx, rfl, d⟩
          have s5 := s4.call d hgl hg0 hg1
          refine hK.out _ _ (fun _ => s5.bk.cell 0 _ rfl) ?_
          clear hK K d
          try simp only [Act.put, List.getElem_toArray, List.getElem_cons_succ, List.getElem_cons_zero, List.setIfInBounds_toArray, List.set_cons_zero, List.set_cons_succ]
          have htx1 : tx.size ≤ 1 := str_le1' htx
          clear lx nlx htx
          have hnz : nodSz ⟨nm, tx, zp - 1, []⟩ ≤ 50000 := node_le hnm1 htx1
          refine wpAnyK_take (i := 11) (v := ?_) rfl (by kernel_rfl) (by kernel_rfl) (by kernel_rfl) rfl (fun _ _ _ h => h) (fun _ => s5.bk.cell 0 _ rfl) (Or.inl ⟨by rfl, ?_⟩) ?_
          rotate_left 1
          · intro wS _; go_simp
            all_goals with_reducible rfl
          try simp only [Act.put, List.getElem_toArray, List.getElem_cons_succ, List.getElem_cons_zero, List.setIfInBounds_toArray, List.set_cons_zero, List.set_cons_succ]
          refine wpAnyK_ready (rs := [12]) (by kernel_rfl) (by simp) ?_
          refine AllReadyK.cons rfl (fun K hK => ?_) AllReadyK.nil
          go_simp
          have s6 := s5.alloc (.cells #[.string nm, .string tx, .int .i64 (zp - 1), .slice none 0 0] 33)
          have rd := Reads.four W5 (.string nm) (.string tx) (.int .i64 (zp - 1)) (.slice none 0 0) 33
          refine hK.out _ _ (fun _ => s6.bk.cell 0 _ rfl) ?_
          clear hK K
          generalize W5.alloc (.cells #[.string nm, .string tx, .int .i64 (zp - 1), .slice none 0 0] 33) = W6 at *
          try simp only [Act.put, List.getElem_toArray, List.getElem_cons_succ, List.getElem_cons_zero, List.setIfInBounds_toArray, List.set_cons_zero, List.set_cons_succ]
          refine wpAnyK_ready (rs := [13]) (by kernel_rfl) (by simp) ?_
          refine AllReadyK.cons rfl (fun K hK => ?_) AllReadyK.nil
          refine step_pushX (bytes := 64) row_Node rfl (.tmp 21) (.tmp 32) (by rfl) s6.o s6.hh (by omega) s6.lt (⟨nm, tx, zp - 1, []⟩, ((none : Option Addr), 0)) (own_zero _ _ _ _ _) (fun _ _ h => by cases h) (by rfl) (some ⟨W5.heap.size, 0, none⟩) 1 (W5.heap.size + 1) (by rfl) rd (by omega) (by omega) ?_
          intro A6 c6 w6 o7 k6
          refine hK.out _ _ (fun h => absurd h (by decide)) ?_
          clear hK K
          try simp only [Act.put, List.getElem_toArray, List.getElem_cons_succ, List.getElem_cons_zero, List.setIfInBounds_toArray, List.set_cons_zero, List.set_cons_succ]
          refine wpAnyK_take (i := 14) (v := ?_) rfl (by kernel_rfl) (by kernel_rfl) (by kernel_rfl) rfl (fun _ _ _ h => h) (fun h => absurd h (by decide)) (Or.inl ⟨by rfl, ?_⟩) ?_
          rotate_left 1
          · intro wS _; go_simp
            all_goals with_reducible rfl
          try simp only [Act.put, List.getElem_toArray, List.getElem_cons_succ, List.getElem_cons_zero, List.setIfInBounds_toArray, List.set_cons_zero, List.set_cons_succ]
          have b7 := s6.bk.keeps' k6 (fun hk => hk.2.2 (.inr rfl))
          have x7 := s6.bx.keeps' k6 (fun hk => hk.2.2 (.inl rfl))
          have hz6 := k6.size
          have hzk := s6.d.size
          have hh6 := s6.hh
          have d7 : Draws g w w6 := s6.d.next (k6.below (B := w.heap.size) (by omega) (fun k hk => by omega)) (Nat.le_refl _) hg
          obtain ⟨⟨ye0, ye1⟩, rf0, rf1⟩ := b7.two'
          refine wpAnyK_ready (rs := [15]) (by kernel_rfl) (by simp) ?_
          refine AllReadyK.cons rfl (fun K hK => ?_) AllReadyK.nil
          go_simp
          have b8 := b7.put (j := 0) (.slice A6 (b.nodes.length + 1) c6)
          have x8 := x7.other (p := ⟨w1.heap.size, 0, none⟩) hne (.slice A6 (b.nodes.length + 1) c6)
          have o8 := o7.set (p := ⟨w1.heap.size, 0, none⟩) (.inr rfl) (.slice A6 (b.nodes.length + 1) c6)
          have d8 : Draws g w (w6.setCell ⟨w1.heap.size, 0, none⟩ (.slice A6 (b.nodes.length + 1) c6)) := d7.next ((Below.refl w.heap.size w6).setCell (p := ⟨w1.heap.size, 0, none⟩) (by show w.heap.size ≤ w1.heap.size; omega) _) (Nat.le_refl _) hg
          have hz8 : (w6.setCell ⟨w1.heap.size, 0, none⟩ (.slice A6 (b.nodes.length + 1) c6)).heap.size = w6.heap.size := by simp [World.setCell]
          refine hK.out _ _ (fun h => absurd h (by decide)) ?_
          clear hK K ye0 ye1 rf0 rf1 b7 x7 o7 d7
          generalize w6.setCell ⟨w1.heap.size, 0, none⟩ (.slice A6 (b.nodes.length + 1) c6) = W8 at *
          refine wpAnyK_done (by kernel_rfl) ?_ _
          obtain ⟨⟨p0, p1⟩, q0, q1⟩ := x8.two'
          obtain ⟨⟨y0, y1⟩, r0, r1⟩ := b8.two'
          have bz := (x8.put (j := 0) (.slice A6 (b.nodes.length + 1) c6)).put (j := 1) (.slice A' b.opens.length c')
          have f0 := bz.cell 0 _ rfl
          have f1 := bz.cell 1 _ rfl
          have hres := GotSm.of' (g := g) (w := w) (n := (b.nodes.length + 1)) (n' := b.opens.length) (SmallB.more hinv hnz) (by simp) rfl o8 (.inl rfl) (by omega) (by omega) d8 hg (.slice A6 (b.nodes.length + 1) c6) (.slice A' b.opens.length c')
          clear bz x8 b8 o8 d8
          go_wp2
          exact bodyPost_ret (v := .agg #[.slice A6 (b.nodes.length + 1) c6, .slice A' b.opens.length c']) (by simp [results, Try.results34, go_sem, f0, f1]) rfl hres
        · go_simp
          have s3 := s2.alloc (.cells #[.string ⟨#[]⟩, .string ⟨#[120]⟩] 9)
          have lx := Lit.new W2 [.string ⟨#[]⟩, .string ⟨#[120]⟩] 9
          have nlx : W2.heap.size ≠ g := by have := s2.d.size; omega
          refine hK.out _ _ (fun _ => s3.bk.cell 0 _ rfl) ?_
          clear hK K
          generalize W2.alloc (.cells #[.string ⟨#[]⟩, .string ⟨#[120]⟩] 9) = W3 at *
          try simp only [Act.put, List.getElem_toArray, List.getElem_cons_succ, List.getElem_cons_zero, List.setIfInBounds_toArray, List.set_cons_zero, List.set_cons_succ]
          refine wpAnyK_ready (rs := [6]) (by kernel_rfl) (by simp) ?_
          refine AllReadyK.cons rfl (fun K hK => ?_) AllReadyK.nil
          go_simp
          refine (l1Below_any W3 g s3.d.2 3 (by omega) (by omega)).mono ?_
          rintro e W4 ⟨zp, hz1, hz2, rfl, d⟩
          have s4 := s3.call d hgl hg0 hg1
          replace lx := lx.call d nlx
          refine hK.out _ _ (fun _ => s4.bk.cell 0 _ rfl) ?_
          clear hK K d
          try simp only [Act.put, List.getElem_toArray, List.getElem_cons_succ, List.getElem_cons_zero, List.setIfInBounds_toArray, List.set_cons_zero, List.set_cons_succ]
          have hzw : IntKind.i64.wrap (zp - 1) = zp - 1 := by rw [IntKind.wrap_i64]; omega
          refine wpAnyK_take (i := 7) (v := ?_) rfl (by kernel_rfl) (by kernel_rfl) (by kernel_rfl) rfl (fun _ _ _ h => h) (fun _ => s4.bk.cell 0 _ rfl) (Or.inl ⟨by rfl, ?_⟩) ?_
          rotate_left 1
          · intro wS _; go_simp
            all_goals with_reducible rfl
          try simp only [Act.put, List.getElem_toArray, List.getElem_cons_succ, List.getElem_cons_zero, List.setIfInBounds_toArray, List.set_cons_zero, List.set_cons_succ]
          try simp only [hzw]
          refine wpAnyK_ready (rs := [10]) (by kernel_rfl) (by simp) ?_
          refine AllReadyK.cons rfl (fun K hK => ?_) AllReadyK.nil
          go_simp
          refine (l1Str_any W4 g s4.d.2 _ 2 [⟨#[]⟩, ⟨#[120]⟩] nlx (by omega) (by omega) rfl lx.at_ lx.lt).mono ?_
          rintro e W5 ⟨tx, htx, rfl, d⟩
          have s5 := s4.call d hgl hg0 hg1
          refine hK.out _ _ (fun _ => s5.bk.cell 0 _ rfl) ?_
          clear hK K d
          try simp only [Act.put, List.getElem_toArray, List.getElem_cons_succ, List.getElem_cons_zero, List.setIfInBounds_toArray, List.set_cons_zero, List.set_cons_succ]
          have htx1 : tx.size ≤ 1 := str_le1' htx
          clear lx nlx htx
          have hnz : nodSz ⟨nm, tx, zp - 1, []⟩ ≤ 50000 := node_le hnm1 htx1
          refine wpAnyK_take (i := 11) (v := ?_) rfl (by kernel_rfl) (by kernel_rfl) (by kernel_rfl) rfl (fun _ _ _ h => h) (fun _ => s5.bk.cell 0 _ rfl) (Or.inl ⟨by rfl, ?_⟩) ?_
          rotate_left 1
          · intro wS _; go_simp
            all_goals with_reducible rfl
          try simp only [Act.put, List.getElem_toArray, List.getElem_cons_succ, List.getElem_cons_zero, List.setIfInBounds_toArray, List.set_cons_zero, List.set_cons_succ]
          refine wpAnyK_ready (rs := [12]) (by kernel_rfl) (by simp) ?_
          refine AllReadyK.cons rfl (fun K hK => ?_) AllReadyK.nil
          go_simp
          have s6 := s5.alloc (.cells #[.string nm, .string tx, .int .i64 (zp - 1), .slice none 0 0] 33)
          have rd := Reads.four W5 (.string nm) (.string tx) (.int .i64 (zp - 1)) (.slice none 0 0) 33
          refine hK.out _ _ (fun _ => s6.bk.cell 0 _ rfl) ?_
          clear hK K
          generalize W5.alloc (.cells #[.string nm, .string tx, .int .i64 (zp - 1), .slice none 0 0] 33) = W6 at *
          try simp only [Act.put, List.getElem_toArray, List.getElem_cons_succ, List.getElem_cons_zero, List.setIfInBounds_toArray, List.set_cons_zero, List.set_cons_succ]
          refine wpAnyK_ready (rs := [13]) (by kernel_rfl) (by simp) ?_
          refine AllReadyK.cons rfl (fun K hK => ?_) AllReadyK.nil
          refine step_pushX (bytes := 64) row_Node rfl (.tmp 21) (.tmp 32) (by rfl) s6.o s6.hh (by omega) s6.lt (⟨nm, tx, zp - 1, []⟩, ((none : Option Addr), 0)) (own_zero _ _ _ _ _) (fun _ _ h => by cases h) (by rfl) (some ⟨W5.heap.size, 0, none⟩) 1 (W5.heap.size + 1) (by rfl) rd (by omega) (by omega) ?_
          intro A6 c6 w6 o7 k6
          refine hK.out _ _ (fun h => absurd h (by decide)) ?_
          clear hK K
          try simp only [Act.put, List.getElem_toArray, List.getElem_cons_succ, List.getElem_cons_zero, List.setIfInBounds_toArray, List.set_cons_zero, List.set_cons_succ]
          refine wpAnyK_take (i := 14) (v := ?_) rfl (by kernel_rfl) (by kernel_rfl) (by kernel_rfl) rfl (fun _ _ _ h => h) (fun h => absurd h (by decide)) (Or.inl ⟨by rfl, ?_⟩) ?_
          rotate_left 1
          · intro wS _; go_simp
            all_goals with_reducible rfl
          try simp only [Act.put, List.getElem_toArray, List.getElem_cons_succ, List.getElem_cons_zero, List.setIfInBounds_toArray, List.set_cons_zero, List.set_cons_succ]
          have b7 := s6.bk.keeps' k6 (fun hk => hk.2.2 (.inr rfl))
          have x7 := s6.bx.keeps' k6 (fun hk => hk.2.2 (.inl rfl))
          have hz6 := k6.size
          have hzk := s6.d.size
          have hh6 := s6.hh
          have d7 : Draws g w w6 := s6.d.next (k6.below (B := w.heap.size) (by omega) (fun k hk => by omega)) (Nat.le_refl _) hg
          obtain ⟨⟨ye0, ye1⟩, rf0, rf1⟩ := b7.two'
          refine wpAnyK_ready (rs := [15]) (by kernel_rfl) (by simp) ?_
          refine AllReadyK.cons rfl (fun K hK => ?_) AllReadyK.nil
          go_simp
          have b8 := b7.put (j := 0) (.slice A6 (b.nodes.length + 1) c6)
          have x8 := x7.other (p := ⟨w1.heap.size, 0, none⟩) hne (.slice A6 (b.nodes.length + 1) c6)
          have o8 := o7.set (p := ⟨w1.heap.size, 0, none⟩) (.inr rfl) (.slice A6 (b.nodes.length + 1) c6)
          have d8 : Draws g w (w6.setCell ⟨w1.heap.size, 0, none⟩ (.slice A6 (b.nodes.length + 1) c6)) := d7.next ((Below.refl w.heap.size w6).setCell (p := ⟨w1.heap.size, 0, none⟩) (by show w.heap.size ≤ w1.heap.size; omega) _) (Nat.le_refl _) hg
          have hz8 : (w6.setCell ⟨w1.heap.size, 0, none⟩ (.slice A6 (b.nodes.length + 1) c6)).heap.size = w6.heap.size := by simp [World.setCell]
          refine hK.out _ _ (fun h => absurd h (by decide)) ?_
          clear hK K ye0 ye1 rf0 rf1 b7 x7 o7 d7
          generalize w6.setCell ⟨w1.heap.size, 0, none⟩ (.slice A6 (b.nodes.length + 1) c6) = W8 at *
          refine wpAnyK_done (by kernel_rfl) ?_ _
          obtain ⟨⟨p0, p1⟩, q0, q1⟩ := x8.two'
          obtain ⟨⟨y0, y1⟩, r0, r1⟩ := b8.two'
          have bz := (x8.put (j := 0) (.slice A6 (b.nodes.length + 1) c6)).put (j := 1) (.slice A' b.opens.length c')
          have f0 := bz.cell 0 _ rfl
          have f1 := bz.cell 1 _ rfl
          have hres := GotSm.of' (g := g) (w := w) (n := (b.nodes.length + 1)) (n' := b.opens.length) (SmallB.more hinv hnz) (by simp) rfl o8 (.inl rfl) (by omega) (by omega) d8 hg (.slice A6 (b.nodes.length + 1) c6) (.slice A' b.opens.length c')
          clear bz x8 b8 o8 d8
          go_wp2
          exact bodyPost_ret (v := .agg #[.slice A6 (b.nodes.length + 1) c6, .slice A' b.opens.length c']) (by simp [results, Try.results34, go_sem, f0, f1]) rfl hres
      · go_simp
        have s2 := s1.alloc (.cells #[.string ⟨#[]⟩, .string ⟨#[120]⟩] 9)
        replace lp := lp.alloc (.cells #[.string ⟨#[]⟩, .string ⟨#[120]⟩] 9)
        have lx := Lit.new W1 [.string ⟨#[]⟩, .string ⟨#[120]⟩] 9
        have nlx : W1.heap.size ≠ g := by have := s1.d.size; omega
        refine hK.out _ _ (fun _ => s2.bk.cell 0 _ rfl) ?_
        clear hK K
        generalize W1.alloc (.cells #[.string ⟨#[]⟩, .string ⟨#[120]⟩] 9) = W2 at *
        try simp only [Act.put, List.getElem_toArray, List.getElem_cons_succ, List.getElem_cons_zero, List.setIfInBounds_toArray, List.set_cons_zero, List.set_cons_succ]
        refine wpAnyK_ready (rs := [4]) (by kernel_rfl) (by simp) ?_
        refine AllReadyK.cons rfl (fun K hK => ?_) AllReadyK.nil
        go_simp
        refine (l1Str_any W2 g s2.d.2 _ 3 [⟨#[112]⟩, ⟨#[]⟩, ⟨#[81]⟩] nlp (by omega) (by omega) rfl lp.at_ lp.lt).mono ?_
        rintro e W3 ⟨nm, hnm, rfl, d⟩
        have s3 := s2.call d hgl hg0 hg1
        replace lx := lx.call d nlx
        refine hK.out _ _ (fun _ => s3.bk.cell 0 _ rfl) ?_
        clear hK K d
        try simp only [Act.put, List.getElem_toArray, List.getElem_cons_succ, List.getElem_cons_zero, List.setIfInBounds_toArray, List.set_cons_zero, List.set_cons_succ]
        clear lp nlp
        have hnm1 : nm.size ≤ 1 := str_le1 hnm
        clear hnm
        refine wpAnyK_ready (rs := [6]) (by kernel_rfl) (by simp) ?_
        refine AllReadyK.cons rfl (fun K hK => ?_) AllReadyK.nil
        go_simp
        refine (l1Below_any W3 g s3.d.2 3 (by omega) (by omega)).mono ?_
        rintro e W4 ⟨zp, hz1, hz2, rfl, d⟩
        have s4 := s3.call d hgl hg0 hg1
        replace lx := lx.call d nlx
        refine hK.out _ _ (fun _ => s4.bk.cell 0 _ rfl) ?_
        clear hK K d
        try simp only [Act.put, List.getElem_toArray, List.getElem_cons_succ, List.getElem_cons_zero, List.setIfInBounds_toArray, List.set_cons_zero, List.set_cons_succ]
        have hzw : IntKind.i64.wrap (zp - 1) = zp - 1 := by rw [IntKind.wrap_i64]; omega
        refine wpAnyK_take (i := 7) (v := ?_) rfl (by kernel_rfl) (by kernel_rfl) (by kernel_rfl) rfl (fun _ _ _ h => h) (fun _ => s4.bk.cell 0 _ rfl) (Or.inl ⟨by rfl, ?_⟩) ?_
        rotate_left 1
        · intro wS _; go_simp
          all_goals with_reducible rfl
        try simp only [Act.put, List.getElem_toArray, List.getElem_cons_succ, List.getElem_cons_zero, List.setIfInBounds_toArray, List.set_cons_zero, List.set_cons_succ]
        try simp only [hzw]
        refine wpAnyK_ready (rs := [10]) (by kernel_rfl) (by simp) ?_
        refine AllReadyK.cons rfl (fun K hK => ?_) AllReadyK.nil
        go_simp
        refine (l1Str_any W4 g s4.d.2 _ 2 [⟨#[]⟩, ⟨#[120]⟩] nlx (by omega) (by omega) rfl lx.at_ lx.lt).mono ?_
        rintro e W5 ⟨tx, htx, rfl, d⟩
        have s5 := s4.call d hgl hg0 hg1
        refine hK.out _ _ (fun _ => s5.bk.cell 0 _ rfl) ?_
        clear hK K d
        try simp only [Act.put, List.getElem_toArray, List.getElem_cons_succ, List.getElem_cons_zero, List.setIfInBounds_toArray, List.set_cons_zero, List.set_cons_succ]
        have htx1 : tx.size ≤ 1 := str_le1' htx
        clear lx nlx htx
        have hnz : nodSz ⟨nm, tx, zp - 1, []⟩ ≤ 50000 := node_le hnm1 htx1
        refine wpAnyK_take (i := 11) (v := ?_) rfl (by kernel_rfl) (by kernel_rfl) (by kernel_rfl) rfl (fun _ _ _ h => h) (fun _ => s5.bk.cell 0 _ rfl) (Or.inl ⟨by rfl, ?_⟩) ?_
        rotate_left 1
        · intro wS _; go_simp
          all_goals with_reducible rfl
        try simp only [Act.put, List.getElem_toArray, List.getElem_cons_succ, List.getElem_cons_zero, List.setIfInBounds_toArray, List.set_cons_zero, List.set_cons_succ]
        refine wpAnyK_ready (rs := [12]) (by kernel_rfl) (by simp) ?_
        refine AllReadyK.cons rfl (fun K hK => ?_) AllReadyK.nil
        go_simp
        have s6 := s5.alloc (.cells #[.string nm, .string tx, .int .i64 (zp - 1), .slice none 0 0] 33)
        have rd := Reads.four W5 (.string nm) (.string tx) (.int .i64 (zp - 1)) (.slice none 0 0) 33
        refine hK.out _ _ (fun _ => s6.bk.cell 0 _ rfl) ?_
        clear hK K
        generalize W5.alloc (.cells #[.string nm, .string tx, .int .i64 (zp - 1), .slice none 0 0] 33) = W6 at *
        try simp only [Act.put, List.getElem_toArray, List.getElem_cons_succ, List.getElem_cons_zero, List.setIfInBounds_toArray, List.set_cons_zero, List.set_cons_succ]
        refine wpAnyK_ready (rs := [13]) (by kernel_rfl) (by simp) ?_
        refine AllReadyK.cons rfl (fun K hK => ?_) AllReadyK.nil
        refine step_pushX (bytes := 64) row_Node rfl (.tmp 21) (.tmp 32) (by rfl) s6.o s6.hh (by omega) s6.lt (⟨nm, tx, zp - 1, []⟩, ((none : Option Addr), 0)) (own_zero _ _ _ _ _) (fun _ _ h => by cases h) (by rfl) (some ⟨W5.heap.size, 0, none⟩) 1 (W5.heap.size + 1) (by rfl) rd (by omega) (by omega) ?_
        intro A6 c6 w6 o7 k6
        refine hK.out _ _ (fun h => absurd h (by decide)) ?_
        clear hK K
        try simp only [Act.put, List.getElem_toArray, List.getElem_cons_succ, List.getElem_cons_zero, List.setIfInBounds_toArray, List.set_cons_zero, List.set_cons_succ]
        refine wpAnyK_take (i := 14) (v := ?_) rfl (by kernel_rfl) (by kernel_rfl) (by kernel_rfl) rfl (fun _ _ _ h => h) (fun h => absurd h (by decide)) (Or.inl ⟨by rfl, ?_⟩) ?_
        rotate_left 1
        · intro wS _; go_simp
          all_goals with_reducible rfl
        try simp only [Act.put, List.getElem_toArray, List.getElem_cons_succ, List.getElem_cons_zero, List.setIfInBounds_toArray, List.set_cons_zero, List.set_cons_succ]
        have b7 := s6.bk.keeps' k6 (fun hk => hk.2.2 (.inr rfl))
        have x7 := s6.bx.keeps' k6 (fun hk => hk.2.2 (.inl rfl))
        have hz6 := k6.size
        have hzk := s6.d.size
        have hh6 := s6.hh
        have d7 : Draws g w w6 := s6.d.next (k6.below (B := w.heap.size) (by omega) (fun k hk => by omega)) (Nat.le_refl _) hg
        obtain ⟨⟨ye0, ye1⟩, rf0, rf1⟩ := b7.two'
        refine wpAnyK_ready (rs := [15]) (by kernel_rfl) (by simp) ?_
        refine AllReadyK.cons rfl (fun K hK => ?_) AllReadyK.nil
        go_simp
        have b8 := b7.put (j := 0) (.slice A6 (b.nodes.length + 1) c6)
        have x8 := x7.other (p := ⟨w1.heap.size, 0, none⟩) hne (.slice A6 (b.nodes.length + 1) c6)
        have o8 := o7.set (p := ⟨w1.heap.size, 0, none⟩) (.inr rfl) (.slice A6 (b.nodes.length + 1) c6)
        have d8 : Draws g w (w6.setCell ⟨w1.heap.size, 0, none⟩ (.slice A6 (b.nodes.length + 1) c6)) := d7.next ((Below.refl w.heap.size w6).setCell (p := ⟨w1.heap.size, 0, none⟩) (by show w.heap.size ≤ w1.heap.size; omega) _) (Nat.le_refl _) hg
        have hz8 : (w6.setCell ⟨w1.heap.size, 0, none⟩ (.slice A6 (b.nodes.length + 1) c6)).heap.size = w6.heap.size := by simp [World.setCell]
        refine hK.out _ _ (fun h => absurd h (by decide)) ?_
        clear hK K ye0 ye1 rf0 rf1 b7 x7 o7 d7
        generalize w6.setCell ⟨w1.heap.size, 0, none⟩ (.slice A6 (b.nodes.length + 1) c6) = W8 at *
        refine wpAnyK_done (by kernel_rfl) ?_ _
        obtain ⟨⟨p0, p1⟩, q0, q1⟩ := x8.two'
        obtain ⟨⟨y0, y1⟩, r0, r1⟩ := b8.two'
        have bz := (x8.put (j := 0) (.slice A6 (b.nodes.length + 1) c6)).put (j := 1) (.slice A' b.opens.length c')
        have f0 := bz.cell 0 _ rfl
        have f1 := bz.cell 1 _ rfl
        have hres := GotSm.of' (g := g) (w := w) (n := (b.nodes.length + 1)) (n' := b.opens.length) (SmallB.more hinv hnz) (by simp) rfl o8 (.inl rfl) (by omega) (by omega) d8 hg (.slice A6 (b.nodes.length + 1) c6) (.slice A' b.opens.length c')
        clear bz x8 b8 o8 d8
        go_wp2
        exact bodyPost_ret (v := .agg #[.slice A6 (b.nodes.length + 1) c6, .slice A' b.opens.length c']) (by simp [results, Try.results34, go_sem, f0, f1]) rfl hres
    · go_simp
      have s1 := s0.alloc (.cells #[.string ⟨#[]⟩, .string ⟨#[120]⟩] 9)
      have lx := Lit.new W0 [.string ⟨#[]⟩, .string ⟨#[120]⟩] 9
      have nlx : W0.heap.size ≠ g := by have := s0.d.size; omega
      refine hK.out _ _ (fun _ => s1.bk.cell 0 _ rfl) ?_
      clear hK K
      generalize W0.alloc (.cells #[.string ⟨#[]⟩, .string ⟨#[120]⟩] 9) = W1 at *
      try simp only [Act.put, List.getElem_toArray, List.getElem_cons_succ, List.getElem_cons_zero, List.setIfInBounds_toArray, List.set_cons_zero, List.set_cons_succ]
      refine wpAnyK_ready (rs := [3]) (by kernel_rfl) (by simp) ?_
      refine AllReadyK.cons rfl (fun K hK => ?_) AllReadyK.nil
      go_simp
      have s2 := s1.alloc (.cells #[.string ⟨#[112]⟩, .string ⟨#[]⟩, .string ⟨#[81]⟩] 9)
      replace lx := lx.alloc (.cells #[.string ⟨#[112]⟩, .string ⟨#[]⟩, .string ⟨#[81]⟩] 9)
      have lp := Lit.new W1 [.string ⟨#[112]⟩, .string ⟨#[]⟩, .string ⟨#[81]⟩] 9
      have nlp : W1.heap.size ≠ g := by have := s1.d.size; omega
      refine hK.out _ _ (fun _ => s2.bk.cell 0 _ rfl) ?_
      clear hK K
      generalize W1.alloc (.cells #[.string ⟨#[112]⟩, .string ⟨#[]⟩, .string ⟨#[81]⟩] 9) = W2 at *
      try simp only [Act.put, List.getElem_toArray, List.getElem_cons_succ, List.getElem_cons_zero, List.setIfInBounds_toArray, List.set_cons_zero, List.set_cons_succ]
      refine wpAnyK_ready (rs := [4]) (by kernel_rfl) (by simp) ?_
      refine AllReadyK.cons rfl (fun K hK => ?_) AllReadyK.nil
      go_simp
      refine (l1Str_any W2 g s2.d.2 _ 3 [⟨#[112]⟩, ⟨#[]⟩, ⟨#[81]⟩] nlp (by omega) (by omega) rfl lp.at_ lp.lt).mono ?_
      rintro e W3 ⟨nm, hnm, rfl, d⟩
      have s3 := s2.call d hgl hg0 hg1
      replace lx := lx.call d nlx
      refine hK.out _ _ (fun _ => s3.bk.cell 0 _ rfl) ?_
      clear hK K d
      try simp only [Act.put, List.getElem_toArray, List.getElem_cons_succ, List.getElem_cons_zero, List.setIfInBounds_toArray, List.set_cons_zero, List.set_cons_succ]
      clear lp nlp
      have hnm1 : nm.size ≤ 1 := str_le1 hnm
      clear hnm
      refine wpAnyK_ready (rs := [6]) (by kernel_rfl) (by simp) ?_
      refine AllReadyK.cons rfl (fun K hK => ?_) AllReadyK.nil
      go_simp
      refine (l1Below_any W3 g s3.d.2 3 (by omega) (by omega)).mono ?_
      rintro e W4 ⟨zp, hz1, hz2, rfl, d⟩
      have s4 := s3.call d hgl hg0 hg1
      replace lx := lx.call d nlx
      refine hK.out _ _ (fun _ => s4.bk.cell 0 _ rfl) ?_
      clear hK K d
      try simp only [Act.put, List.getElem_toArray, List.getElem_cons_succ, List.getElem_cons_zero, List.setIfInBounds_toArray, List.set_cons_zero, List.set_cons_succ]
      have hzw : IntKind.i64.wrap (zp - 1) = zp - 1 := by rw [IntKind.wrap_i64]; omega
      refine wpAnyK_take (i := 7) (v := ?_) rfl (by kernel_rfl) (by kernel_rfl) (by kernel_rfl) rfl (fun _ _ _ h => h) (fun _ => s4.bk.cell 0 _ rfl) (Or.inl ⟨by rfl, ?_⟩) ?_
      rotate_left 1
      · intro wS _; go_simp
        all_goals with_reducible rfl
      try simp only [Act.put, List.getElem_toArray, List.getElem_cons_succ, List.getElem_cons_zero, List.setIfInBounds_toArray, List.set_cons_zero, List.set_cons_succ]
      try simp only [hzw]
      refine wpAnyK_ready (rs := [10]) (by kernel_rfl) (by simp) ?_
      refine AllReadyK.cons rfl (fun K hK => ?_) AllReadyK.nil
      go_simp
      refine (l1Str_any W4 g s4.d.2 _ 2 [⟨#[]⟩, ⟨#[120]⟩] nlx (by omega) (by omega) rfl lx.at_ lx.lt).mono ?_
      rintro e W5 ⟨tx, htx, rfl, d⟩
      have s5 := s4.call d hgl hg0 hg1
      refine hK.out _ _ (fun _ => s5.bk.cell 0 _ rfl) ?_
      clear hK K d
      try simp only [Act.put, List.getElem_toArray, List.getElem_cons_succ, List.getElem_cons_zero, List.setIfInBounds_toArray, List.set_cons_zero, List.set_cons_succ]
      have htx1 : tx.size ≤ 1 := str_le1' htx
      clear lx nlx htx
      have hnz : nodSz ⟨nm, tx, zp - 1, []⟩ ≤ 50000 := node_le hnm1 htx1
      refine wpAnyK_take (i := 11) (v := ?_) rfl (by kernel_rfl) (by kernel_rfl) (by kernel_rfl) rfl (fun _ _ _ h => h) (fun _ => s5.bk.cell 0 _ rfl) (Or.inl ⟨by rfl, ?_⟩) ?_
      rotate_left 1
      · intro wS _; go_simp
        all_goals with_reducible rfl
      try simp only [Act.put, List.getElem_toArray, List.getElem_cons_succ, List.getElem_cons_zero, List.setIfInBounds_toArray, List.set_cons_zero, List.set_cons_succ]
      refine wpAnyK_ready (rs := [12]) (by kernel_rfl) (by simp) ?_
      refine AllReadyK.cons rfl (fun K hK => ?_) AllReadyK.nil
      go_simp
      have s6 := s5.alloc (.cells #[.string nm, .string tx, .int .i64 (zp - 1), .slice none 0 0] 33)
      have rd := Reads.four W5 (.string nm) (.string tx) (.int .i64 (zp - 1)) (.slice none 0 0) 33
      refine hK.out _ _ (fun _ => s6.bk.cell 0 _ rfl) ?_
      clear hK K
      generalize W5.alloc (.cells #[.string nm, .string tx, .int .i64 (zp - 1), .slice none 0 0] 33) = W6 at *
      try simp only [Act.put, List.getElem_toArray, List.getElem_cons_succ, List.getElem_cons_zero, List.setIfInBounds_toArray, List.set_cons_zero, List.set_cons_succ]
      refine wpAnyK_ready (rs := [13]) (by kernel_rfl) (by simp) ?_
      refine AllReadyK.cons rfl (fun K hK => ?_) AllReadyK.nil
      refine step_pushX (bytes := 64) row_Node rfl (.tmp 21) (.tmp 32) (by rfl) s6.o s6.hh (by omega) s6.lt (⟨nm, tx, zp - 1, []⟩, ((none : Option Addr), 0)) (own_zero _ _ _ _ _) (fun _ _ h => by cases h) (by rfl) (some ⟨W5.heap.size, 0, none⟩) 1 (W5.heap.size + 1) (by rfl) rd (by omega) (by omega) ?_
      intro A6 c6 w6 o7 k6
      refine hK.out _ _ (fun h => absurd h (by decide)) ?_
      clear hK K
      try simp only [Act.put, List.getElem_toArray, List.getElem_cons_succ, List.getElem_cons_zero, List.setIfInBounds_toArray, List.set_cons_zero, List.set_cons_succ]
      refine wpAnyK_take (i := 14) (v := ?_) rfl (by kernel_rfl) (by kernel_rfl) (by kernel_rfl) rfl (fun _ _ _ h => h) (fun h => absurd h (by decide)) (Or.inl ⟨by rfl, ?_⟩) ?_
      rotate_left 1
      · intro wS _; go_simp
        all_goals with_reducible rfl
      try simp only [Act.put, List.getElem_toArray, List.getElem_cons_succ, List.getElem_cons_zero, List.setIfInBounds_toArray, List.set_cons_zero, List.set_cons_succ]
      have b7 := s6.bk.keeps' k6 (fun hk => hk.2.2 (.inr rfl))
      have x7 := s6.bx.keeps' k6 (fun hk => hk.2.2 (.inl rfl))
      have hz6 := k6.size
      have hzk := s6.d.size
      have hh6 := s6.hh
      have d7 : Draws g w w6 := s6.d.next (k6.below (B := w.heap.size) (by omega) (fun k hk => by omega)) (Nat.le_refl _) hg
      obtain ⟨⟨ye0, ye1⟩, rf0, rf1⟩ := b7.two'
      refine wpAnyK_ready (rs := [15]) (by kernel_rfl) (by simp) ?_
      refine AllReadyK.cons rfl (fun K hK => ?_) AllReadyK.nil
      go_simp
      have b8 := b7.put (j := 0) (.slice A6 (b.nodes.length + 1) c6)
      have x8 := x7.other (p := ⟨w1.heap.size, 0, none⟩) hne (.slice A6 (b.nodes.length + 1) c6)
      have o8 := o7.set (p := ⟨w1.heap.size, 0, none⟩) (.inr rfl) (.slice A6 (b.nodes.length + 1) c6)
      have d8 : Draws g w (w6.setCell ⟨w1.heap.size, 0, none⟩ (.slice A6 (b.nodes.length + 1) c6)) := d7.next ((Below.refl w.heap.size w6).setCell (p := ⟨w1.heap.size, 0, none⟩) (by show w.heap.size ≤ w1.heap.size; omega) _) (Nat.le_refl _) hg
      have hz8 : (w6.setCell ⟨w1.heap.size, 0, none⟩ (.slice A6 (b.nodes.length + 1) c6)).heap.size = w6.heap.size := by simp [World.setCell]
      refine hK.out _ _ (fun h => absurd h (by decide)) ?_
      clear hK K ye0 ye1 rf0 rf1 b7 x7 o7 d7
      generalize w6.setCell ⟨w1.heap.size, 0, none⟩ (.slice A6 (b.nodes.length + 1) c6) = W8 at *
      refine wpAnyK_done (by kernel_rfl) ?_ _
      obtain ⟨⟨p0, p1⟩, q0, q1⟩ := x8.two'
      obtain ⟨⟨y0, y1⟩, r0, r1⟩ := b8.two'
      have bz := (x8.put (j := 0) (.slice A6 (b.nodes.length + 1) c6)).put (j := 1) (.slice A' b.opens.length c')
      have f0 := bz.cell 0 _ rfl
      have f1 := bz.cell 1 _ rfl
      have hres := GotSm.of' (g := g) (w := w) (n := (b.nodes.length + 1)) (n' := b.opens.length) (SmallB.more hinv hnz) (by simp) rfl o8 (.inl rfl) (by omega) (by omega) d8 hg (.slice A6 (b.nodes.length + 1) c6) (.slice A' b.opens.length c')
      clear bz x8 b8 o8 d8
      go_wp2
      exact bodyPost_ret (v := .agg #[.slice A6 (b.nodes.length + 1) c6, .slice A' b.opens.length c']) (by simp [results, Try.results34, go_sem, f0, f1]) rfl hres
  have e1 : (x == 1) = false := by simpa using c1
  by_cases c2 : x = 2
  · subst c2
    clear c0 c1
    obtain ⟨⟨p0, p1⟩, q0, q1⟩ := bx.two'
    obtain ⟨⟨y0, y1⟩, r0, r1⟩ := by3.two'
    have hdX : Draws g w (w2.setCell ⟨w1.heap.size, 1, none⟩ (.slice none 0 0)) := hd.next ((Below.refl w.heap.size w2).setCell (p := ⟨w1.heap.size, 1, none⟩) (by show w.heap.size ≤ w1.heap.size; omega) _) (Nat.le_refl _) hg
    have oX2 := oX.set (p := ⟨w1.heap.size, 1, none⟩) (.inr rfl) (.slice none 0 0)
    have oX3 : OwnX (fun k => k = w.heap.size ∨ k = w1.heap.size) (w2.setCell ⟨w1.heap.size, 1, none⟩ (.slice none 0 0)) (w.heap.size + 1) w1.heap.size 33 104 3 A b.nodes.length c none 0 0 ⟨b.nodes, []⟩ L :=
      ⟨⟨oX2.own.fst, oX2.own.nodes, own_zero _ _ _ _ _, fun k hk => by cases hk⟩, fun k hk => ⟨(oX2.off k hk).1, by intro h; cases h⟩⟩
    have hne : w.heap.size ≠ w1.heap.size := by omega
    have by4 := by3.put (j := 1) (.slice none 0 0)
    have bx4 := bx.other (p := ⟨w1.heap.size, 1, none⟩) hne (.slice none 0 0)
    have k0 := by4.cell 0 _ rfl
    have k1 := by4.cell 1 _ rfl
    have bz := (bx4.put (j := 0) (.slice A b.nodes.length c)).put (j := 1) (.slice none 0 0)
    have f0 := bz.cell 0 _ rfl
    have f1 := bz.cell 1 _ rfl
    have hres := hfin'.out _ ⟨b.nodes, []⟩ A c none 0 _ L (SmallB.none hinv) oX3 (by simp [World.setCell]; omega) hdX (.slice A b.nodes.length c) (.slice none 0 0)
    clear bz by4 bx4 oX oX2 oX3 bx by3 hd hdX
    go_wp2
    exact bodyPost_ret (v := .agg #[.slice A b.nodes.length c, .slice none 0 0]) (by simp [results, Try.results34, go_sem, f0, f1]) rfl hres
  have e2 : (x == 2) = false := by simpa using c2
  by_cases c3 : x = 3
  · subst c3
    clear c0 c1 c2 e0 e1 e2 hx1 hx2
    have hgt : w.heap.size < w1.heap.size := by omega
    go_wp2_with (fail)
    go_loopg [] 40 (fun k wr => ∃ (b : Bld) (A : Option Addr) (c : Nat) (A' : Option Addr) (c' : Nat) (L : List (Nod × Hd)) (lo hi : Nat), InvB b ∧ 40 ≤ b.nodes.length + k ∧ BoxAt wr w1.heap.size [.slice A b.nodes.length c, .slice A' b.opens.length c'] 27 ∧ BoxAt wr w.heap.size [.slice none 0 0, .slice none 0 0] 27 ∧
      OwnX (fun k => k = w.heap.size ∨ k = w1.heap.size) wr lo hi 33 104 3 A b.nodes.length c A' b.opens.length c' b L ∧ w.heap.size ≤ lo ∧ hi ≤ wr.heap.size ∧ Draws g w wr)
    case atStart => exact ⟨b, A, c, A', c', L, _, _, hinv, by omega, by3, bx, oX, by omega, by omega, hd⟩
    case round =>
      clear hinv by3 bx oX hd hfin'
      obtain ⟨b, A, c, A', c', L, lo, hi, hinv, hk, by3, bx, oX, hlo, hhi, hd⟩ := hrel
      obtain ⟨⟨p0, p1⟩, q0, q1⟩ := bx.two'
      obtain ⟨⟨y0, y1⟩, r0, r1⟩ := by3.two'
      have hlt1 := by3.lt
      have hn40 := hinv.nodes
      have hn8 := hinv.open8
      by_cases hlt : b.nodes.length < 40
      · have hltI : (b.nodes.length : Int) < 40 := by omega
        have hA := addToken_spec (c := c) (c' := c') (ct := 0) (At := none) (t := textTok) wr (oX.own.rd hhi) (by omega) (by omega) hinv.small.attrs Reads.none_ (by decide)
        have hnew := hinv.text hlt
        have hinv2 := hinv.add textTok_sz
        generalize addB b textTok = R at *
        obtain ⟨b2, r2⟩ := R
        simp only at hnew hinv2
        go_wp2_with (fail)
        go_at_call 16
        refine hA.mono ?_
        rintro e w5 ⟨A5, c5, A5', c5', L5, rfl, o5, b5⟩
        simp only at o5
        have hz5 := b5.size
        have bx5 := bx.next b5
        have by5 := by3.next b5
        obtain ⟨⟨m0, m1⟩, n0, n1⟩ := by5.two'
        have hd5 : Draws g w w5 := hd.next b5 hd.size hg
        have oX5 := o5.apart_from (X := fun k => k = w.heap.size ∨ k = w1.heap.size) (fun k hk => by omega)
        have oX6 := (oX5.set (p := ⟨w1.heap.size, 0, none⟩) (.inr rfl) (.slice A5 b2.nodes.length c5)).set (p := ⟨w1.heap.size, 1, none⟩) (.inr rfl) (.slice A5' b2.opens.length c5')
        have by6 := (by5.put (j := 0) (.slice A5 b2.nodes.length c5)).put (j := 1) (.slice A5' b2.opens.length c5')
        have bx6 := (bx5.other (p := ⟨w1.heap.size, 0, none⟩) (by show w.heap.size ≠ w1.heap.size; omega) (.slice A5 b2.nodes.length c5)).other (p := ⟨w1.heap.size, 1, none⟩) (by show w.heap.size ≠ w1.heap.size; omega) (.slice A5' b2.opens.length c5')
        have hd6 := hd5.next (((Below.refl w.heap.size w5).setCell (p := ⟨w1.heap.size, 0, none⟩) (by show w.heap.size ≤ w1.heap.size; omega) (.slice A5 b2.nodes.length c5)).setCell (p := ⟨w1.heap.size, 1, none⟩) (by show w.heap.size ≤ w1.heap.size; omega) (.slice A5' b2.opens.length c5')) (Nat.le_refl _) hg
        have hkeep : Hid (InvB b2 ∧ 40 ≤ b2.nodes.length + (gk - 1)) := ⟨hinv2, by omega⟩
        have hgk : 0 < gk := by omega
        have hdz := hd.size
        clear hnew oX5 bx5 by5 hd5 o5 oX bx by3 hd p0 p1 q0 q1 y0 y1 r0 r1 hinv hinv2
        go_wp2
        go_roundg (gk - 1)
        case measure => omega
        case rel => exact ⟨b2, A5, c5, A5', c5', L5, _, _, hkeep.out.1, hkeep.out.2, by6, bx6, oX6, hdz, by simp [World.setCell], hd6⟩
      · have hltI : (40 : Int) ≤ (b.nodes.length : Int) := by omega
        have bz := (bx.put (j := 0) (.slice A b.nodes.length c)).put (j := 1) (.slice A' b.opens.length c')
        have f0 := bz.cell 0 _ rfl
        have f1 := bz.cell 1 _ rfl
        have hres := GotSm.of (g := g) (w := w) hinv.small oX (.inl rfl) hlo hhi hd hg (.slice A b.nodes.length c) (.slice A' b.opens.length c')
        clear bz oX bx by3 hd
        go_wp2
        exact bodyPost_ret (v := .agg #[.slice A b.nodes.length c, .slice A' b.opens.length c']) (by simp [results, Try.results34, go_sem, f0, f1]) rfl hres
  have e3 : (x == 3) = false := by simpa using c3
  obtain ⟨⟨p0, p1⟩, q0, q1⟩ := bx.two'
  obtain ⟨⟨y0, y1⟩, r0, r1⟩ := by3.two'
  have bz := (bx.put (j := 0) (.slice A b.nodes.length c)).put (j := 1) (.slice A' b.opens.length c')
  have f0 := bz.cell 0 _ rfl
  have f1 := bz.cell 1 _ rfl
  have hres := hfin'.out _ b A c A' c' _ L hinv.small oX (by omega) hd (.slice A b.nodes.length c) (.slice A' b.opens.length c')
  clear bz oX bx by3 hd c0 c1 c2 c3
  go_wp2
  exact bodyPost_ret (v := .agg #[.slice A b.nodes.length c, .slice A' b.opens.length c']) (by simp [results, Try.results34, go_sem, f0, f1]) rfl hres
end Go.Proofs.Ytleopmeaaabejaa
