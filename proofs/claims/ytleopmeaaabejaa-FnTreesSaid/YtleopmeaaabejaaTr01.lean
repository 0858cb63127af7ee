/-
  What the law of texts draws. No condition.
-/
import Derived.Test.YtleopmeaaabejaaP23
import Derived.Test.YtleopmeaaabejaaP20
namespace Go.Proofs.Ytleopmeaaabejaa
set_option linter.unusedVariables false
set_option linter.unusedSimpArgs false
set_option maxRecDepth 100000
open Go.ChangeShapes Go.WideShapes Go.ChangeAt Go.RowKit Go.Deep

/-- a builder that is drawn, and something else -/
def GotDr (w : World) (e ek ei : TypeId) (P : Bld → Value → World → Prop) (r : Ending) (w' : World) : Prop :=
  ∃ (b : Bld) (A : Option Addr) (c : Nat) (A' : Option Addr) (c' : Nat) (L : List (Nod × Hd)) (x : Value), SmallB b ∧ P b x w' ∧ r = .returned (.tuple #[.agg #[.slice A b.nodes.length c, .slice A' b.opens.length c'], x]) ∧
    OwnB w' w.heap.size w'.heap.size e ek ei A b.nodes.length c A' b.opens.length c' b L ∧ Below w.heap.size w w'
/-- the state of a draw behind l6Any: the result's box, the builder's box, the builder -/
structure DrA (w w0 : World) (g k5 : Nat) (T e ek ei : TypeId) (u v : Value) (A : Option Addr) (c : Nat) (A' : Option Addr) (c' : Nat) (b : Bld) (L : List (Nod × Hd)) (W : World) : Prop where
  num : w.heap.size < g ∧ g < w0.heap.size ∧ w0.heap.size ≤ k5
  bx : BoxAt W w.heap.size [u, v] T
  b5 : BoxAt W k5 [.slice A b.nodes.length c, .slice A' b.opens.length c'] T
  d : Draws g w0 W
  hb : Below w.heap.size w W
  o : OwnB W w0.heap.size W.heap.size e ek ei A b.nodes.length c A' b.opens.length c' b L
/-- behind the store of the result -/
structure DrB (w w0 : World) (k5 : Nat) (T e ek ei : TypeId) (u v : Value) (A : Option Addr) (c : Nat) (A' : Option Addr) (c' : Nat) (b : Bld) (L : List (Nod × Hd)) (W : World) : Prop where
  num : w.heap.size < w0.heap.size ∧ w0.heap.size ≤ k5
  bx : BoxAt W w.heap.size [u, v] T
  b5 : BoxAt W k5 [.slice A b.nodes.length c, .slice A' b.opens.length c'] T
  hb : Below w.heap.size w W
  o : OwnB W w0.heap.size W.heap.size e ek ei A b.nodes.length c A' b.opens.length c' b L
section
variable {w w0 W W' : World} {g k5 : Nat} {T e ek ei : TypeId} {u v : Value} {A : Option Addr} {c : Nat} {A' : Option Addr} {c' : Nat} {b : Bld} {L : List (Nod × Hd)}
theorem DrA.S (h : DrA w w0 g k5 T e ek ei u v A c A' c' b L W) : W.cell? ⟨k5, 0, none⟩ = some (.slice A b.nodes.length c) ∧ W.cell? ⟨k5, 1, none⟩ = some (.slice A' b.opens.length c') := h.b5.two'.1
theorem DrA.drew (h : DrA w w0 g k5 T e ek ei u v A c A' c' b L W) : DrA w w0 g k5 T e ek ei u v A c A' c' b L W.drew :=
  ⟨h.num, h.bx, h.b5, h.d.drew, h.hb.drew, OwnB.keep (S := Never) h.o ⟨rfl, rfl, rfl, Nat.le_refl _, fun _ _ _ => rfl⟩ (fun _ h => h.elim)⟩
theorem DrA.size (h : DrA w w0 g k5 T e ek ei u v A c A' c' b L W) : w.heap.size < W.heap.size ∧ w0.heap.size ≤ W.heap.size := ⟨by have := h.num; have := h.d.lt; omega, h.d.size⟩
theorem DrA.next (h : DrA w w0 g k5 T e ek ei u v A c A' c' b L W) (hb : Below W.heap.size W W') : DrA w w0 g k5 T e ek ei u v A c A' c' b L W' :=
  ⟨h.num, h.bx.next hb, h.b5.next hb, h.d.next hb h.d.size h.num.2.1, h.hb.trans (hb.mono h.hb.size), (h.o.below hb).wide (Nat.le_refl _) hb.size⟩
theorem DrA.alloc (h : DrA w w0 g k5 T e ek ei u v A c A' c' b L W) (x : Obj) : DrA w w0 g k5 T e ek ei u v A c A' c' b L (W.alloc x) := h.next ((Below.refl _ _).alloc (Nat.le_refl _) x)
theorem DrA.call (h : DrA w w0 g k5 T e ek ei u v A c A' c' b L W) (d : Draws g W W') : DrA w w0 g k5 T e ek ei u v A c A' c' b L W' := by
  have hn := h.num
  exact ⟨hn, h.bx.keeps' d.1 (show ¬ (w.heap.size = g) by omega), h.b5.keeps' d.1 (show ¬ (k5 = g) by omega), h.d.trans d, h.hb.trans (d.below (B := w.heap.size) h.hb.size (by omega)), (h.o.keep d.1 (fun k hk => by omega)).wide (Nat.le_refl _) d.size⟩
theorem DrA.put (h : DrA w w0 g k5 T e ek ei u v A c A' c' b L W) (x y : Value) : DrB w w0 k5 T e ek ei x y A c A' c' b L ((W.setCell ⟨w.heap.size, 0, none⟩ x).setCell ⟨w.heap.size, 1, none⟩ y) := by
  have hn := h.num
  have hz : ((W.setCell ⟨w.heap.size, 0, none⟩ x).setCell ⟨w.heap.size, 1, none⟩ y).heap.size = W.heap.size := by simp [World.setCell]
  have hk : Keeps (fun k => k = w.heap.size) W ((W.setCell ⟨w.heap.size, 0, none⟩ x).setCell ⟨w.heap.size, 1, none⟩ y) :=
    (keeps_set (S := fun k => k = w.heap.size) W (p := ⟨w.heap.size, 0, none⟩) x rfl).trans (keeps_set (S := fun k => k = w.heap.size) (W.setCell ⟨w.heap.size, 0, none⟩ x) (p := ⟨w.heap.size, 1, none⟩) y rfl)
  exact ⟨by omega, (h.bx.put (j := 0) x).put (j := 1) y, h.b5.keeps' hk (show ¬ (k5 = w.heap.size) by omega), (h.hb.setCell (p := ⟨w.heap.size, 0, none⟩) (Nat.le_refl _) x).setCell (p := ⟨w.heap.size, 1, none⟩) (Nat.le_refl _) y,
    (h.o.keep hk (fun k hk => by omega)).wide (Nat.le_refl _) (by rw [hz]; exact Nat.le_refl _)⟩
theorem DrB.S (h : DrB w w0 k5 T e ek ei u v A c A' c' b L W) : W.cell? ⟨k5, 0, none⟩ = some (.slice A b.nodes.length c) ∧ W.cell? ⟨k5, 1, none⟩ = some (.slice A' b.opens.length c') := h.b5.two'.1
theorem DrB.got (h : DrB w w0 k5 T e ek ei (.slice A b.nodes.length c) (.slice A' b.opens.length c') A c A' c' b L W) {P : Bld → Value → World → Prop} {x : Value} (hs : SmallB b) (hP : P b x W) :
    GotDr w e ek ei P (.returned (.tuple #[.agg #[.slice A b.nodes.length c, .slice A' b.opens.length c'], x])) W :=
  ⟨b, A, c, A', c', L, x, hs, hP, rfl, h.o.wide (by have := h.num; omega) (Nat.le_refl _), h.hb⟩
theorem DrA.start {w2 : World} (h1 : w.heap.size < g) (bx : BoxAt w0 w.heap.size [u, v] T) (o : OwnB w2 w0.heap.size w2.heap.size e ek ei A b.nodes.length c A' b.opens.length c' b L) (d : Draws g w0 w2) (hb : Below w.heap.size w w0) (hg : g < w0.heap.size) :
    DrA w w0 g w2.heap.size T e ek ei u v A c A' c' b L (w2.alloc (.cells #[.slice A b.nodes.length c, .slice A' b.opens.length c'] T)) := by
  have hz := d.size
  have al : Below w2.heap.size w2 (w2.alloc (.cells #[.slice A b.nodes.length c, .slice A' b.opens.length c'] T)) := (Below.refl _ _).alloc (Nat.le_refl _) _
  exact ⟨⟨h1, hg, hz⟩, (bx.keeps' d.1 (show ¬ (w.heap.size = g) by omega)).next al, BoxAt.new (w := w2) rfl _ _, d.alloc _, (hb.trans (d.below (B := w.heap.size) hb.size (by omega))).trans (al.mono (by have := hb.size; omega)), (o.below al).wide (Nat.le_refl _) al.size⟩
end
set_option maxHeartbeats 2000000 in
theorem drawTextOf_any {A : Option Addr} {n c : Nat} {zs : List Int} (w : World) (hx : Reads w w.heap.size 1 A n (zs.map (Value.int .u8))) (hn : n ≤ 1048576) (hz : ∀ z ∈ zs, 0 ≤ z ∧ z ≤ 255) :
    Calls Try.prog 7 #[.slice A n c] w (GotDr w 33 104 3 fun _ x _ => ∃ z : Int, -1 ≤ z ∧ z ≤ 50 ∧ x = .int .i64 z) := by
  have bx := BoxAt.new (w := w) rfl [.slice none 0 0, .slice none 0 0] 27
  have al := (Below.refl w.heap.size w).alloc (Nat.le_refl _) (.cells #[.slice none 0 0, .slice none 0 0] 27)
  have hx' := hx.next al
  have hz0 : (w.alloc (.cells #[.slice none 0 0, .slice none 0 0] 27)).heap.size = w.heap.size + 1 := by simp
  go_enter Try.func7, Try.ntmps7
  go_wp2_with (fail)
  go_at_call 33
  refine (l1New_any _ hx' hn hz).mono ?_
  rintro e w0 ⟨g, hg, rfl, hb, hc⟩
  replace bx := bx.next hb
  replace hb := al.trans (hb.mono (by omega))
  clear hx hx' hz al
  have hg0 := hc.lt
  have hw0 := hb.size
  go_wp2_with (fail)
  go_at_call 34
  refine (l6Any_any _ g hc).mono ?_
  rintro e w2 ⟨b, A2, c2, A2', c2', L2, hs, rfl, ob, d⟩
  have hw2 := d.size
  have hn0 := hs.nodes
  have hn1 := hs.opens
  have sA : DrA w w0 g w2.heap.size 27 33 104 3 (.slice none 0 0) (.slice none 0 0) A2 c2 A2' c2' b L2 ((w2.alloc (.cells #[.slice A2 b.nodes.length c2, .slice A2' b.opens.length c2'] 27))) := DrA.start (by omega) bx ob d hb (by omega)
  obtain ⟨K0, K1⟩ := sA.S
  go_wp2_with (fail)
  refine wp_region_key (fun v : World => v.cell? ⟨w2.heap.size, 0, none⟩ = some (.slice A2 b.nodes.length c2) ∧ v.cell? ⟨w2.heap.size, 1, none⟩ = some (.slice A2' b.opens.length c2')) 9 (DrA w w0 g w2.heap.size 27 33 104 3 (.slice none 0 0) (.slice none 0 0) A2 c2 A2' c2' b L2) (by kernel_rfl) (DrA.drew sA) ?_
  intro W0 s0
  try simp only [List.replicate, Array.replicate]
  refine wpAnyK_load (i := 0) (v := ?_) rfl (by kernel_rfl) (by kernel_rfl) (by kernel_rfl) rfl (by kernel_rfl) (by kernel_rfl) (fun _ _ _ h => h) (s0.S) (Or.inl ⟨by rfl, ?_⟩) ?_
  rotate_left 1
  · intro wS hSw; (try dsimp only at hSw); go_simp
    all_goals with_reducible rfl
  try simp only [Act.put, List.getElem_toArray, List.getElem_cons_succ, List.getElem_cons_zero, List.setIfInBounds_toArray, List.set_cons_zero, List.set_cons_succ]
  refine wpAnyK_take (i := 1) (v := ?_) rfl (by kernel_rfl) (by kernel_rfl) (by kernel_rfl) rfl (fun _ _ _ h => h) (fun _ => s0.S) (Or.inl ⟨by rfl, ?_⟩) ?_
  rotate_left 1
  · intro wS _; go_simp
    all_goals with_reducible rfl
  try simp only [Act.put, List.getElem_toArray, List.getElem_cons_succ, List.getElem_cons_zero, List.setIfInBounds_toArray, List.set_cons_zero, List.set_cons_succ]
  refine wpAnyK_take (i := 2) (v := ?_) rfl (by kernel_rfl) (by kernel_rfl) (by kernel_rfl) rfl (fun _ _ _ h => h) (fun _ => s0.S) (Or.inl ⟨by rfl, ?_⟩) ?_
  rotate_left 1
  · intro wS _; go_simp
    all_goals with_reducible rfl
  try simp only [Act.put, List.getElem_toArray, List.getElem_cons_succ, List.getElem_cons_zero, List.setIfInBounds_toArray, List.set_cons_zero, List.set_cons_succ]
  refine wpAnyK_load (i := 3) (v := ?_) rfl (by kernel_rfl) (by kernel_rfl) (by kernel_rfl) rfl (by kernel_rfl) (by kernel_rfl) (fun _ _ _ h => h) (s0.S) (Or.inl ⟨by rfl, ?_⟩) ?_
  rotate_left 1
  · intro wS hSw; (try dsimp only at hSw); go_simp
    all_goals with_reducible rfl
  try simp only [Act.put, List.getElem_toArray, List.getElem_cons_succ, List.getElem_cons_zero, List.setIfInBounds_toArray, List.set_cons_zero, List.set_cons_succ]
  refine wpAnyK_take (i := 4) (v := ?_) rfl (by kernel_rfl) (by kernel_rfl) (by kernel_rfl) rfl (fun _ _ _ h => h) (fun _ => s0.S) (Or.inl ⟨by rfl, ?_⟩) ?_
  rotate_left 1
  · intro wS _; go_simp
    all_goals with_reducible rfl
  try simp only [Act.put, List.getElem_toArray, List.getElem_cons_succ, List.getElem_cons_zero, List.setIfInBounds_toArray, List.set_cons_zero, List.set_cons_succ]
  have hwn : IntKind.i64.wrap ((b.nodes.length : Int) + 2) = (b.nodes.length : Int) + 2 := by rw [IntKind.wrap_i64]; omega
  refine wpAnyK_take (i := 5) (v := ?_) rfl (by kernel_rfl) (by kernel_rfl) (by kernel_rfl) rfl (fun _ _ _ h => h) (fun _ => s0.S) (Or.inl ⟨by rfl, ?_⟩) ?_
  rotate_left 1
  · intro wS _; go_simp
    all_goals with_reducible rfl
  try simp only [Act.put, List.getElem_toArray, List.getElem_cons_succ, List.getElem_cons_zero, List.setIfInBounds_toArray, List.set_cons_zero, List.set_cons_succ]
  try simp only [hwn]
  refine wpAnyK_ready (rs := [6]) (by kernel_rfl) (by simp) ?_
  refine AllReadyK.cons rfl (fun K hK => ?_) AllReadyK.nil
  go_simp
  refine (l1Below_any _ g s0.d.2 ((b.nodes.length : Int) + 2) (by omega) (by omega)).mono ?_
  rintro e W1 ⟨x, hx1, hx2, rfl, d3⟩
  have s1 := s0.call d3
  have hwx : IntKind.i64.wrap (x - 1) = x - 1 := by rw [IntKind.wrap_i64]; omega
  refine hK.out _ _ (fun _ => s1.S) ?_
  clear hK K
  try simp only [Act.put, List.getElem_toArray, List.getElem_cons_succ, List.getElem_cons_zero, List.setIfInBounds_toArray, List.set_cons_zero, List.set_cons_succ]
  refine wpAnyK_take (i := 7) (v := ?_) rfl (by kernel_rfl) (by kernel_rfl) (by kernel_rfl) rfl (fun _ _ _ h => h) (fun _ => s1.S) (Or.inl ⟨by rfl, ?_⟩) ?_
  rotate_left 1
  · intro wS _; go_simp
    all_goals with_reducible rfl
  try simp only [Act.put, List.getElem_toArray, List.getElem_cons_succ, List.getElem_cons_zero, List.setIfInBounds_toArray, List.set_cons_zero, List.set_cons_succ]
  try simp only [hwx]
  refine wpAnyK_ready (rs := [8]) (by kernel_rfl) (by simp) ?_
  refine AllReadyK.cons rfl (fun K hK => ?_) AllReadyK.nil
  obtain ⟨⟨x0, x1⟩, fx0, fx1⟩ := s1.bx.two'
  go_simp
  have s2 := s1.put (.slice A2 b.nodes.length c2) (.slice A2' b.opens.length c2')
  refine hK.out _ _ (fun _ => s2.S) ?_
  clear hK K
  clear x0 x1 fx0 fx1
  generalize (W1.setCell ⟨w.heap.size, 0, none⟩ (.slice A2 b.nodes.length c2)).setCell ⟨w.heap.size, 1, none⟩ (.slice A2' b.opens.length c2') = W2 at *
  try simp only [Act.put, List.getElem_toArray, List.getElem_cons_succ, List.getElem_cons_zero, List.setIfInBounds_toArray, List.set_cons_zero, List.set_cons_succ]
  refine wpAnyK_ready (rs := [9]) (by kernel_rfl) (by simp) ?_
  refine AllReadyK.cons rfl (fun K hK => ?_) AllReadyK.nil
  go_simp
  refine hK.out _ _ (fun h => absurd h (by decide)) ?_
  clear hK K
  try simp only [Act.put, List.getElem_toArray, List.getElem_cons_succ, List.getElem_cons_zero, List.setIfInBounds_toArray, List.set_cons_zero, List.set_cons_succ]
  refine wpAnyK_done (by kernel_rfl) ?_ _
  obtain ⟨⟨f0, f1⟩, -⟩ := s2.bx.two'
  go_wp2
  exact bodyPost_ret (v := .tuple #[(.agg #[.slice A2 b.nodes.length c2, .slice A2' b.opens.length c2']), .int .i64 (x - 1)]) (by simp [results, Try.results7, go_sem, f0, f1]) rfl (s2.got hs ⟨x - 1, by omega, by omega, rfl⟩)
set_option maxHeartbeats 2000000 in
theorem drawCountName_any {A : Option Addr} {n c : Nat} {zs : List Int} (w : World) (hx : Reads w w.heap.size 1 A n (zs.map (Value.int .u8))) (hn : n ≤ 1048576) (hz : ∀ z ∈ zs, 0 ≤ z ∧ z ≤ 255) :
    Calls Try.prog 9 #[.slice A n c] w (GotDr w 33 104 3 fun _ x _ => ∃ z : ByteArray, x = .string z) := by
  have bx := BoxAt.new (w := w) rfl [.slice none 0 0, .slice none 0 0] 27
  have al := (Below.refl w.heap.size w).alloc (Nat.le_refl _) (.cells #[.slice none 0 0, .slice none 0 0] 27)
  have hx' := hx.next al
  have hz0 : (w.alloc (.cells #[.slice none 0 0, .slice none 0 0] 27)).heap.size = w.heap.size + 1 := by simp
  go_enter Try.func9, Try.ntmps9
  go_wp2_with (fail)
  go_at_call 33
  refine (l1New_any _ hx' hn hz).mono ?_
  rintro e w0 ⟨g, hg, rfl, hb, hc⟩
  replace bx := bx.next hb
  replace hb := al.trans (hb.mono (by omega))
  clear hx hx' hz al
  have hg0 := hc.lt
  have hw0 := hb.size
  go_wp2_with (fail)
  go_at_call 34
  refine (l6Any_any _ g hc).mono ?_
  rintro e w2 ⟨b, A2, c2, A2', c2', L2, hs, rfl, ob, d⟩
  have hw2 := d.size
  have hn0 := hs.nodes
  have hn1 := hs.opens
  have sA : DrA w w0 g w2.heap.size 27 33 104 3 (.slice none 0 0) (.slice none 0 0) A2 c2 A2' c2' b L2 ((w2.alloc (.cells #[.slice A2 b.nodes.length c2, .slice A2' b.opens.length c2'] 27))) := DrA.start (by omega) bx ob d hb (by omega)
  go_wp2_with (fail)
  refine wp_region_key (fun v : World => v.cell? ⟨w2.heap.size, 0, none⟩ = some (.slice A2 b.nodes.length c2) ∧ v.cell? ⟨w2.heap.size, 1, none⟩ = some (.slice A2' b.opens.length c2')) 5 (DrA w w0 g w2.heap.size 27 33 104 3 (.slice none 0 0) (.slice none 0 0) A2 c2 A2' c2' b L2) (by kernel_rfl) (DrA.drew sA) ?_
  intro W0 s0
  try simp only [List.replicate, Array.replicate]
  refine wpAnyK_load (i := 0) (v := ?_) rfl (by kernel_rfl) (by kernel_rfl) (by kernel_rfl) rfl (by kernel_rfl) (by kernel_rfl) (fun _ _ _ h => h) (s0.S) (Or.inl ⟨by rfl, ?_⟩) ?_
  rotate_left 1
  · intro wS hSw; (try dsimp only at hSw); go_simp
    all_goals with_reducible rfl
  try simp only [Act.put, List.getElem_toArray, List.getElem_cons_succ, List.getElem_cons_zero, List.setIfInBounds_toArray, List.set_cons_zero, List.set_cons_succ]
  refine wpAnyK_take (i := 1) (v := ?_) rfl (by kernel_rfl) (by kernel_rfl) (by kernel_rfl) rfl (fun _ _ _ h => h) (fun _ => s0.S) (Or.inl ⟨by rfl, ?_⟩) ?_
  rotate_left 1
  · intro wS _; go_simp
    all_goals with_reducible rfl
  try simp only [Act.put, List.getElem_toArray, List.getElem_cons_succ, List.getElem_cons_zero, List.setIfInBounds_toArray, List.set_cons_zero, List.set_cons_succ]
  refine wpAnyK_ready (rs := [2]) (by kernel_rfl) (by simp) ?_
  refine AllReadyK.cons rfl (fun K hK => ?_) AllReadyK.nil
  go_simp
  have s1 := s0.alloc (.cells #[.string ⟨#[112]⟩, .string ⟨#[115, 99, 114, 105, 112, 116]⟩, .string ⟨#[112, 97, 103, 101]⟩, .string ⟨#[]⟩, .string ⟨#[105, 109, 103]⟩] 9)
  have lp := Lit.new W0 [.string ⟨#[112]⟩, .string ⟨#[115, 99, 114, 105, 112, 116]⟩, .string ⟨#[112, 97, 103, 101]⟩, .string ⟨#[]⟩, .string ⟨#[105, 109, 103]⟩] 9
  have nlp : W0.heap.size ≠ g := by have := s0.d.lt; omega
  refine hK.out _ _ (fun _ => s1.S) ?_
  clear hK K
  generalize W0.alloc (.cells #[.string ⟨#[112]⟩, .string ⟨#[115, 99, 114, 105, 112, 116]⟩, .string ⟨#[112, 97, 103, 101]⟩, .string ⟨#[]⟩, .string ⟨#[105, 109, 103]⟩] 9) = W1 at *
  try simp only [Act.put, List.getElem_toArray, List.getElem_cons_succ, List.getElem_cons_zero, List.setIfInBounds_toArray, List.set_cons_zero, List.set_cons_succ]
  refine wpAnyK_ready (rs := [3]) (by kernel_rfl) (by simp) ?_
  refine AllReadyK.cons rfl (fun K hK => ?_) AllReadyK.nil
  go_simp
  refine (l1Str_any W1 g s1.d.2 _ 5 [⟨#[112]⟩, ⟨#[115, 99, 114, 105, 112, 116]⟩, ⟨#[112, 97, 103, 101]⟩, ⟨#[]⟩, ⟨#[105, 109, 103]⟩] nlp (by omega) (by omega) rfl lp.at_ lp.lt).mono ?_
  rintro e W2 ⟨x, hx1, rfl, d3⟩
  have s2 := s1.call d3
  refine hK.out _ _ (fun _ => s2.S) ?_
  clear hK K
  try simp only [Act.put, List.getElem_toArray, List.getElem_cons_succ, List.getElem_cons_zero, List.setIfInBounds_toArray, List.set_cons_zero, List.set_cons_succ]
  refine wpAnyK_ready (rs := [4]) (by kernel_rfl) (by simp) ?_
  refine AllReadyK.cons rfl (fun K hK => ?_) AllReadyK.nil
  obtain ⟨⟨x0, x1⟩, fx0, fx1⟩ := s2.bx.two'
  go_simp
  have s3 := s2.put (.slice A2 b.nodes.length c2) (.slice A2' b.opens.length c2')
  refine hK.out _ _ (fun _ => s3.S) ?_
  clear hK K
  clear x0 x1 fx0 fx1
  generalize (W2.setCell ⟨w.heap.size, 0, none⟩ (.slice A2 b.nodes.length c2)).setCell ⟨w.heap.size, 1, none⟩ (.slice A2' b.opens.length c2') = W3 at *
  try simp only [Act.put, List.getElem_toArray, List.getElem_cons_succ, List.getElem_cons_zero, List.setIfInBounds_toArray, List.set_cons_zero, List.set_cons_succ]
  refine wpAnyK_ready (rs := [5]) (by kernel_rfl) (by simp) ?_
  refine AllReadyK.cons rfl (fun K hK => ?_) AllReadyK.nil
  go_simp
  refine hK.out _ _ (fun h => absurd h (by decide)) ?_
  clear hK K
  try simp only [Act.put, List.getElem_toArray, List.getElem_cons_succ, List.getElem_cons_zero, List.setIfInBounds_toArray, List.set_cons_zero, List.set_cons_succ]
  refine wpAnyK_done (by kernel_rfl) ?_ _
  obtain ⟨⟨f0, f1⟩, -⟩ := s3.bx.two'
  go_wp2
  exact bodyPost_ret (v := .tuple #[(.agg #[.slice A2 b.nodes.length c2, .slice A2' b.opens.length c2']), .string x]) (by simp [results, Try.results9, go_sem, f0, f1]) rfl (s3.got hs ⟨x, rfl⟩)
set_option maxHeartbeats 1000000 in
theorem drawIsVoid_any {A : Option Addr} {n c : Nat} {zs : List Int} (w : World) (hx : Reads w w.heap.size 1 A n (zs.map (Value.int .u8))) (hn : n ≤ 1048576) (hz : ∀ z ∈ zs, 0 ≤ z ∧ z ≤ 255) :
    Calls Try.prog 10 #[.slice A n c] w fun e w' => ∃ s : ByteArray, e = .returned (.string s) ∧ Below w.heap.size w w' := by
  go_enter Try.func10, Try.ntmps10
  go_wp2_with (fail)
  go_at_call 33
  refine (l1New_any _ hx hn hz).mono ?_
  rintro e w0 ⟨g, hg, rfl, hb, hc⟩
  clear hx hz
  have hd := Draws.refl hc
  go_wp2_with (fail)
  go_at_call 36
  refine (l1Str_any _ g (hd.alloc _).2 _ 5 [⟨#[105, 109, 103]⟩, ⟨#[108, 105, 110, 107]⟩, ⟨#[112]⟩, ⟨#[115, 99, 114, 105, 112, 116]⟩, ⟨#[]⟩] (by have := hd.lt; omega) (by omega) (by omega) rfl (fun j v h => alloc_vals _ _ _ j v h) (alloc_lt _ _)).mono ?_
  rintro e w3 ⟨s, hs, rfl, d⟩
  replace hd := (hd.alloc _).trans d
  clear d hs
  go_wp2
  go_ret
  exact ⟨s, rfl, hb.trans (hd.below hb.size hg)⟩
end Go.Proofs.Ytleopmeaaabejaa
