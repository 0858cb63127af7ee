/-
  What the law of trees draws. No condition.
-/
import Derived.Test.YtleopmeaaabejaaTr01
namespace Go.Proofs.Ytleopmeaaabejaa
set_option linter.unusedVariables false
set_option linter.unusedSimpArgs false
set_option maxRecDepth 100000
open Go.ChangeShapes Go.WideShapes Go.ChangeAt Go.RowKit Go.Deep

theorem keeps_four (W : World) (g : Nat) (a b c d : Value) : Keeps (fun k => k = g) W ((((W.setCell ⟨g, 0, none⟩ a).setCell ⟨g, 1, none⟩ b).setCell ⟨g, 2, none⟩ c).setCell ⟨g, 3, none⟩ d) :=
  (((keeps_set (S := fun k => k = g) W (p := ⟨g, 0, none⟩) a rfl).trans (keeps_set (S := fun k => k = g) _ (p := ⟨g, 1, none⟩) b rfl)).trans (keeps_set (S := fun k => k = g) _ (p := ⟨g, 2, none⟩) c rfl)).trans (keeps_set (S := fun k => k = g) _ (p := ⟨g, 3, none⟩) d rfl)
theorem keeps_two (W : World) (g : Nat) (a b : Value) : Keeps (fun k => k = g) W ((W.setCell ⟨g, 0, none⟩ a).setCell ⟨g, 1, none⟩ b) :=
  (keeps_set (S := fun k => k = g) W (p := ⟨g, 0, none⟩) a rfl).trans (keeps_set (S := fun k => k = g) _ (p := ⟨g, 1, none⟩) b rfl)
theorem size_two (w : World) (p q : Addr) (u v : Value) : ((w.setCell p u).setCell q v).heap.size = w.heap.size := by simp [World.setCell]
theorem size_four (W : World) (g : Nat) (a b c d : Value) : ((((W.setCell ⟨g, 0, none⟩ a).setCell ⟨g, 1, none⟩ b).setCell ⟨g, 2, none⟩ c).setCell ⟨g, 3, none⟩ d).heap.size = W.heap.size := by simp [World.setCell]
section
variable {w w0 W W' : World} {g k5 : Nat} {T e ek ei : TypeId} {u v : Value} {A : Option Addr} {c : Nat} {A' : Option Addr} {c' : Nat} {b : Bld} {L : List (Nod × Hd)}
theorem DrB.four (h : DrB w w0 k5 T e ek ei u v A c A' c' b L W) (hw : w.heap.size + 1 < w0.heap.size) (x y z t : Value) :
    DrB w w0 k5 T e ek ei u v A c A' c' b L ((((W.setCell ⟨w.heap.size + 1, 0, none⟩ x).setCell ⟨w.heap.size + 1, 1, none⟩ y).setCell ⟨w.heap.size + 1, 2, none⟩ z).setCell ⟨w.heap.size + 1, 3, none⟩ t) := by
  have hk := keeps_four W (w.heap.size + 1) x y z t
  have hn := h.num
  exact ⟨hn, h.bx.keeps' hk (show ¬ (w.heap.size = w.heap.size + 1) by omega), h.b5.keeps' hk (show ¬ (k5 = w.heap.size + 1) by omega), below_four h.hb (by omega) x y z t,
    (h.o.keep hk (fun k hk => by omega)).wide (Nat.le_refl _) (by rw [size_four]; exact Nat.le_refl _)⟩
end
/-- the first of a row of tokens -/
theorem OwnN.first {w : World} {lo hi n c : Nat} {e ek : TypeId} {A : Option Addr} {x : Tok × Hd} {L : List (Tok × Hd)} (h : OwnN tokN w lo hi e ek A n c (x :: L)) : ∃ g, A = some ⟨g, 0, none⟩ := by
  have hn : 0 < n := by have := h.len; rw [← this]; simp
  obtain ⟨g, cap, hv, _, _⟩ := h.row.1.form hn
  injection hv with hA _ _
  exact ⟨g, hA⟩
theorem OwnN.first4 {w : World} {lo hi n c g : Nat} {e ek : TypeId} {x : Tok × Hd} {L : List (Tok × Hd)} (h : OwnN tokN w lo hi e ek (some ⟨g, 0, none⟩) n c (x :: L)) :
    w.cell? ⟨g, 0, none⟩ = some (.int .i64 x.1.kind) ∧ w.cell? ⟨g, 1, none⟩ = some (.string x.1.name) ∧ w.cell? ⟨g, 2, none⟩ = some (.slice x.2.1 x.1.attrs.length x.2.2) ∧ w.cell? ⟨g, 3, none⟩ = some (.string x.1.text) := by
  have hn : 0 < n := by have := h.len; rw [← this]; simp
  have hk : tokN.k = 4 := rfl
  have e0 : tokN.flat (x :: L) = [.int .i64 x.1.kind, .string x.1.name, .slice x.2.1 x.1.attrs.length x.2.2, .string x.1.text] ++ tokN.flat L := rfl
  have hc := fun j hj => h.row.1.cellAt j (by rw [hk]; omega : j < n * tokN.k)
  rw [e0] at hc
  exact ⟨hc 0 (by omega), hc 1 (by omega), hc 2 (by omega), hc 3 (by omega)⟩
/-- a token that is drawn -/
def IsTokV (x : Value) (W : World) : Prop := ∃ (t : Tok) (At : Option Addr) (ct : Nat), x = .agg #[.int .i64 t.kind, .string t.name, .slice At t.attrs.length ct, .string t.text] ∧ Reads W W.heap.size 2 At t.attrs.length (s2V t.attrs) ∧ tokSz t ≤ 45000
/-- tokens that are drawn -/
def IsToksV (x : Value) (W : World) : Prop := ∃ (l : List Tok) (B : Option Addr) (d : Nat), x = .slice B l.length d ∧ ReadsN tokN W W.heap.size B l.length l ∧ l.length ≤ 45000 ∧ ∀ t ∈ l, tokSz t ≤ 45000
set_option maxHeartbeats 2000000 in
theorem drawAddTokens_any {A : Option Addr} {n c : Nat} {zs : List Int} (w : World) (hx : Reads w w.heap.size 1 A n (zs.map (Value.int .u8))) (hn : n ≤ 1048576) (hz : ∀ z ∈ zs, 0 ≤ z ∧ z ≤ 255) :
    Calls Try.prog 21 #[.slice A n c] w (GotDr w 33 104 3 fun _ x W => IsToksV x W) := by
  have bx := BoxAt.new (w := w) rfl [.slice none 0 0, .slice none 0 0] 27
  have al := (Below.refl w.heap.size w).alloc (Nat.le_refl _) (.cells #[.slice none 0 0, .slice none 0 0] 27)
  have hx' := hx.next al
  have hz0 : (w.alloc (.cells #[.slice none 0 0, .slice none 0 0] 27)).heap.size = w.heap.size + 1 := by simp
  go_enter Try.func21, Try.ntmps21
  go_wp2_with (fail)
  go_at_call 33
  refine (l1New_any _ hx' hn hz).mono ?_
  rintro e w0 ⟨g, hg, rfl, hb, hc⟩
  replace bx := bx.next hb
  replace hb := al.trans (hb.mono (by omega))
  clear hx hx' hz al
  have hg0 := hc.lt
  have hw0 := hb.size
  go_wp2_with (fail)
  go_at_call 34
  refine (l6Any_any _ g hc).mono ?_
  rintro e w2 ⟨b, A2, c2, A2', c2', L2, hs, rfl, ob, d⟩
  have hw2 := d.size
  have hn0 := hs.nodes
  have hn1 := hs.opens
  have sA : DrA w w0 g w2.heap.size 27 33 104 3 (.slice none 0 0) (.slice none 0 0) A2 c2 A2' c2' b L2 ((w2.alloc (.cells #[.slice A2 b.nodes.length c2, .slice A2' b.opens.length c2'] 27))) := DrA.start (by omega) bx ob d hb (by omega)
  go_wp2_with (fail)
  refine wp_region_key (fun v : World => v.cell? ⟨w2.heap.size, 0, none⟩ = some (.slice A2 b.nodes.length c2) ∧ v.cell? ⟨w2.heap.size, 1, none⟩ = some (.slice A2' b.opens.length c2')) 5 (DrA w w0 g w2.heap.size 27 33 104 3 (.slice none 0 0) (.slice none 0 0) A2 c2 A2' c2' b L2) (by kernel_rfl) (DrA.drew sA) ?_
  intro W0 s0
  try simp only [List.replicate, Array.replicate]
  refine wpAnyK_load (i := 0) (v := ?_) rfl (by kernel_rfl) (by kernel_rfl) (by kernel_rfl) rfl (by kernel_rfl) (by kernel_rfl) (fun _ _ _ h => h) (s0.S) (Or.inl ⟨by rfl, ?_⟩) ?_
  rotate_left 1
  · intro wS hSw; (try dsimp only at hSw); go_simp
    all_goals with_reducible rfl
  try simp only [Act.put, List.getElem_toArray, List.getElem_cons_succ, List.getElem_cons_zero, List.setIfInBounds_toArray, List.set_cons_zero, List.set_cons_succ]
  refine wpAnyK_take (i := 1) (v := ?_) rfl (by kernel_rfl) (by kernel_rfl) (by kernel_rfl) rfl (fun _ _ _ h => h) (fun _ => s0.S) (Or.inl ⟨by rfl, ?_⟩) ?_
  rotate_left 1
  · intro wS _; go_simp
    all_goals with_reducible rfl
  try simp only [Act.put, List.getElem_toArray, List.getElem_cons_succ, List.getElem_cons_zero, List.setIfInBounds_toArray, List.set_cons_zero, List.set_cons_succ]
  refine wpAnyK_ready (rs := [2]) (by kernel_rfl) (by simp) ?_
  refine AllReadyK.cons rfl (fun K hK => ?_) AllReadyK.nil
  go_simp
  refine (l5Page_any W0 g s0.d.2 6 (by omega)).mono ?_
  rintro e W1 ⟨s, hss, rfl, d3⟩
  have s1 := s0.call d3
  refine hK.out _ _ (fun _ => s1.S) ?_
  clear hK K
  try simp only [Act.put, List.getElem_toArray, List.getElem_cons_succ, List.getElem_cons_zero, List.setIfInBounds_toArray, List.set_cons_zero, List.set_cons_succ]
  have htk := toksOf_sz s
  obtain ⟨q1, q2, -⟩ := toksOf_facts s
  have hT := tokensOf_spec W1 s (by omega)
  generalize toksOf s = TT at *
  refine wpAnyK_ready (rs := [3]) (by kernel_rfl) (by simp) ?_
  refine AllReadyK.cons rfl (fun K hK => ?_) AllReadyK.nil
  go_simp
  refine hT.mono ?_
  rintro e W2 ⟨A3, c3, L3, rfl, q3, o3, b3⟩
  have s2 := s1.next b3
  refine hK.out _ _ (fun _ => s2.S) ?_
  clear hK K
  clear hT b3
  try simp only [Act.put, List.getElem_toArray, List.getElem_cons_succ, List.getElem_cons_zero, List.setIfInBounds_toArray, List.set_cons_zero, List.set_cons_succ]
  refine wpAnyK_ready (rs := [4]) (by kernel_rfl) (by simp) ?_
  refine AllReadyK.cons rfl (fun K hK => ?_) AllReadyK.nil
  obtain ⟨⟨x0, x1⟩, fx0, fx1⟩ := s2.bx.two'
  go_simp
  have s3 := s2.put (.slice A2 b.nodes.length c2) (.slice A2' b.opens.length c2')
  refine hK.out _ _ (fun _ => s3.S) ?_
  clear hK K
  clear x0 x1 fx0 fx1
  have o4 := o3.keep (keeps_two W2 w.heap.size (.slice A2 b.nodes.length c2) (.slice A2' b.opens.length c2')) (fun k hk => by have := s1.size.1; omega)
  have hz4 := size_two W2 ⟨w.heap.size, 0, none⟩ ⟨w.heap.size, 1, none⟩ (.slice A2 b.nodes.length c2) (.slice A2' b.opens.length c2')
  generalize (W2.setCell ⟨w.heap.size, 0, none⟩ (.slice A2 b.nodes.length c2)).setCell ⟨w.heap.size, 1, none⟩ (.slice A2' b.opens.length c2') = W3 at *
  try simp only [Act.put, List.getElem_toArray, List.getElem_cons_succ, List.getElem_cons_zero, List.setIfInBounds_toArray, List.set_cons_zero, List.set_cons_succ]
  have hR := (o4.reads (by omega)).more (B' := W3.heap.size) (by omega)
  rw [q3] at hR
  refine wpAnyK_ready (rs := [5]) (by kernel_rfl) (by simp) ?_
  refine AllReadyK.cons rfl (fun K hK => ?_) AllReadyK.nil
  go_simp
  refine hK.out _ _ (fun h => absurd h (by decide)) ?_
  clear hK K
  try simp only [Act.put, List.getElem_toArray, List.getElem_cons_succ, List.getElem_cons_zero, List.setIfInBounds_toArray, List.set_cons_zero, List.set_cons_succ]
  refine wpAnyK_done (by kernel_rfl) ?_ _
  obtain ⟨⟨f0, f1⟩, -⟩ := s3.bx.two'
  go_wp2
  exact bodyPost_ret (v := .tuple #[(.agg #[.slice A2 b.nodes.length c2, .slice A2' b.opens.length c2']), .slice A3 TT.length c3]) (by simp [results, Try.results21, go_sem, f0, f1]) rfl (s3.got hs ⟨TT, A3, c3, rfl, hR, by omega, fun t ht => by have := htk t ht; omega⟩)
set_option maxHeartbeats 2000000 in
theorem drawAddToken_any {A : Option Addr} {n c : Nat} {zs : List Int} (w : World) (hx : Reads w w.heap.size 1 A n (zs.map (Value.int .u8))) (hn : n ≤ 1048576) (hz : ∀ z ∈ zs, 0 ≤ z ∧ z ≤ 255) :
    Calls Try.prog 14 #[.slice A n c] w (GotDr w 33 104 3 fun _ x W => IsTokV x W) := by
  have bx := BoxAt.new (w := w) rfl [.slice none 0 0, .slice none 0 0] 27
  have al := (Below.refl w.heap.size w).alloc (Nat.le_refl _) (.cells #[.slice none 0 0, .slice none 0 0] 27)
  have hx' := hx.next al
  have hz0 : (w.alloc (.cells #[.slice none 0 0, .slice none 0 0] 27)).heap.size = w.heap.size + 1 := by simp
  replace bx := bx.alloc (.cells #[.int .i64 0, .string ⟨#[]⟩, .slice none 0 0, .string ⟨#[]⟩] 40)
  have al2 := (Below.refl (w.alloc (.cells #[.slice none 0 0, .slice none 0 0] 27)).heap.size (w.alloc (.cells #[.slice none 0 0, .slice none 0 0] 27))).alloc (Nat.le_refl _) (.cells #[.int .i64 0, .string ⟨#[]⟩, .slice none 0 0, .string ⟨#[]⟩] 40)
  have b3 := BoxAt.new (w := w.alloc (.cells #[.slice none 0 0, .slice none 0 0] 27)) hz0 [.int .i64 0, .string ⟨#[]⟩, .slice none 0 0, .string ⟨#[]⟩] 40
  replace hx' := hx'.next al2
  replace al := al.trans (al2.mono al.size)
  clear al2
  replace hz0 : ((w.alloc (.cells #[.slice none 0 0, .slice none 0 0] 27)).alloc (.cells #[.int .i64 0, .string ⟨#[]⟩, .slice none 0 0, .string ⟨#[]⟩] 40)).heap.size = w.heap.size + 2 := by simp
  go_enter Try.func14, Try.ntmps14
  go_wp2_with (fail)
  go_at_call 33
  refine (l1New_any _ hx' hn hz).mono ?_
  rintro e w0 ⟨g, hg, rfl, hb, hc⟩
  replace b3 := b3.next hb
  replace bx := bx.next hb
  replace hb := al.trans (hb.mono (by omega))
  clear hx hx' hz al
  have hg0 := hc.lt
  have hw0 := hb.size
  go_wp2_with (fail)
  go_at_call 34
  refine (l6Any_any _ g hc).mono ?_
  rintro e w2 ⟨b, A2, c2, A2', c2', L2, hs, rfl, ob, d⟩
  have hw2 := d.size
  have hn0 := hs.nodes
  have hn1 := hs.opens
  have sA : DrA w w0 g w2.heap.size 27 33 104 3 (.slice none 0 0) (.slice none 0 0) A2 c2 A2' c2' b L2 ((w2.alloc (.cells #[.slice A2 b.nodes.length c2, .slice A2' b.opens.length c2'] 27))) := DrA.start (by omega) bx ob d hb (by omega)
  replace b3 := b3.keeps' d.1 (show ¬ (w.heap.size + 1 = g) by omega)
  replace b3 := b3.alloc (.cells #[.slice A2 b.nodes.length c2, .slice A2' b.opens.length c2'] 27)
  have hwg : w.heap.size + 1 < g := by omega
  clear ob d
  go_wp2_with (fail)
  go_at_call 38
  refine (l5Page_any _ g sA.d.2 3 (by omega)).mono ?_
  rintro e W3 ⟨s, hss, rfl, d3⟩
  have sB := sA.call d3
  replace b3 := b3.keeps' d3.1 (show ¬ (w.heap.size + 1 = g) by omega)
  clear sA d3
  have htk := toksOf_sz s
  obtain ⟨q1, q2, -⟩ := toksOf_facts s
  have hT := tokensOf_spec W3 s (by omega)
  generalize toksOf s = TT at *
  go_wp2_with (fail)
  go_at_call 37
  refine hT.mono ?_
  rintro e W4 ⟨A3, c3, L3, rfl, q3, o3, b4⟩
  have sC := sB.next b4
  replace b3 := b3.next b4
  have hlo := sB.size
  clear hT b4 sB
  rcases L3 with _ | ⟨y, L4⟩
  · obtain rfl : TT = [] := by simpa using q3.symm
    have e0 : ((0 : Int) == 0) = true := rfl
    go_wp2_with (fail)
    refine wp_region_key (fun v : World => v.cell? ⟨w2.heap.size, 0, none⟩ = some (.slice A2 b.nodes.length c2) ∧ v.cell? ⟨w2.heap.size, 1, none⟩ = some (.slice A2' b.opens.length c2')) 5 (fun V => DrA w w0 g w2.heap.size 27 33 104 3 (.slice none 0 0) (.slice none 0 0) A2 c2 A2' c2' b L2 V ∧ BoxAt V (w.heap.size + 1) [.int .i64 0, .string ⟨#[]⟩, .slice none 0 0, .string ⟨#[]⟩] 40) (by kernel_rfl) ⟨DrA.drew sC, b3⟩ ?_
    clear b3
    rintro W0 ⟨s0, b3⟩
    try simp only [List.replicate, Array.replicate]
    refine wpAnyK_load (i := 0) (v := ?_) rfl (by kernel_rfl) (by kernel_rfl) (by kernel_rfl) rfl (by kernel_rfl) (by kernel_rfl) (fun _ _ _ h => h) (s0.S) (Or.inl ⟨by rfl, ?_⟩) ?_
    rotate_left 1
    · intro wS hSw; (try dsimp only at hSw); go_simp
      all_goals with_reducible rfl
    try simp only [Act.put, List.getElem_toArray, List.getElem_cons_succ, List.getElem_cons_zero, List.setIfInBounds_toArray, List.set_cons_zero, List.set_cons_succ]
    refine wpAnyK_take (i := 1) (v := ?_) rfl (by kernel_rfl) (by kernel_rfl) (by kernel_rfl) rfl (fun _ _ _ h => h) (fun _ => s0.S) (Or.inl ⟨by rfl, ?_⟩) ?_
    rotate_left 1
    · intro wS _; go_simp
      all_goals with_reducible rfl
    try simp only [Act.put, List.getElem_toArray, List.getElem_cons_succ, List.getElem_cons_zero, List.setIfInBounds_toArray, List.set_cons_zero, List.set_cons_succ]
    refine wpAnyK_ready (rs := [2]) (by kernel_rfl) (by simp) ?_
    refine AllReadyK.cons rfl (fun K hK => ?_) AllReadyK.nil
    go_simp
    refine (l1Below_any W0 g s0.d.2 5 (by omega) (by omega)).mono ?_
    rintro e W1 ⟨x, hx1, hx2, rfl, d3⟩
    have s1 := s0.call d3
    replace b3 := b3.keeps' d3.1 (show ¬ (w.heap.size + 1 = g) by omega)
    refine hK.out _ _ (fun _ => s1.S) ?_
    clear hK K
    try simp only [Act.put, List.getElem_toArray, List.getElem_cons_succ, List.getElem_cons_zero, List.setIfInBounds_toArray, List.set_cons_zero, List.set_cons_succ]
    refine wpAnyK_take (i := 3) (v := ?_) rfl (by kernel_rfl) (by kernel_rfl) (by kernel_rfl) rfl (fun _ _ _ h => h) (fun _ => s1.S) (Or.inl ⟨by rfl, ?_⟩) ?_
    rotate_left 1
    · intro wS _; go_simp
      all_goals with_reducible rfl
    try simp only [Act.put, List.getElem_toArray, List.getElem_cons_succ, List.getElem_cons_zero, List.setIfInBounds_toArray, List.set_cons_zero, List.set_cons_succ]
    refine wpAnyK_ready (rs := [4]) (by kernel_rfl) (by simp) ?_
    refine AllReadyK.cons rfl (fun K hK => ?_) AllReadyK.nil
    obtain ⟨⟨x0, x1⟩, fx0, fx1⟩ := s1.bx.two'
    go_simp
    have s2 := s1.put (.slice A2 b.nodes.length c2) (.slice A2' b.opens.length c2')
    refine hK.out _ _ (fun _ => s2.S) ?_
    clear hK K
    clear x0 x1 fx0 fx1
    have b3' := b3.keeps' (keeps_two W1 w.heap.size (.slice A2 b.nodes.length c2) (.slice A2' b.opens.length c2')) (show ¬ (w.heap.size + 1 = w.heap.size) by omega)
    replace b3 := b3'
    clear b3'
    generalize (W1.setCell ⟨w.heap.size, 0, none⟩ (.slice A2 b.nodes.length c2)).setCell ⟨w.heap.size, 1, none⟩ (.slice A2' b.opens.length c2') = W2 at *
    try simp only [Act.put, List.getElem_toArray, List.getElem_cons_succ, List.getElem_cons_zero, List.setIfInBounds_toArray, List.set_cons_zero, List.set_cons_succ]
    refine wpAnyK_ready (rs := [5]) (by kernel_rfl) (by simp) ?_
    refine AllReadyK.cons rfl (fun K hK => ?_) AllReadyK.nil
    obtain ⟨⟨x0, x1, x2, x3⟩, fx0, fx1, fx2, fx3⟩ := b3.four
    go_simp
    have s3 := s2.four (by omega) (.int .i64 x) (.string ⟨#[112]⟩) (.slice none 0 0) (.string ⟨#[]⟩)
    have b6 := b3.four_put (.int .i64 x) (.string ⟨#[112]⟩) (.slice none 0 0) (.string ⟨#[]⟩)
    refine hK.out _ _ (fun h => absurd h (by decide)) ?_
    clear hK K
    clear x0 x1 x2 x3 fx0 fx1 fx2 fx3
    generalize (((W2.setCell ⟨w.heap.size + 1, 0, none⟩ (.int .i64 x)).setCell ⟨w.heap.size + 1, 1, none⟩ (.string ⟨#[112]⟩)).setCell ⟨w.heap.size + 1, 2, none⟩ (.slice none 0 0)).setCell ⟨w.heap.size + 1, 3, none⟩ (.string ⟨#[]⟩) = W3 at *
    try simp only [Act.put, List.getElem_toArray, List.getElem_cons_succ, List.getElem_cons_zero, List.setIfInBounds_toArray, List.set_cons_zero, List.set_cons_succ]
    refine wpAnyK_done (by kernel_rfl) ?_ _
    obtain ⟨⟨f0, f1⟩, -⟩ := s3.bx.two'
    obtain ⟨⟨f2, f3, f4, f5⟩, -⟩ := b6.four
    go_wp2
    exact bodyPost_ret (v := .tuple #[(.agg #[.slice A2 b.nodes.length c2, .slice A2' b.opens.length c2']), .agg #[.int .i64 x, .string ⟨#[112]⟩, .slice none 0 0, .string ⟨#[]⟩]]) (by simp [results, Try.results14, go_sem, f0, f1, f2, f3, f4, f5]) rfl (s3.got hs ⟨⟨x, ⟨#[112]⟩, [], ⟨#[]⟩⟩, none, 0, rfl, Reads.none_, by have e : tokSz ⟨x, ⟨#[112]⟩, [], ⟨#[]⟩⟩ = 1 := rfl; omega⟩)
  · obtain ⟨g3, rfl⟩ := o3.first
    have hTT : TT = y.1 :: L4.map (·.1) := by rw [← q3]; rfl
    have hyz := htk y.1 (by rw [hTT]; simp)
    have hTl : 1 ≤ TT.length := by rw [hTT]; simp
    have hT1 : (1 : Int) ≤ (TT.length : Int) := by omega
    have hT0 : (0 : Int) < (TT.length : Int) := by omega
    have e0 : ((TT.length : Int) == 0) = false := by rw [beq_eq_false_iff_ne]; omega
    have hTn : 0 < TT.length := by omega
    clear htk hTT q3
    go_wp2_with (fail)
    refine wp_region_key (fun v : World => v.cell? ⟨w2.heap.size, 0, none⟩ = some (.slice A2 b.nodes.length c2) ∧ v.cell? ⟨w2.heap.size, 1, none⟩ = some (.slice A2' b.opens.length c2') ∧ v.cell? ⟨g3, 0, none⟩ = some (.int .i64 y.1.kind) ∧ v.cell? ⟨g3, 1, none⟩ = some (.string y.1.name) ∧ v.cell? ⟨g3, 2, none⟩ = some (.slice y.2.1 y.1.attrs.length y.2.2) ∧ v.cell? ⟨g3, 3, none⟩ = some (.string y.1.text)) 5 (fun V => DrA w w0 g w2.heap.size 27 33 104 3 (.slice none 0 0) (.slice none 0 0) A2 c2 A2' c2' b L2 V ∧ BoxAt V (w.heap.size + 1) [.int .i64 0, .string ⟨#[]⟩, .slice none 0 0, .string ⟨#[]⟩] 40 ∧ OwnN tokN V W3.heap.size W4.heap.size 40 104 (some ⟨g3, 0, none⟩) TT.length c3 (y :: L4) ∧ W4.heap.size ≤ V.heap.size) (by kernel_rfl) ⟨DrA.drew sC, b3, o3.keep (S := Never) (w' := W4.drew) ⟨rfl, rfl, rfl, Nat.le_refl _, fun _ _ _ => rfl⟩ (fun _ h => h.elim), Nat.le_refl _⟩ ?_
    clear b3
    rintro W0 ⟨s0, b3, o0, hh0⟩
    try simp only [List.replicate, Array.replicate]
    refine wpAnyK_load (i := 0) (v := ?_) rfl (by kernel_rfl) (by kernel_rfl) (by kernel_rfl) rfl (by kernel_rfl) (by kernel_rfl) (fun _ _ _ h => h) (⟨s0.S.1, s0.S.2, o0.first4⟩) (Or.inl ⟨by rfl, ?_⟩) ?_
    rotate_left 1
    · intro wS hSw; (try dsimp only at hSw); go_simp
      all_goals with_reducible rfl
    try simp only [Act.put, List.getElem_toArray, List.getElem_cons_succ, List.getElem_cons_zero, List.setIfInBounds_toArray, List.set_cons_zero, List.set_cons_succ]
    refine wpAnyK_take (i := 1) (v := ?_) rfl (by kernel_rfl) (by kernel_rfl) (by kernel_rfl) rfl (fun _ _ _ h => h) (fun _ => ⟨s0.S.1, s0.S.2, o0.first4⟩) (Or.inl ⟨by rfl, ?_⟩) ?_
    rotate_left 1
    · intro wS _; go_simp
      all_goals with_reducible rfl
    try simp only [Act.put, List.getElem_toArray, List.getElem_cons_succ, List.getElem_cons_zero, List.setIfInBounds_toArray, List.set_cons_zero, List.set_cons_succ]
    refine wpAnyK_take (i := 2) (v := ?_) rfl (by kernel_rfl) (by kernel_rfl) (by kernel_rfl) rfl (fun _ _ _ h => h) (fun _ => ⟨s0.S.1, s0.S.2, o0.first4⟩) (Or.inl ⟨by rfl, ?_⟩) ?_
    rotate_left 1
    · intro wS _; go_simp
      all_goals with_reducible rfl
    try simp only [Act.put, List.getElem_toArray, List.getElem_cons_succ, List.getElem_cons_zero, List.setIfInBounds_toArray, List.set_cons_zero, List.set_cons_succ]
    refine wpAnyK_load (i := 3) (v := ?_) rfl (by kernel_rfl) (by kernel_rfl) (by kernel_rfl) rfl (by kernel_rfl) (by kernel_rfl) (fun _ _ _ h => h) (⟨s0.S.1, s0.S.2, o0.first4⟩) (Or.inl ⟨by rfl, ?_⟩) ?_
    rotate_left 1
    · intro wS hSw; (try dsimp only at hSw); go_simp
      all_goals with_reducible rfl
    try simp only [Act.put, List.getElem_toArray, List.getElem_cons_succ, List.getElem_cons_zero, List.setIfInBounds_toArray, List.set_cons_zero, List.set_cons_succ]
    refine wpAnyK_ready (rs := [4]) (by kernel_rfl) (by simp) ?_
    refine AllReadyK.cons rfl (fun K hK => ?_) AllReadyK.nil
    obtain ⟨⟨x0, x1⟩, fx0, fx1⟩ := s0.bx.two'
    go_simp
    have s1 := s0.put (.slice A2 b.nodes.length c2) (.slice A2' b.opens.length c2')
    have b3' := b3.keeps' (keeps_two W0 w.heap.size (.slice A2 b.nodes.length c2) (.slice A2' b.opens.length c2')) (show ¬ (w.heap.size + 1 = w.heap.size) by omega)
    have o1 := o0.keep (keeps_two W0 w.heap.size (.slice A2 b.nodes.length c2) (.slice A2' b.opens.length c2')) (fun k hk => by omega)
    have hh1 := size_two W0 ⟨w.heap.size, 0, none⟩ ⟨w.heap.size, 1, none⟩ (.slice A2 b.nodes.length c2) (.slice A2' b.opens.length c2')
    refine hK.out _ _ (fun _ => ⟨s1.S.1, s1.S.2, o1.first4⟩) ?_
    clear hK K
    clear x0 x1 fx0 fx1
    clear b3
    generalize (W0.setCell ⟨w.heap.size, 0, none⟩ (.slice A2 b.nodes.length c2)).setCell ⟨w.heap.size, 1, none⟩ (.slice A2' b.opens.length c2') = W1 at *
    try simp only [Act.put, List.getElem_toArray, List.getElem_cons_succ, List.getElem_cons_zero, List.setIfInBounds_toArray, List.set_cons_zero, List.set_cons_succ]
    have b3 := b3'
    clear b3'
    refine wpAnyK_ready (rs := [5]) (by kernel_rfl) (by simp) ?_
    refine AllReadyK.cons rfl (fun K hK => ?_) AllReadyK.nil
    obtain ⟨⟨x0, x1, x2, x3⟩, fx0, fx1, fx2, fx3⟩ := b3.four
    go_simp
    have s2 := s1.four (by omega) (.int .i64 y.1.kind) (.string y.1.name) (.slice y.2.1 y.1.attrs.length y.2.2) (.string y.1.text)
    have b6 := b3.four_put (.int .i64 y.1.kind) (.string y.1.name) (.slice y.2.1 y.1.attrs.length y.2.2) (.string y.1.text)
    have o2 := o1.keep (keeps_four W1 (w.heap.size + 1) (.int .i64 y.1.kind) (.string y.1.name) (.slice y.2.1 y.1.attrs.length y.2.2) (.string y.1.text)) (fun k hk => by omega)
    have hh2 := size_four W1 (w.heap.size + 1) (.int .i64 y.1.kind) (.string y.1.name) (.slice y.2.1 y.1.attrs.length y.2.2) (.string y.1.text)
    refine hK.out _ _ (fun h => absurd h (by decide)) ?_
    clear hK K
    clear x0 x1 x2 x3 fx0 fx1 fx2 fx3
    generalize (((W1.setCell ⟨w.heap.size + 1, 0, none⟩ (.int .i64 y.1.kind)).setCell ⟨w.heap.size + 1, 1, none⟩ (.string y.1.name)).setCell ⟨w.heap.size + 1, 2, none⟩ (.slice y.2.1 y.1.attrs.length y.2.2)).setCell ⟨w.heap.size + 1, 3, none⟩ (.string y.1.text) = W2 at *
    try simp only [Act.put, List.getElem_toArray, List.getElem_cons_succ, List.getElem_cons_zero, List.setIfInBounds_toArray, List.set_cons_zero, List.set_cons_succ]
    have hR := ((o2.kids y (by simp)).reads (by omega)).more (B' := W2.heap.size) (by omega)
    refine wpAnyK_done (by kernel_rfl) ?_ _
    obtain ⟨⟨f0, f1⟩, -⟩ := s2.bx.two'
    obtain ⟨⟨f2, f3, f4, f5⟩, -⟩ := b6.four
    go_wp2
    exact bodyPost_ret (v := .tuple #[(.agg #[.slice A2 b.nodes.length c2, .slice A2' b.opens.length c2']), .agg #[.int .i64 y.1.kind, .string y.1.name, .slice y.2.1 y.1.attrs.length y.2.2, .string y.1.text]]) (by simp [results, Try.results14, go_sem, f0, f1, f2, f3, f4, f5]) rfl (s2.got hs ⟨y.1, y.2.1, y.2.2, rfl, hR, by omega⟩)
end Go.Proofs.Ytleopmeaaabejaa
