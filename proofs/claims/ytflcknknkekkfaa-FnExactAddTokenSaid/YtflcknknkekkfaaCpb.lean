/-
  Contracts of copyBuilder of the program and of the reference. Condition: at most 2^30 elements.
-/
import Derived.Test.YtflcknknkekkfaaNap
import Derived.Test.YtflcknknkekkfaaBd
namespace Go.Proofs.Ytflcknknkekkfaa
set_option linter.unusedVariables false
set_option linter.unusedSimpArgs false
set_option maxRecDepth 100000
open Go.ChangeShapes Go.WideShapes Go.ChangeAt Go.RowKit Go.Deep

theorem row_ops : RowT Try.prog 50 3 1 8 := RowT.mk' Try.underlying50 info_i64 rfl (by omega)
theorem own_empty2 (w : World) (o1 o2 : Obj) (e size : Nat) : (((w.alloc o1).alloc o2).alloc (.cells #[] e)).ownsRow (w.heap.size + 1 + 1) e size (.slice (some ⟨w.heap.size + 1 + 1, 0, none⟩) 0 0) 0 [] := by
  have h := own_empty ((w.alloc o1).alloc o2) e size
  simpa only [World.size_alloc] using h

/-- a box of two cells, written at the first -/
theorem two_set0 {w : World} {g : Nat} {a b : Value} {t : TypeId} (h : w.heap[g]? = some (.cells #[a, b] t (0, 0))) (u : Value) : (w.setCell ⟨g, 0, none⟩ u).heap[g]? = some (.cells #[u, b] t (0, 0)) := by
  have hlt : g < w.heap.size := (Array.getElem?_eq_some_iff.1 h).1
  have h' : w.heap[g] = .cells #[a, b] t (0, 0) := by simpa [Array.getElem?_eq_getElem hlt] using h
  show (w.heap.modify g _)[g]? = _
  rw [Array.getElem?_eq_getElem (by simpa using hlt), Array.getElem_modify_self, h']
  rfl
theorem two_cells {w : World} {g : Nat} {a b : Value} {t : TypeId} (h : w.heap[g]? = some (.cells #[a, b] t (0, 0))) : w.cell? ⟨g, 0, none⟩ = some a ∧ w.cell? ⟨g, 1, none⟩ = some b ∧ w.frozen? ⟨g, 0, none⟩ = false ∧ w.frozen? ⟨g, 1, none⟩ = false := by
  refine ⟨?_, ?_, ?_, ?_⟩ <;> simp [World.cell?, World.frozen?, h]

theorem own_empty1 (w : World) (o1 : Obj) (e size : Nat) : ((w.alloc o1).alloc (.cells #[] e)).ownsRow (w.heap.size + 1) e size (.slice (some ⟨w.heap.size + 1, 0, none⟩) 0 0) 0 [] := by
  have h := own_empty (w.alloc o1) e size
  simpa only [World.size_alloc] using h
theorem Reads.four (w : World) (a b c d : Value) (t : TypeId) : Reads (w.alloc (.cells #[a, b, c, d] t)) (w.heap.size + 1) 4 (some ⟨w.heap.size, 0, none⟩) 1 [a, b, c, d] := by
  refine ⟨rfl, fun _ => ⟨_, rfl, by simp, fun j x hx => ?_⟩⟩
  have hadd : (⟨w.heap.size, 0, none⟩ : Addr).add j = ⟨w.heap.size, j, none⟩ := by unfold Addr.add; split <;> simp_all
  rw [hadd, World.cell?_alloc_at _ _ _ _ rfl]
  simpa using hx

/-- where the copy stands: k nodes are copied; the box g holds the copy so far -/
structure CopyAt (E ek eb : TypeId) (w4 : World) (B g : Nat) (b : Bld) (S : Value) (k : Nat) (Ak : Option Addr) (ck : Nat) (L : List (Nod × Hd)) (wr : World) : Prop where
  fst : L.map (·.1) = b.nodes.take k
  own : OwnN nodN wr (g + 1) wr.heap.size E ek Ak k ck L
  box : wr.heap[g]? = some (.cells #[.slice Ak k ck, S] eb (0, 0))
  bel : Below g w4 wr

set_option maxHeartbeats 1000000 in
theorem copyBuilder_impl {A A' : Option Addr} {n c n' c' : Nat} {b : Bld} (w : World) (hx : ReadsB w w.heap.size A n A' n' b) (hn : n ≤ 1073741824) (hn' : n' ≤ 1073741824) (hka : ∀ a ∈ b.nodes, a.attrs.length ≤ 1073741824) :
    Calls Try.prog 97 #[.agg #[.slice A n c, .slice A' n' c']] w (GotB w 74 94 3 n n' b) := by
  have hb3 : Below w.heap.size w (((w.alloc (.cells #[.slice A n c, .slice A' n' c'] 52)).alloc (.cells #[.slice none 0 0, .slice none 0 0] 52)).alloc (.cells #[] 3)) := (((Below.refl _ w).alloc (Nat.le_refl _) _).alloc (by simp) _).alloc (by simp; omega) _
  have hx3 := hx.2.below hb3
  have ho := own_empty2 w (.cells #[.slice A n c, .slice A' n' c'] 52) (.cells #[.slice none 0 0, .slice none 0 0] 52) 3 1
  go_enter Try.func97, Try.ntmps97
  go_wp2_with (at_builtin; refine wpList_app row_ops rfl (.tmp 6) (.tmp 8) rfl (w.heap.size + 1 + 1) _ 0 0 [] rfl ho w.heap.size A' n' c' (b.opens.map (Value.int .i64)) rfl hx3 (ints_one _ _) n' (b.opens.map (Value.int .i64)) (by omega) rfl ⟨by omega, by omega⟩ (by simp) ?_; intro A4 c4 w4 ho4 hb4; have hs4 := hb4.size; simp only [World.size_alloc] at hs4; have K0 : w4.cell? ⟨w.heap.size, 0, none⟩ = some (.slice A n c) := ((bcell hb4).1 _ _ (by omega)).trans (by simp [go_sem]); have K1 : (w4.alloc (.cells #[.slice none 0 0, .slice A4 n' c4] 52)).cell? ⟨w.heap.size, 0, none⟩ = some (.slice A n c) := by simp [World.cell?_alloc_some, K0])
  go_loopw [14] (fun i wr => ∃ (k : Nat) (Ak : Option Addr) (ck : Nat) (L : List (Nod × Hd)), k ≤ n ∧ i = .int .i64 k ∧ CopyAt 74 94 52 w4 (w.heap.size + 1 + 1) w4.heap.size b (.slice A4 n' c4) k Ak ck L wr)
    (fun i _ => n - (intOf i).toNat)
  case atStart =>
    refine ⟨0, none, 0, [], Nat.zero_le _, rfl, by simp, ?_, by { show (w4.heap.push _)[w4.heap.size]? = _; exact Array.getElem?_push_size }, (Below.refl _ _).alloc (Nat.le_refl _) _⟩
    exact ⟨⟨⟨by simp [Nest.flat], .inl ⟨rfl, rfl⟩⟩, fun k hk => by cases hk⟩, by simp, by simp, by simp⟩
  case round =>
    obtain ⟨k, Ak, ck, L, hk, rfl, h⟩ := hrel
    have hb4' : Below w.heap.size w w4 := hb3.trans (hb4.mono (by omega))
    have hbr : Below w.heap.size w wr := hb4'.trans (h.bel.mono hb4'.size)
    have hg3 : w4.heap.size < wr.heap.size := (Array.getElem?_eq_some_iff.1 h.box).1
    have ho4r : True := trivial
    by_cases hlt : k < n
    · obtain ⟨b0, off0, rfl, hb0, hx4⟩ := (hx.1.below hbr).nod hlt
      have hl1 : k < b.nodes.length := by rw [hx.1.len]; exact hlt
      obtain ⟨Ax, cx, hrk, e0, e1, e2, e3⟩ := hx4 hl1
      have hfst : Hid (b.nodes.take (k + 1) = b.nodes.take k ++ [b.nodes[k]]) := List.take_succ_eq_append_getElem hl1
      have hka' := hka b.nodes[k] (List.getElem_mem _)
      generalize b.nodes[k] = nd at *
      obtain ⟨name, text, parent, attrs⟩ := nd
      simp only at hrk e0 e1 e2 e3
      clear hx4
      obtain ⟨x0, x1, xf0, xf1⟩ := two_cells h.box
      have hW5 : Below wr.heap.size wr ((wr.alloc (.cells #[.string name, .string text, .int .i64 parent, .slice Ax attrs.length cx] 74)).alloc (.cells #[] 94)) := ((Below.refl _ wr).alloc (Nat.le_refl _) _).alloc (by simp) _
      have hoe := own_empty1 wr (.cells #[.string name, .string text, .int .i64 parent, .slice Ax attrs.length cx] 74) 94 2
      have hrk5 := hrk.below (hW5.mono hbr.size)
      have hla : attrs.length ≤ 1073741824 := hka'
      go_wp2_with (first
        | (at_builtin
           refine wpList_app row_Attr rfl (.tmp 18) (.tmp 20) rfl (wr.heap.size + 1) _ 0 0 [] rfl hoe w.heap.size Ax attrs.length cx (s2V attrs) rfl hrk5 (s2_one _) attrs.length (s2V attrs) (by omega) rfl ⟨by omega, by omega⟩ (by simp) ?_
           intro A6 c6 w6 ho6 hb6
           have hs6 := hb6.size
           simp only [World.size_alloc] at hs6
           have hb6' : Below wr.heap.size wr w6 := hW5.trans (hb6.mono (by omega))
           have t0 : w6.cell? ⟨wr.heap.size, 0, none⟩ = some (.string name) := ((bcell hb6).1 _ _ (by omega)).trans (by simp [go_sem])
           have t1 : w6.cell? ⟨wr.heap.size, 1, none⟩ = some (.string text) := ((bcell hb6).1 _ _ (by omega)).trans (by simp [go_sem])
           have t2 : w6.cell? ⟨wr.heap.size, 2, none⟩ = some (.int .i64 parent) := ((bcell hb6).1 _ _ (by omega)).trans (by simp [go_sem])
           have t3 : w6.cell? ⟨wr.heap.size, 3, none⟩ = some (.slice Ax attrs.length cx) := ((bcell hb6).1 _ _ (by omega)).trans (by simp [go_sem])
           have tf3 : w6.frozen? ⟨wr.heap.size, 3, none⟩ = false := ((bcell hb6).2 _ _ (by omega)).trans (by rw [frozen?_alloc_cells, frozen?_alloc_cells]; simp [World.frozen?])
           have y0 : w6.cell? ⟨w4.heap.size, 0, none⟩ = some (.slice Ak k ck) := ((bcell hb6').1 _ _ (by omega)).trans x0)
        | (at_builtin
           have hr4 := Reads.four (w6.setCell ⟨wr.heap.size, 3, none⟩ (.slice A6 attrs.length c6)) (.string name) (.string text) (.int .i64 parent) (.slice A6 attrs.length c6) 74
           rw [show (w6.setCell ⟨wr.heap.size, 3, none⟩ (.slice A6 attrs.length c6)).heap.size = w6.heap.size by simp [World.setCell]] at hr4
           have hbW := (hb6'.setCell (p := ⟨wr.heap.size, 3, none⟩) (by simp) (.slice A6 attrs.length c6)).alloc (by simp; omega) (.cells #[.string name, .string text, .int .i64 parent, .slice A6 attrs.length c6] 74)
           refine wpList_push (N := nodN) (bytes := 64) row_Node rfl (.tmp 24) (.tmp 26) rfl (lo := w4.heap.size + 1) (m := wr.heap.size) (ek := 94) (L := L) (A := Ak) (n := k) (c := ck) ?_ (by simp; omega) (by omega) (⟨name, text, parent, attrs⟩, (A6, c6)) ?_ rfl (some ⟨w6.heap.size, 0, none⟩) 1 _ rfl hr4 (by omega) (by omega) ?_
           · exact h.own.below hbW
           · exact (((Own.of_row ho6).set (p := ⟨wr.heap.size, 3, none⟩) (by simp) _).below ((Below.refl _ _).alloc (Nat.le_refl _) _)).wide (by omega) (by simp)
           intro A8 c8 w8 ho8 hk8
           have box8 : w8.heap[w4.heap.size]? = some (.cells #[.slice Ak k ck, .slice A4 n' c4] 52) := (hk8.block _ (Nat.lt_of_lt_of_le hg3 hbW.size) (fun hS => by have := h.own.row.geb _ hS; omega)).trans ((hbW.block _ hg3).trans h.box)
           obtain ⟨y8, _, yf8, _⟩ := two_cells box8))
      go_roundw
      case rel =>
        refine ⟨k + 1, A8, c8, _, by omega, by go_num, ⟨?_, (ho8.set (p := ⟨w4.heap.size, 0, none⟩) (by simp) _).wide (Nat.le_refl _) (by simp [World.setCell]), two_set0 box8 _, ?_⟩⟩
        · rw [List.map_append, h.fst, hfst.out]; rfl
        · exact ((h.bel.trans (hbW.mono (by omega))).trans (hk8.below (B := w4.heap.size) (Nat.le_trans (Nat.le_of_lt hg3) hbW.size) (fun j hS => by have := h.own.row.geb _ hS; omega))).setCell (p := ⟨w4.heap.size, 0, none⟩) (by simp) _
      case measure => simp [intOf]; omega
    · obtain rfl : k = n := by omega
      obtain ⟨x0, x1, xf0, xf1⟩ := two_cells h.box
      have r0 : w4.cell? ⟨w.heap.size + 1, 0, none⟩ = some (.slice none 0 0) := ((bcell hb4).1 _ _ (by omega)).trans (by simp [go_sem])
      have r1 : w4.cell? ⟨w.heap.size + 1, 1, none⟩ = some (.slice none 0 0) := ((bcell hb4).1 _ _ (by omega)).trans (by simp [go_sem])
      have q0 : wr.cell? ⟨w.heap.size + 1, 0, none⟩ = some (.slice none 0 0) := ((bcell h.bel).1 _ _ (by omega)).trans r0
      have q1 : wr.cell? ⟨w.heap.size + 1, 1, none⟩ = some (.slice none 0 0) := ((bcell h.bel).1 _ _ (by omega)).trans r1
      have qf0 : wr.frozen? ⟨w.heap.size + 1, 0, none⟩ = false := ((bcell h.bel).2 _ _ (by omega)).trans (((bcell hb4).2 _ _ (by omega)).trans (by rw [frozen?_alloc_cells, frozen?_alloc_cells, frozen?_alloc_cells]; simp [World.frozen?]))
      have qf1 : wr.frozen? ⟨w.heap.size + 1, 1, none⟩ = false := ((bcell h.bel).2 _ _ (by omega)).trans (((bcell hb4).2 _ _ (by omega)).trans (by rw [frozen?_alloc_cells, frozen?_alloc_cells, frozen?_alloc_cells]; simp [World.frozen?]))
      go_wp2
      have hopn : Own wr (w.heap.size + 1 + 1) w4.heap.size 3 1 (.slice A4 n' c4) n' (b.opens.map (Value.int .i64)) := (Own.of_row ho4).below h.bel
      have ob : OwnB wr (w.heap.size + 1 + 1) wr.heap.size 74 94 3 Ak k ck A4 n' c4 b L :=
        ⟨by rw [h.fst, List.take_of_length_le (by rw [hx.1.len]; exact Nat.le_refl _)], h.own.wide (by omega) (Nat.le_refl _), hopn.wide (Nat.le_refl _) (by omega), fun j hj hf => by
          have h1 := hopn.2 j hj
          have h2 := h.own.foot_span j hf
          have h3 : w4.heap.size + 1 ≤ j := h2.1
          omega⟩
      have ob2 := (ob.set (p := ⟨w.heap.size + 1, 0, none⟩) (by simp) (.slice Ak k ck)).set (p := ⟨w.heap.size + 1, 1, none⟩) (by simp) (.slice A4 n' c4)
      have bl2 := (hbr.setCell (p := ⟨w.heap.size + 1, 0, none⟩) (by simp) (.slice Ak k ck)).setCell (p := ⟨w.heap.size + 1, 1, none⟩) (by simp) (.slice A4 n' c4)
      refine bodyPost_ret (v := .agg #[.slice Ak k ck, .slice A4 n' c4]) (by simp [results, Try.results97, go_sem, q0, q1]) rfl ⟨Ak, ck, A4, c4, L, rfl, ob2.wide (by omega) (by simp [World.setCell]), bl2⟩
end Go.Proofs.Ytflcknknkekkfaa
