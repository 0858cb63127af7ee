/-
  Contracts of copyBuilder of the program and of the reference. Condition: at most 2^30 elements.
  Plain facts on the order of strings and of pairs of strings. No program is named. No condition.
  Contracts of EndText of the program and of the reference, and of the generated helpers on a tokenizer. Conditions: sizes of Go strings.
-/
import Derived.Test.YtleopmeaaabejaaP05
import Derived.Test.YtleopmeaaabejaaP07
import Derived.Lib.Bytealg
import Derived.Test.YtleopmeaaabejaaP03
import Derived.Deep.RegionWith
import Derived.Deep.RegionHeld3
import Derived.Lib.SmallJoins
import Derived.Test.YtleopmeaaabejaaP06
namespace Go.Proofs.Ytleopmeaaabejaa
set_option linter.unusedVariables false
set_option linter.unusedSimpArgs false
set_option maxRecDepth 100000
open Go.ChangeShapes Go.WideShapes Go.ChangeAt Go.RowKit Go.Deep

theorem row_ops : RowT Try.prog 25 3 1 8 := RowT.mk' Try.underlying25 info_i64 rfl (by omega)
theorem own_empty2 (w : World) (o1 o2 : Obj) (e size : Nat) : (((w.alloc o1).alloc o2).alloc (.cells #[] e)).ownsRow (w.heap.size + 1 + 1) e size (.slice (some ⟨w.heap.size + 1 + 1, 0, none⟩) 0 0) 0 [] := by
  have h := own_empty ((w.alloc o1).alloc o2) e size
  simpa only [World.size_alloc] using h

/-- a box of two cells, written at the first -/
theorem two_set0 {w : World} {g : Nat} {a b : Value} {t : TypeId} (h : w.heap[g]? = some (.cells #[a, b] t (0, 0))) (u : Value) : (w.setCell ⟨g, 0, none⟩ u).heap[g]? = some (.cells #[u, b] t (0, 0)) := by
  have hlt : g < w.heap.size := (Array.getElem?_eq_some_iff.1 h).1
  have h' : w.heap[g] = .cells #[a, b] t (0, 0) := by simpa [Array.getElem?_eq_getElem hlt] using h
  show (w.heap.modify g _)[g]? = _
  rw [Array.getElem?_eq_getElem (by simpa using hlt), Array.getElem_modify_self, h']
  rfl
theorem two_cells {w : World} {g : Nat} {a b : Value} {t : TypeId} (h : w.heap[g]? = some (.cells #[a, b] t (0, 0))) : w.cell? ⟨g, 0, none⟩ = some a ∧ w.cell? ⟨g, 1, none⟩ = some b ∧ w.frozen? ⟨g, 0, none⟩ = false ∧ w.frozen? ⟨g, 1, none⟩ = false := by
  refine ⟨?_, ?_, ?_, ?_⟩ <;> simp [World.cell?, World.frozen?, h]

theorem own_empty1 (w : World) (o1 : Obj) (e size : Nat) : ((w.alloc o1).alloc (.cells #[] e)).ownsRow (w.heap.size + 1) e size (.slice (some ⟨w.heap.size + 1, 0, none⟩) 0 0) 0 [] := by
  have h := own_empty (w.alloc o1) e size
  simpa only [World.size_alloc] using h
theorem Reads.four (w : World) (a b c d : Value) (t : TypeId) : Reads (w.alloc (.cells #[a, b, c, d] t)) (w.heap.size + 1) 4 (some ⟨w.heap.size, 0, none⟩) 1 [a, b, c, d] := by
  refine ⟨rfl, fun _ => ⟨_, rfl, by simp, fun j x hx => ?_⟩⟩
  have hadd : (⟨w.heap.size, 0, none⟩ : Addr).add j = ⟨w.heap.size, j, none⟩ := by unfold Addr.add; split <;> simp_all
  rw [hadd, World.cell?_alloc_at _ _ _ _ rfl]
  simpa using hx

/-- where the copy stands: k nodes are copied; the box g holds the copy so far -/
structure CopyAt (E ek eb : TypeId) (w4 : World) (B g : Nat) (b : Bld) (S : Value) (k : Nat) (Ak : Option Addr) (ck : Nat) (L : List (Nod × Hd)) (wr : World) : Prop where
  fst : L.map (·.1) = b.nodes.take k
  own : OwnN nodN wr (g + 1) wr.heap.size E ek Ak k ck L
  box : wr.heap[g]? = some (.cells #[.slice Ak k ck, S] eb (0, 0))
  bel : Below g w4 wr

set_option maxHeartbeats 1000000 in
theorem copyBuilder_impl {A A' : Option Addr} {n c n' c' : Nat} {b : Bld} (w : World) (hx : ReadsB w w.heap.size A n A' n' b) (hn : n ≤ 1073741824) (hn' : n' ≤ 1073741824) (hka : ∀ a ∈ b.nodes, a.attrs.length ≤ 1073741824) :
    Calls Try.prog 39 #[.agg #[.slice A n c, .slice A' n' c']] w (GotB w 33 104 3 n n' b) := by
  have hb3 : Below w.heap.size w (((w.alloc (.cells #[.slice A n c, .slice A' n' c'] 27)).alloc (.cells #[.slice none 0 0, .slice none 0 0] 27)).alloc (.cells #[] 3)) := (((Below.refl _ w).alloc (Nat.le_refl _) _).alloc (by simp) _).alloc (by simp; omega) _
  have hx3 := hx.2.below hb3
  have ho := own_empty2 w (.cells #[.slice A n c, .slice A' n' c'] 27) (.cells #[.slice none 0 0, .slice none 0 0] 27) 3 1
  go_enter Try.func39, Try.ntmps39
  go_wp2_with (at_builtin; refine wpList_app row_ops rfl (.tmp 6) (.tmp 8) rfl (w.heap.size + 1 + 1) _ 0 0 [] rfl ho w.heap.size A' n' c' (b.opens.map (Value.int .i64)) rfl hx3 (ints_one _ _) n' (b.opens.map (Value.int .i64)) (by omega) rfl ⟨by omega, by omega⟩ (by simp) ?_; intro A4 c4 w4 ho4 hb4; have hs4 := hb4.size; simp only [World.size_alloc] at hs4; have K0 : w4.cell? ⟨w.heap.size, 0, none⟩ = some (.slice A n c) := ((bcell hb4).1 _ _ (by omega)).trans (by simp [go_sem]); have K1 : (w4.alloc (.cells #[.slice none 0 0, .slice A4 n' c4] 27)).cell? ⟨w.heap.size, 0, none⟩ = some (.slice A n c) := by simp [World.cell?_alloc_some, K0])
  go_loopw [14] (fun i wr => ∃ (k : Nat) (Ak : Option Addr) (ck : Nat) (L : List (Nod × Hd)), k ≤ n ∧ i = .int .i64 k ∧ CopyAt 33 104 27 w4 (w.heap.size + 1 + 1) w4.heap.size b (.slice A4 n' c4) k Ak ck L wr)
    (fun i _ => n - (intOf i).toNat)
  case atStart =>
    refine ⟨0, none, 0, [], Nat.zero_le _, rfl, by simp, ?_, by { show (w4.heap.push _)[w4.heap.size]? = _; exact Array.getElem?_push_size }, (Below.refl _ _).alloc (Nat.le_refl _) _⟩
    exact ⟨⟨⟨by simp [Nest.flat], .inl ⟨rfl, rfl⟩⟩, fun k hk => by cases hk⟩, by simp, by simp, by simp⟩
  case round =>
    obtain ⟨k, Ak, ck, L, hk, rfl, h⟩ := hrel
    have hb4' : Below w.heap.size w w4 := hb3.trans (hb4.mono (by omega))
    have hbr : Below w.heap.size w wr := hb4'.trans (h.bel.mono hb4'.size)
    have hg3 : w4.heap.size < wr.heap.size := (Array.getElem?_eq_some_iff.1 h.box).1
    have ho4r : True := trivial
    by_cases hlt : k < n
    · obtain ⟨b0, off0, rfl, hb0, hx4⟩ := (hx.1.below hbr).nod hlt
      have hl1 : k < b.nodes.length := by rw [hx.1.len]; exact hlt
      obtain ⟨Ax, cx, hrk, e0, e1, e2, e3⟩ := hx4 hl1
      have hfst : Hid (b.nodes.take (k + 1) = b.nodes.take k ++ [b.nodes[k]]) := List.take_succ_eq_append_getElem hl1
      have hka' := hka b.nodes[k] (List.getElem_mem _)
      generalize b.nodes[k] = nd at *
      obtain ⟨name, text, parent, attrs⟩ := nd
      simp only at hrk e0 e1 e2 e3
      clear hx4
      obtain ⟨x0, x1, xf0, xf1⟩ := two_cells h.box
      have hW5 : Below wr.heap.size wr ((wr.alloc (.cells #[.string name, .string text, .int .i64 parent, .slice Ax attrs.length cx] 33)).alloc (.cells #[] 104)) := ((Below.refl _ wr).alloc (Nat.le_refl _) _).alloc (by simp) _
      have hoe := own_empty1 wr (.cells #[.string name, .string text, .int .i64 parent, .slice Ax attrs.length cx] 33) 104 2
      have hrk5 := hrk.below (hW5.mono hbr.size)
      have hla : attrs.length ≤ 1073741824 := hka'
      go_wp2_with (first
        | (at_builtin
           refine wpList_app row_Attr rfl (.tmp 18) (.tmp 20) rfl (wr.heap.size + 1) _ 0 0 [] rfl hoe w.heap.size Ax attrs.length cx (s2V attrs) rfl hrk5 (s2_one _) attrs.length (s2V attrs) (by omega) rfl ⟨by omega, by omega⟩ (by simp) ?_
           intro A6 c6 w6 ho6 hb6
           have hs6 := hb6.size
           simp only [World.size_alloc] at hs6
           have hb6' : Below wr.heap.size wr w6 := hW5.trans (hb6.mono (by omega))
           have t0 : w6.cell? ⟨wr.heap.size, 0, none⟩ = some (.string name) := ((bcell hb6).1 _ _ (by omega)).trans (by simp [go_sem])
           have t1 : w6.cell? ⟨wr.heap.size, 1, none⟩ = some (.string text) := ((bcell hb6).1 _ _ (by omega)).trans (by simp [go_sem])
           have t2 : w6.cell? ⟨wr.heap.size, 2, none⟩ = some (.int .i64 parent) := ((bcell hb6).1 _ _ (by omega)).trans (by simp [go_sem])
           have t3 : w6.cell? ⟨wr.heap.size, 3, none⟩ = some (.slice Ax attrs.length cx) := ((bcell hb6).1 _ _ (by omega)).trans (by simp [go_sem])
           have tf3 : w6.frozen? ⟨wr.heap.size, 3, none⟩ = false := ((bcell hb6).2 _ _ (by omega)).trans (by rw [frozen?_alloc_cells, frozen?_alloc_cells]; simp [World.frozen?])
           have y0 : w6.cell? ⟨w4.heap.size, 0, none⟩ = some (.slice Ak k ck) := ((bcell hb6').1 _ _ (by omega)).trans x0)
        | (at_builtin
           have hr4 := Reads.four (w6.setCell ⟨wr.heap.size, 3, none⟩ (.slice A6 attrs.length c6)) (.string name) (.string text) (.int .i64 parent) (.slice A6 attrs.length c6) 33
           rw [show (w6.setCell ⟨wr.heap.size, 3, none⟩ (.slice A6 attrs.length c6)).heap.size = w6.heap.size by simp [World.setCell]] at hr4
           have hbW := (hb6'.setCell (p := ⟨wr.heap.size, 3, none⟩) (by simp) (.slice A6 attrs.length c6)).alloc (by simp; omega) (.cells #[.string name, .string text, .int .i64 parent, .slice A6 attrs.length c6] 33)
           refine wpList_push (N := nodN) (bytes := 64) row_Node rfl (.tmp 24) (.tmp 26) rfl (lo := w4.heap.size + 1) (m := wr.heap.size) (ek := 104) (L := L) (A := Ak) (n := k) (c := ck) ?_ (by simp; omega) (by omega) (⟨name, text, parent, attrs⟩, (A6, c6)) ?_ rfl (some ⟨w6.heap.size, 0, none⟩) 1 _ rfl hr4 (by omega) (by omega) ?_
           · exact h.own.below hbW
           · exact (((Own.of_row ho6).set (p := ⟨wr.heap.size, 3, none⟩) (by simp) _).below ((Below.refl _ _).alloc (Nat.le_refl _) _)).wide (by omega) (by simp)
           intro A8 c8 w8 ho8 hk8
           have box8 : w8.heap[w4.heap.size]? = some (.cells #[.slice Ak k ck, .slice A4 n' c4] 27) := (hk8.block _ (Nat.lt_of_lt_of_le hg3 hbW.size) (fun hS => by have := h.own.row.geb _ hS; omega)).trans ((hbW.block _ hg3).trans h.box)
           obtain ⟨y8, _, yf8, _⟩ := two_cells box8))
      go_roundw
      case rel =>
        refine ⟨k + 1, A8, c8, _, by omega, by go_num, ⟨?_, (ho8.set (p := ⟨w4.heap.size, 0, none⟩) (by simp) _).wide (Nat.le_refl _) (by simp [World.setCell]), two_set0 box8 _, ?_⟩⟩
        · rw [List.map_append, h.fst, hfst.out]; rfl
        · exact ((h.bel.trans (hbW.mono (by omega))).trans (hk8.below (B := w4.heap.size) (Nat.le_trans (Nat.le_of_lt hg3) hbW.size) (fun j hS => by have := h.own.row.geb _ hS; omega))).setCell (p := ⟨w4.heap.size, 0, none⟩) (by simp) _
      case measure => simp [intOf]; omega
    · obtain rfl : k = n := by omega
      obtain ⟨x0, x1, xf0, xf1⟩ := two_cells h.box
      have r0 : w4.cell? ⟨w.heap.size + 1, 0, none⟩ = some (.slice none 0 0) := ((bcell hb4).1 _ _ (by omega)).trans (by simp [go_sem])
      have r1 : w4.cell? ⟨w.heap.size + 1, 1, none⟩ = some (.slice none 0 0) := ((bcell hb4).1 _ _ (by omega)).trans (by simp [go_sem])
      have q0 : wr.cell? ⟨w.heap.size + 1, 0, none⟩ = some (.slice none 0 0) := ((bcell h.bel).1 _ _ (by omega)).trans r0
      have q1 : wr.cell? ⟨w.heap.size + 1, 1, none⟩ = some (.slice none 0 0) := ((bcell h.bel).1 _ _ (by omega)).trans r1
      have qf0 : wr.frozen? ⟨w.heap.size + 1, 0, none⟩ = false := ((bcell h.bel).2 _ _ (by omega)).trans (((bcell hb4).2 _ _ (by omega)).trans (by rw [frozen?_alloc_cells, frozen?_alloc_cells, frozen?_alloc_cells]; simp [World.frozen?]))
      have qf1 : wr.frozen? ⟨w.heap.size + 1, 1, none⟩ = false := ((bcell h.bel).2 _ _ (by omega)).trans (((bcell hb4).2 _ _ (by omega)).trans (by rw [frozen?_alloc_cells, frozen?_alloc_cells, frozen?_alloc_cells]; simp [World.frozen?]))
      go_wp2
      have hopn : Own wr (w.heap.size + 1 + 1) w4.heap.size 3 1 (.slice A4 n' c4) n' (b.opens.map (Value.int .i64)) := (Own.of_row ho4).below h.bel
      have ob : OwnB wr (w.heap.size + 1 + 1) wr.heap.size 33 104 3 Ak k ck A4 n' c4 b L :=
        ⟨by rw [h.fst, List.take_of_length_le (by rw [hx.1.len]; exact Nat.le_refl _)], h.own.wide (by omega) (Nat.le_refl _), hopn.wide (Nat.le_refl _) (by omega), fun j hj hf => by
          have h1 := hopn.2 j hj
          have h2 := h.own.foot_span j hf
          have h3 : w4.heap.size + 1 ≤ j := h2.1
          omega⟩
      have ob2 := (ob.set (p := ⟨w.heap.size + 1, 0, none⟩) (by simp) (.slice Ak k ck)).set (p := ⟨w.heap.size + 1, 1, none⟩) (by simp) (.slice A4 n' c4)
      have bl2 := (hbr.setCell (p := ⟨w.heap.size + 1, 0, none⟩) (by simp) (.slice Ak k ck)).setCell (p := ⟨w.heap.size + 1, 1, none⟩) (by simp) (.slice A4 n' c4)
      refine bodyPost_ret (v := .agg #[.slice Ak k ck, .slice A4 n' c4]) (by simp [results, Try.results39, go_sem, q0, q1]) rfl ⟨Ak, ck, A4, c4, L, rfl, ob2.wide (by omega) (by simp [World.setCell]), bl2⟩
end Go.Proofs.Ytleopmeaaabejaa

namespace Go.Proofs.Ytleopmeaaabejaa
set_option linter.unusedVariables false
open Go.RowKit

theorem cmpB_tri : ∀ x y : List UInt8, (Op.bytesLess x y = true ∧ x ≠ y ∧ Lib.compareBytes x y = -1) ∨ (Op.bytesLess x y = false ∧ x = y ∧ Lib.compareBytes x y = 0) ∨ (Op.bytesLess x y = false ∧ x ≠ y ∧ Lib.compareBytes x y = 1)
  | [], [] => .inr (.inl ⟨rfl, rfl, rfl⟩)
  | [], b :: y => .inl ⟨rfl, by simp, rfl⟩
  | a :: x, [] => .inr (.inr ⟨rfl, by simp, rfl⟩)
  | a :: x, b :: y => by
    rcases Nat.lt_trichotomy a.toNat b.toNat with h | h | h
    · have hl : a < b := UInt8.lt_iff_toNat_lt.2 h
      have hne : a ≠ b := by rintro rfl; omega
      exact .inl ⟨by simp [Op.bytesLess, hl], by simp [hne], by simp [Lib.compareBytes, hl]⟩
    · obtain rfl : a = b := UInt8.toNat_inj.1 h
      have hl : ¬ a < a := by rw [UInt8.lt_iff_toNat_lt]; omega
      rcases cmpB_tri x y with ⟨h1, h2, h3⟩ | ⟨h1, h2, h3⟩ | ⟨h1, h2, h3⟩
      · exact .inl ⟨by simp [Op.bytesLess, h1], by simp [h2], by simp [Lib.compareBytes, hl, h3]⟩
      · exact .inr (.inl ⟨by simp [Op.bytesLess, hl, h1], by rw [h2], by simp [Lib.compareBytes, hl, h3]⟩)
      · exact .inr (.inr ⟨by simp [Op.bytesLess, hl, h1], by simp [h2], by simp [Lib.compareBytes, hl, h3]⟩)
    · have hl : b < a := UInt8.lt_iff_toNat_lt.2 h
      have hl2 : ¬ a < b := by rw [UInt8.lt_iff_toNat_lt]; omega
      have hne : a ≠ b := by rintro rfl; omega
      exact .inr (.inr ⟨by simp [Op.bytesLess, hl2, hne], by simp [hne], by simp [Lib.compareBytes, hl, hl2]⟩)
def cmpS (a b : ByteArray) : Int := Lib.compareBytes a.data.toList b.data.toList
def cmpA (a b : S2) : Int := if cmpS a.1 b.1 = 0 then cmpS a.2 b.2 else cmpS a.1 b.1
def s2eq (a b : S2) : Bool := a.1.toList == b.1.toList && a.2.toList == b.2.toList
theorem bytes_inj {a b : ByteArray} (h : a.data.toList = b.data.toList) : a = b := by
  obtain ⟨⟨x⟩⟩ := a
  obtain ⟨⟨y⟩⟩ := b
  simp at h
  rw [h]
theorem toList_eq_iff {a b : ByteArray} : (a.toList == b.toList) = decide (a = b) := by
  rw [Bool.eq_iff_iff, beq_iff_eq, decide_eq_true_eq, Lib.toList_data, Lib.toList_data]
  exact ⟨bytes_inj, fun h => by rw [h]⟩
theorem s2eq_iff (a b : S2) : s2eq a b = decide (a = b) := by
  unfold s2eq
  rw [toList_eq_iff, toList_eq_iff, Bool.eq_iff_iff]
  simp only [Bool.and_eq_true, decide_eq_true_eq]
  exact ⟨fun h => Prod.ext h.1 h.2, fun h => by rw [h]; exact ⟨rfl, rfl⟩⟩
theorem s2eq_comm (a b : S2) : s2eq a b = s2eq b a := by
  rw [s2eq_iff, s2eq_iff]
  by_cases h : a = b
  · rw [h]
  · rw [decide_eq_false h, decide_eq_false (fun e => h e.symm)]
/-- the three ways that two strings stand, in the words of the walk -/
theorem cmpS_tri (a b : ByteArray) : (Op.bytesLess a.toList b.toList = true ∧ (a.toList == b.toList) = false ∧ cmpS a b = -1) ∨ (Op.bytesLess a.toList b.toList = false ∧ a = b ∧ cmpS a b = 0) ∨ (Op.bytesLess a.toList b.toList = false ∧ (a.toList == b.toList) = false ∧ cmpS a b = 1) := by
  rw [cmpS, toList_eq_iff, Lib.toList_data, Lib.toList_data]
  rcases cmpB_tri a.data.toList b.data.toList with ⟨h1, h2, h3⟩ | ⟨h1, h2, h3⟩ | ⟨h1, h2, h3⟩
  · exact .inl ⟨h1, decide_eq_false (fun e => h2 (by rw [e])), h3⟩
  · exact .inr (.inl ⟨h1, bytes_inj h2, h3⟩)
  · exact .inr (.inr ⟨h1, decide_eq_false (fun e => h2 (by rw [e])), h3⟩)
theorem cmpS_self (a : ByteArray) : cmpS a a = 0 := by
  rcases cmpS_tri a a with ⟨_, h, _⟩ | ⟨_, _, h⟩ | ⟨_, h, _⟩
  · simp at h
  · exact h
  · simp at h
theorem cmpA_vals (a b : S2) : cmpA a b = -1 ∨ (cmpA a b = 0 ∧ a = b) ∨ cmpA a b = 1 := by
  unfold cmpA
  rcases cmpS_tri a.1 b.1 with ⟨_, _, h⟩ | ⟨_, e, h⟩ | ⟨_, _, h⟩
  · rw [if_neg (by omega)]; omega
  · rw [if_pos h]
    rcases cmpS_tri a.2 b.2 with ⟨_, _, h2⟩ | ⟨_, e2, h2⟩ | ⟨_, _, h2⟩
    · omega
    · exact .inr (.inl ⟨h2, Prod.ext e e2⟩)
    · omega
  · rw [if_neg (by omega)]; omega
/-- the ways that two pairs stand, in the words of the walk -/
theorem cmpA_cases (a b : S2) : (s2eq a b = true ∧ cmpA a b = 0) ∨
    (s2eq a b = false ∧ Op.bytesLess a.1.toList b.1.toList = true ∧ cmpA a b = -1) ∨
    (s2eq a b = false ∧ Op.bytesLess a.1.toList b.1.toList = false ∧ (a.1.toList == b.1.toList) = true ∧ Op.bytesLess a.2.toList b.2.toList = true ∧ cmpA a b = -1) ∨
    (s2eq a b = false ∧ Op.bytesLess a.1.toList b.1.toList = false ∧ (a.1.toList == b.1.toList) = true ∧ Op.bytesLess a.2.toList b.2.toList = false ∧ cmpA a b = 1) ∨
    (s2eq a b = false ∧ Op.bytesLess a.1.toList b.1.toList = false ∧ (a.1.toList == b.1.toList) = false ∧ cmpA a b = 1) := by
  unfold s2eq cmpA
  rcases cmpS_tri a.1 b.1 with ⟨h1, h2, h⟩ | ⟨h1, e, h⟩ | ⟨h1, h2, h⟩
  · rw [if_neg (by omega)]; exact .inr (.inl ⟨by simp [h2], h1, h⟩)
  · have he : (a.1.toList == b.1.toList) = true := by rw [e]; simp
    rw [if_pos h]
    rcases cmpS_tri a.2 b.2 with ⟨k1, k2, k⟩ | ⟨k1, k2, k⟩ | ⟨k1, k2, k⟩
    · exact .inr (.inr (.inl ⟨by simp [k2], h1, he, k1, k⟩))
    · exact .inl ⟨by simp [e, k2], k⟩
    · exact .inr (.inr (.inr (.inl ⟨by simp [k2], h1, he, k1, k⟩)))
  · rw [if_neg (by omega)]; exact .inr (.inr (.inr (.inr ⟨by simp [h2], h1, h2, h⟩)))
theorem cmpA_self (a : S2) : cmpA a a = 0 := by simp [cmpA, cmpS_self]
theorem cmpA_zero {a b : S2} (h : cmpA a b = 0) : a = b := by
  rcases cmpA_vals a b with h1 | h1 | h1
  · omega
  · exact h1.2
  · omega

def hasA (l : List S2) (a : S2) : Bool := l.any fun x => s2eq x a
theorem hasA_iff {l : List S2} {a : S2} : hasA l a = true ↔ a ∈ l := by
  unfold hasA
  rw [List.any_eq_true]
  constructor
  · rintro ⟨x, hx, he⟩
    rw [s2eq_iff] at he
    rw [← of_decide_eq_true he]; exact hx
  · intro h
    exact ⟨a, h, by rw [s2eq_iff]; exact decide_eq_true rfl⟩
def hasTo (l : List S2) (a : S2) (k : Nat) : Prop := ∀ j (h : j < l.length), j < k → s2eq l[j] a = false
theorem hasTo_zero (l : List S2) (a : S2) : hasTo l a 0 := fun _ _ h => absurd h (by omega)
theorem hasTo_succ {l : List S2} {a : S2} {k : Nat} (h : hasTo l a k) (hk : k < l.length) (he : s2eq l[k] a = false) : hasTo l a (k + 1) := by
  intro j hj hlt
  rcases Nat.lt_or_eq_of_le (Nat.le_of_lt_succ hlt) with h1 | h1
  · exact h j hj h1
  · subst h1; exact he
theorem hasA_at {l : List S2} {a : S2} {k : Nat} (hk : k < l.length) (he : s2eq l[k] a = true) : hasA l a = true := by
  unfold hasA
  rw [List.any_eq_true]
  exact ⟨_, List.getElem_mem hk, he⟩
theorem hasA_end {l : List S2} {a : S2} {k : Nat} (h : hasTo l a k) (hk : l.length ≤ k) : hasA l a = false := by
  unfold hasA
  rw [List.any_eq_false]
  intro x hx
  obtain ⟨j, hj, rfl⟩ := List.getElem_of_mem hx
  rw [h j hj (by omega)]; simp

/-! ### The order -/
theorem cmpB_anti : ∀ x y : List UInt8, Lib.compareBytes y x = -Lib.compareBytes x y
  | [], [] => rfl
  | [], b :: y => rfl
  | a :: x, [] => rfl
  | a :: x, b :: y => by
    have ih := cmpB_anti x y
    simp only [Lib.compareBytes]
    rcases Nat.lt_trichotomy a.toNat b.toNat with h | h | h
    · have hl : a < b := UInt8.lt_iff_toNat_lt.2 h
      have hl2 : ¬ b < a := by rw [UInt8.lt_iff_toNat_lt]; omega
      simp [hl, hl2]
    · obtain rfl : a = b := UInt8.toNat_inj.1 h
      have hl : ¬ a < a := by rw [UInt8.lt_iff_toNat_lt]; omega
      simp [hl, ih]
    · have hl : b < a := UInt8.lt_iff_toNat_lt.2 h
      have hl2 : ¬ a < b := by rw [UInt8.lt_iff_toNat_lt]; omega
      simp [hl, hl2]
theorem cmpS_anti (a b : ByteArray) : cmpS b a = -cmpS a b := cmpB_anti _ _
theorem cmpA_anti (a b : S2) : cmpA b a = -cmpA a b := by
  unfold cmpA
  have h1 := cmpS_anti a.1 b.1
  have h2 := cmpS_anti a.2 b.2
  by_cases h : cmpS a.1 b.1 = 0
  · rw [if_pos h, if_pos (by omega)]; exact h2
  · rw [if_neg h, if_neg (by omega)]; exact h1
theorem cmpB_trans : ∀ x y z : List UInt8, Lib.compareBytes x y < 0 → Lib.compareBytes y z < 0 → Lib.compareBytes x z < 0
  | x, y, [], h1, h2 => by cases y <;> simp [Lib.compareBytes] at h2
  | x, [], c :: z, h1, h2 => by cases x <;> simp [Lib.compareBytes] at h1
  | [], b :: y, c :: z, h1, h2 => by simp [Lib.compareBytes]
  | a :: x, b :: y, c :: z, h1, h2 => by
    simp only [Lib.compareBytes, UInt8.lt_iff_toNat_lt] at h1 h2 ⊢
    have ih := cmpB_trans x y z
    split at h1
    · split at h2
      · rw [if_pos (by omega)]; omega
      · split at h2
        · omega
        · rw [if_pos (by omega)]; omega
    · split at h1
      · omega
      · split at h2
        · rw [if_pos (by omega)]; omega
        · split at h2
          · omega
          · rw [if_neg (by omega), if_neg (by omega)]; exact ih h1 h2
theorem cmpA_trans {a b c : S2} (h1 : cmpA a b < 0) (h2 : cmpA b c < 0) : cmpA a c < 0 := by
  have key : ∀ x y : S2, cmpA x y < 0 ↔ (cmpS x.1 y.1 < 0 ∨ (x.1 = y.1 ∧ cmpS x.2 y.2 < 0)) := by
    intro x y
    unfold cmpA
    rcases cmpS_tri x.1 y.1 with ⟨_, hn, h⟩ | ⟨_, e, h⟩ | ⟨_, hn, h⟩
    · rw [if_neg (by omega)]; exact ⟨fun _ => .inl (by omega), fun _ => by omega⟩
    · rw [if_pos h]; exact ⟨fun hh => .inr ⟨e, hh⟩, fun hh => by rcases hh with hh | hh; omega; exact hh.2⟩
    · rw [if_neg (by omega)]
      refine ⟨fun hh => by omega, fun hh => ?_⟩
      rcases hh with hh | ⟨e, _⟩
      · omega
      · rw [e] at hn; simp at hn
  rw [key] at h1 h2 ⊢
  have tr : ∀ x y z : ByteArray, cmpS x y < 0 → cmpS y z < 0 → cmpS x z < 0 := fun x y z => cmpB_trans _ _ _
  rcases h1 with h1 | ⟨e1, h1⟩
  · rcases h2 with h2 | ⟨e2, h2⟩
    · exact .inl (tr _ _ _ h1 h2)
    · exact .inl (by rw [← e2]; exact h1)
  · rcases h2 with h2 | ⟨e2, h2⟩
    · exact .inl (by rw [e1]; exact h2)
    · exact .inr ⟨e1.trans e2, tr _ _ _ h1 h2⟩
end Go.Proofs.Ytleopmeaaabejaa

namespace Go.Proofs.Ytleopmeaaabejaa
set_option linter.unusedVariables false
set_option linter.unusedSimpArgs false
set_option maxRecDepth 100000
open Go.ChangeShapes Go.WideShapes Go.ChangeAt Go.RowKit Go.Deep

def endToks (s : ByteArray) : List Tok := if s.data.toList.head? = none ∨ s.data.toList.head? = some 60 then [] else [⟨3, ⟨#[]⟩, [], s⟩]
theorem bytes_nil {s : ByteArray} (h : s.size = 0) : s = ⟨#[]⟩ := by
  obtain ⟨⟨l⟩⟩ := s
  have : l.length = 0 := h
  rw [List.eq_nil_of_length_eq_zero this]
theorem head_of {s : ByteArray} (h : 0 < s.size) : s.data.toList.head? = some s[0] := by
  obtain ⟨⟨l⟩⟩ := s
  cases l with
  | nil => exact absurd h (by simp [ByteArray.size])
  | cons a l => rfl
theorem own_nil (w : World) (lo hi : Nat) (e : TypeId) (size : Nat) : Own w lo hi e size (.slice none 0 0) 0 [] :=
  ⟨⟨by simp, .inl ⟨rfl, rfl⟩⟩, fun k hk => by cases hk⟩
theorem gotN_none {α : Type} {N : Nest α} {w w' : World} {e ek : TypeId} {g : Nat} (hg : w'.heap.size = g) (hb : Below w.heap.size w w') : GotN N w e ek 0 [] (.returned (.slice (some ⟨g, 0, none⟩) 0 0)) (w'.alloc (.cells #[] e)) := by
  subst hg
  have hlo := hb.size
  refine ⟨_, _, [], rfl, rfl, ⟨⟨World.ownsRow_lit w' #[] 0 hlo (by simp [maxLen]) (by simp), fun k hk => ?_⟩, fun x hx => (by cases hx), List.Pairwise.nil, fun x hx => (by cases hx)⟩, hb.alloc hlo _⟩
  have e : some w'.heap.size = some k := hk
  injection e with e
  simp
  omega
theorem gotN_text {w w' : World} {e ek : TypeId} {g : Nat} (s : ByteArray) (hg : w'.heap.size = g) (hb : Below w.heap.size w w') :
    GotN tokN w e ek 1 [⟨3, ⟨#[]⟩, [], s⟩] (.returned (.slice (some ⟨g, 0, none⟩) 1 1)) (w'.alloc (.cells #[.int .i64 3, .string ⟨#[]⟩, .slice none 0 0, .string s] e)) := by
  subst hg
  have hlo := hb.size
  refine ⟨_, _, [(⟨3, ⟨#[]⟩, [], s⟩, (none, 0))], rfl, rfl, ⟨⟨World.ownsRow_lit w' #[.int .i64 3, .string ⟨#[]⟩, .slice none 0 0, .string s] 1 hlo (by simp [maxLen]) rfl, fun k hk => ?_⟩, fun x hx => ?_, by simp, fun x hx => ?_⟩, hb.alloc hlo _⟩
  · have e : some w'.heap.size = some k := hk
    injection e with e
    simp
    omega
  · simp at hx; subst hx; exact own_nil _ _ _ _ _
  · simp at hx; subst hx; intro k _ h; cases h
set_option maxHeartbeats 400000 in
theorem endText_spec (s : ByteArray) (w : World) (hs : s.size ≤ 1073741824) : Calls Try.prog 65 #[.agg #[.string s]] w (GotN tokN w 40 104 (endToks s).length (endToks s)) := by
  have hb := (Below.refl w.heap.size w).alloc (Nat.le_refl _) (.cells #[.string s] 96)
  by_cases h0 : s.size = 0
  · obtain rfl := bytes_nil h0
    have hE : endToks ⟨#[]⟩ = [] := rfl
    rw [hE]
    clear hE h0
    go_enter Try.func65, Try.ntmps65
    go_wp2
    go_ret
    exact gotN_none (w := w) (by simp) hb
  · have hp : 0 < s.size := by omega
    have hh := head_of hp
    have e1 : s.toList.isEmpty = false := by
      obtain ⟨⟨l⟩⟩ := s
      cases l with
      | nil => exact absurd rfl h0
      | cons a l => rw [Lib.toList_data]; rfl
    by_cases h6 : s[0] = 60
    · have hE : endToks s = [] := by rw [endToks, hh, h6]; rfl
      rw [hE]
      have h6' : (s[0].toNat : Int) = 60 := by rw [h6]; rfl
      clear hE hh
      go_enter Try.func65, Try.ntmps65
      go_wp2
      go_ret
      exact gotN_none (w := w) (by simp) hb
    · have hE : endToks s = [⟨3, ⟨#[]⟩, [], s⟩] := by rw [endToks, hh, if_neg (by simp [h6])]
      rw [hE]
      have h6' : ((s[0].toNat : Int) == 60) = false := by
        simp only [beq_eq_false_iff_ne, ne_eq]
        intro h
        exact h6 (UInt8.toNat_inj.1 (by show s[0].toNat = 60; omega))
      clear hE hh
      go_enter Try.func65, Try.ntmps65
      go_wp2
      go_ret
      exact gotN_text (w := w) s (by simp) hb
end Go.Proofs.Ytleopmeaaabejaa
