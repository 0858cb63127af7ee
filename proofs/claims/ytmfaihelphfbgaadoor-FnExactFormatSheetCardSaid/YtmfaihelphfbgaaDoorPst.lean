/-
  Plain words: what a sheet's text reads as; the state of a loop that reads it. No program is named. No condition.
-/
import Derived.Test.YtmfaihelphfbgaaDoorSpp
import Derived.Test.YtmfaihelphfbgaaDoorPi
import Derived.Test.YtmfaihelphfbgaaDoorSh1
import Derived.Test.YtmfaihelphfbgaaDoorBox
namespace Go.Proofs.YtmfaihelphfbgaaDoor
set_option linter.unusedVariables false
set_option linter.unusedSimpArgs false
open Go.RowKit

/-- one rule: a name, ':', a number of 1 .. 999 -/
def ruleW (w : ByteArray) : Option Rul :=
  match words 58 w with
  | [p, q] => if okI q && (nameB p && inR (valI q) 1 999) then some (p, valI q) else none
  | _ => none
def stepS (acc : List Rul) (w : ByteArray) : List Rul :=
  match ruleW w with
  | some a => if acc.length < 8 then acc ++ [a] else acc
  | none => acc
def sheetT (s : ByteArray) : List Rul := (words 59 s).foldl stepS []
theorem ruleW_len {w : ByteArray} (h : (words 58 w).length ≠ 2) : ruleW w = none := by
  unfold ruleW
  split
  · rename_i e; rw [e] at h; exact absurd rfl h
  · rfl
theorem ruleW_two {w p q : ByteArray} (h : words 58 w = [p, q]) : ruleW w = if okI q && (nameB p && inR (valI q) 1 999) then some (p, valI q) else none := by
  unfold ruleW
  rw [h]
theorem okI_no58 {v : ByteArray} (h : okI v = true) : ∀ i (hi : i < v.size), v[i] ≠ 58 := by
  intro i hi he
  have := dec_fail hi (.inr (by rw [he]; decide))
  rw [h] at this
  cases this
theorem ruleW_miss {w : ByteArray} (h : ixB w 58 = -1) : ruleW w = none := ruleW_len (by rw [words_miss h]; simp)
theorem ruleW_hit {w : ByteArray} {i : Nat} (h : ixB w 58 = i) : ruleW w = if okI (w.extract (i + 1) w.size) && (nameB (w.extract 0 i) && inR (valI (w.extract (i + 1) w.size)) 1 999) then some (w.extract 0 i, valI (w.extract (i + 1) w.size)) else none := by
  have hw := words_hit h
  by_cases hv : ixB (w.extract (i + 1) w.size) 58 = -1
  · rw [words_miss hv] at hw
    exact ruleW_two hw
  · have hn : okI (w.extract (i + 1) w.size) = false := by
      cases e : okI (w.extract (i + 1) w.size) with
      | false => rfl
      | true => exact absurd (ixB_none (okI_no58 e)) hv
    rw [hn, Bool.false_and, if_neg (by simp)]
    refine ruleW_len ?_
    rw [hw]
    rcases ixB_cases (w.extract (i + 1) w.size) 58 with ⟨h1, _⟩ | ⟨j, hj, h1, _⟩
    · exact absurd h1 hv
    · rw [words_hit h1]
      have := words_pos 58 ((w.extract (i + 1) w.size).extract (j + 1) (w.extract (i + 1) w.size).size)
      simp only [List.length_cons]
      omega
theorem stepS_none {acc : List Rul} {w : ByteArray} (h : ruleW w = none) : stepS acc w = acc := by unfold stepS; rw [h]
theorem stepS_some {acc : List Rul} {w : ByteArray} {a : Rul} (h : ruleW w = some a) (h8 : acc.length < 8) : stepS acc w = acc ++ [a] := by unfold stepS; rw [h]; simp [h8]
theorem stepS_full {acc : List Rul} {w : ByteArray} (h8 : 8 ≤ acc.length) : stepS acc w = acc := by
  unfold stepS
  split
  · rw [if_neg (by omega)]
  · rfl
theorem foldS_full {acc : List Rul} (h8 : 8 ≤ acc.length) : ∀ ws : List ByteArray, ws.foldl stepS acc = acc
  | [] => rfl
  | w :: ws => by rw [List.foldl_cons, stepS_full h8]; exact foldS_full h8 ws
theorem stepS_le {acc : List Rul} {w : ByteArray} (h : acc.length ≤ 8) : (stepS acc w).length ≤ 8 := by
  unfold stepS
  split
  · split
    · rw [List.length_append]; simp; omega
    · exact h
  · exact h
theorem foldS_le : ∀ (ws : List ByteArray) (acc : List Rul), acc.length ≤ 8 → (ws.foldl stepS acc).length ≤ 8
  | [], _, h => h
  | w :: ws, acc, h => by rw [List.foldl_cons]; exact foldS_le ws _ (stepS_le h)
theorem sheetT_le (s : ByteArray) : (sheetT s).length ≤ 8 := foldS_le _ _ (by simp)
/-- the state of the loop: k pieces passed, acc read; the box is block w + 1, the pieces lie below w1 -/
structure SheetAt (w w1 wr : World) (er eb : TypeId) (s : ByteArray) (ws : List ByteArray) (k : Nat) (acc : List Rul) (A : Option Addr) (c : Nat) : Prop where
  eq : sheetT s = (ws.drop k).foldl stepS acc
  small : acc.length ≤ 8
  box : BoxAt wr (w.heap.size + 1) [.slice A acc.length c] eb
  own : Own wr w1.heap.size wr.heap.size er 2 (.slice A acc.length c) acc.length (rulV acc)
  kp : Keeps (fun k => k = w.heap.size + 1 ∨ w1.heap.size ≤ k) w1 wr
  gt : w.heap.size + 2 ≤ w1.heap.size
theorem keeps_under {S : Nat → Prop} {a b : World} {B : Nat} (h : Below B a b) (hS : ∀ k, ¬ S k → k < B) : Keeps S a b := ⟨h.os, h.tape, h.output, h.size, fun k _ hn => h.block k (hS k hn)⟩
section
variable {w w1 wr W : World} {er eb : TypeId} {s : ByteArray} {ws : List ByteArray} {k : Nat} {acc : List Rul} {A : Option Addr} {c : Nat}
theorem SheetAt.next (h : SheetAt w w1 wr er eb s ws k acc A c) (hb : Below wr.heap.size wr W) : SheetAt w w1 W er eb s ws k acc A c :=
  ⟨h.eq, h.small, h.box.next hb, (h.own.below hb).wide (Nat.le_refl _) hb.size, h.kp.trans (Keeps.of_below hb), h.gt⟩
theorem SheetAt.skip (h : SheetAt w w1 wr er eb s ws k acc A c) (hk : k < ws.length) (hn : stepS acc ws[k] = acc) : SheetAt w w1 wr er eb s ws (k + 1) acc A c :=
  ⟨by rw [h.eq, List.drop_eq_getElem_cons hk, List.foldl_cons, hn], h.small, h.box, h.own, h.kp, h.gt⟩
theorem SheetAt.big (h : SheetAt w w1 wr er eb s ws k acc A c) : w1.heap.size ≤ wr.heap.size := h.kp.size
theorem SheetAt.push {w6 : World} {a : Rul} {A6 : Option Addr} {c6 : Nat} (h : SheetAt w w1 wr er eb s ws k acc A c) (hk : k < ws.length) (hn : ruleW ws[k] = some a) (h8 : acc.length < 8)
    (ho : w6.ownsRow w1.heap.size er 2 (.slice A6 (acc.length + 1) c6) (acc.length + 1) (rulV (acc ++ [a]))) (hb : Below w1.heap.size wr w6) :
    SheetAt w w1 (w6.setCell ⟨w.heap.size + 1, 0, none⟩ (.slice A6 (acc.length + 1) c6)) er eb s ws (k + 1) (acc ++ [a]) A6 c6 := by
  have hg := h.gt
  have hl : (acc ++ [a]).length = acc.length + 1 := by rw [List.length_append]; rfl
  refine ⟨?_, ?_, ?_, ?_, ?_, hg⟩
  · rw [h.eq, List.drop_eq_getElem_cons hk, List.foldl_cons, stepS_some hn h8]
  · rw [hl]; omega
  · rw [hl]
    exact (h.box.below hb (by omega)).put (j := 0) _
  · rw [hl]
    exact ((Own.of_row ho).set (p := ⟨w.heap.size + 1, 0, none⟩) (by show w.heap.size + 1 < _; omega) _).wide (Nat.le_refl _) (by simp [World.setCell])
  · exact (h.kp.trans (keeps_under hb fun k hk => by omega)).trans (keeps_set _ (p := ⟨w.heap.size + 1, 0, none⟩) _ (.inl rfl))
theorem SheetAt.cell (h : SheetAt w w1 wr er eb s ws k acc A c) {b o : Nat} {v : Value} (h1 : w.heap.size + 2 ≤ b) (h2 : b < w1.heap.size) (hc : w1.cell? ⟨b, o, none⟩ = some v) : wr.cell? ⟨b, o, none⟩ = some v := by
  rw [World.cell?_of_block (w := w1) (h.kp.block b h2 (by omega))]
  exact hc
theorem SheetAt.done (h : SheetAt w w1 wr er eb s ws k acc A c) (hk : ws.length ≤ k ∨ 8 ≤ acc.length) : sheetT s = acc := by
  rw [h.eq]
  rcases hk with hk | hk
  · rw [List.drop_eq_nil_of_le hk]; rfl
  · exact foldS_full hk _
theorem SheetAt.res (h : SheetAt w w1 wr er eb s ws k acc A c) {vs : List Value} (hr : BoxAt w1 w.heap.size vs eb) : BoxAt wr w.heap.size vs eb :=
  (h.kp.block w.heap.size hr.lt (by have := h.gt; omega)).trans hr
theorem SheetAt.bel (h : SheetAt w w1 wr er eb s ws k acc A c) (hb : Below w.heap.size w w1) : Below w.heap.size w wr :=
  hb.trans (h.kp.below (by have := h.gt; omega) fun k hk => by have := h.gt; omega)
theorem SheetAt.got (h : SheetAt w w1 wr er eb s ws k acc A c) (hk : ws.length ≤ k ∨ 8 ≤ acc.length) (hb : Below w.heap.size w w1) (v : Value) :
    GotSh w er (sheetT s) (.returned (.agg #[.slice A acc.length c])) (wr.setCell ⟨w.heap.size, 0, none⟩ v) := by
  have hg := h.gt
  rw [h.done hk]
  exact ⟨A, c, rfl, (h.own.set (p := ⟨w.heap.size, 0, none⟩) (by show w.heap.size < _; omega) v).wide (by omega) (by simp [World.setCell]), (h.bel hb).setCell (p := ⟨w.heap.size, 0, none⟩) (Nat.le_refl _) v⟩
end
theorem SheetAt.start {w w1 : World} {er eb : TypeId} {s : ByteArray} {ws : List ByteArray} (hw : sheetT s = ws.foldl stepS []) (hb : BoxAt w1 (w.heap.size + 1) [.slice none 0 0] eb) : SheetAt w w1 w1 er eb s ws 0 [] none 0 :=
  ⟨by simpa using hw, by simp, hb, own_zero _ _ _ _ _, Keeps.refl _ _, hb.lt⟩
end Go.Proofs.YtmfaihelphfbgaaDoor
