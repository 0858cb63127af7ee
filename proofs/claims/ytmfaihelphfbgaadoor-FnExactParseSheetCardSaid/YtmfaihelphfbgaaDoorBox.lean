/-
  Words for a block that is known whole; a token in a block; what a tag's reading hands back. No program is named. No condition.
-/
import Derived.Test.YtmfaihelphfbgaaDoorMem
import Derived.Test.YtmfaihelphfbgaaDoorStr
import Derived.Test.YtmfaihelphfbgaaDoorTgp
namespace Go.Proofs.YtmfaihelphfbgaaDoor
set_option linter.unusedVariables false
set_option linter.unusedSimpArgs false
open Go.ChangeShapes Go.WideShapes Go.ChangeAt Go.RowKit Go.Deep

abbrev BoxAt (w : World) (g : Nat) (vs : List Value) (t : TypeId) : Prop := w.heap[g]? = some (.cells vs.toArray t (0, 0))
theorem BoxAt.lt {w : World} {g : Nat} {vs : List Value} {t : TypeId} (h : BoxAt w g vs t) : g < w.heap.size := (Array.getElem?_eq_some_iff.1 h).1
theorem BoxAt.cell {w : World} {g : Nat} {vs : List Value} {t : TypeId} (h : BoxAt w g vs t) (j : Nat) (u : Value) (hu : vs[j]? = some u) : w.cell? ⟨g, j, none⟩ = some u := by
  simp [World.cell?, h, hu]
theorem BoxAt.open_ {w : World} {g : Nat} {vs : List Value} {t : TypeId} (h : BoxAt w g vs t) (j : Nat) : w.frozen? ⟨g, j, none⟩ = false := by
  simp [World.frozen?, h]
theorem BoxAt.below {w w' : World} {g B : Nat} {vs : List Value} {t : TypeId} (h : BoxAt w g vs t) (hb : Below B w w') (hg : g < B) : BoxAt w' g vs t := (hb.block g hg).trans h
theorem BoxAt.next {w w' : World} {g : Nat} {vs : List Value} {t : TypeId} (h : BoxAt w g vs t) (hb : Below w.heap.size w w') : BoxAt w' g vs t := h.below hb h.lt
theorem BoxAt.put {w : World} {g j : Nat} {vs : List Value} {t : TypeId} (h : BoxAt w g vs t) (u : Value) : BoxAt (w.setCell ⟨g, j, none⟩ u) g (vs.set j u) t := by
  obtain ⟨hlt, hk⟩ := Array.getElem?_eq_some_iff.1 h
  show (w.heap.modify g _)[g]? = _
  rw [Array.getElem?_eq_getElem (by rw [Array.size_modify]; exact hlt), Array.getElem_modify_self, hk]
  simp [List.setIfInBounds_toArray]
theorem BoxAt.other {w : World} {g : Nat} {p : Addr} {vs : List Value} {t : TypeId} (h : BoxAt w g vs t) (hp : g ≠ p.block) (u : Value) : BoxAt (w.setCell p u) g vs t := (Below.heap_setCell w p u g hp).trans h
theorem BoxAt.new {w : World} {g : Nat} (hg : w.heap.size = g) (vs : List Value) (t : TypeId) : BoxAt (w.alloc (.cells vs.toArray t)) g vs t := by
  subst hg
  show (w.heap.push _)[w.heap.size]? = _
  exact Array.getElem?_push_size
theorem BoxAt.alloc {w : World} {g : Nat} {vs : List Value} {t : TypeId} (h : BoxAt w g vs t) (o : Obj) : BoxAt (w.alloc o) g vs t := h.next ((Below.refl w.heap.size w).alloc (Nat.le_refl _) o)
theorem BoxAt.four {w : World} {g : Nat} {a b c d : Value} {t : TypeId} (h : BoxAt w g [a, b, c, d] t) :
    (w.cell? ⟨g, 0, none⟩ = some a ∧ w.cell? ⟨g, 1, none⟩ = some b ∧ w.cell? ⟨g, 2, none⟩ = some c ∧ w.cell? ⟨g, 3, none⟩ = some d) ∧
    w.frozen? ⟨g, 0, none⟩ = false ∧ w.frozen? ⟨g, 1, none⟩ = false ∧ w.frozen? ⟨g, 2, none⟩ = false ∧ w.frozen? ⟨g, 3, none⟩ = false :=
  ⟨⟨h.cell 0 _ rfl, h.cell 1 _ rfl, h.cell 2 _ rfl, h.cell 3 _ rfl⟩, h.open_ 0, h.open_ 1, h.open_ 2, h.open_ 3⟩
theorem BoxAt.four_put {w : World} {g : Nat} {a b c d : Value} {t : TypeId} (h : BoxAt w g [a, b, c, d] t) (a' b' c' d' : Value) :
    BoxAt ((((w.setCell ⟨g, 0, none⟩ a').setCell ⟨g, 1, none⟩ b').setCell ⟨g, 2, none⟩ c').setCell ⟨g, 3, none⟩ d') g [a', b', c', d'] t :=
  (((h.put (j := 0) a').put (j := 1) b').put (j := 2) c').put (j := 3) d'
theorem below_four {B g : Nat} {w w' : World} (h : Below B w w') (hg : B ≤ g) (a b c d : Value) :
    Below B w ((((w'.setCell ⟨g, 0, none⟩ a).setCell ⟨g, 1, none⟩ b).setCell ⟨g, 2, none⟩ c).setCell ⟨g, 3, none⟩ d) :=
  (((h.setCell (p := ⟨g, 0, none⟩) hg a).setCell (p := ⟨g, 1, none⟩) hg b).setCell (p := ⟨g, 2, none⟩) hg c).setCell (p := ⟨g, 3, none⟩) hg d
theorem own_zero (w : World) (lo hi : Nat) (e : TypeId) (size : Nat) : Own w lo hi e size (.slice none 0 0) 0 [] := ⟨⟨by simp, .inl ⟨rfl, rfl⟩⟩, fun k hk => by cases hk⟩
theorem Own.four {w : World} {lo hi n : Nat} {e : TypeId} {size g : Nat} {v : Value} {xs : List Value} (h : Own w lo hi e size v n xs) (hg : g < lo ∨ hi ≤ g) (a b c d : Value) :
    Own ((((w.setCell ⟨g, 0, none⟩ a).setCell ⟨g, 1, none⟩ b).setCell ⟨g, 2, none⟩ c).setCell ⟨g, 3, none⟩ d) lo hi e size v n xs :=
  h.keep (S := fun k => k = g) ((((keeps_set (S := fun k => k = g) w (p := ⟨g, 0, none⟩) a rfl).trans (keeps_set (S := fun k => k = g) _ (p := ⟨g, 1, none⟩) b rfl)).trans (keeps_set (S := fun k => k = g) _ (p := ⟨g, 2, none⟩) c rfl)).trans (keeps_set (S := fun k => k = g) _ (p := ⟨g, 3, none⟩) d rfl)) fun k hk => by subst hk; exact hg
theorem Reads.pair2 (w : World) (a b : Value) (t : TypeId) : Reads (w.alloc (.cells #[a, b] t)) (w.heap.size + 1) 2 (some ⟨w.heap.size, 0, none⟩) 1 [a, b] := by
  refine ⟨rfl, fun _ => ⟨_, rfl, by simp, fun j x hx => ?_⟩⟩
  have hadd : (⟨w.heap.size, 0, none⟩ : Addr).add j = ⟨w.heap.size, j, none⟩ := by unfold Addr.add; split <;> simp_all
  rw [hadd, World.cell?_alloc_at _ _ _ _ rfl]
  simpa using hx
/-- a token and whether it is one, its attributes in blocks of the call's own -/
def GotTag (w : World) (ek : TypeId) (t : Tok × Bool) (r : Ending) (w' : World) : Prop :=
  ∃ A c, r = .returned (.tuple #[.agg #[.int .i64 t.1.kind, .string t.1.name, .slice A t.1.attrs.length c, .string t.1.text], .bool t.2]) ∧ Own w' w.heap.size w'.heap.size ek 2 (.slice A t.1.attrs.length c) t.1.attrs.length (s2V t.1.attrs) ∧ Below w.heap.size w w'
theorem GotTag.zero {w w' : World} {ek : TypeId} {t : Tok × Bool} (h : t = (zeroTok, false)) (hb : Below w.heap.size w w') :
    GotTag w ek t (.returned (.tuple #[.agg #[.int .i64 0, .string ⟨#[]⟩, .slice none 0 0, .string ⟨#[]⟩], .bool false])) w' := by
  subst h
  exact ⟨none, 0, rfl, own_zero _ _ _ _ _, hb⟩
theorem GotTag.bare {w w' : World} {ek : TypeId} {t : Tok × Bool} {k : Int} {nm : ByteArray} (h : t = (⟨k, nm, [], ⟨#[]⟩⟩, true)) (hb : Below w.heap.size w w') :
    GotTag w ek t (.returned (.tuple #[.agg #[.int .i64 k, .string nm, .slice none 0 0, .string ⟨#[]⟩], .bool true])) w' := by
  subst h
  exact ⟨none, 0, rfl, own_zero _ _ _ _ _, hb⟩
theorem GotTag.full {w w' : World} {ek : TypeId} {t : Tok × Bool} {k : Int} {nm : ByteArray} {l : List S2} {A : Option Addr} {c : Nat} (h : t = (⟨k, nm, l, ⟨#[]⟩⟩, true)) (ho : Own w' w.heap.size w'.heap.size ek 2 (.slice A l.length c) l.length (s2V l)) (hb : Below w.heap.size w w') :
    GotTag w ek t (.returned (.tuple #[.agg #[.int .i64 k, .string nm, .slice A l.length c, .string ⟨#[]⟩], .bool true])) w' := by
  subst h
  exact ⟨A, c, rfl, ho, hb⟩
end Go.Proofs.YtmfaihelphfbgaaDoor
