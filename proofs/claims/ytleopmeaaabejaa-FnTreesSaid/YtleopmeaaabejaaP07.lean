/-
  Contracts of the generated helpers on builders: measure, compare, copy, mark, look. Conditions: sizes of Go strings and slices, at most 2^30 elements.
  Plain words: a token is added to a builder. No program is named. No condition.
  Bounds that a builder's measure gives. No condition.
  Words for builders that grow: cut open elements, appended nodes, appended open elements; a set of blocks that stays apart. No program is named. No condition.
-/
import Derived.Deep.RegionWith
import Derived.Deep.RegionHeld3
import Derived.Test.YtleopmeaaabejaaP06
import Derived.Test.YtleopmeaaabejaaP05
namespace Go.Proofs.Ytleopmeaaabejaa
set_option linter.unusedVariables false
set_option linter.unusedSimpArgs false
set_option maxRecDepth 100000
open Go.ChangeShapes Go.WideShapes Go.ChangeAt Go.RowKit Go.Deep

structure Bld where
  nodes : List Nod
  opens : List Int
def bldSz (b : Bld) : Int := b.nodes.length + nodsSz b.nodes + b.opens.length
def ReadsB (w : World) (B : Nat) (A : Option Addr) (n : Nat) (A' : Option Addr) (n' : Nat) (b : Bld) : Prop :=
  ReadsN nodN w B A n b.nodes ∧ Reads w B 1 A' n' (b.opens.map (Value.int .i64))
section
variable {w w' : World} {B B' n n' : Nat} {A A' : Option Addr} {b : Bld}
theorem ReadsB.below (h : ReadsB w B A n A' n' b) (hb : Below B w w') : ReadsB w' B A n A' n' b := ⟨h.1.below hb, h.2.below hb⟩
theorem ReadsB.more (h : ReadsB w B A n A' n' b) (hB : B ≤ B') : ReadsB w B' A n A' n' b := ⟨h.1.more hB, h.2.more hB⟩
theorem ReadsB.next (h : ReadsB w w.heap.size A n A' n' b) (hb : Below w.heap.size w w') : ReadsB w' w'.heap.size A n A' n' b := (h.below hb).more hb.size
theorem ReadsB.drew (h : ReadsB w B A n A' n' b) : ReadsB w.drew B A n A' n' b := h
theorem ReadsB.len (h : ReadsB w B A n A' n' b) : b.nodes.length = n ∧ b.opens.length = n' := ⟨h.1.len, by have := h.2.1; rw [List.length_map] at this; omega⟩
end
structure OwnB (w : World) (lo hi : Nat) (e ek ei : TypeId) (A : Option Addr) (n c : Nat) (A' : Option Addr) (n' c' : Nat) (b : Bld) (L : List (Nod × Hd)) : Prop where
  fst : L.map (·.1) = b.nodes
  nodes : OwnN nodN w lo hi e ek A n c L
  opens : Own w lo hi ei 1 (.slice A' n' c') n' (b.opens.map (Value.int .i64))
  far : ∀ k, (Value.slice A' n' c').ownBlock = some k → ¬ foot A L k
section
variable {w w' : World} {lo hi n c n' c' : Nat} {e ek ei : TypeId} {A A' : Option Addr} {b : Bld} {L : List (Nod × Hd)}
theorem OwnB.keep {S : Nat → Prop} (h : OwnB w lo hi e ek ei A n c A' n' c' b L) (hk : Keeps S w w') (hs : ∀ k, S k → k < lo ∨ hi ≤ k) : OwnB w' lo hi e ek ei A n c A' n' c' b L :=
  ⟨h.fst, h.nodes.keep hk hs, h.opens.keep hk hs, h.far⟩
theorem OwnB.below (h : OwnB w lo hi e ek ei A n c A' n' c' b L) (hb : Below w.heap.size w w') : OwnB w' lo hi e ek ei A n c A' n' c' b L := h.keep (S := Never) (Keeps.of_below hb) fun _ h => h.elim
theorem OwnB.drew (h : OwnB w lo hi e ek ei A n c A' n' c' b L) : OwnB w.drew lo hi e ek ei A n c A' n' c' b L := h.keep (S := Never) (Keeps.of_below (Below.refl _ _).drew) fun _ h => h.elim
theorem OwnB.rd (h : OwnB w lo hi e ek ei A n c A' n' c' b L) (hh : hi ≤ w.heap.size) : ReadsB w w.heap.size A n A' n' b := by
  refine ⟨?_, (h.opens.reads hh).more hh⟩
  have := (h.nodes.reads hh).more hh
  rw [h.fst] at this
  exact this
theorem OwnB.nums (h : OwnB w lo hi e ek ei A n c A' n' c' b L) : nodN.nums L = b.nodes.map nodN.num := by
  rw [← h.fst]
  simp [Nest.nums]
theorem OwnB.set (h : OwnB w lo hi e ek ei A n c A' n' c' b L) {p : Addr} (hp : p.block < lo) (u : Value) : OwnB (w.setCell p u) lo hi e ek ei A n c A' n' c' b L :=
  h.keep (keeps_set (S := fun k => k = p.block) w u rfl) fun k hk => .inl (by rw [hk]; exact hp)
theorem OwnB.wide {lo' hi' : Nat} (h : OwnB w lo hi e ek ei A n c A' n' c' b L) (h1 : lo' ≤ lo) (h2 : hi ≤ hi') : OwnB w lo' hi' e ek ei A n c A' n' c' b L :=
  ⟨h.fst, h.nodes.wide h1 h2, h.opens.wide h1 h2, h.far⟩
end
def GotB (w : World) (e ek ei : TypeId) (n n' : Nat) (b : Bld) (r : Ending) (w' : World) : Prop :=
  ∃ A c A' c' L, r = .returned (.agg #[.slice A n c, .slice A' n' c']) ∧ OwnB w' w.heap.size w'.heap.size e ek ei A n c A' n' c' b L ∧ Below w.heap.size w w'
theorem OwnN.set {α : Type} {N : Nest α} {w : World} {lo hi n c : Nat} {e ek : TypeId} {A : Option Addr} {L : List (α × Hd)} (h : OwnN N w lo hi e ek A n c L) {p : Addr} (hp : p.block < lo) (u : Value) : OwnN N (w.setCell p u) lo hi e ek A n c L :=
  h.keep (keeps_set (S := fun k => k = p.block) w u rfl) fun k hk => .inl (by rw [hk]; exact hp)
theorem OwnN.elsewhere {α : Type} {N : Nest α} {w w' : World} {lo hi n c : Nat} {e ek : TypeId} {A : Option Addr} {L : List (α × Hd)} {S : Nat → Prop} (h : OwnN N w lo hi e ek A n c L) (hk : Keeps S w w') (hs : ∀ k, S k → ¬ foot A L k) : OwnN N w' lo hi e ek A n c L :=
  ⟨h.row.elsewhere hk fun k hS hb => hs k hS (.inl (by rw [← hdBlock_eq A n c]; exact hb)), fun x hx => (h.kids x hx).elsewhere hk fun k hS hb => hs k hS (.inr ⟨x, hx, by rw [← hdBlock_eq x.2.1 (N.num x.1) x.2.2]; exact hb⟩), h.apart, h.off⟩
def mkB (q : Int) (cs : List Nat) (m : Nat) : Bld := ⟨mkNs mkNod q cs, marks .i64 (q + totN cs) m⟩

end Go.Proofs.Ytleopmeaaabejaa

namespace Go.Proofs.Ytleopmeaaabejaa
set_option linter.unusedVariables false
open Go.RowKit

/-- the open element i bears the name -/
def hitB (b : Bld) (name : ByteArray) (i : Nat) : Bool :=
  match b.opens[i]? with
  | none => false
  | some k => decide (0 ≤ k) && (match b.nodes[k.toNat]? with | none => false | some x => decide (x.name = name))
/-- the open elements that stay, of the first i + 1 looked at from the end; the first is not looked at -/
def clsF (b : Bld) (name : ByteArray) : Nat → Nat
  | 0 => b.opens.length
  | i + 1 => if hitB b name (i + 1) then i + 1 else clsF b name i
theorem clsF_hit {b : Bld} {name : ByteArray} {i : Nat} (h : hitB b name (i + 1) = true) : clsF b name (i + 1) = i + 1 := by rw [clsF, if_pos h]
theorem clsF_miss {b : Bld} {name : ByteArray} {i : Nat} (h : hitB b name (i + 1) = false) : clsF b name (i + 1) = clsF b name i := by rw [clsF, h]; rfl
theorem clsF_le (b : Bld) (name : ByteArray) : ∀ i, i < b.opens.length ∨ i = 0 → clsF b name i ≤ b.opens.length := by
  intro i
  induction i with
  | zero => intro _; exact Nat.le_refl _
  | succ i ih =>
    intro h
    rw [clsF]
    split
    · omega
    · exact ih (by omega)
def voidB (s : ByteArray) : Bool := decide (s = ⟨#[105, 109, 103]⟩) || decide (s = ⟨#[108, 105, 110, 107]⟩)
def fullB (b : Bld) (t : Tok) : Bool := decide (40 ≤ b.nodes.length) || decide (b.opens.length = 0) || (decide (t.kind = 1) && !voidB t.name && decide (8 ≤ b.opens.length))
def addsB (t : Tok) : Bool := decide (t.kind = 1) || (decide (t.kind = 3) && !decide (t.text = ⟨#[]⟩))
def newNode (b : Bld) (t : Tok) : Nod :=
  if t.kind = 1 then ⟨t.name, ⟨#[]⟩, b.opens.getLastD 0, t.attrs⟩ else ⟨⟨#[]⟩, t.text, b.opens.getLastD 0, []⟩
def addOpens (b : Bld) (t : Tok) : List Int := if t.kind = 1 ∧ voidB t.name = false then b.opens ++ [(b.nodes.length : Int)] else b.opens
def addB (b : Bld) (t : Tok) : Bld × Int :=
  if t.kind = 2 then (⟨b.nodes, b.opens.take (clsF b t.name (b.opens.length - 1))⟩, -1)
  else if addsB t && !fullB b t then (⟨b.nodes ++ [newNode b t], addOpens b t⟩, b.nodes.length)
  else (b, -1)
theorem addB_close {b : Bld} {t : Tok} (h : t.kind = 2) : addB b t = ((⟨b.nodes, b.opens.take (clsF b t.name (b.opens.length - 1))⟩ : Bld), -1) := by rw [addB, if_pos h]
theorem addB_stay {b : Bld} {t : Tok} (h : t.kind ≠ 2) (h2 : addsB t = false ∨ fullB b t = true) : addB b t = (b, -1) := by
  rw [addB, if_neg h, if_neg]
  rcases h2 with h2 | h2 <;> simp [h2]
theorem addB_add {b : Bld} {t : Tok} (h : t.kind ≠ 2) (h2 : addsB t = true) (h3 : fullB b t = false) : addB b t = ((⟨b.nodes ++ [newNode b t], addOpens b t⟩ : Bld), ((b.nodes.length : Nat) : Int)) := by
  rw [addB, if_neg h, if_pos]
  simp [h2, h3]
def addsL (b : Bld) (l : List Tok) : Bld := l.foldl (fun b t => (addB b t).1) b
end Go.Proofs.Ytleopmeaaabejaa

namespace Go.Proofs.Ytleopmeaaabejaa
set_option linter.unusedVariables false
set_option linter.unusedSimpArgs false
set_option maxRecDepth 100000
open Go.ChangeShapes Go.WideShapes Go.ChangeAt Go.RowKit Go.Deep

theorem ReadsN.drew {α : Type} {N : Nest α} {w : World} {B n : Nat} {A : Option Addr} {l : List α} (h : ReadsN N w B A n l) : ReadsN N w.drew B A n l := h
theorem OwnN.drew {α : Type} {N : Nest α} {w : World} {lo hi n c : Nat} {e ek : TypeId} {A : Option Addr} {L : List (α × Hd)} (h : OwnN N w lo hi e ek A n c L) : OwnN N w.drew lo hi e ek A n c L := h.keep (S := Never) (Keeps.of_below (Below.refl _ _).drew) fun _ h => h.elim
theorem bld_bounds {w : World} {n n' : Nat} {A A' : Option Addr} {b : Bld} (h : ReadsB w w.heap.size A n A' n' b) (hb : bldSz b ≤ 1048576) :
    n ≤ 1048576 ∧ n' ≤ 1048576 ∧ (∀ a ∈ b.nodes, a.attrs.length ≤ 1073741824) ∧ nodsSz b.nodes ≤ 1048576 := by
  obtain ⟨h1, h2⟩ := h.len
  have h3 := nodsSz_nonneg b.nodes
  unfold bldSz at hb
  refine ⟨by omega, by omega, fun a ha => ?_, by omega⟩
  have h4 := nodsSz_mem ha
  have h5 := attrs_le_nodSz a
  omega

end Go.Proofs.Ytleopmeaaabejaa

namespace Go.Proofs.Ytleopmeaaabejaa
set_option linter.unusedVariables false
set_option linter.unusedSimpArgs false
set_option maxRecDepth 100000
open Go.ChangeShapes Go.WideShapes Go.ChangeAt Go.RowKit Go.Deep

/-! ### Boxes by their block -/
abbrev HasBox (w : World) (g : Nat) (vs : List Value) (t : TypeId) : Prop := w.heap[g]? = some (.cells vs.toArray t (0, 0))
theorem HasBox.lt {w : World} {g : Nat} {vs : List Value} {t : TypeId} (h : HasBox w g vs t) : g < w.heap.size := (Array.getElem?_eq_some_iff.1 h).1
theorem HasBox.cell {w : World} {g : Nat} {vs : List Value} {t : TypeId} (h : HasBox w g vs t) (j : Nat) (u : Value) (hu : vs[j]? = some u) : w.cell? ⟨g, j, none⟩ = some u := by
  simp [World.cell?, h, hu]
theorem HasBox.open_ {w : World} {g : Nat} {vs : List Value} {t : TypeId} (h : HasBox w g vs t) (j : Nat) : w.frozen? ⟨g, j, none⟩ = false := by
  simp [World.frozen?, h]
theorem HasBox.below {w w' : World} {g B : Nat} {vs : List Value} {t : TypeId} (h : HasBox w g vs t) (hb : Below B w w') (hg : g < B) : HasBox w' g vs t := (hb.block g hg).trans h
theorem HasBox.keep {S : Nat → Prop} {w w' : World} {g : Nat} {vs : List Value} {t : TypeId} (h : HasBox w g vs t) (hb : Keeps S w w') (hs : ¬ S g) : HasBox w' g vs t := (hb.block g h.lt hs).trans h
theorem HasBox.put {w : World} {g j : Nat} {vs : List Value} {t : TypeId} (h : HasBox w g vs t) (u : Value) : HasBox (w.setCell ⟨g, j, none⟩ u) g (vs.set j u) t := by
  obtain ⟨hlt, hk⟩ := Array.getElem?_eq_some_iff.1 h
  show (w.heap.modify g _)[g]? = _
  rw [Array.getElem?_eq_getElem (by rw [Array.size_modify]; exact hlt), Array.getElem_modify_self, hk]
  simp [List.setIfInBounds_toArray]
theorem HasBox.other {w : World} {g : Nat} {p : Addr} {vs : List Value} {t : TypeId} (h : HasBox w g vs t) (hp : g ≠ p.block) (u : Value) : HasBox (w.setCell p u) g vs t := (Below.heap_setCell w p u g hp).trans h
theorem HasBox.new (w : World) (vs : List Value) (t : TypeId) : HasBox (w.alloc (.cells vs.toArray t)) w.heap.size vs t := by
  show (w.heap.push _)[w.heap.size]? = _
  exact Array.getElem?_push_size
theorem HasBox.alloc {w : World} {g : Nat} {vs : List Value} {t : TypeId} (h : HasBox w g vs t) (o : Obj) : HasBox (w.alloc o) g vs t := h.below ((Below.refl w.heap.size w).alloc (Nat.le_refl _) o) h.lt

theorem Own.cut {w : World} {lo hi n m c : Nat} {e : TypeId} {size : Nat} {A : Option Addr} {xs : List Value} (h : Own w lo hi e size (.slice A n c) n xs) (hm : m ≤ n) (h0 : 0 < m) :
    Own w lo hi e size (.slice A m c) m (xs.take (m * size)) := by
  obtain ⟨⟨h1, h2⟩, h3⟩ := h
  have hl : (xs.take (m * size)).length = m * size := by
    rw [List.length_take, h1]; exact Nat.min_eq_left (Nat.mul_le_mul_right _ hm)
  rcases h2 with ⟨_, hn⟩ | ⟨g, cap, cur, hv, hb, hg, hn, hc, hs, ht⟩
  · omega
  · injection hv with hA _ hcap
    subst hA hcap
    refine ⟨⟨hl, .inr ⟨g, c, cur, rfl, hb, hg, by omega, hc, hs, ?_⟩⟩, fun k hk => h3 k hk⟩
    rw [← ht, List.take_take, Nat.min_eq_left (Nat.mul_le_mul_right _ hm)]

/-! ### Builders apart from the blocks X -/
structure OwnX (X : Nat → Prop) (w : World) (lo hi : Nat) (e ek ei : TypeId) (A : Option Addr) (n c : Nat) (A' : Option Addr) (n' c' : Nat) (b : Bld) (L : List (Nod × Hd)) : Prop where
  own : OwnB w lo hi e ek ei A n c A' n' c' b L
  off : ∀ k, X k → ¬ foot A L k ∧ (Value.slice A' n' c').ownBlock ≠ some k
section
variable {X : Nat → Prop} {w w' : World} {lo hi n c n' c' : Nat} {e ek ei : TypeId} {A A' : Option Addr} {b : Bld} {L : List (Nod × Hd)}
theorem OwnB.apart_from (h : OwnB w lo hi e ek ei A n c A' n' c' b L) (hX : ∀ k, X k → k < lo ∨ hi ≤ k) : OwnX X w lo hi e ek ei A n c A' n' c' b L :=
  ⟨h, fun k hk => ⟨fun hf => by have := h.nodes.foot_span k hf; have h1 := this.1; have h2 := this.2; have := hX k hk; omega, fun hf => by have h1 := h.opens.ge k hf; have h2 := h.opens.2 k hf; have := hX k hk; omega⟩⟩
theorem OwnX.keep {S : Nat → Prop} (h : OwnX X w lo hi e ek ei A n c A' n' c' b L) (hk : Keeps S w w') (hs : ∀ k, S k → X k) : OwnX X w' lo hi e ek ei A n c A' n' c' b L :=
  ⟨⟨h.own.fst, h.own.nodes.elsewhere hk fun k hS => (h.off k (hs k hS)).1, h.own.opens.elsewhere hk fun k hS => (h.off k (hs k hS)).2, h.own.far⟩, h.off⟩
theorem OwnX.set (h : OwnX X w lo hi e ek ei A n c A' n' c' b L) {p : Addr} (hp : X p.block) (u : Value) : OwnX X (w.setCell p u) lo hi e ek ei A n c A' n' c' b L :=
  h.keep (keeps_set (S := fun k => k = p.block) w u rfl) fun k hk => by rw [hk]; exact hp
theorem OwnX.below (h : OwnX X w lo hi e ek ei A n c A' n' c' b L) (hb : Below w.heap.size w w') : OwnX X w' lo hi e ek ei A n c A' n' c' b L := h.keep (S := Never) (Keeps.of_below hb) fun _ h => h.elim
theorem OwnX.alloc (h : OwnX X w lo hi e ek ei A n c A' n' c' b L) (o : Obj) : OwnX X (w.alloc o) lo hi e ek ei A n c A' n' c' b L := h.below ((Below.refl _ _).alloc (Nat.le_refl _) o)
theorem OwnX.cut (h : OwnX X w lo hi e ek ei A n c A' n' c' b L) {m : Nat} (hm : m ≤ n') (h0 : 0 < m ∨ m = n') : OwnX X w lo hi e ek ei A n c A' m c' ⟨b.nodes, b.opens.take m⟩ L := by
  have hlen : b.opens.length = n' := by have := h.own.opens.len; rw [List.length_map] at this; omega
  have eb : ∀ k : Nat, (Value.slice A' k c').ownBlock = (Value.slice A' n' c').ownBlock := fun k => by cases A' <;> rfl
  refine ⟨⟨h.own.fst, h.own.nodes, ?_, fun k hk => h.own.far k (by rw [← eb m]; exact hk)⟩, fun k hk => ⟨(h.off k hk).1, by rw [eb m]; exact (h.off k hk).2⟩⟩
  rcases h0 with h0 | h0
  · have := h.own.opens.cut hm h0
    rw [Nat.mul_one, ← List.map_take] at this
    exact this
  · subst h0
    have := h.own.opens
    rw [List.take_of_length_le (by omega)]
    exact this
/-- a node more -/
theorem OwnX.push {A2 : Option Addr} {c2 : Nat} {x : Nod × Hd} (h : OwnX X w lo hi e ek ei A n c A' n' c' b L) (hm : hi ≤ w.heap.size) (hlm : lo ≤ hi) (hX : ∀ k, X k → k < w.heap.size)
    (hk : Own w hi w.heap.size ek 2 (.slice x.2.1 (nodN.num x.1) x.2.2) (nodN.num x.1) (nodN.kid x.1)) (hkX : ∀ k, X k → hdBlock x.2 ≠ some k)
    (ho : w'.ownsRow lo e nodN.k (.slice A2 (n + 1) c2) (n + 1) (nodN.flat L ++ nodN.cells x))
    (hg : w.grownBy w' (Value.slice A n c).ownBlock)
    (hb : (Value.slice A2 (n + 1) c2).ownBlock = (Value.slice A n c).ownBlock ∨ (Value.slice A2 (n + 1) c2).ownBlock = some w.heap.size) :
    OwnX X w' lo w'.heap.size e ek ei A2 (n + 1) c2 A' n' c' ⟨b.nodes ++ [x.1], b.opens⟩ (L ++ [x]) := by
  have hN := h.own.nodes.push hm hlm hk ho hg hb
  have hkp := Keeps.of_grown hg
  have hft : ∀ k, foot A2 (L ++ [x]) k → foot A L k ∨ hdBlock x.2 = some k ∨ k = w.heap.size := by
    rintro k (hk1 | ⟨y, hy, hk1⟩)
    · rcases hb with hb | hb
      · left; left
        rw [← hdBlock_eq A n c, ← hb, hdBlock_eq A2 (n + 1) c2 0]; exact hk1
      · right; right
        rw [hdBlock_eq A2 (n + 1) c2 0, hk1] at hb
        injection hb
    · rcases List.mem_append.1 hy with hy | hy
      · exact .inl (.inr ⟨y, hy, hk1⟩)
      · simp only [List.mem_singleton] at hy
        subst hy
        exact .inr (.inl hk1)
  have hop : ∀ k, (Value.slice A' n' c').ownBlock = some k → k < hi := fun k hk1 => h.own.opens.2 k hk1
  have hkid : ∀ k, hdBlock x.2 = some k → hi ≤ k := fun k hk1 => hk.ge k (by rw [hdBlock_eq (c' := x.2.2)]; exact hk1)
  refine ⟨⟨by rw [List.map_append, h.own.fst]; rfl, hN, ?_, fun k hk1 hf => ?_⟩, fun k hk1 => ⟨fun hf => ?_, (h.off k hk1).2⟩⟩
  · refine (h.own.opens.elsewhere hkp fun k hS hb1 => ?_).wide (Nat.le_refl _) (by have := hkp.size; omega)
    exact h.own.far k hb1 (.inl (by rw [← hdBlock_eq A n c]; exact hS))
  · have h1 := hop k hk1
    rcases hft k hf with h2 | h2 | h2
    · exact h.own.far k hk1 h2
    · have := hkid k h2; omega
    · omega
  · rcases hft k hf with h2 | h2 | h2
    · exact (h.off k hk1).1 h2
    · exact hkX k hk1 h2
    · have := hX k hk1; omega
/-- an open element more -/
theorem OwnX.opn {A2 : Option Addr} {c2 : Nat} {v : Int} (h : OwnX X w lo hi e ek ei A n c A' n' c' b L) (hm : hi ≤ w.heap.size) (hX : ∀ k, X k → k < w.heap.size)
    (ho : w'.ownsRow lo ei 1 (.slice A2 (n' + 1) c2) (n' + 1) (b.opens.map (Value.int .i64) ++ [.int .i64 v]))
    (hg : w.grownBy w' (Value.slice A' n' c').ownBlock)
    (hb : (Value.slice A2 (n' + 1) c2).ownBlock = (Value.slice A' n' c').ownBlock ∨ (Value.slice A2 (n' + 1) c2).ownBlock = some w.heap.size) :
    OwnX X w' lo w'.heap.size e ek ei A n c A2 (n' + 1) c2 ⟨b.nodes, b.opens ++ [v]⟩ L := by
  have hkp := Keeps.of_grown hg
  refine ⟨⟨h.own.fst, ?_, ?_, fun k hk1 hf => ?_⟩, fun k hk1 => ⟨(h.off k hk1).1, fun hf => ?_⟩⟩
  · refine (h.own.nodes.elsewhere hkp fun k hS => h.own.far k hS).wide (Nat.le_refl _) (by have := hkp.size; omega)
  · rw [List.map_append]
    exact Own.of_row ho
  · rcases hb with hb | hb
    · exact h.own.far k (by rw [← hb]; exact hk1) hf
    · rw [hb] at hk1
      injection hk1 with hk1
      have := (h.own.nodes.foot_span k hf).2
      omega
  · rcases hb with hb | hb
    · exact (h.off k hk1).2 (by rw [← hb]; exact hf)
    · rw [hb] at hf
      injection hf with hf
      have := hX k hk1
      omega
end
/-- the steps of a walk -/
theorem wpList_pushX {P : Program} {X : Nat → Prop} {w : World} {T E bytes : Nat} (R : RowT P T E 4 bytes) {ops : Array Oper} {rest : List Oper} {o : Oper} {a : Act} {Q : Exit → Act → World → Prop} (hgd : o.guard = none) (s x : Operand)
    (ho : o.op = .call { callee := .builtin .append, args := #[s, x], argTypes := #[T, T] })
    {lo hi n c n' c' : Nat} {ek ei : TypeId} {A A' : Option Addr} {b : Bld} {L : List (Nod × Hd)} (h : OwnX X w lo hi E ek ei A n c A' n' c' b L) (hm : hi ≤ w.heap.size) (hlm : lo ≤ hi) (hX : ∀ k, X k → k < w.heap.size) (el : Nod × Hd)
    (hk : Own w hi w.heap.size ek 2 (.slice el.2.1 (nodN.num el.1) el.2.2) (nodN.num el.1) (nodN.kid el.1)) (hkX : ∀ k, X k → hdBlock el.2 ≠ some k) (hs : a.eval s = .slice A n c)
    (A1 : Option Addr) (c1 B : Nat) (hx : a.eval x = .slice A1 1 c1) (hr : Reads w B 4 A1 1 (nodN.cells el)) (hn : n + 1 ≤ 1099511627776) (hbytes : bytes ≤ 128)
    (hK : ∀ A2 c2 w', OwnX X w' lo w'.heap.size E ek ei A2 (n + 1) c2 A' n' c' ⟨b.nodes ++ [el.1], b.opens⟩ (L ++ [el]) → Keeps (fun k => lo ≤ k ∧ k < hi ∧ ¬ X k) w w' → wpList P ops Q rest (a.put o.dst (.slice A2 (n + 1) c2)) w') : wpList P ops Q (o :: rest) a w := by
  obtain ⟨i, z, hi', hz, hsz, hby, hzs'⟩ := R.inf
  refine wpList_append_any w hgd s x T ho lo E i z 4 bytes R.und hi' hz hsz hby hzs' R.pos _ n (nodN.flat L) hs h.own.nodes.row.1 B A1 1 c1 (nodN.cells el) hx hr (nodN.one _ _ _ _) (by simp only [maxLen]; omega) ?_ (by omega) ?_
  · have := Nat.mul_le_mul hn hbytes; omega
  · intro A2 c2 w' h2 h3 h4
    refine hK A2 c2 w' (h.push hm hlm hX hk hkX h2 h3 h4) ((Keeps.of_grown h3).mono fun k hk1 => ⟨h.own.nodes.row.ge k hk1, h.own.nodes.row.2 k hk1, fun hXk => (h.off k hXk).1 (.inl (by rw [← hdBlock_eq A n c]; exact hk1))⟩)
theorem wpList_opnX {P : Program} {X : Nat → Prop} {w : World} {T EI bytes : Nat} (R : RowT P T EI 1 bytes) {ops : Array Oper} {rest : List Oper} {o : Oper} {a : Act} {Q : Exit → Act → World → Prop} (hgd : o.guard = none) (s x : Operand)
    (ho : o.op = .call { callee := .builtin .append, args := #[s, x], argTypes := #[T, T] })
    {lo hi n c n' c' : Nat} {e ek : TypeId} {A A' : Option Addr} {b : Bld} {L : List (Nod × Hd)} (h : OwnX X w lo hi e ek EI A n c A' n' c' b L) (hm : hi ≤ w.heap.size) (hlm : lo ≤ hi) (hX : ∀ k, X k → k < w.heap.size) (v : Int) (hs : a.eval s = .slice A' n' c')
    (A1 : Option Addr) (c1 B : Nat) (hx : a.eval x = .slice A1 1 c1) (hr : Reads w B 1 A1 1 [.int .i64 v]) (hn : n' + 1 ≤ 1099511627776) (hbytes : bytes ≤ 128)
    (hK : ∀ A2 c2 w', OwnX X w' lo w'.heap.size e ek EI A n c A2 (n' + 1) c2 ⟨b.nodes, b.opens ++ [v]⟩ L → Keeps (fun k => lo ≤ k ∧ k < hi ∧ ¬ X k) w w' → wpList P ops Q rest (a.put o.dst (.slice A2 (n' + 1) c2)) w') : wpList P ops Q (o :: rest) a w := by
  obtain ⟨i, z, hi', hz, hsz, hby, hzs'⟩ := R.inf
  refine wpList_append_any w hgd s x T ho lo EI i z 1 bytes R.und hi' hz hsz hby hzs' R.pos _ n' (b.opens.map (Value.int .i64)) hs h.own.opens.1 B A1 1 c1 [.int .i64 v] hx hr (int_one _ _) (by simp only [maxLen]; omega) ?_ (by omega) ?_
  · have := Nat.mul_le_mul hn hbytes; omega
  · intro A2 c2 w' h2 h3 h4
    refine hK A2 c2 w' (h.opn hm hX h2 h3 h4) ((Keeps.of_grown h3).mono fun k hk1 => ⟨h.own.opens.ge k hk1, h.own.opens.2 k hk1, fun hXk => (h.off k hXk).2 hk1⟩)
theorem clsF_or (b : Bld) (name : ByteArray) : ∀ i, clsF b name i = b.opens.length ∨ (0 < clsF b name i ∧ clsF b name i ≤ i) := by
  intro i
  induction i with
  | zero => exact .inl rfl
  | succ i ih =>
    rw [clsF]
    split
    · right; omega
    · rcases ih with h | h
      · exact .inl h
      · right; omega
theorem Own.capLe {w : World} {lo hi n c : Nat} {e : TypeId} {size : Nat} {A : Option Addr} {xs : List Value} (h : Own w lo hi e size (.slice A n c) n xs) : n ≤ c ∧ c ≤ maxLen := by
  obtain ⟨⟨h1, h2⟩, h3⟩ := h
  rcases h2 with ⟨hv, hn⟩ | ⟨g, cap, cur, hv, hb, hg, hn, hc, hs, ht⟩
  · injection hv with _ _ hc
    omega
  · injection hv with _ _ hcap
    omega
theorem HasBox.new' {w : World} {g : Nat} (hg : w.heap.size = g) (vs : List Value) (t : TypeId) : HasBox (w.alloc (.cells vs.toArray t)) g vs t := by subst hg; exact HasBox.new w vs t
/-- the result of AddToken -/
def GotBI (w : World) (e ek ei : TypeId) (r1 : Bld × Int) (r : Ending) (w' : World) : Prop :=
  ∃ A c A' c' L, r = .returned (.tuple #[.agg #[.slice A r1.1.nodes.length c, .slice A' r1.1.opens.length c'], .int .i64 r1.2]) ∧ OwnB w' w.heap.size w'.heap.size e ek ei A r1.1.nodes.length c A' r1.1.opens.length c' r1.1 L ∧ Below w.heap.size w w'
theorem GotBI.of {w w' : World} {e ek ei : TypeId} {r1 : Bld × Int} {b' : Bld} {k : Int} {n n' c c' : Nat} {A A' : Option Addr} {L : List (Nod × Hd)} (hr : r1 = (b', k)) (hn : b'.nodes.length = n) (hn' : b'.opens.length = n')
    (o : OwnB w' w.heap.size w'.heap.size e ek ei A n c A' n' c' b' L) (hb : Below w.heap.size w w') : GotBI w e ek ei r1 (.returned (.tuple #[.agg #[.slice A n c, .slice A' n' c'], .int .i64 k])) w' := by
  subst hr hn hn'
  exact ⟨A, c, A', c', L, rfl, o, hb⟩
end Go.Proofs.Ytleopmeaaabejaa
