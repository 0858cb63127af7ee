/-
  Words for slices of structs that hold one slice of two-cell elements each (tokens, nodes, sheets). No program is named. No condition.
-/
import Derived.Test.YtmfaihelphfbgaaDoorStr
namespace Go.Proofs.YtmfaihelphfbgaaDoor
set_option linter.unusedVariables false
open Go.RowKit

/-- a kind of element: its cells around the header of its own slice, and that slice's cells -/
structure Nest (α : Type) where
  k : Nat
  row : α → Option Addr → Nat → Nat → List Value
  num : α → Nat
  kid : α → List Value
  row_len : ∀ a A n c, (row a A n c).length = k
  kid_len : ∀ a, (kid a).length = num a * 2
  one : ∀ a A n c, ∀ u ∈ row a A n c, u.oneCell' = true
  pos : 0 < k
abbrev Hd := Option Addr × Nat
def Nest.cells {α : Type} (N : Nest α) (x : α × Hd) : List Value := N.row x.1 x.2.1 (N.num x.1) x.2.2
def Nest.flat {α : Type} (N : Nest α) (L : List (α × Hd)) : List Value := L.flatMap N.cells
section
variable {α : Type} {N : Nest α}
theorem Nest.cells_len (x : α × Hd) : (N.cells x).length = N.k := N.row_len _ _ _ _
theorem Nest.flat_nil : N.flat [] = [] := rfl
theorem Nest.flat_cons (x : α × Hd) (L : List (α × Hd)) : N.flat (x :: L) = N.cells x ++ N.flat L := by simp [Nest.flat]
theorem Nest.flat_append (L M : List (α × Hd)) : N.flat (L ++ M) = N.flat L ++ N.flat M := by simp [Nest.flat]
theorem Nest.flat_len (L : List (α × Hd)) : (N.flat L).length = L.length * N.k := by
  induction L with
  | nil => simp [Nest.flat]
  | cons x L ih => rw [Nest.flat_cons, List.length_append, ih, Nest.cells_len, List.length_cons, Nat.succ_mul]; omega
theorem Nest.flat_at {L : List (α × Hd)} {i j : Nat} (hi : i < L.length) (hj : j < N.k) : (N.flat L)[i * N.k + j]? = (N.cells L[i])[j]? := by
  induction L generalizing i with
  | nil => simp at hi
  | cons x L ih =>
    rw [Nest.flat_cons]
    cases i with
    | zero => rw [List.getElem?_append_left (by rw [Nest.cells_len]; omega)]; simp
    | succ i =>
      rw [List.getElem?_append_right (by rw [Nest.cells_len, Nat.succ_mul]; omega), Nest.cells_len, show (i + 1) * N.k + j - N.k = i * N.k + j by rw [Nat.succ_mul]; omega]
      exact ih (by simpa using hi)
theorem Nest.flat_take (L : List (α × Hd)) (i : Nat) : (N.flat L).take (i * N.k) = N.flat (L.take i) := by
  induction L generalizing i with
  | nil => simp [Nest.flat]
  | cons x L ih =>
    cases i with
    | zero => simp [Nest.flat]
    | succ i => rw [Nest.flat_cons, List.take_succ_cons, Nest.flat_cons, List.take_append, Nest.cells_len, show (i + 1) * N.k - N.k = i * N.k by rw [Nat.succ_mul]; omega, ih, List.take_of_length_le (by rw [Nest.cells_len, Nat.succ_mul]; omega)]
theorem Nest.flat_one (L : List (α × Hd)) : ∀ u ∈ N.flat L, u.oneCell' = true := by
  intro u hu
  obtain ⟨x, _, h⟩ := List.mem_flatMap.1 hu
  exact N.one _ _ _ _ u h
end

/-! ### Read -/
def ReadsN {α : Type} (N : Nest α) (w : World) (B : Nat) (A : Option Addr) (n : Nat) (l : List α) : Prop :=
  ∃ L : List (α × Hd), L.map (·.1) = l ∧ Reads w B N.k A n (N.flat L) ∧ ∀ x ∈ L, Reads w B 2 x.2.1 (N.num x.1) (N.kid x.1)
section
variable {α : Type} {N : Nest α} {w w' : World} {B B' n : Nat} {A : Option Addr} {l : List α}
theorem ReadsN.len (h : ReadsN N w B A n l) : l.length = n := by
  obtain ⟨L, rfl, hr, _⟩ := h
  have := hr.1
  rw [Nest.flat_len] at this
  rw [List.length_map]
  exact Nat.eq_of_mul_eq_mul_right N.pos this
theorem ReadsN.keep (h : ReadsN N w B A n l) (hk : ∀ p : Addr, p.block < B → w'.cell? p = w.cell? p) : ReadsN N w' B A n l := by
  obtain ⟨L, e, hr, hx⟩ := h
  exact ⟨L, e, hr.keep hk, fun x hm => (hx x hm).keep hk⟩
theorem ReadsN.more (h : ReadsN N w B A n l) (hB : B ≤ B') : ReadsN N w B' A n l := by
  obtain ⟨L, e, hr, hx⟩ := h
  exact ⟨L, e, hr.more hB, fun x hm => (hx x hm).more hB⟩
theorem ReadsN.below (h : ReadsN N w B A n l) (hb : Below B w w') : ReadsN N w' B A n l := h.keep fun _ hp => hb.cell hp
theorem ReadsN.next (h : ReadsN N w w.heap.size A n l) (hb : Below w.heap.size w w') : ReadsN N w' w'.heap.size A n l := (h.below hb).more hb.size
theorem ReadsN.nil : ReadsN N w B A 0 [] := ⟨[], rfl, ⟨by simp [Nest.flat], fun h => absurd h (by omega)⟩, by simp⟩
/-- element i: where its cells lie, and its own slice -/
theorem ReadsN.at_ {i : Nat} (h : ReadsN N w B A n l) (hi : i < n) :
    ∃ b off, A = some ⟨b, off, none⟩ ∧ b < B ∧ ∀ hl : i < l.length, ∃ hd : Hd, Reads w B 2 hd.1 (N.num l[i]) (N.kid l[i]) ∧ ∀ j u, (N.row l[i] hd.1 (N.num l[i]) hd.2)[j]? = some u → w.cell? ⟨b, off + i * N.k + j, none⟩ = some u := by
  obtain ⟨L, rfl, hr, hx⟩ := h
  obtain ⟨b, off, e, hb, hc⟩ := hr.place N.pos (by omega)
  refine ⟨b, off, e, hb, fun hl => ?_⟩
  have hL : i < L.length := by simpa using hl
  rw [List.getElem_map]
  refine ⟨L[i].2, hx _ (List.getElem_mem _), fun j u hu => ?_⟩
  have hj : j < N.k := by have := (List.getElem?_eq_some_iff.1 hu).1; rwa [N.row_len] at this
  rw [Nat.add_assoc]
  exact hc _ _ (by rw [Nest.flat_at hL hj]; exact hu)
end

/-! ### Owned: the row and the slices of its elements lie in blocks from lo to hi, no block twice -/
def sep (a b : Option Nat) : Prop := ∀ k, a = some k → b ≠ some k
theorem sep.symm {a b : Option Nat} (h : sep a b) : sep b a := fun k h1 h2 => h k h2 h1
theorem sep_lt {a b : Option Nat} {m : Nat} (ha : ∀ k, a = some k → k < m) (hb : ∀ k, b = some k → m ≤ k) : sep a b := fun k h1 h2 => by have := ha k h1; have := hb k h2; omega
def hdBlock (h : Hd) : Option Nat := (Value.slice h.1 0 0).ownBlock
theorem hdBlock_eq (A : Option Addr) (n c : Nat) (c' : Nat) : (Value.slice A n c).ownBlock = hdBlock (A, c') := by cases A <;> rfl
structure OwnN {α : Type} (N : Nest α) (w : World) (lo hi : Nat) (e ek : TypeId) (A : Option Addr) (n c : Nat) (L : List (α × Hd)) : Prop where
  row : Own w lo hi e N.k (.slice A n c) n (N.flat L)
  kids : ∀ x ∈ L, Own w lo hi ek 2 (.slice x.2.1 (N.num x.1) x.2.2) (N.num x.1) (N.kid x.1)
  apart : (L.map fun x => hdBlock x.2).Pairwise sep
  off : ∀ x ∈ L, sep (Value.slice A n c).ownBlock (hdBlock x.2)
section
variable {α : Type} {N : Nest α} {w w' : World} {lo hi n c : Nat} {e ek : TypeId} {A : Option Addr} {L : List (α × Hd)}
theorem OwnN.len (h : OwnN N w lo hi e ek A n c L) : L.length = n := by
  have := h.row.len
  rw [Nest.flat_len] at this
  exact Nat.eq_of_mul_eq_mul_right N.pos this
theorem OwnN.keep {S : Nat → Prop} (h : OwnN N w lo hi e ek A n c L) (hk : Keeps S w w') (hs : ∀ k, S k → k < lo ∨ hi ≤ k) : OwnN N w' lo hi e ek A n c L :=
  ⟨h.row.keep hk hs, fun x hx => (h.kids x hx).keep hk hs, h.apart, h.off⟩
theorem OwnN.below (h : OwnN N w lo hi e ek A n c L) (hb : Below w.heap.size w w') : OwnN N w' lo hi e ek A n c L := h.keep (S := Never) (Keeps.of_below hb) fun _ h => h.elim
theorem OwnN.wide {lo' hi' : Nat} (h : OwnN N w lo hi e ek A n c L) (h1 : lo' ≤ lo) (h2 : hi ≤ hi') : OwnN N w lo' hi' e ek A n c L :=
  ⟨h.row.wide h1 h2, fun x hx => (h.kids x hx).wide h1 h2, h.apart, h.off⟩
theorem OwnN.reads (h : OwnN N w lo hi e ek A n c L) (hh : hi ≤ w.heap.size) : ReadsN N w hi A n (L.map (·.1)) :=
  ⟨L, rfl, h.row.reads hh, fun x hx => (h.kids x hx).reads hh⟩
end
def GotN {α : Type} (N : Nest α) (w : World) (e ek : TypeId) (n : Nat) (l : List α) (r : Ending) (w' : World) : Prop :=
  ∃ A c L, r = .returned (.slice A n c) ∧ L.map (·.1) = l ∧ OwnN N w' w.heap.size w'.heap.size e ek A n c L ∧ Below w.heap.size w w'

/-! ### The kinds -/
structure Tok where
  kind : Int
  name : ByteArray
  attrs : List S2
  text : ByteArray
def tokN : Nest Tok where
  k := 4
  row t A n c := [.int .i64 t.kind, .string t.name, .slice A n c, .string t.text]
  num t := t.attrs.length
  kid t := s2V t.attrs
  row_len _ _ _ _ := rfl
  kid_len t := s2V_length t.attrs
  one t A n c u hu := by simp at hu; rcases hu with rfl | rfl | rfl | rfl <;> rfl
  pos := by omega
structure Nod where
  name : ByteArray
  text : ByteArray
  parent : Int
  attrs : List S2
def nodN : Nest Nod where
  k := 4
  row t A n c := [.string t.name, .string t.text, .int .i64 t.parent, .slice A n c]
  num t := t.attrs.length
  kid t := s2V t.attrs
  row_len _ _ _ _ := rfl
  kid_len t := s2V_length t.attrs
  one t A n c u hu := by simp at hu; rcases hu with rfl | rfl | rfl | rfl <;> rfl
  pos := by omega
abbrev Rul := ByteArray × Int
def rulV (l : List Rul) : List Value := l.flatMap fun a => [.string a.1, .int .i64 a.2]
theorem rulV_cons (a : Rul) (l : List Rul) : rulV (a :: l) = .string a.1 :: .int .i64 a.2 :: rulV l := by simp [rulV]
theorem rulV_append (l m : List Rul) : rulV (l ++ m) = rulV l ++ rulV m := by simp [rulV]
theorem rulV_length (l : List Rul) : (rulV l).length = l.length * 2 := by
  induction l with
  | nil => rfl
  | cons a l ih => rw [rulV_cons]; simp [ih]; omega
def shN : Nest (List Rul) where
  k := 1
  row t A n c := [.slice A n c]
  num t := t.length
  kid t := rulV t
  row_len _ _ _ _ := rfl
  kid_len t := rulV_length t
  one t A n c u hu := by simp at hu; subst hu; rfl
  pos := by omega
section
variable {w : World} {B n i : Nat} {A : Option Addr}
theorem ReadsN.tok {l : List Tok} (h : ReadsN tokN w B A n l) (hi : i < n) :
    ∃ b off, A = some ⟨b, off, none⟩ ∧ b < B ∧ ∀ hl : i < l.length, ∃ A' c', Reads w B 2 A' l[i].attrs.length (s2V l[i].attrs) ∧ w.cell? ⟨b, off + i * 4, none⟩ = some (.int .i64 l[i].kind) ∧
      w.cell? ⟨b, off + i * 4 + 1, none⟩ = some (.string l[i].name) ∧ w.cell? ⟨b, off + i * 4 + 2, none⟩ = some (.slice A' l[i].attrs.length c') ∧ w.cell? ⟨b, off + i * 4 + 3, none⟩ = some (.string l[i].text) := by
  obtain ⟨b, off, e, hb, hc⟩ := h.at_ hi
  refine ⟨b, off, e, hb, fun hl => ?_⟩
  obtain ⟨hd, hr, hx⟩ := hc hl
  exact ⟨hd.1, hd.2, hr, hx 0 _ rfl, hx 1 _ rfl, hx 2 _ rfl, hx 3 _ rfl⟩
theorem ReadsN.nod {l : List Nod} (h : ReadsN nodN w B A n l) (hi : i < n) :
    ∃ b off, A = some ⟨b, off, none⟩ ∧ b < B ∧ ∀ hl : i < l.length, ∃ A' c', Reads w B 2 A' l[i].attrs.length (s2V l[i].attrs) ∧ w.cell? ⟨b, off + i * 4, none⟩ = some (.string l[i].name) ∧
      w.cell? ⟨b, off + i * 4 + 1, none⟩ = some (.string l[i].text) ∧ w.cell? ⟨b, off + i * 4 + 2, none⟩ = some (.int .i64 l[i].parent) ∧ w.cell? ⟨b, off + i * 4 + 3, none⟩ = some (.slice A' l[i].attrs.length c') := by
  obtain ⟨b, off, e, hb, hc⟩ := h.at_ hi
  refine ⟨b, off, e, hb, fun hl => ?_⟩
  obtain ⟨hd, hr, hx⟩ := hc hl
  exact ⟨hd.1, hd.2, hr, hx 0 _ rfl, hx 1 _ rfl, hx 2 _ rfl, hx 3 _ rfl⟩
theorem ReadsN.sheet {l : List (List Rul)} (h : ReadsN shN w B A n l) (hi : i < n) :
    ∃ b off, A = some ⟨b, off, none⟩ ∧ b < B ∧ ∀ hl : i < l.length, ∃ A' c', Reads w B 2 A' l[i].length (rulV l[i]) ∧ w.cell? ⟨b, off + i, none⟩ = some (.slice A' l[i].length c') := by
  obtain ⟨b, off, e, hb, hc⟩ := h.at_ hi
  refine ⟨b, off, e, hb, fun hl => ?_⟩
  obtain ⟨hd, hr, hx⟩ := hc hl
  have h0 := hx 0 _ rfl
  exact ⟨hd.1, hd.2, hr, by simpa [shN] using h0⟩
end
end Go.Proofs.YtmfaihelphfbgaaDoor
