/-
  Words for slices of structs that hold one slice of two-cell elements each (tokens, nodes, sheets). No program is named. No condition.
  Contracts of the generated helpers on tokens: measure, compare, copy. Conditions: sizes of Go strings and slices.
  Words for the marks that the generated laws lay into tokens and nodes; the frame of one marked block. No program is named. No condition.
-/
import Derived.Test.YtleopmeaaabejaaP03
import Derived.Deep.RegionWith
namespace Go.Proofs.Ytleopmeaaabejaa
set_option linter.unusedVariables false
open Go.RowKit

/-- a kind of element: its cells around the header of its own slice, and that slice's cells -/
structure Nest (α : Type) where
  k : Nat
  row : α → Option Addr → Nat → Nat → List Value
  num : α → Nat
  kid : α → List Value
  row_len : ∀ a A n c, (row a A n c).length = k
  kid_len : ∀ a, (kid a).length = num a * 2
  one : ∀ a A n c, ∀ u ∈ row a A n c, u.oneCell' = true
  pos : 0 < k
abbrev Hd := Option Addr × Nat
def Nest.cells {α : Type} (N : Nest α) (x : α × Hd) : List Value := N.row x.1 x.2.1 (N.num x.1) x.2.2
def Nest.flat {α : Type} (N : Nest α) (L : List (α × Hd)) : List Value := L.flatMap N.cells
section
variable {α : Type} {N : Nest α}
theorem Nest.cells_len (x : α × Hd) : (N.cells x).length = N.k := N.row_len _ _ _ _
theorem Nest.flat_nil : N.flat [] = [] := rfl
theorem Nest.flat_cons (x : α × Hd) (L : List (α × Hd)) : N.flat (x :: L) = N.cells x ++ N.flat L := by simp [Nest.flat]
theorem Nest.flat_append (L M : List (α × Hd)) : N.flat (L ++ M) = N.flat L ++ N.flat M := by simp [Nest.flat]
theorem Nest.flat_len (L : List (α × Hd)) : (N.flat L).length = L.length * N.k := by
  induction L with
  | nil => simp [Nest.flat]
  | cons x L ih => rw [Nest.flat_cons, List.length_append, ih, Nest.cells_len, List.length_cons, Nat.succ_mul]; omega
theorem Nest.flat_at {L : List (α × Hd)} {i j : Nat} (hi : i < L.length) (hj : j < N.k) : (N.flat L)[i * N.k + j]? = (N.cells L[i])[j]? := by
  induction L generalizing i with
  | nil => simp at hi
  | cons x L ih =>
    rw [Nest.flat_cons]
    cases i with
    | zero => rw [List.getElem?_append_left (by rw [Nest.cells_len]; omega)]; simp
    | succ i =>
      rw [List.getElem?_append_right (by rw [Nest.cells_len, Nat.succ_mul]; omega), Nest.cells_len, show (i + 1) * N.k + j - N.k = i * N.k + j by rw [Nat.succ_mul]; omega]
      exact ih (by simpa using hi)
theorem Nest.flat_take (L : List (α × Hd)) (i : Nat) : (N.flat L).take (i * N.k) = N.flat (L.take i) := by
  induction L generalizing i with
  | nil => simp [Nest.flat]
  | cons x L ih =>
    cases i with
    | zero => simp [Nest.flat]
    | succ i => rw [Nest.flat_cons, List.take_succ_cons, Nest.flat_cons, List.take_append, Nest.cells_len, show (i + 1) * N.k - N.k = i * N.k by rw [Nat.succ_mul]; omega, ih, List.take_of_length_le (by rw [Nest.cells_len, Nat.succ_mul]; omega)]
theorem Nest.flat_one (L : List (α × Hd)) : ∀ u ∈ N.flat L, u.oneCell' = true := by
  intro u hu
  obtain ⟨x, _, h⟩ := List.mem_flatMap.1 hu
  exact N.one _ _ _ _ u h
end

/-! ### Read -/
def ReadsN {α : Type} (N : Nest α) (w : World) (B : Nat) (A : Option Addr) (n : Nat) (l : List α) : Prop :=
  ∃ L : List (α × Hd), L.map (·.1) = l ∧ Reads w B N.k A n (N.flat L) ∧ ∀ x ∈ L, Reads w B 2 x.2.1 (N.num x.1) (N.kid x.1)
section
variable {α : Type} {N : Nest α} {w w' : World} {B B' n : Nat} {A : Option Addr} {l : List α}
theorem ReadsN.len (h : ReadsN N w B A n l) : l.length = n := by
  obtain ⟨L, rfl, hr, _⟩ := h
  have := hr.1
  rw [Nest.flat_len] at this
  rw [List.length_map]
  exact Nat.eq_of_mul_eq_mul_right N.pos this
theorem ReadsN.keep (h : ReadsN N w B A n l) (hk : ∀ p : Addr, p.block < B → w'.cell? p = w.cell? p) : ReadsN N w' B A n l := by
  obtain ⟨L, e, hr, hx⟩ := h
  exact ⟨L, e, hr.keep hk, fun x hm => (hx x hm).keep hk⟩
theorem ReadsN.more (h : ReadsN N w B A n l) (hB : B ≤ B') : ReadsN N w B' A n l := by
  obtain ⟨L, e, hr, hx⟩ := h
  exact ⟨L, e, hr.more hB, fun x hm => (hx x hm).more hB⟩
theorem ReadsN.below (h : ReadsN N w B A n l) (hb : Below B w w') : ReadsN N w' B A n l := h.keep fun _ hp => hb.cell hp
theorem ReadsN.next (h : ReadsN N w w.heap.size A n l) (hb : Below w.heap.size w w') : ReadsN N w' w'.heap.size A n l := (h.below hb).more hb.size
theorem ReadsN.nil : ReadsN N w B A 0 [] := ⟨[], rfl, ⟨by simp [Nest.flat], fun h => absurd h (by omega)⟩, by simp⟩
/-- element i: where its cells lie, and its own slice -/
theorem ReadsN.at_ {i : Nat} (h : ReadsN N w B A n l) (hi : i < n) :
    ∃ b off, A = some ⟨b, off, none⟩ ∧ b < B ∧ ∀ hl : i < l.length, ∃ hd : Hd, Reads w B 2 hd.1 (N.num l[i]) (N.kid l[i]) ∧ ∀ j u, (N.row l[i] hd.1 (N.num l[i]) hd.2)[j]? = some u → w.cell? ⟨b, off + i * N.k + j, none⟩ = some u := by
  obtain ⟨L, rfl, hr, hx⟩ := h
  obtain ⟨b, off, e, hb, hc⟩ := hr.place N.pos (by omega)
  refine ⟨b, off, e, hb, fun hl => ?_⟩
  have hL : i < L.length := by simpa using hl
  rw [List.getElem_map]
  refine ⟨L[i].2, hx _ (List.getElem_mem _), fun j u hu => ?_⟩
  have hj : j < N.k := by have := (List.getElem?_eq_some_iff.1 hu).1; rwa [N.row_len] at this
  rw [Nat.add_assoc]
  exact hc _ _ (by rw [Nest.flat_at hL hj]; exact hu)
end

/-! ### Owned: the row and the slices of its elements lie in blocks from lo to hi, no block twice -/
def sep (a b : Option Nat) : Prop := ∀ k, a = some k → b ≠ some k
theorem sep.symm {a b : Option Nat} (h : sep a b) : sep b a := fun k h1 h2 => h k h2 h1
theorem sep_lt {a b : Option Nat} {m : Nat} (ha : ∀ k, a = some k → k < m) (hb : ∀ k, b = some k → m ≤ k) : sep a b := fun k h1 h2 => by have := ha k h1; have := hb k h2; omega
def hdBlock (h : Hd) : Option Nat := (Value.slice h.1 0 0).ownBlock
theorem hdBlock_eq (A : Option Addr) (n c : Nat) (c' : Nat) : (Value.slice A n c).ownBlock = hdBlock (A, c') := by cases A <;> rfl
structure OwnN {α : Type} (N : Nest α) (w : World) (lo hi : Nat) (e ek : TypeId) (A : Option Addr) (n c : Nat) (L : List (α × Hd)) : Prop where
  row : Own w lo hi e N.k (.slice A n c) n (N.flat L)
  kids : ∀ x ∈ L, Own w lo hi ek 2 (.slice x.2.1 (N.num x.1) x.2.2) (N.num x.1) (N.kid x.1)
  apart : (L.map fun x => hdBlock x.2).Pairwise sep
  off : ∀ x ∈ L, sep (Value.slice A n c).ownBlock (hdBlock x.2)
section
variable {α : Type} {N : Nest α} {w w' : World} {lo hi n c : Nat} {e ek : TypeId} {A : Option Addr} {L : List (α × Hd)}
theorem OwnN.len (h : OwnN N w lo hi e ek A n c L) : L.length = n := by
  have := h.row.len
  rw [Nest.flat_len] at this
  exact Nat.eq_of_mul_eq_mul_right N.pos this
theorem OwnN.keep {S : Nat → Prop} (h : OwnN N w lo hi e ek A n c L) (hk : Keeps S w w') (hs : ∀ k, S k → k < lo ∨ hi ≤ k) : OwnN N w' lo hi e ek A n c L :=
  ⟨h.row.keep hk hs, fun x hx => (h.kids x hx).keep hk hs, h.apart, h.off⟩
theorem OwnN.below (h : OwnN N w lo hi e ek A n c L) (hb : Below w.heap.size w w') : OwnN N w' lo hi e ek A n c L := h.keep (S := Never) (Keeps.of_below hb) fun _ h => h.elim
theorem OwnN.wide {lo' hi' : Nat} (h : OwnN N w lo hi e ek A n c L) (h1 : lo' ≤ lo) (h2 : hi ≤ hi') : OwnN N w lo' hi' e ek A n c L :=
  ⟨h.row.wide h1 h2, fun x hx => (h.kids x hx).wide h1 h2, h.apart, h.off⟩
theorem OwnN.reads (h : OwnN N w lo hi e ek A n c L) (hh : hi ≤ w.heap.size) : ReadsN N w hi A n (L.map (·.1)) :=
  ⟨L, rfl, h.row.reads hh, fun x hx => (h.kids x hx).reads hh⟩
end
def GotN {α : Type} (N : Nest α) (w : World) (e ek : TypeId) (n : Nat) (l : List α) (r : Ending) (w' : World) : Prop :=
  ∃ A c L, r = .returned (.slice A n c) ∧ L.map (·.1) = l ∧ OwnN N w' w.heap.size w'.heap.size e ek A n c L ∧ Below w.heap.size w w'

/-! ### The kinds -/
structure Tok where
  kind : Int
  name : ByteArray
  attrs : List S2
  text : ByteArray
def tokN : Nest Tok where
  k := 4
  row t A n c := [.int .i64 t.kind, .string t.name, .slice A n c, .string t.text]
  num t := t.attrs.length
  kid t := s2V t.attrs
  row_len _ _ _ _ := rfl
  kid_len t := s2V_length t.attrs
  one t A n c u hu := by simp at hu; rcases hu with rfl | rfl | rfl | rfl <;> rfl
  pos := by omega
structure Nod where
  name : ByteArray
  text : ByteArray
  parent : Int
  attrs : List S2
def nodN : Nest Nod where
  k := 4
  row t A n c := [.string t.name, .string t.text, .int .i64 t.parent, .slice A n c]
  num t := t.attrs.length
  kid t := s2V t.attrs
  row_len _ _ _ _ := rfl
  kid_len t := s2V_length t.attrs
  one t A n c u hu := by simp at hu; rcases hu with rfl | rfl | rfl | rfl <;> rfl
  pos := by omega
abbrev Rul := ByteArray × Int
def rulV (l : List Rul) : List Value := l.flatMap fun a => [.string a.1, .int .i64 a.2]
theorem rulV_cons (a : Rul) (l : List Rul) : rulV (a :: l) = .string a.1 :: .int .i64 a.2 :: rulV l := by simp [rulV]
theorem rulV_append (l m : List Rul) : rulV (l ++ m) = rulV l ++ rulV m := by simp [rulV]
theorem rulV_length (l : List Rul) : (rulV l).length = l.length * 2 := by
  induction l with
  | nil => rfl
  | cons a l ih => rw [rulV_cons]; simp [ih]; omega
def shN : Nest (List Rul) where
  k := 1
  row t A n c := [.slice A n c]
  num t := t.length
  kid t := rulV t
  row_len _ _ _ _ := rfl
  kid_len t := rulV_length t
  one t A n c u hu := by simp at hu; subst hu; rfl
  pos := by omega
section
variable {w : World} {B n i : Nat} {A : Option Addr}
theorem ReadsN.tok {l : List Tok} (h : ReadsN tokN w B A n l) (hi : i < n) :
    ∃ b off, A = some ⟨b, off, none⟩ ∧ b < B ∧ ∀ hl : i < l.length, ∃ A' c', Reads w B 2 A' l[i].attrs.length (s2V l[i].attrs) ∧ w.cell? ⟨b, off + i * 4, none⟩ = some (.int .i64 l[i].kind) ∧
      w.cell? ⟨b, off + i * 4 + 1, none⟩ = some (.string l[i].name) ∧ w.cell? ⟨b, off + i * 4 + 2, none⟩ = some (.slice A' l[i].attrs.length c') ∧ w.cell? ⟨b, off + i * 4 + 3, none⟩ = some (.string l[i].text) := by
  obtain ⟨b, off, e, hb, hc⟩ := h.at_ hi
  refine ⟨b, off, e, hb, fun hl => ?_⟩
  obtain ⟨hd, hr, hx⟩ := hc hl
  exact ⟨hd.1, hd.2, hr, hx 0 _ rfl, hx 1 _ rfl, hx 2 _ rfl, hx 3 _ rfl⟩
theorem ReadsN.nod {l : List Nod} (h : ReadsN nodN w B A n l) (hi : i < n) :
    ∃ b off, A = some ⟨b, off, none⟩ ∧ b < B ∧ ∀ hl : i < l.length, ∃ A' c', Reads w B 2 A' l[i].attrs.length (s2V l[i].attrs) ∧ w.cell? ⟨b, off + i * 4, none⟩ = some (.string l[i].name) ∧
      w.cell? ⟨b, off + i * 4 + 1, none⟩ = some (.string l[i].text) ∧ w.cell? ⟨b, off + i * 4 + 2, none⟩ = some (.int .i64 l[i].parent) ∧ w.cell? ⟨b, off + i * 4 + 3, none⟩ = some (.slice A' l[i].attrs.length c') := by
  obtain ⟨b, off, e, hb, hc⟩ := h.at_ hi
  refine ⟨b, off, e, hb, fun hl => ?_⟩
  obtain ⟨hd, hr, hx⟩ := hc hl
  exact ⟨hd.1, hd.2, hr, hx 0 _ rfl, hx 1 _ rfl, hx 2 _ rfl, hx 3 _ rfl⟩
theorem ReadsN.sheet {l : List (List Rul)} (h : ReadsN shN w B A n l) (hi : i < n) :
    ∃ b off, A = some ⟨b, off, none⟩ ∧ b < B ∧ ∀ hl : i < l.length, ∃ A' c', Reads w B 2 A' l[i].length (rulV l[i]) ∧ w.cell? ⟨b, off + i, none⟩ = some (.slice A' l[i].length c') := by
  obtain ⟨b, off, e, hb, hc⟩ := h.at_ hi
  refine ⟨b, off, e, hb, fun hl => ?_⟩
  obtain ⟨hd, hr, hx⟩ := hc hl
  have h0 := hx 0 _ rfl
  exact ⟨hd.1, hd.2, hr, by simpa [shN] using h0⟩
end
end Go.Proofs.Ytleopmeaaabejaa

namespace Go.Proofs.Ytleopmeaaabejaa
set_option linter.unusedVariables false
set_option linter.unusedSimpArgs false
set_option maxRecDepth 100000
open Go.ChangeShapes Go.WideShapes Go.ChangeAt Go.RowKit Go.Deep

theorem Own.set {w : World} {lo hi : Nat} {e : TypeId} {size n : Nat} {v : Value} {xs : List Value} (h : Own w lo hi e size v n xs) {p : Addr} (hp : p.block < lo) (u : Value) : Own (w.setCell p u) lo hi e size v n xs :=
  h.keep (keeps_set (S := fun k => k = p.block) w u rfl) fun k hk => .inl (by rw [hk]; exact hp)
theorem Own.drew {w : World} {lo hi : Nat} {e : TypeId} {size n : Nat} {v : Value} {xs : List Value} (h : Own w lo hi e size v n xs) : Own w.drew lo hi e size v n xs := h
theorem Own.ge {w : World} {lo hi : Nat} {e : TypeId} {size n : Nat} {v : Value} {xs : List Value} (h : Own w lo hi e size v n xs) : ∀ k, v.ownBlock = some k → lo ≤ k := fun k hk => (h.1.lt k hk).1
/-- one token with its attributes in blocks of the call's own -/
def GotTok (w : World) (ek : TypeId) (t : Tok) (r : Ending) (w' : World) : Prop :=
  ∃ A c, r = .returned (.agg #[.int .i64 t.kind, .string t.name, .slice A t.attrs.length c, .string t.text]) ∧ Own w' w.heap.size w'.heap.size ek 2 (.slice A t.attrs.length c) t.attrs.length (s2V t.attrs) ∧ Below w.heap.size w w'
def tokSz (t : Tok) : Int := t.name.size + (t.attrs.length + s2sz t.attrs) + t.text.size

end Go.Proofs.Ytleopmeaaabejaa

namespace Go.Proofs.Ytleopmeaaabejaa
set_option linter.unusedVariables false
open Go.RowKit

def totN (cs : List Nat) : Int := (cs.map fun c : Nat => 3 + 2 * (c : Int)).sum
theorem totN_cons (c : Nat) (cs : List Nat) : totN (c :: cs) = 3 + 2 * c + totN cs := by simp [totN]
theorem totN_nonneg (cs : List Nat) : 0 ≤ totN cs := by
  induction cs with
  | nil => simp [totN]
  | cons c cs ih => rw [totN_cons]; omega
theorem totN_split (cs : List Nat) (k : Nat) : totN cs = totN (cs.take k) + totN (cs.drop k) := by
  rw [totN, totN, totN, ← List.sum_append, ← List.map_append, List.take_append_drop]
theorem totN_take {cs : List Nat} {k : Nat} (h : k < cs.length) : totN (cs.take (k + 1)) = totN (cs.take k) + (3 + 2 * (cs[k] : Int)) := by
  rw [List.take_succ_eq_append_getElem h, totN, totN, List.map_append, List.sum_append]; simp
theorem totN_le (cs : List Nat) (k : Nat) : totN (cs.take k) ≤ totN cs := by
  have := totN_split cs k
  have := totN_nonneg (cs.drop k)
  omega
def mkTok (q : Int) (c : Nat) : Tok := ⟨q, mkT (q + 1), mkL (q + 1 + 1) c, mkT (q + 1 + 1 + 2 * c)⟩
def mkNod (q : Int) (c : Nat) : Nod := ⟨mkT q, mkT (q + 1), q + 1 + 1, mkL (q + 1 + 1 + 1) c⟩
def mkNs {α : Type} (f : Int → Nat → α) : Int → List Nat → List α
  | _, [] => []
  | q, c :: cs => f q c :: mkNs f (q + (3 + 2 * c)) cs
theorem mkNs_len {α : Type} (f : Int → Nat → α) (q : Int) (cs : List Nat) : (mkNs f q cs).length = cs.length := by
  induction cs generalizing q with
  | nil => rfl
  | cons c cs ih => simp [mkNs, ih]
theorem mkNs_get {α : Type} (f : Int → Nat → α) {q : Int} {cs : List Nat} {k : Nat} (h : k < (mkNs f q cs).length) (hk : k < cs.length) : (mkNs f q cs)[k] = f (q + totN (cs.take k)) cs[k] := by
  induction cs generalizing q k with
  | nil => simp at hk
  | cons c cs ih =>
    cases k with
    | zero => simp [mkNs, totN]
    | succ k =>
      simp only [mkNs, List.getElem_cons_succ, List.take_succ_cons]
      rw [ih (by simpa [mkNs] using h) (by simpa using hk), totN_cons]
      congr 1
      omega
/-- the headers of L around the marked elements -/
def remark {α : Type} (f : Int → Nat → α) (q : Int) (cs : List Nat) (L : List (α × Hd)) : List (α × Hd) := List.zipWith (fun t (x : α × Hd) => (t, x.2)) (mkNs f q cs) L
theorem remark_len {α : Type} (f : Int → Nat → α) {q : Int} {cs : List Nat} {L : List (α × Hd)} (h : cs.length = L.length) : (remark f q cs L).length = L.length := by
  simp [remark, mkNs_len, h]
theorem remark_get {α : Type} (f : Int → Nat → α) {q : Int} {cs : List Nat} {L : List (α × Hd)} {k : Nat} (h : k < (remark f q cs L).length) (hk : k < cs.length) (hL : k < L.length) : (remark f q cs L)[k] = (f (q + totN (cs.take k)) cs[k], L[k].2) := by
  simp only [remark, List.getElem_zipWith]
  rw [mkNs_get f (by rw [mkNs_len]; exact hk) hk]
theorem remark_fst {α : Type} (f : Int → Nat → α) {q : Int} {cs : List Nat} {L : List (α × Hd)} (h : cs.length = L.length) : (remark f q cs L).map (·.1) = mkNs f q cs := by
  apply List.ext_getElem
  · rw [List.length_map, remark_len f h, mkNs_len, h]
  · intro i h1 h2
    rw [List.length_map, remark_len f h] at h1
    rw [List.getElem_map, remark_get f (by rw [remark_len f h]; exact h1) (by omega) h1, mkNs_get f h2 (by omega)]

/-! ### One row narrowed to its own block -/
theorem keeps_cell {S : Nat → Prop} {w w' : World} (h : Keeps S w w') {b o : Nat} (hb : b < w.heap.size) (hs : ¬ S b) : w'.cell? ⟨b, o, none⟩ = w.cell? ⟨b, o, none⟩ := by
  unfold World.cell?
  simp only [h.block b hb hs]
theorem Own.narrow {w : World} {lo hi : Nat} {e : TypeId} {size n : Nat} {v : Value} {xs : List Value} (h : Own w lo hi e size v n xs) :
    ∃ lo' hi', Own w lo' hi' e size v n xs ∧ hi' ≤ hi ∧ lo' ≤ hi' ∧ (∀ k, Span lo' hi' k → v.ownBlock = some k) ∧ ∀ (w' : World) (xs' : List Value), Own w' lo' hi' e size v n xs' → Own w' lo hi e size v n xs' := by
  obtain ⟨⟨h1, h2⟩, h3⟩ := h
  rcases h2 with hn | ⟨g, cap, cur, rfl, hb, rest⟩
  · refine ⟨0, 0, ⟨⟨h1, .inl hn⟩, fun k hk => by rw [hn.1] at hk; cases hk⟩, by omega, by omega, fun k hk => by have := hk.1; have := hk.2; omega, fun w' xs' h' => ⟨⟨h'.1.1, ?_⟩, fun k hk => by rw [hn.1] at hk; cases hk⟩⟩
    rcases h'.1.2 with hn' | ⟨g, cap, cur, hv, _⟩
    · exact .inl hn'
    · rw [hn.1] at hv; injection hv with hv; cases hv
  · have hg := h3 g rfl
    refine ⟨g, g + 1, ⟨⟨h1, .inr ⟨g, cap, cur, rfl, Nat.le_refl _, rest⟩⟩, fun k hk => ?_⟩, by omega, by omega, fun k hk => ?_, fun w' xs' h' => h'.wide hb (by omega)⟩
    · have e : some g = some k := hk
      injection e with e
      omega
    · have h1 := hk.1
      have h2 := hk.2
      show some g = some k
      congr 1
      omega
theorem own_any {w : World} {lo e g n c size idx : Nat} {cur : List Value} (h : w.ownsRow lo e size (.slice (some ⟨g, 0, none⟩) n c) n cur) (hk : idx < n * size) :
    ∃ u, w.cell? ⟨g, idx, none⟩ = some u ∧ w.frozen? ⟨g, idx, none⟩ = false := by
  have hl : cur.length = n * size := h.1
  have h1 := h.cellAt idx (by omega)
  rw [List.getElem?_eq_getElem (by omega)] at h1
  exact ⟨_, h1, h.frozenAt _⟩
theorem own_val {w : World} {lo e g n c size idx : Nat} {cur : List Value} {u : Value} (h : w.ownsRow lo e size (.slice (some ⟨g, 0, none⟩) n c) n cur) (hk : cur[idx]? = some u) :
    w.cell? ⟨g, idx, none⟩ = some u := by
  have hl : cur.length = n * size := h.1
  have hi := (List.getElem?_eq_some_iff.1 hk).1
  rw [h.cellAt idx (by omega), hk]
theorem Own.elsewhere {w w' : World} {lo hi : Nat} {e : TypeId} {size n : Nat} {v : Value} {xs : List Value} {S : Nat → Prop} (h : Own w lo hi e size v n xs) (hk : Keeps S w w') (hs : ∀ k, S k → v.ownBlock ≠ some k) : Own w' lo hi e size v n xs := by
  refine ⟨⟨h.1.1, ?_⟩, h.2⟩
  rcases h.1.2 with hn | ⟨g, cap, cur, rfl, hb, hg, rest⟩
  · exact .inl hn
  · refine .inr ⟨g, cap, cur, rfl, hb, ?_, rest⟩
    rw [hk.block g (Array.getElem?_eq_some_iff.1 hg).1 (fun hS => hs g hS rfl)]
    exact hg
/-- what a row of marked elements is filled to, cell by cell -/
theorem set_take {cur T : List Value} {i : Nat} (h : cur.take i = T.take i) {u : Value} (hu : T[i]? = some u) (hc : i < cur.length) : (cur.set i u).take (i + 1) = T.take (i + 1) := by
  obtain ⟨hi, rfl⟩ := List.getElem?_eq_some_iff.1 hu
  exact take_set_succ h hi hc
theorem take_more {cur T : List Value} {i : Nat} {u : Value} (h : cur.take i = T.take i) (hc : cur[i]? = some u) (hT : T[i]? = some u) : cur.take (i + 1) = T.take (i + 1) := by
  obtain ⟨h1, e1⟩ := List.getElem?_eq_some_iff.1 hc
  obtain ⟨h2, e2⟩ := List.getElem?_eq_some_iff.1 hT
  exact take_succ_eq h1 h2 h (e1.trans e2.symm)
theorem set_drop {cur T : List Value} {i j : Nat} (h : cur.drop j = T.drop j) (u : Value) (hij : i < j) : (cur.set i u).drop j = T.drop j := by
  rw [List.drop_set_of_lt hij, h]
theorem drop_more {cur T : List Value} {i j : Nat} (h : cur.drop i = T.drop i) (hij : i ≤ j) : cur.drop j = T.drop j := by
  obtain ⟨m, rfl⟩ := Nat.exists_eq_add_of_le hij
  rw [← List.drop_drop, ← List.drop_drop, h]
theorem drop_get {cur T : List Value} {i j : Nat} (h : cur.drop i = T.drop i) (hij : i ≤ j) : cur[j]? = T[j]? := by
  obtain ⟨m, rfl⟩ := Nat.exists_eq_add_of_le hij
  have := congrArg (fun l => l[m]?) h
  simpa using this
theorem pair_sep {l : List (Option Nat)} (h : l.Pairwise sep) {i j : Nat} (hi : i < l.length) (hj : j < l.length) (hij : i ≠ j) : sep l[i] l[j] := by
  rcases Nat.lt_or_gt_of_ne hij with h1 | h1
  · exact List.pairwise_iff_getElem.1 h i j hi hj h1
  · exact (List.pairwise_iff_getElem.1 h j i hj hi h1).symm
theorem mkTok_attrs (q : Int) (c : Nat) : (mkTok q c).attrs.length = c := by simp [mkTok, mkL_length]
theorem mkNod_attrs (q : Int) (c : Nat) : (mkNod q c).attrs.length = c := by simp [mkNod, mkL_length]
end Go.Proofs.Ytleopmeaaabejaa
