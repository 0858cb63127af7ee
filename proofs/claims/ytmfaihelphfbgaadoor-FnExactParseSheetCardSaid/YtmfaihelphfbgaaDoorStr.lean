/-
  Words for pairs of strings (addresses, attributes) and slices of them. No program is named. No condition.
-/
import Derived.Test.YtmfaihelphfbgaaDoorMem
import Derived.Deep.Slices
import Derived.Deep.Fields
import Derived.ChangeSame
namespace Go.Proofs.YtmfaihelphfbgaaDoor
set_option linter.unusedVariables false
open Go.RowKit

abbrev S2 := ByteArray × ByteArray
def s2V (l : List S2) : List Value := l.flatMap fun a => [.string a.1, .string a.2]
theorem s2V_nil : s2V [] = [] := rfl
theorem s2V_cons (a : S2) (l : List S2) : s2V (a :: l) = .string a.1 :: .string a.2 :: s2V l := by simp [s2V]
theorem s2V_append (l m : List S2) : s2V (l ++ m) = s2V l ++ s2V m := by simp [s2V]
theorem s2V_length (l : List S2) : (s2V l).length = l.length * 2 := by
  induction l with
  | nil => rfl
  | cons a l ih => rw [s2V_cons]; simp [ih]; omega
theorem s2V_at0 {l : List S2} {k : Nat} (h : k < l.length) : (s2V l)[k * 2]? = some (.string l[k].1) := by
  induction l generalizing k with
  | nil => simp at h
  | cons a l ih =>
    rw [s2V_cons]
    cases k with
    | zero => simp
    | succ k => rw [show (k + 1) * 2 = k * 2 + 1 + 1 from by omega]; simp only [List.getElem?_cons_succ]; rw [ih (by simpa using h)]; rfl
theorem s2V_at1 {l : List S2} {k : Nat} (h : k < l.length) : (s2V l)[k * 2 + 1]? = some (.string l[k].2) := by
  induction l generalizing k with
  | nil => simp at h
  | cons a l ih =>
    rw [s2V_cons]
    cases k with
    | zero => simp
    | succ k => rw [show (k + 1) * 2 + 1 = k * 2 + 1 + 1 + 1 from by omega]; simp only [List.getElem?_cons_succ]; rw [ih (by simpa using h)]; rfl
theorem s2V_take (l : List S2) (k : Nat) : (s2V l).take (k * 2) = s2V (l.take k) := by
  induction l generalizing k with
  | nil => simp [s2V]
  | cons a l ih =>
    cases k with
    | zero => simp [s2V]
    | succ k => rw [s2V_cons, show (k + 1) * 2 = k * 2 + 1 + 1 from by omega, List.take_succ_cons, List.take_succ_cons, ih, List.take_succ_cons, s2V_cons]
theorem s2V_drop (l : List S2) (k : Nat) : (s2V l).drop (k * 2) = s2V (l.drop k) := by
  induction l generalizing k with
  | nil => simp [s2V]
  | cons a l ih =>
    cases k with
    | zero => simp
    | succ k => rw [s2V_cons, show (k + 1) * 2 = k * 2 + 1 + 1 from by omega, List.drop_succ_cons, List.drop_succ_cons, ih, List.drop_succ_cons]
theorem s2V_inj {l m : List S2} (h : s2V l = s2V m) : l = m := by
  induction l generalizing m with
  | nil => cases m with
    | nil => rfl
    | cons b m => rw [s2V_cons] at h; cases h
  | cons a l ih => cases m with
    | nil => rw [s2V_cons] at h; cases h
    | cons b m =>
      rw [s2V_cons, s2V_cons] at h
      injection h with h1 h2
      injection h2 with h2 h3
      injection h1 with h1
      injection h2 with h2
      rw [ih h3, Prod.ext h1 h2]
theorem s2_one (l : List S2) : ∀ u ∈ s2V l, u.oneCell' = true := by
  intro u hu
  simp only [s2V, List.mem_flatMap] at hu
  obtain ⟨a, _, h⟩ := hu
  simp at h
  rcases h with rfl | rfl <;> rfl
theorem Reads.two {w : World} {B n k : Nat} {A : Option Addr} {l : List S2} (h : Reads w B 2 A n (s2V l)) (hk : k < n) :
    ∃ b off, A = some ⟨b, off, none⟩ ∧ b < B ∧ ∀ hl : k < l.length, w.cell? ⟨b, off + k * 2, none⟩ = some (.string l[k].1) ∧ w.cell? ⟨b, off + k * 2 + 1, none⟩ = some (.string l[k].2) := by
  obtain ⟨b, off, e, hb, hc⟩ := h.place (by omega) (by omega)
  exact ⟨b, off, e, hb, fun hl => ⟨hc _ _ (s2V_at0 hl), by rw [Nat.add_assoc]; exact hc _ _ (s2V_at1 hl)⟩⟩
theorem Reads.len2 {w : World} {B n : Nat} {A : Option Addr} {l : List S2} (h : Reads w B 2 A n (s2V l)) : l.length = n := by
  have := h.1; rw [s2V_length] at this; omega
theorem own_two {w : World} {lo e g n c k : Nat} {cur : List Value} (h : w.ownsRow lo e 2 (.slice (some ⟨g, 0, none⟩) n c) n cur) (hk : k < n) :
    (∃ u, w.cell? ⟨g, k * 2, none⟩ = some u ∧ w.frozen? ⟨g, k * 2, none⟩ = false) ∧ ∃ u, w.cell? ⟨g, k * 2 + 1, none⟩ = some u ∧ w.frozen? ⟨g, k * 2 + 1, none⟩ = false := by
  have hl : cur.length = n * 2 := h.1
  have h1 := h.cellAt (k * 2) (by omega)
  have h2 := h.cellAt (k * 2 + 1) (by omega)
  rw [List.getElem?_eq_getElem (by omega)] at h1 h2
  exact ⟨⟨_, h1, h.frozenAt _⟩, _, h2, h.frozenAt _⟩
/-- two cells written: the row is right up to one element more -/
theorem fill_two {cur : List Value} {l : List S2} {k : Nat} (h : cur.take (k * 2) = (s2V l).take (k * 2)) (hk : k < l.length) (hc : k * 2 + 1 < cur.length) :
    ((cur.set (k * 2) (.string l[k].1)).set (k * 2 + 1) (.string l[k].2)).take ((k + 1) * 2) = (s2V l).take ((k + 1) * 2) := by
  have hl := s2V_length l
  have g0 : (s2V l)[k * 2]'(by omega) = .string l[k].1 := by have := s2V_at0 hk; rw [List.getElem?_eq_getElem (by omega)] at this; exact Option.some.inj this
  have g1 : (s2V l)[k * 2 + 1]'(by omega) = .string l[k].2 := by have := s2V_at1 hk; rw [List.getElem?_eq_getElem (by omega)] at this; exact Option.some.inj this
  have h1 := take_set_succ h (by omega) (by omega)
  rw [g0] at h1
  have h2 := take_set_succ h1 (by omega) (by simpa using hc)
  rw [g1] at h2
  rw [show (k + 1) * 2 = k * 2 + 1 + 1 from by omega]
  exact h2
def s2sz (l : List S2) : Int := (l.map fun a => (a.1.size : Int) + a.2.size).sum
theorem s2sz_cons (a : S2) (l : List S2) : s2sz (a :: l) = a.1.size + a.2.size + s2sz l := by simp [s2sz]
theorem s2sz_nonneg (l : List S2) : 0 ≤ s2sz l := by
  induction l with
  | nil => simp [s2sz]
  | cons a l ih => rw [s2sz_cons]; omega
theorem s2sz_take {l : List S2} {k : Nat} (h : k < l.length) : s2sz (l.take (k + 1)) = s2sz (l.take k) + (l[k].1.size + l[k].2.size) := by
  rw [List.take_succ_eq_append_getElem h, s2sz, s2sz, List.map_append, List.sum_append]; simp
theorem s2sz_mem {l : List S2} {a : S2} (h : a ∈ l) : (a.1.size : Int) + a.2.size ≤ s2sz l := by
  induction l with
  | nil => cases h
  | cons b l ih =>
    rw [s2sz_cons]
    have := s2sz_nonneg l
    rcases List.mem_cons.1 h with rfl | h
    · omega
    · have := ih h; omega

/-! ### The argument opened -/
theorem exists_list {α : Type} {p : Nat → α → Prop} : ∀ n : Nat, (∀ i, i < n → ∃ x, p i x) → ∃ l : List α, l.length = n ∧ ∀ i (h : i < l.length), p i l[i] := by
  intro n
  induction n with
  | zero => intro _; exact ⟨[], rfl, fun i h => absurd h (by simp)⟩
  | succ n ih =>
    intro h
    obtain ⟨l, hl, hp⟩ := ih fun i hi => h i (by omega)
    obtain ⟨x, hx⟩ := h n (by omega)
    refine ⟨l ++ [x], by simp [hl], fun i hi => ?_⟩
    rw [List.length_append, List.length_singleton] at hi
    rw [List.getElem_append]
    split
    · exact hp i _
    · rename_i hn
      have : i = n := by omega
      subst this
      simp [hl]
      exact hx
section
open Go.ChangeShapes Go.WideShapes Go.Deep
variable {H : Type} {enc : TypeId × Value → H} {P : Program} {w : World} {base : Nat} {spare : Nat → Bool} {held : Bool}
theorem open_slice_fields {t e : TypeId} {fs : Array Field} {fuel : Nat} {cs : List Value} {x : DataW H × List MemPlace} (ht : P.underlying t = some (.slice e)) (he : P.underlying e = some (.struct fs))
    (hone : oneCellFields P fs = true) (hC : P.cellsOf e = fs.size) (h : DataW.trod enc P w base spare held fuel t cs = some x) :
    (cs = [.slice none 0 0] ∧ x = (.nil, [])) ∨
    ∃ (a : Addr) (len cap m : Nat) (D : Nat → DataW H) (Pl : Nat → List MemPlace), cs = [.slice (some a) len cap] ∧ base ≤ a.block ∧ len ≤ cap ∧ cap ≤ maxLen ∧ m = (if spare a.block then cap else len) ∧
      x = (.slice ((List.range len).map D) ((List.range (m - len)).map fun j => D (len + j)), MemPlace.row a (m * fs.size) ++ (List.range m).flatMap Pl) ∧
      ∀ i, i < m → ∃ (ys : List (DataW H × List MemPlace)) (n : Nat), D i = .agg (ys.map (·.1)) ∧ Pl i = ys.flatMap (·.2) ∧ ys.length = fs.size ∧
        ∀ (j : Nat) (f : Field), fs[j]? = some f → ∃ (v : Value) (y : DataW H × List MemPlace), w.cell? (a.add (i * fs.size + j)) = some v ∧ ys[j]? = some y ∧ DataW.trod enc P w base spare held n f.type [v] = some y := by
  rcases open_slice ht h with h0 | ⟨a, len, cap, m, n, D, Pl, hcs, hb, hl, hm, hmm, hx, hi⟩
  · exact .inl h0
  · refine .inr ⟨a, len, cap, m, D, Pl, hcs, hb, hl, hm, hmm, by rw [hC] at hx; exact hx, fun i him => ?_⟩
    obtain ⟨cs', hc, ht'⟩ := hi i him
    rw [hC] at hc
    obtain ⟨ys, n', hn', hy, hlen, hyl, hf⟩ := DataW.trod_struct he ht'
    obtain ⟨_, hcl, hat⟩ := World.cells?_some hc
    simp only [Prod.mk.injEq] at hy
    refine ⟨ys, n', hy.1, hy.2, hyl, fun j f hj => ?_⟩
    obtain ⟨ho, hk⟩ := hone_of hone j f hj
    have hjl : j < fs.size := (Array.getElem?_eq_some_iff.1 hj).1
    have hcell := hat j hjl
    have hv : cs'[j]? = some (cs'[j]'(by omega)) := List.getElem?_eq_getElem (by omega)
    have h1 := hf j f hj
    rw [ho, hk] at h1
    have hone' : (cs'.drop j).take 1 = [cs'[j]'(by omega)] := by
      rw [List.drop_eq_getElem_cons (by omega)]
      rfl
    rw [hone'] at h1
    have hys : ys[j]? = some (ys[j]'(by omega)) := List.getElem?_eq_getElem (by omega)
    refine ⟨_, _, ?_, hys, h1.trans hys⟩
    rw [← Go.Deep.add_add, hcell, hv]
def ArgS2 (w : World) (A : Option Addr) (n : Nat) (l : List S2) : Prop :=
  l.length = n ∧ n ≤ maxLen ∧ Reads w w.heap.size 2 A n (s2V l) ∧ ∀ a ∈ l, a.1.size ≤ 9223372036854775807 ∧ a.2.size ≤ 9223372036854775807
theorem open_slice_two {r : Reach} {b0 : Nat} {t e u : TypeId} {f0 f1 : Field} {v : Value} {d : DataW H} {ps : List MemPlace} (ht : P.underlying t = some (.slice e)) (he : P.underlying e = some (.struct #[f0, f1])) (hu : P.underlying u = some .string)
    (hone : oneCellFields P #[f0, f1] = true) (hC : P.cellsOf e = 2) (e0 : f0.type = u) (e1 : f1.type = u)
    (hv : Value.okWide P w r b0 t v) (h : DataW.Trod enc P w 0 spare held t v d ps) : ∃ A n c l, v = .slice A n c ∧ ArgS2 w A n l := by
  obtain ⟨a0, len, cap, rfl⟩ := okWide_slice ht hv
  obtain ⟨fuel, hf⟩ := h
  rcases open_slice_fields ht he hone hC hf with ⟨hcs, _⟩ | ⟨x, l, c, m, D, Pl, hcs, _, hl, hm, hmm, _, hi⟩
  · simp [Value.cells] at hcs
    obtain ⟨rfl, rfl, rfl⟩ := hcs
    exact ⟨none, 0, 0, [], rfl, rfl, by simp [maxLen], ⟨rfl, fun h => absurd h (by omega)⟩, by simp⟩
  · simp [Value.cells] at hcs
    obtain ⟨rfl, rfl, rfl⟩ := hcs
    have hlm : len ≤ m := by rw [hmm]; split <;> omega
    have hex : ∀ i, i < len → ∃ a : S2, w.cell? (x.add (i * 2 + 0)) = some (.string a.1) ∧ w.cell? (x.add (i * 2 + 1)) = some (.string a.2) ∧ a.1.size ≤ 9223372036854775807 ∧ a.2.size ≤ 9223372036854775807 := by
      intro i hil
      obtain ⟨ys, n, _, _, _, hfj⟩ := hi i (by omega)
      obtain ⟨v0, y0, hc0, _, ht0⟩ := hfj 0 f0 rfl
      obtain ⟨v1, y1, hc1, _, ht1⟩ := hfj 1 f1 rfl
      rw [e0] at ht0
      rw [e1] at ht1
      obtain ⟨s0, hs0, _, hz0⟩ := DataW.trod_string hu ht0
      obtain ⟨s1, hs1, _, hz1⟩ := DataW.trod_string hu ht1
      simp at hs0 hs1
      subst hs0 hs1
      exact ⟨(s0, s1), hc0, hc1, by simpa [maxLen] using hz0, by simpa [maxLen] using hz1⟩
    obtain ⟨L, hL, hp⟩ := exists_list len hex
    refine ⟨some x, len, cap, L, rfl, hL, by omega, ⟨by rw [s2V_length, hL], fun hn => ⟨x, rfl, ?_, ?_⟩⟩, ?_⟩
    · have h0 := World.block_lt_of_cell? w _ (hp 0 (by omega)).1
      simpa [Addr.add] using h0
    · intro j u' hu'
      have hj : j < L.length * 2 := by have := (List.getElem?_eq_some_iff.1 hu').1; rwa [s2V_length] at this
      obtain ⟨k, hk | hk⟩ : ∃ k, j = k * 2 ∨ j = k * 2 + 1 := ⟨j / 2, by omega⟩
      · subst hk
        rw [s2V_at0 (by omega)] at hu'
        rw [← hu']
        exact (hp k (by omega)).1
      · subst hk
        rw [s2V_at1 (by omega)] at hu'
        rw [← hu']
        exact (hp k (by omega)).2.1
    · intro a ha
      obtain ⟨i, hi', rfl⟩ := List.getElem_of_mem ha
      exact ⟨(hp i hi').2.2.1, (hp i hi').2.2.2⟩
end

/-! ### The text of a mark -/
def dgB : Nat → Int → ByteArray → ByteArray
  | 0, _, acc => acc
  | f + 1, k, acc => if k ≤ 0 then acc else dgB f (k / 10) (strOfNums [48 + k % 10] ++ acc)
theorem dgB_stop {f : Nat} {k : Int} {acc : ByteArray} (h : k ≤ 0) : dgB f k acc = acc := by
  cases f with
  | zero => rfl
  | succ f => rw [dgB, if_pos h]
theorem dgB_step {f : Nat} {k : Int} {acc : ByteArray} (h : 0 < k) : dgB (f + 1) k acc = dgB f (k / 10) (strOfNums [48 + k % 10] ++ acc) := by
  rw [dgB, if_neg (by omega)]
theorem dg_small {f : Nat} {k : Int} (h : k < 10 ^ (f + 1)) : k / 10 < 10 ^ f := by
  rw [Int.pow_succ] at h
  omega
def mkT (k : Int) : ByteArray := ⟨#[109]⟩ ++ dgB 20 k ⟨#[]⟩
def mkL (q : Int) (n : Nat) : List S2 := (List.range n).map fun i : Nat => (mkT (q + 2 * (i : Int)), mkT (q + 2 * (i : Int) + 1))
theorem mkL_length (q : Int) (n : Nat) : (mkL q n).length = n := by simp [mkL]
theorem mkL_get {q : Int} {n k : Nat} (h : k < (mkL q n).length) : (mkL q n)[k] = (mkT (q + 2 * k), mkT (q + 2 * k + 1)) := by simp [mkL]
end Go.Proofs.YtmfaihelphfbgaaDoor
