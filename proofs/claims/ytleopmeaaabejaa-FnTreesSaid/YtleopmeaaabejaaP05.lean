/-
  What holds at each round of the generated helpers that lay marks into slices of tokens, nodes, sheets. No program is named. No condition.
  append of one element to an owned slice of structs that hold a slice each. Conditions: the new element's own slice lies in younger blocks than all that was owned.
-/
import Derived.Test.YtleopmeaaabejaaP04
namespace Go.Proofs.Ytleopmeaaabejaa
set_option linter.unusedVariables false
open Go.RowKit

def Nest.nums {α : Type} (N : Nest α) (L : List (α × Hd)) : List Nat := L.map fun x => N.num x.1
def foot {α : Type} (A : Option Addr) (L : List (α × Hd)) (b : Nat) : Prop := hdBlock (A, 0) = some b ∨ ∃ x ∈ L, hdBlock x.2 = some b
theorem OwnN.foot_span {α : Type} {N : Nest α} {w : World} {lo hi n c : Nat} {e ek : TypeId} {A : Option Addr} {L : List (α × Hd)} (h : OwnN N w lo hi e ek A n c L) : ∀ b, foot A L b → Span lo hi b := by
  rintro b (hb | ⟨x, hx, hb⟩)
  · have e : (Value.slice A n c).ownBlock = some b := by rw [hdBlock_eq (c' := 0)]; exact hb
    exact ⟨h.row.ge b e, h.row.2 b e⟩
  · have e : (Value.slice x.2.1 (N.num x.1) x.2.2).ownBlock = some b := by rw [hdBlock_eq (c' := x.2.2)]; exact hb
    exact ⟨(h.kids x hx).ge b e, (h.kids x hx).2 b e⟩
def MarkedS (S : Nat → Prop) (w : World) (own : World → Prop) (q : Int) (r : Ending) (w' : World) : Prop :=
  r = .returned (.int .i64 q) ∧ own w' ∧ Keeps S w w'
structure MarkInv {α : Type} (N : Nest α) (f : Int → Nat → α) (lo hi e ek g n c : Nat) (q : Int) (L : List (α × Hd)) (k : Nat) (w wr : World) (cur : List Value) : Prop where
  row : wr.ownsRow lo e N.k (.slice (some ⟨g, 0, none⟩) n c) n cur
  front : cur.take (k * N.k) = (N.flat (remark f q (N.nums L) L)).take (k * N.k)
  back : cur.drop (k * N.k) = (N.flat L).drop (k * N.k)
  done : ∀ i (h : i < L.length), i < k → Own wr lo hi ek 2 (.slice L[i].2.1 (N.num L[i].1) L[i].2.2) (N.num L[i].1) (N.kid (f (q + totN ((N.nums L).take i)) (N.num L[i].1)))
  rest : ∀ i (h : i < L.length), k ≤ i → ∃ xs, Own wr lo hi ek 2 (.slice L[i].2.1 (N.num L[i].1) L[i].2.2) (N.num L[i].1) xs
  keeps : Keeps (foot (some ⟨g, 0, none⟩) L) w wr
/-- what stays as it is: no block twice -/
structure MarkFix {α : Type} (N : Nest α) (lo hi g n : Nat) (L : List (α × Hd)) : Prop where
  len : L.length = n
  g1 : lo ≤ g
  g2 : g < hi
  off : ∀ x ∈ L, g ∉ (hdBlock x.2).toList
  inn : ∀ x ∈ L, ∀ b, hdBlock x.2 = some b → lo ≤ b ∧ b < hi
  apart : ∀ i j (hi : i < L.length) (hj : j < L.length), i ≠ j → sep (hdBlock L[i].2) (hdBlock L[j].2)
theorem nums_len {α : Type} {N : Nest α} {L : List (α × Hd)} : (N.nums L).length = L.length := by simp [Nest.nums]
theorem nums_get {α : Type} {N : Nest α} {L : List (α × Hd)} {i : Nat} (h : i < L.length) : (N.nums L)[i]'(by rw [nums_len]; exact h) = N.num L[i].1 := by simp [Nest.nums]
section
variable {α : Type} {N : Nest α} {f : Int → Nat → α} {lo hi e ek g n c : Nat} {q : Int} {L : List (α × Hd)} {w wr : World}
theorem OwnN.fix {A : Option Addr} (h : OwnN N w lo hi e ek A n c L) (h0 : 0 < n) : ∃ g, A = some ⟨g, 0, none⟩ ∧ MarkFix N lo hi g n L ∧ MarkInv N f lo hi e ek g n c q L 0 w w (N.flat L) ∧ ∀ k, (Value.slice A n c).ownBlock = some k → k < hi := by
  obtain ⟨g, cap, hv, hg1, hg2⟩ := h.row.1.form h0
  obtain ⟨rfl, rfl⟩ : A = some ⟨g, 0, none⟩ ∧ c = cap := by injection hv with h1 _ h2; exact ⟨h1, h2⟩
  refine ⟨g, rfl, ⟨h.len, hg1, h.row.2 g rfl, fun x hx hb => ?_, fun x hx b hb => ?_, fun i j hi hj hij => ?_⟩, ⟨h.row.1, by simp, by simp, fun i _ hi => absurd hi (by omega), fun i hi _ => ⟨_, h.kids L[i] (List.getElem_mem _)⟩, Keeps.refl _ _⟩, h.row.2⟩
  · exact h.off x hx g rfl (by simpa using hb)
  · have := h.kids x hx
    have e : (Value.slice x.2.1 (N.num x.1) x.2.2).ownBlock = some b := by rw [hdBlock_eq (c' := x.2.2)]; exact hb
    exact ⟨this.ge b e, this.2 b e⟩
  · have := pair_sep h.apart (i := i) (j := j) (by rw [List.length_map]; exact hi) (by rw [List.length_map]; exact hj) hij
    simpa using this
/-- the round: what it starts from; what it must come to -/
theorem MarkInv.round {cur : List Value} {k : Nat} (F : MarkFix N lo hi g n L) (hmk : ∀ q c, N.num (f q c) = c) (h : MarkInv N f lo hi e ek g n c q L k w wr cur) (hk : k < n) :
    ∃ (x : α × Hd) (xs : List Value) (P : Int), q + totN ((N.nums L).take k) = P ∧ q ≤ P ∧ q + totN ((N.nums L).take (k + 1)) = P + (3 + 2 * (N.num x.1 : Int)) ∧ P + (3 + 2 * (N.num x.1 : Int)) ≤ q + totN (N.nums L) ∧
      (∀ j, j < N.k → cur[k * N.k + j]? = (N.cells x)[j]?) ∧ Own wr lo hi ek 2 (.slice x.2.1 (N.num x.1) x.2.2) (N.num x.1) xs ∧ (Value.slice x.2.1 (N.num x.1) x.2.2).ownBlock ≠ some g ∧
      (∀ j, j < N.k → (N.flat (remark f q (N.nums L) L))[k * N.k + j]? = (N.row (f P (N.num x.1)) x.2.1 (N.num x.1) x.2.2)[j]?) ∧
      ∀ (W : World) (cur' : List Value), W.ownsRow lo e N.k (.slice (some ⟨g, 0, none⟩) n c) n cur' → cur'.take ((k + 1) * N.k) = (N.flat (remark f q (N.nums L) L)).take ((k + 1) * N.k) → cur'.drop ((k + 1) * N.k) = (N.flat L).drop ((k + 1) * N.k) →
        Own W lo hi ek 2 (.slice x.2.1 (N.num x.1) x.2.2) (N.num x.1) (N.kid (f P (N.num x.1))) → Keeps (fun b => b = g ∨ (Value.slice x.2.1 (N.num x.1) x.2.2).ownBlock = some b) wr W → MarkInv N f lo hi e ek g n c q L (k + 1) w W cur' := by
  have hkL : k < L.length := by rw [F.len]; exact hk
  have hkc : k < (N.nums L).length := by rw [nums_len]; exact hkL
  have hst := totN_take hkc
  have hle := totN_le (N.nums L) (k + 1)
  have hnn := totN_nonneg ((N.nums L).take k)
  rw [nums_get hkL] at hst
  obtain ⟨xs, hkid⟩ := h.rest k hkL (Nat.le_refl _)
  have hblk : ∀ (i : Nat) (hi : i < L.length), (Value.slice L[i].2.1 (N.num L[i].1) L[i].2.2).ownBlock = hdBlock L[i].2 := fun i hi => hdBlock_eq (c' := L[i].2.2) _ _ _
  have hoff : ∀ (i : Nat) (hi : i < L.length), (Value.slice L[i].2.1 (N.num L[i].1) L[i].2.2).ownBlock ≠ some g := fun i hi hb => by
    rw [hblk i hi] at hb
    exact F.off L[i] (List.getElem_mem _) (by simp [hb])
  refine ⟨L[k], xs, _, rfl, by omega, by omega, by omega, fun j hj => ?_, hkid, hoff k hkL, fun j hj => ?_, fun W cur' hr h1 h2 hW hK => ⟨hr, h1, h2, fun i hi hik => ?_, fun i hi hik => ?_, h.keeps.trans (hK.mono fun b hb => ?_)⟩⟩
  · rw [drop_get h.back (by omega), Nest.flat_at hkL hj]
  · have hlen : k < (remark f q (N.nums L) L).length := by rw [remark_len f nums_len]; exact hkL
    rw [Nest.flat_at hlen hj, remark_get f hlen hkc hkL, nums_get hkL]
    simp only [Nest.cells, hmk]
  · by_cases e : i = k
    · subst e; exact hW
    · refine (h.done i hi (by omega)).elsewhere hK fun b hb => ?_
      rw [hblk i hi]
      rcases hb with rfl | hb
      · rw [← hblk i hi]; exact hoff i hi
      · rw [hblk k hkL] at hb
        exact F.apart k i hkL hi (fun e' => e e'.symm) b hb
  · obtain ⟨xs, ho⟩ := h.rest i hi (by omega)
    refine ⟨xs, ho.elsewhere hK fun b hb => ?_⟩
    rw [hblk i hi]
    rcases hb with rfl | hb
    · rw [← hblk i hi]; exact hoff i hi
    · rw [hblk k hkL] at hb
      exact F.apart k i hkL hi (by omega) b hb
  · rcases hb with rfl | hb
    · exact .inl rfl
    · rw [hblk k hkL] at hb
      exact .inr ⟨L[k], List.getElem_mem _, hb⟩
theorem MarkInv.owned {cur : List Value} (F : MarkFix N lo hi g n L) (hmk : ∀ q c, N.num (f q c) = c) (h : MarkInv N f lo hi e ek g n c q L n w wr cur) :
    OwnN N wr lo hi e ek (some ⟨g, 0, none⟩) n c (remark f q (N.nums L) L) := by
  have hln : (remark f q (N.nums L) L).length = L.length := remark_len f nums_len
  have hget : ∀ (i : Nat) (h1 : i < (remark f q (N.nums L) L).length) (h2 : i < L.length), (remark f q (N.nums L) L)[i] = (f (q + totN ((N.nums L).take i)) (N.num L[i].1), L[i].2) := fun i h1 h2 => by
    rw [remark_get f h1 (by rw [nums_len]; exact h2) h2, nums_get h2]
  refine ⟨?_, fun x hx => ?_, ?_, fun x hx => ?_⟩
  · have hfl : (N.flat (remark f q (N.nums L) L)).length = n * N.k := by rw [Nest.flat_len, hln, F.len]
    have hc : cur = N.flat (remark f q (N.nums L) L) := by
      have h1 := h.front
      rw [List.take_of_length_le (by have := h.row.1; omega), List.take_of_length_le (by omega)] at h1
      exact h1
    have hr := h.row
    rw [hc] at hr
    exact ⟨hr, fun k hk => by have e : some g = some k := hk; injection e with e; have := F.g2; omega⟩
  · obtain ⟨i, hi', rfl⟩ := List.getElem_of_mem hx
    have hiL : i < L.length := by omega
    rw [hget i hi' hiL, hmk]
    exact h.done i hiL (by rw [← F.len]; exact hiL)
  · rw [List.pairwise_iff_getElem]
    intro i j hi hj hij
    rw [List.length_map] at hi hj
    rw [List.getElem_map, List.getElem_map, hget i hi (by omega), hget j hj (by omega)]
    exact F.apart i j (by omega) (by omega) (by omega)
  · obtain ⟨i, hi', rfl⟩ := List.getElem_of_mem hx
    have hiL : i < L.length := by omega
    rw [hget i hi' hiL]
    intro k hk hb
    have e : some g = some k := hk
    injection e with e
    subst e
    exact F.off L[i] (List.getElem_mem _) (by simpa using hb)
theorem MarkInv.done_ {cur : List Value} (F : MarkFix N lo hi g n L) (hmk : ∀ q c, N.num (f q c) = c) (h : MarkInv N f lo hi e ek g n c q L n w wr cur) (hh : hi ≤ wr.heap.size) :
    ReadsN N wr hi (some ⟨g, 0, none⟩) n (mkNs f q (N.nums L)) := by
  refine ⟨remark f q (N.nums L) L, remark_fst f nums_len, ?_, fun x hx => ?_⟩
  · have hfl : (N.flat (remark f q (N.nums L) L)).length = n * N.k := by rw [Nest.flat_len, remark_len f nums_len, F.len]
    have hc : cur = N.flat (remark f q (N.nums L) L) := by
      have h1 := h.front
      rw [List.take_of_length_le (by have := h.row.1; omega), List.take_of_length_le (by omega)] at h1
      exact h1
    have := h.row
    rw [hc] at this
    exact Own.reads (⟨this, fun k hk => by have e : some g = some k := hk; injection e with e; have := F.g2; omega⟩ : Own wr lo hi e N.k (.slice (some ⟨g, 0, none⟩) n c) n _) hh
  · obtain ⟨i, hi', rfl⟩ := List.getElem_of_mem hx
    have hiL : i < L.length := by rw [remark_len f nums_len] at hi'; exact hi'
    rw [remark_get f hi' (by rw [nums_len]; exact hiL) hiL, nums_get hiL, hmk]
    exact (h.done i hiL (by rw [← F.len]; exact hiL)).reads hh
end
theorem tokN_num (q : Int) (c : Nat) : tokN.num (mkTok q c) = c := mkTok_attrs q c
theorem nodN_num (q : Int) (c : Nat) : nodN.num (mkNod q c) = c := mkNod_attrs q c
theorem tok_fill {cur R T : List Value} {k n : Nat} {t : Tok} {A : Option Addr} {m c : Nat} (hcl : cur.length = n * 4) (hk : k < n) (ht : cur.take (k * 4) = R.take (k * 4)) (hd : cur.drop (k * 4) = T.drop (k * 4))
    (hh : cur[k * 4 + 2]? = some (.slice A m c)) (hR : ∀ j, j < 4 → R[k * 4 + j]? = ([.int .i64 t.kind, .string t.name, .slice A m c, .string t.text] : List Value)[j]?) :
    (((cur.set (k * 4) (.int .i64 t.kind)).set (k * 4 + 1) (.string t.name)).set (k * 4 + 3) (.string t.text)).take ((k + 1) * 4) = R.take ((k + 1) * 4) ∧
    (((cur.set (k * 4) (.int .i64 t.kind)).set (k * 4 + 1) (.string t.name)).set (k * 4 + 3) (.string t.text)).drop ((k + 1) * 4) = T.drop ((k + 1) * 4) := by
  have e0 := set_take ht (hR 0 (by omega)) (by omega)
  have e1 := set_take e0 (hR 1 (by omega)) (by simp; omega)
  have e2 := take_more e1 (u := .slice A m c) (by rw [List.getElem?_set_ne (by omega), List.getElem?_set_ne (by omega)]; exact hh) (hR 2 (by omega))
  have e3 := set_take e2 (hR 3 (by omega)) (by simp; omega)
  exact ⟨by rw [show (k + 1) * 4 = k * 4 + 3 + 1 by omega]; exact e3, set_drop (set_drop (set_drop (drop_more hd (by omega)) _ (by omega)) _ (by omega)) _ (by omega)⟩
theorem nod_fill {cur R T : List Value} {k n : Nat} {t : Nod} {A : Option Addr} {m c : Nat} (hcl : cur.length = n * 4) (hk : k < n) (ht : cur.take (k * 4) = R.take (k * 4)) (hd : cur.drop (k * 4) = T.drop (k * 4))
    (hh : cur[k * 4 + 3]? = some (.slice A m c)) (hR : ∀ j, j < 4 → R[k * 4 + j]? = ([.string t.name, .string t.text, .int .i64 t.parent, .slice A m c] : List Value)[j]?) :
    (((cur.set (k * 4) (.string t.name)).set (k * 4 + 1) (.string t.text)).set (k * 4 + 2) (.int .i64 t.parent)).take ((k + 1) * 4) = R.take ((k + 1) * 4) ∧
    (((cur.set (k * 4) (.string t.name)).set (k * 4 + 1) (.string t.text)).set (k * 4 + 2) (.int .i64 t.parent)).drop ((k + 1) * 4) = T.drop ((k + 1) * 4) := by
  have e0 := set_take ht (hR 0 (by omega)) (by omega)
  have e1 := set_take e0 (hR 1 (by omega)) (by simp; omega)
  have e2 := set_take e1 (hR 2 (by omega)) (by simp; omega)
  have e3 := take_more e2 (u := .slice A m c) (by rw [List.getElem?_set_ne (by omega), List.getElem?_set_ne (by omega), List.getElem?_set_ne (by omega)]; exact hh) (hR 3 (by omega))
  exact ⟨by rw [show (k + 1) * 4 = k * 4 + 3 + 1 by omega]; exact e3, set_drop (set_drop (set_drop (drop_more hd (by omega)) _ (by omega)) _ (by omega)) _ (by omega)⟩
end Go.Proofs.Ytleopmeaaabejaa

namespace Go.Proofs.Ytleopmeaaabejaa
set_option linter.unusedVariables false
set_option linter.unusedSimpArgs false
set_option maxRecDepth 100000
open Go.ChangeShapes Go.WideShapes Go.ChangeAt Go.RowKit Go.Deep

theorem Own.ltb {w : World} {lo hi n c : Nat} {e : TypeId} {size : Nat} {A : Option Addr} {xs : List Value} (h : Own w lo hi e size (.slice A n c) n xs) : ∀ k, (Value.slice A n c).ownBlock = some k → k < hi := h.2
theorem Own.geb {w : World} {lo hi n c : Nat} {e : TypeId} {size : Nat} {A : Option Addr} {xs : List Value} (h : Own w lo hi e size (.slice A n c) n xs) : ∀ k, (Value.slice A n c).ownBlock = some k → lo ≤ k := fun k hk => (h.1.lt k hk).1

/-- the row after the append is owned, the slices of its elements too, apart from each other -/
theorem OwnN.push {α : Type} {N : Nest α} {w w' : World} {lo m n c c' : Nat} {e ek : TypeId} {A A' : Option Addr} {L : List (α × Hd)} {x : α × Hd}
    (h : OwnN N w lo m e ek A n c L) (hm : m ≤ w.heap.size) (hlm : lo ≤ m)
    (hk : Own w m w.heap.size ek 2 (.slice x.2.1 (N.num x.1) x.2.2) (N.num x.1) (N.kid x.1))
    (ho : w'.ownsRow lo e N.k (.slice A' (n + 1) c') (n + 1) (N.flat L ++ N.cells x))
    (hg : w.grownBy w' (Value.slice A n c).ownBlock)
    (hb : (Value.slice A' (n + 1) c').ownBlock = (Value.slice A n c).ownBlock ∨ (Value.slice A' (n + 1) c').ownBlock = some w.heap.size) :
    OwnN N w' lo w'.heap.size e ek A' (n + 1) c' (L ++ [x]) := by
  have hkp := Keeps.of_grown hg
  have hr1 := h.row.ltb
  have hold : ∀ y ∈ L, ∀ k, hdBlock y.2 = some k → k < m := fun y hy k hk' => (h.kids y hy).ltb k (by rw [hdBlock_eq _ _ _ y.2.2]; exact hk')
  have hnew : ∀ k, hdBlock x.2 = some k → m ≤ k ∧ k < w.heap.size := fun k hk' => ⟨hk.geb k (by rw [hdBlock_eq _ _ _ x.2.2]; exact hk'), hk.ltb k (by rw [hdBlock_eq _ _ _ x.2.2]; exact hk')⟩
  have hsz := hkp.size
  have hfar : ∀ y ∈ L ++ [x], sep (Value.slice A n c).ownBlock (hdBlock y.2) := by
    intro y hy
    rcases List.mem_append.1 hy with h1 | h1
    · exact h.off y h1
    · simp only [List.mem_singleton] at h1
      subst h1
      exact sep_lt hr1 fun k hk' => (hnew k hk').1
  refine ⟨?_, ?_, ?_, ?_⟩
  · rw [Nest.flat_append, show N.flat [x] = N.cells x by simp [Nest.flat]]
    exact Own.of_row ho
  · intro y hy
    have hs := hfar y hy
    rcases List.mem_append.1 hy with h1 | h1
    · have h2 := (h.kids y h1).elsewhere hkp fun k hS hb' => hs k hS (by rw [← hdBlock_eq y.2.1 (N.num y.1) y.2.2]; exact hb')
      exact h2.wide (Nat.le_refl _) (by omega)
    · simp only [List.mem_singleton] at h1
      subst h1
      have h2 := hk.elsewhere hkp fun k hS hb' => hs k hS (by rw [← hdBlock_eq y.2.1 (N.num y.1) y.2.2]; exact hb')
      exact h2.wide hlm hsz
  · rw [List.map_append, List.pairwise_append]
    refine ⟨h.apart, by simp, fun a ha b hb' => ?_⟩
    obtain ⟨y, hy, rfl⟩ := List.mem_map.1 ha
    simp only [List.map_cons, List.map_nil, List.mem_singleton] at hb'
    subst hb'
    exact sep_lt (hold y hy) fun k hk' => (hnew k hk').1
  · intro y hy
    rcases hb with hb | hb
    · rw [hb]; exact hfar y hy
    · rw [hb]
      intro k hk' h2
      injection hk' with hk'
      subst hk'
      rcases List.mem_append.1 hy with h1 | h1
      · have := hold y h1 _ h2; omega
      · simp only [List.mem_singleton] at h1
        subst h1
        have := hnew _ h2
        omega
/-- the step of a walk -/
theorem wpList_push {P : Program} {w : World} {α : Type} {N : Nest α} {T E bytes : Nat} (R : RowT P T E N.k bytes) {ops : Array Oper} {rest : List Oper} {o : Oper} {a : Act} {Q : Exit → Act → World → Prop} (hgd : o.guard = none) (s x : Operand)
    (ho : o.op = .call { callee := .builtin .append, args := #[s, x], argTypes := #[T, T] })
    {lo m n c : Nat} {ek : TypeId} {A : Option Addr} {L : List (α × Hd)} (h : OwnN N w lo m E ek A n c L) (hm : m ≤ w.heap.size) (hlm : lo ≤ m) (el : α × Hd)
    (hk : Own w m w.heap.size ek 2 (.slice el.2.1 (N.num el.1) el.2.2) (N.num el.1) (N.kid el.1)) (hs : a.eval s = .slice A n c)
    (A1 : Option Addr) (c1 B : Nat) (hx : a.eval x = .slice A1 1 c1) (hr : Reads w B N.k A1 1 (N.cells el)) (hn : n + 1 ≤ 1099511627776) (hbytes : bytes ≤ 128)
    (hK : ∀ A' c' w', OwnN N w' lo w'.heap.size E ek A' (n + 1) c' (L ++ [el]) → Keeps (fun b => (Value.slice A n c).ownBlock = some b) w w' → wpList P ops Q rest (a.put o.dst (.slice A' (n + 1) c')) w') : wpList P ops Q (o :: rest) a w := by
  obtain ⟨i, z, hi, hz, hsz, hby, hzs'⟩ := R.inf
  refine wpList_append_any w hgd s x T ho lo E i z N.k bytes R.und hi hz hsz hby hzs' R.pos _ n (N.flat L) hs h.row.1 B A1 1 c1 (N.cells el) hx hr (N.one _ _ _ _) (by simp only [maxLen]; omega) ?_ (by omega) ?_
  · have := Nat.mul_le_mul hn hbytes; omega
  · intro A' c' w' h2 h3 h4
    exact hK A' c' w' (h.push hm hlm hk h2 h3 h4) (Keeps.of_grown h3)
end Go.Proofs.Ytleopmeaaabejaa
