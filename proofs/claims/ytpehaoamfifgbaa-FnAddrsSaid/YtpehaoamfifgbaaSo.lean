/-
  Plain words: a list of pairs in strict order; a pair put in; equal neighbours left out; the builtin clear on pairs. No program is named. No condition.
-/
import Derived.Test.YtpehaoamfifgbaaCmp
import Derived.Test.YtpehaoamfifgbaaStr
import Derived.Lib.SliceRun
namespace Go.Proofs.Ytpehaoamfifgbaa
set_option linter.unusedVariables false
set_option linter.unusedSimpArgs false
open Go.RowKit

def Srt (l : List S2) : Prop := l.Pairwise fun a b => cmpA a b < 0
structure SortOf (l x : List S2) : Prop where
  srt : Srt x
  mem : ∀ a, a ∈ x ↔ a ∈ l
theorem cmpA_irr (a : S2) : ¬ cmpA a a < 0 := by rw [cmpA_self]; omega
theorem cmpA_asymm {a b : S2} (h1 : cmpA a b < 0) (h2 : cmpA b a < 0) : False := by rw [cmpA_anti a b] at h2; omega
theorem srt_unique : ∀ {x y : List S2}, Srt x → Srt y → (∀ a, a ∈ x ↔ a ∈ y) → x = y := by
  intro x
  induction x with
  | nil =>
    intro y _ _ h
    cases y with
    | nil => rfl
    | cons b y => exact absurd ((h b).2 (by simp)) (by simp)
  | cons a x ih =>
    intro y hx hy h
    cases y with
    | nil => exact absurd ((h a).1 (by simp)) (by simp)
    | cons b y =>
      have hx' := List.pairwise_cons.1 hx
      have hy' := List.pairwise_cons.1 hy
      have hab : a = b := by
        rcases List.mem_cons.1 ((h a).1 (by simp)) with h1 | h1
        · exact h1
        · rcases List.mem_cons.1 ((h b).2 (by simp)) with h2 | h2
          · exact h2.symm
          · exact (cmpA_asymm (hx'.1 b h2) (hy'.1 a h1)).elim
      subst hab
      rw [ih hx'.2 hy'.2 fun c => ?_]
      constructor
      · intro hc
        rcases List.mem_cons.1 ((h c).1 (by simp [hc])) with h1 | h1
        · exact (cmpA_irr a (by have := hx'.1 c hc; rwa [h1] at this)).elim
        · exact h1
      · intro hc
        rcases List.mem_cons.1 ((h c).2 (by simp [hc])) with h1 | h1
        · exact (cmpA_irr a (by have := hy'.1 c hc; rwa [h1] at this)).elim
        · exact h1
theorem SortOf.unique {l x y : List S2} (h : SortOf l x) (k : SortOf l y) : x = y := srt_unique h.srt k.srt fun a => (h.mem a).trans (k.mem a).symm
theorem SortOf.nil : SortOf [] [] := ⟨List.Pairwise.nil, fun _ => Iff.rfl⟩
theorem SortOf.more {l x : List S2} {a : S2} (h : SortOf l x) (ha : a ∈ l) : SortOf (l ++ [a]) x :=
  ⟨h.srt, fun c => by
    rw [h.mem c, List.mem_append, List.mem_singleton]
    constructor
    · exact .inl
    · rintro (h1 | rfl)
      · exact h1
      · exact ha⟩
/-- the last is greater than all -/
theorem SortOf.last {l x : List S2} {a : S2} (h : SortOf l x) (ha : ∀ b ∈ l, cmpA b a < 0) : SortOf (l ++ [a]) (x ++ [a]) :=
  ⟨List.pairwise_append.2 ⟨h.srt, by simp, fun b hb c hc => by
    simp only [List.mem_singleton] at hc
    subst hc
    exact ha b ((h.mem b).1 hb)⟩, fun c => by rw [List.mem_append, List.mem_append, h.mem c]⟩
/-- put in at k -/
theorem SortOf.ins {l x : List S2} {a : S2} {k : Nat} (h : SortOf l x) (hk : k ≤ x.length) (h1 : ∀ j (hj : j < x.length), k ≤ j → cmpA a x[j] < 0) (h2 : ∀ j (hj : j < x.length), j < k → cmpA x[j] a < 0) : SortOf (l ++ [a]) (x.take k ++ [a] ++ x.drop k) := by
  have hs := h.srt
  rw [Srt, ← List.take_append_drop k x] at hs
  obtain ⟨p1, p2, p3⟩ := List.pairwise_append.1 hs
  have m1 : ∀ b ∈ x.take k, cmpA b a < 0 := by
    intro b hb
    obtain ⟨j, hj, rfl⟩ := List.getElem_of_mem hb
    rw [List.length_take] at hj
    rw [List.getElem_take]
    exact h2 j (by omega) (by omega)
  have m2 : ∀ b ∈ x.drop k, cmpA a b < 0 := by
    intro b hb
    obtain ⟨j, hj, rfl⟩ := List.getElem_of_mem hb
    rw [List.length_drop] at hj
    rw [List.getElem_drop]
    exact h1 (k + j) (by omega) (by omega)
  refine ⟨?_, fun c => ?_⟩
  · rw [Srt, List.append_assoc]
    refine List.pairwise_append.2 ⟨p1, List.pairwise_append.2 ⟨by simp, p2, fun b hb c hc => ?_⟩, fun b hb c hc => ?_⟩
    · simp only [List.mem_singleton] at hb
      subst hb
      exact m2 c hc
    · rcases List.mem_append.1 hc with hc | hc
      · simp only [List.mem_singleton] at hc
        subst hc
        exact m1 b hb
      · exact p3 b hb c hc
  · have hx := h.mem c
    rw [← List.take_append_drop k x, List.mem_append] at hx
    simp only [List.mem_append, List.mem_singleton]
    rw [← hx]
    constructor
    · rintro ((h3 | h3) | h3)
      · exact .inl (.inl h3)
      · exact .inr h3
      · exact .inl (.inr h3)
    · rintro ((h3 | h3) | h3)
      · exact .inl (.inl h3)
      · exact .inr h3
      · exact .inl (.inr h3)
/-- what stands below position k of a strictly sorted list, if a is greater than its neighbour -/
theorem srt_below {x : List S2} {a : S2} {k : Nat} (h : Srt x) (hk : k < x.length) (ha : cmpA x[k] a < 0) : ∀ j (hj : j < x.length), j < k + 1 → cmpA x[j] a < 0 := by
  intro j hj hjk
  by_cases e : j = k
  · subst e; exact ha
  · exact cmpA_trans (List.pairwise_iff_getElem.1 h j k hj hk (by omega)) ha

/-! ### clear -/
theorem setCells_keeps (b : Nat) : ∀ (vs : List Value) (o : Nat) (w : World), Keeps (fun k => k = b) w (w.setCells b o vs)
  | [], _, w => Keeps.refl _ _
  | v :: vs, o, w => (keeps_set (S := fun k => k = b) w v (p := ⟨b, o, none⟩) rfl).trans (setCells_keeps b vs (o + 1) _)
theorem heap_setCells {b : Nat} {ty : TypeId} : ∀ (vs : List Value) (o : Nat) (w : World) (cur : Array Value), w.heap[b]? = some (.cells cur ty (0, 0)) → ∃ cur' : Array Value, (w.setCells b o vs).heap[b]? = some (.cells cur' ty (0, 0)) ∧ cur'.size = cur.size ∧ ∀ j, j < o → cur'[j]? = cur[j]?
  | [], o, w, cur, h => ⟨cur, h, rfl, fun _ _ => rfl⟩
  | v :: vs, o, w, cur, h => by
    have h1 : (w.setCell ⟨b, o, none⟩ v).heap[b]? = some (.cells (cur.setIfInBounds o v) ty (0, 0)) := by
      obtain ⟨hlt, hk⟩ := Array.getElem?_eq_some_iff.1 h
      show (w.heap.modify b _)[b]? = _
      rw [Array.getElem?_eq_getElem (by rw [Array.size_modify]; exact hlt), Array.getElem_modify_self, hk]
      rfl
    obtain ⟨cur', h2, h3, h4⟩ := heap_setCells vs (o + 1) _ _ h1
    refine ⟨cur', h2, by rw [h3, Array.size_setIfInBounds], fun j hj => ?_⟩
    rw [h4 j (by omega), Array.getElem?_setIfInBounds_ne (by omega)]
theorem run_clear_two {P : Program} (w : World) (t e ty : TypeId) (z z0 z1 : Value) (ht : P.underlying t = some (.slice e)) (hv : ∀ w, (zeroValue e).run P w = .ok z w) (hz : z.cells = #[z0, z1]) (h0 : z0.oneCell' = true) (h1 : z1.oneCell' = true) (b o n c : Nat) (hn : 0 < n)
    (hc : ∀ j, j < n * 2 → (w.cell? ⟨b, o + j, none⟩).isSome = true) (hf : ∀ j, j < n * 2 → w.frozen? ⟨b, o + j, none⟩ = false) :
    ∃ vs : List Value, (Builtin.clear_ #[t] ty #[.slice (some ⟨b, o, none⟩) n c]).run P w = .ok (.tuple #[]) (w.setCells b o vs) := by
  have hlen : (Builtin.zeroCells z.cells n).toList.length = n * 2 := by rw [hz]; simp [Builtin.zeroCells]
  have hone : ∀ v ∈ (Builtin.zeroCells z.cells n).toList, v.oneCell' = true := by
    rw [hz]
    intro v hv'
    simp only [Builtin.zeroCells, Array.toList_map, Array.toList_range, List.mem_map] at hv'
    obtain ⟨i, _, rfl⟩ := hv'
    have : i % (#[z0, z1] : Array Value).size = 0 ∨ i % (#[z0, z1] : Array Value).size = 1 := by simp; omega
    rcases this with h | h <;> rw [h]
    · exact h0
    · exact h1
  have hst := run_storeCells_cells (P := P) b o (Builtin.zeroCells z.cells n).toList 0 w (by rw [hlen]; simpa using hc) (by rw [hlen]; simpa using hf) hone
  simp only [Nat.add_zero] at hst
  refine ⟨(Builtin.zeroCells z.cells n).toList, ?_⟩
  obtain ⟨m, rfl⟩ : ∃ m, n = m + 1 := ⟨n - 1, by omega⟩
  simp [Builtin.clear_, run_underlying ht, hv, hst]
theorem Own.front {w w' : World} {lo hi g n m c : Nat} {e : TypeId} {xs : List Value} {vs : List Value} (h : Own w lo hi e 2 (.slice (some ⟨g, 0, none⟩) n c) n xs) (hm : m ≤ n) (h0 : 0 < m) (hw : w' = w.setCells g (m * 2) vs) :
    Own w' lo hi e 2 (.slice (some ⟨g, 0, none⟩) m c) m (xs.take (m * 2)) := by
  subst hw
  obtain ⟨⟨h1, h2⟩, h3⟩ := h
  rcases h2 with ⟨hv, _⟩ | ⟨g', cap, cur, hv, hb, hg, hn, hc, hs, ht⟩
  · injection hv with hv; cases hv
  · injection hv with hA _ hcap
    injection hA with hA
    injection hA with hA
    subst hA hcap
    obtain ⟨cur', k1, k2, k3⟩ := heap_setCells vs (m * 2) w cur hg
    refine ⟨⟨by rw [List.length_take, h1]; exact Nat.min_eq_left (Nat.mul_le_mul_right _ hm), .inr ⟨g, c, cur', rfl, hb, k1, by omega, hc, by rw [k2, hs], ?_⟩⟩, fun k hk => h3 k hk⟩
    rw [← ht, List.take_take, Nat.min_eq_left (Nat.mul_le_mul_right _ hm)]
    apply List.ext_getElem?
    intro j
    rw [List.getElem?_take, List.getElem?_take]
    split
    · rename_i hj
      have := k3 j hj
      simpa [Array.getElem?_toList] using this
    · rfl
end Go.Proofs.Ytpehaoamfifgbaa
