/-
  Words for the marks that the generated laws lay into tokens and nodes; the frame of one marked block. No program is named. No condition.
-/
import Derived.Test.YtmfaihelphfbgaaDoorTk1
namespace Go.Proofs.YtmfaihelphfbgaaDoor
set_option linter.unusedVariables false
open Go.RowKit

def totN (cs : List Nat) : Int := (cs.map fun c : Nat => 3 + 2 * (c : Int)).sum
theorem totN_cons (c : Nat) (cs : List Nat) : totN (c :: cs) = 3 + 2 * c + totN cs := by simp [totN]
theorem totN_nonneg (cs : List Nat) : 0 ≤ totN cs := by
  induction cs with
  | nil => simp [totN]
  | cons c cs ih => rw [totN_cons]; omega
theorem totN_split (cs : List Nat) (k : Nat) : totN cs = totN (cs.take k) + totN (cs.drop k) := by
  rw [totN, totN, totN, ← List.sum_append, ← List.map_append, List.take_append_drop]
theorem totN_take {cs : List Nat} {k : Nat} (h : k < cs.length) : totN (cs.take (k + 1)) = totN (cs.take k) + (3 + 2 * (cs[k] : Int)) := by
  rw [List.take_succ_eq_append_getElem h, totN, totN, List.map_append, List.sum_append]; simp
theorem totN_le (cs : List Nat) (k : Nat) : totN (cs.take k) ≤ totN cs := by
  have := totN_split cs k
  have := totN_nonneg (cs.drop k)
  omega
def mkTok (q : Int) (c : Nat) : Tok := ⟨q, mkT (q + 1), mkL (q + 1 + 1) c, mkT (q + 1 + 1 + 2 * c)⟩
def mkNod (q : Int) (c : Nat) : Nod := ⟨mkT q, mkT (q + 1), q + 1 + 1, mkL (q + 1 + 1 + 1) c⟩
def mkNs {α : Type} (f : Int → Nat → α) : Int → List Nat → List α
  | _, [] => []
  | q, c :: cs => f q c :: mkNs f (q + (3 + 2 * c)) cs
theorem mkNs_len {α : Type} (f : Int → Nat → α) (q : Int) (cs : List Nat) : (mkNs f q cs).length = cs.length := by
  induction cs generalizing q with
  | nil => rfl
  | cons c cs ih => simp [mkNs, ih]
theorem mkNs_get {α : Type} (f : Int → Nat → α) {q : Int} {cs : List Nat} {k : Nat} (h : k < (mkNs f q cs).length) (hk : k < cs.length) : (mkNs f q cs)[k] = f (q + totN (cs.take k)) cs[k] := by
  induction cs generalizing q k with
  | nil => simp at hk
  | cons c cs ih =>
    cases k with
    | zero => simp [mkNs, totN]
    | succ k =>
      simp only [mkNs, List.getElem_cons_succ, List.take_succ_cons]
      rw [ih (by simpa [mkNs] using h) (by simpa using hk), totN_cons]
      congr 1
      omega
/-- the headers of L around the marked elements -/
def remark {α : Type} (f : Int → Nat → α) (q : Int) (cs : List Nat) (L : List (α × Hd)) : List (α × Hd) := List.zipWith (fun t (x : α × Hd) => (t, x.2)) (mkNs f q cs) L
theorem remark_len {α : Type} (f : Int → Nat → α) {q : Int} {cs : List Nat} {L : List (α × Hd)} (h : cs.length = L.length) : (remark f q cs L).length = L.length := by
  simp [remark, mkNs_len, h]
theorem remark_get {α : Type} (f : Int → Nat → α) {q : Int} {cs : List Nat} {L : List (α × Hd)} {k : Nat} (h : k < (remark f q cs L).length) (hk : k < cs.length) (hL : k < L.length) : (remark f q cs L)[k] = (f (q + totN (cs.take k)) cs[k], L[k].2) := by
  simp only [remark, List.getElem_zipWith]
  rw [mkNs_get f (by rw [mkNs_len]; exact hk) hk]
theorem remark_fst {α : Type} (f : Int → Nat → α) {q : Int} {cs : List Nat} {L : List (α × Hd)} (h : cs.length = L.length) : (remark f q cs L).map (·.1) = mkNs f q cs := by
  apply List.ext_getElem
  · rw [List.length_map, remark_len f h, mkNs_len, h]
  · intro i h1 h2
    rw [List.length_map, remark_len f h] at h1
    rw [List.getElem_map, remark_get f (by rw [remark_len f h]; exact h1) (by omega) h1, mkNs_get f h2 (by omega)]

/-! ### One row narrowed to its own block -/
theorem keeps_cell {S : Nat → Prop} {w w' : World} (h : Keeps S w w') {b o : Nat} (hb : b < w.heap.size) (hs : ¬ S b) : w'.cell? ⟨b, o, none⟩ = w.cell? ⟨b, o, none⟩ := by
  unfold World.cell?
  simp only [h.block b hb hs]
theorem Own.narrow {w : World} {lo hi : Nat} {e : TypeId} {size n : Nat} {v : Value} {xs : List Value} (h : Own w lo hi e size v n xs) :
    ∃ lo' hi', Own w lo' hi' e size v n xs ∧ hi' ≤ hi ∧ lo' ≤ hi' ∧ (∀ k, Span lo' hi' k → v.ownBlock = some k) ∧ ∀ (w' : World) (xs' : List Value), Own w' lo' hi' e size v n xs' → Own w' lo hi e size v n xs' := by
  obtain ⟨⟨h1, h2⟩, h3⟩ := h
  rcases h2 with hn | ⟨g, cap, cur, rfl, hb, rest⟩
  · refine ⟨0, 0, ⟨⟨h1, .inl hn⟩, fun k hk => by rw [hn.1] at hk; cases hk⟩, by omega, by omega, fun k hk => by have := hk.1; have := hk.2; omega, fun w' xs' h' => ⟨⟨h'.1.1, ?_⟩, fun k hk => by rw [hn.1] at hk; cases hk⟩⟩
    rcases h'.1.2 with hn' | ⟨g, cap, cur, hv, _⟩
    · exact .inl hn'
    · rw [hn.1] at hv; injection hv with hv; cases hv
  · have hg := h3 g rfl
    refine ⟨g, g + 1, ⟨⟨h1, .inr ⟨g, cap, cur, rfl, Nat.le_refl _, rest⟩⟩, fun k hk => ?_⟩, by omega, by omega, fun k hk => ?_, fun w' xs' h' => h'.wide hb (by omega)⟩
    · have e : some g = some k := hk
      injection e with e
      omega
    · have h1 := hk.1
      have h2 := hk.2
      show some g = some k
      congr 1
      omega
theorem own_any {w : World} {lo e g n c size idx : Nat} {cur : List Value} (h : w.ownsRow lo e size (.slice (some ⟨g, 0, none⟩) n c) n cur) (hk : idx < n * size) :
    ∃ u, w.cell? ⟨g, idx, none⟩ = some u ∧ w.frozen? ⟨g, idx, none⟩ = false := by
  have hl : cur.length = n * size := h.1
  have h1 := h.cellAt idx (by omega)
  rw [List.getElem?_eq_getElem (by omega)] at h1
  exact ⟨_, h1, h.frozenAt _⟩
theorem own_val {w : World} {lo e g n c size idx : Nat} {cur : List Value} {u : Value} (h : w.ownsRow lo e size (.slice (some ⟨g, 0, none⟩) n c) n cur) (hk : cur[idx]? = some u) :
    w.cell? ⟨g, idx, none⟩ = some u := by
  have hl : cur.length = n * size := h.1
  have hi := (List.getElem?_eq_some_iff.1 hk).1
  rw [h.cellAt idx (by omega), hk]
theorem Own.elsewhere {w w' : World} {lo hi : Nat} {e : TypeId} {size n : Nat} {v : Value} {xs : List Value} {S : Nat → Prop} (h : Own w lo hi e size v n xs) (hk : Keeps S w w') (hs : ∀ k, S k → v.ownBlock ≠ some k) : Own w' lo hi e size v n xs := by
  refine ⟨⟨h.1.1, ?_⟩, h.2⟩
  rcases h.1.2 with hn | ⟨g, cap, cur, rfl, hb, hg, rest⟩
  · exact .inl hn
  · refine .inr ⟨g, cap, cur, rfl, hb, ?_, rest⟩
    rw [hk.block g (Array.getElem?_eq_some_iff.1 hg).1 (fun hS => hs g hS rfl)]
    exact hg
/-- what a row of marked elements is filled to, cell by cell -/
theorem set_take {cur T : List Value} {i : Nat} (h : cur.take i = T.take i) {u : Value} (hu : T[i]? = some u) (hc : i < cur.length) : (cur.set i u).take (i + 1) = T.take (i + 1) := by
  obtain ⟨hi, rfl⟩ := List.getElem?_eq_some_iff.1 hu
  exact take_set_succ h hi hc
theorem take_more {cur T : List Value} {i : Nat} {u : Value} (h : cur.take i = T.take i) (hc : cur[i]? = some u) (hT : T[i]? = some u) : cur.take (i + 1) = T.take (i + 1) := by
  obtain ⟨h1, e1⟩ := List.getElem?_eq_some_iff.1 hc
  obtain ⟨h2, e2⟩ := List.getElem?_eq_some_iff.1 hT
  exact take_succ_eq h1 h2 h (e1.trans e2.symm)
theorem set_drop {cur T : List Value} {i j : Nat} (h : cur.drop j = T.drop j) (u : Value) (hij : i < j) : (cur.set i u).drop j = T.drop j := by
  rw [List.drop_set_of_lt hij, h]
theorem drop_more {cur T : List Value} {i j : Nat} (h : cur.drop i = T.drop i) (hij : i ≤ j) : cur.drop j = T.drop j := by
  obtain ⟨m, rfl⟩ := Nat.exists_eq_add_of_le hij
  rw [← List.drop_drop, ← List.drop_drop, h]
theorem drop_get {cur T : List Value} {i j : Nat} (h : cur.drop i = T.drop i) (hij : i ≤ j) : cur[j]? = T[j]? := by
  obtain ⟨m, rfl⟩ := Nat.exists_eq_add_of_le hij
  have := congrArg (fun l => l[m]?) h
  simpa using this
theorem pair_sep {l : List (Option Nat)} (h : l.Pairwise sep) {i j : Nat} (hi : i < l.length) (hj : j < l.length) (hij : i ≠ j) : sep l[i] l[j] := by
  rcases Nat.lt_or_gt_of_ne hij with h1 | h1
  · exact List.pairwise_iff_getElem.1 h i j hi hj h1
  · exact (List.pairwise_iff_getElem.1 h j i hj hi h1).symm
theorem mkTok_attrs (q : Int) (c : Nat) : (mkTok q c).attrs.length = c := by simp [mkTok, mkL_length]
theorem mkNod_attrs (q : Int) (c : Nat) : (mkNod q c).attrs.length = c := by simp [mkNod, mkL_length]
end Go.Proofs.YtmfaihelphfbgaaDoor
