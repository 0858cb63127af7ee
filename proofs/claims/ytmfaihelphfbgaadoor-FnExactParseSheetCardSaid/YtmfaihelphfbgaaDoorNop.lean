/-
  How arguments that are tokens, nodes, builders, rules, sheets and slices of them are read. No program is named. No condition.
-/
import Derived.Test.YtmfaihelphfbgaaDoorNst
import Derived.Lib.SmallJoins
namespace Go.Proofs.YtmfaihelphfbgaaDoor
set_option linter.unusedVariables false
open Go.RowKit Go.ChangeShapes Go.WideShapes Go.Deep

theorem flatMap_at {α β : Type} {f : α → List β} {k : Nat} (hf : ∀ a, (f a).length = k) {L : List α} {i j : Nat} (hi : i < L.length) (hj : j < k) : (L.flatMap f)[i * k + j]? = (f L[i])[j]? := by
  induction L generalizing i with
  | nil => simp at hi
  | cons x L ih =>
    rw [List.flatMap_cons]
    cases i with
    | zero => rw [List.getElem?_append_left (by rw [hf]; omega)]; simp
    | succ i =>
      rw [List.getElem?_append_right (by rw [hf, Nat.succ_mul]; omega), hf, show (i + 1) * k + j - k = i * k + j by rw [Nat.succ_mul]; omega]
      exact ih (by simpa using hi)
theorem flatMap_len {α β : Type} {f : α → List β} {k : Nat} (hf : ∀ a, (f a).length = k) (L : List α) : (L.flatMap f).length = L.length * k := by
  induction L with
  | nil => simp
  | cons x L ih => rw [List.flatMap_cons, List.length_append, ih, hf, List.length_cons, Nat.succ_mul]; omega
section
variable {H : Type} {enc : TypeId × Value → H} {P : Program} {w : World} {spare : Nat → Bool} {held : Bool}
theorem trod_rows {α : Type} {good : α → Prop} (k : Nat) (cf : α → List Value) (hlen : ∀ a, (cf a).length = k) (hk0 : 0 < k) {t e : TypeId} {fs : Array Field} {fuel : Nat} {cs : List Value} {x : DataW H × List MemPlace} (ht : P.underlying t = some (.slice e))
    (he : P.underlying e = some (.struct fs)) (hone : oneCellFields P fs = true) (hC : P.cellsOf e = fs.size) (hk : fs.size = k) (h : DataW.trod enc P w 0 spare held fuel t cs = some x)
    (hel : ∀ vs : List Value, vs.length = k → (∀ (j : Nat) (f : Field), fs[j]? = some f → ∃ v y n, vs[j]? = some v ∧ DataW.trod enc P w 0 spare held n f.type [v] = some y) → ∃ a : α, cf a = vs ∧ good a) :
    ∃ (A : Option Addr) (n c : Nat) (l : List α), cs = [.slice A n c] ∧ l.length = n ∧ n ≤ maxLen ∧ Reads w w.heap.size k A n (l.flatMap cf) ∧ ∀ a ∈ l, good a := by
  rcases open_slice_fields ht he hone hC h with ⟨hcs, _⟩ | ⟨ad, len, cap, m, D, Pl, hcs, _, hl, hm, hmm, _, hi⟩
  · exact ⟨none, 0, 0, [], hcs, rfl, by simp [maxLen], ⟨by simp, fun h => absurd h (by omega)⟩, by simp⟩
  · have hlm : len ≤ m := by rw [hmm]; split <;> omega
    have hex : ∀ i, i < len → ∃ a : α, (∀ j u, (cf a)[j]? = some u → w.cell? (ad.add (i * k + j)) = some u) ∧ good a := by
      intro i hil
      obtain ⟨ys, n, _, _, _, hfj⟩ := hi i (by omega)
      obtain ⟨vs, hvl, hv⟩ := exists_list (p := fun j (v : Value) => w.cell? (ad.add (i * k + j)) = some v ∧ ∀ f : Field, fs[j]? = some f → ∃ y n, DataW.trod enc P w 0 spare held n f.type [v] = some y) k (fun j hj => by
        obtain ⟨v, y, hc, _, hy⟩ := hfj j (fs[j]'(by omega)) (Array.getElem?_eq_getElem (by omega))
        rw [hk] at hc
        refine ⟨v, hc, fun f hf => ⟨y, n, ?_⟩⟩
        rw [Array.getElem?_eq_getElem (by omega)] at hf
        injection hf with hf
        rw [← hf]
        exact hy)
      obtain ⟨a, ha, hg⟩ := hel vs hvl (fun j f hf => by
        have hj : j < vs.length := by have := (Array.getElem?_eq_some_iff.1 hf).1; omega
        obtain ⟨y, n, hy⟩ := (hv j hj).2 f hf
        exact ⟨vs[j], y, n, List.getElem?_eq_getElem hj, hy⟩)
      refine ⟨a, fun j u hu => ?_, hg⟩
      rw [ha] at hu
      obtain ⟨hj, rfl⟩ := List.getElem?_eq_some_iff.1 hu
      exact (hv j hj).1
    obtain ⟨L, hL, hp⟩ := exists_list len hex
    refine ⟨some ad, len, cap, L, hcs, hL, by omega, ⟨by rw [flatMap_len hlen, hL], fun hn => ⟨ad, rfl, ?_, ?_⟩⟩, ?_⟩
    · have h0 := (hp 0 (by omega)).1 0 _ (List.getElem?_eq_getElem (by rw [hlen]; omega))
      have h1 := World.block_lt_of_cell? w _ h0
      simpa [Addr.add] using h1
    · intro j u hu
      have hj : j < L.length * k := by have := (List.getElem?_eq_some_iff.1 hu).1; rwa [flatMap_len hlen] at this
      have hd : j / k < L.length := Nat.div_lt_of_lt_mul (by rw [Nat.mul_comm]; exact hj)
      have hmod := Nat.mod_lt j hk0
      have hj' : j = j / k * k + j % k := by rw [Nat.mul_comm]; exact (Nat.div_add_mod j k).symm
      rw [hj', flatMap_at hlen hd hmod] at hu
      rw [hj']
      exact (hp _ hd).1 _ _ hu
    · intro a ha
      obtain ⟨i, hi', rfl⟩ := List.getElem_of_mem ha
      exact (hp i hi').2
def sizes2 (a : S2) : Prop := a.1.size ≤ 9223372036854775807 ∧ a.2.size ≤ 9223372036854775807
theorem trod_str {u : TypeId} {n : Nat} {v : Value} {y : DataW H × List MemPlace} (hu : P.underlying u = some .string) (h : DataW.trod enc P w 0 spare held n u [v] = some y) : ∃ s : ByteArray, v = .string s ∧ s.size ≤ 9223372036854775807 := by
  obtain ⟨s, hs, _, hz⟩ := DataW.trod_string hu h
  simp at hs
  exact ⟨s, hs, by simpa [maxLen] using hz⟩
theorem trod_num {u : TypeId} {n : Nat} {v : Value} {y : DataW H × List MemPlace} (hu : P.underlying u = some (.int .i64)) (h : DataW.trod enc P w 0 spare held n u [v] = some y) : ∃ z : Int, v = .int .i64 z ∧ -9223372036854775808 ≤ z ∧ z ≤ 9223372036854775807 := by
  obtain ⟨z, hs, _, hz⟩ := DataW.trod_int hu h
  simp at hs
  exact ⟨z, hs, i64_lo hz, i64_hi hz⟩
theorem two_list {α : Type} {l : List α} (h : l.length = 2) : ∃ a b, l = [a, b] := by
  match l, h with
  | [a, b], _ => exact ⟨a, b, rfl⟩
theorem four_list {α : Type} {l : List α} (h : l.length = 4) : ∃ a b c d, l = [a, b, c, d] := by
  match l, h with
  | [a, b, c, d], _ => exact ⟨a, b, c, d, rfl⟩
theorem one_list {α : Type} {l : List α} (h : l.length = 1) : ∃ a, l = [a] := by
  match l, h with
  | [a], _ => exact ⟨a, rfl⟩
theorem trod_s2s {t e u : TypeId} {f0 f1 : Field} {fuel : Nat} {v : Value} {x : DataW H × List MemPlace} (ht : P.underlying t = some (.slice e)) (he : P.underlying e = some (.struct #[f0, f1])) (hu : P.underlying u = some .string)
    (hone : oneCellFields P #[f0, f1] = true) (hC : P.cellsOf e = 2) (e0 : f0.type = u) (e1 : f1.type = u) (h : DataW.trod enc P w 0 spare held fuel t [v] = some x) :
    ∃ A n c l, v = .slice A n c ∧ l.length = n ∧ n ≤ maxLen ∧ Reads w w.heap.size 2 A n (s2V l) ∧ ∀ a ∈ l, sizes2 a := by
  obtain ⟨A, n, c, l, hv, h1, h2, h3, h4⟩ := trod_rows (good := sizes2) 2 (fun a : S2 => [.string a.1, .string a.2]) (fun _ => rfl) (by omega) ht he hone hC rfl h (fun vs hl hj => by
    obtain ⟨v0, v1, rfl⟩ := two_list hl
    obtain ⟨x0, y0, n0, e0', h0⟩ := hj 0 f0 rfl
    obtain ⟨x1, y1, n1, e1', h1⟩ := hj 1 f1 rfl
    simp at e0' e1'
    subst e0' e1'
    rw [e0] at h0
    rw [e1] at h1
    obtain ⟨s0, rfl, z0⟩ := trod_str hu h0
    obtain ⟨s1, rfl, z1⟩ := trod_str hu h1
    exact ⟨(s0, s1), rfl, z0, z1⟩)
  simp at hv
  exact ⟨A, n, c, l, hv, h1, h2, h3, h4⟩
theorem trod_ruls {t e u i : TypeId} {f0 f1 : Field} {fuel : Nat} {v : Value} {x : DataW H × List MemPlace} (ht : P.underlying t = some (.slice e)) (he : P.underlying e = some (.struct #[f0, f1])) (hu : P.underlying u = some .string) (hi : P.underlying i = some (.int .i64))
    (hone : oneCellFields P #[f0, f1] = true) (hC : P.cellsOf e = 2) (e0 : f0.type = u) (e1 : f1.type = i) (h : DataW.trod enc P w 0 spare held fuel t [v] = some x) :
    ∃ A n c l, v = .slice A n c ∧ l.length = n ∧ n ≤ maxLen ∧ Reads w w.heap.size 2 A n (rulV l) ∧ ∀ a ∈ l, a.1.size ≤ 9223372036854775807 ∧ -9223372036854775808 ≤ a.2 ∧ a.2 ≤ 9223372036854775807 := by
  obtain ⟨A, n, c, l, hv, h1, h2, h3, h4⟩ := trod_rows (good := fun a : Rul => a.1.size ≤ 9223372036854775807 ∧ -9223372036854775808 ≤ a.2 ∧ a.2 ≤ 9223372036854775807) 2 (fun a : Rul => [.string a.1, .int .i64 a.2]) (fun _ => rfl) (by omega) ht he hone hC rfl h (fun vs hl hj => by
    obtain ⟨v0, v1, rfl⟩ := two_list hl
    obtain ⟨x0, y0, n0, e0', h0⟩ := hj 0 f0 rfl
    obtain ⟨x1, y1, n1, e1', h1⟩ := hj 1 f1 rfl
    simp at e0' e1'
    subst e0' e1'
    rw [e0] at h0
    rw [e1] at h1
    obtain ⟨s0, rfl, z0⟩ := trod_str hu h0
    obtain ⟨s1, rfl, z1⟩ := trod_num hi h1
    exact ⟨(s0, s1), rfl, z0, z1⟩)
  simp at hv
  exact ⟨A, n, c, l, hv, h1, h2, h3, h4⟩
def okTok (t : Tok) : Prop := (-9223372036854775808 ≤ t.kind ∧ t.kind ≤ 9223372036854775807) ∧ t.name.size ≤ 9223372036854775807 ∧ (t.attrs.length ≤ maxLen ∧ ∀ a ∈ t.attrs, sizes2 a) ∧ t.text.size ≤ 9223372036854775807
def okNod (t : Nod) : Prop := t.name.size ≤ 9223372036854775807 ∧ t.text.size ≤ 9223372036854775807 ∧ (-9223372036854775808 ≤ t.parent ∧ t.parent ≤ 9223372036854775807) ∧ t.attrs.length ≤ maxLen ∧ ∀ a ∈ t.attrs, sizes2 a
def okRul (a : Rul) : Prop := a.1.size ≤ 9223372036854775807 ∧ -9223372036854775808 ≤ a.2 ∧ a.2 ≤ 9223372036854775807
def okSh (l : List Rul) : Prop := l.length ≤ maxLen ∧ ∀ a ∈ l, okRul a
/-- the facts of a program on the types of attributes and of a struct of four fields (tokens or nodes) -/
theorem trod_toks {t e u i ta ea : TypeId} {f0 f1 f2 f3 g0 g1 : Field} {fuel : Nat} {v : Value} {x : DataW H × List MemPlace} (ht : P.underlying t = some (.slice e)) (he : P.underlying e = some (.struct #[f0, f1, f2, f3])) (hu : P.underlying u = some .string) (hi : P.underlying i = some (.int .i64))
    (hone : oneCellFields P #[f0, f1, f2, f3] = true) (hC : P.cellsOf e = 4) (e0 : f0.type = i) (e1 : f1.type = u) (e2 : f2.type = ta) (e3 : f3.type = u)
    (hta : P.underlying ta = some (.slice ea)) (hea : P.underlying ea = some (.struct #[g0, g1])) (honea : oneCellFields P #[g0, g1] = true) (hCa : P.cellsOf ea = 2) (d0 : g0.type = u) (d1 : g1.type = u)
    (h : DataW.trod enc P w 0 spare held fuel t [v] = some x) :
    ∃ A n c l, v = .slice A n c ∧ n ≤ maxLen ∧ ReadsN tokN w w.heap.size A n l ∧ ∀ a ∈ l, okTok a := by
  obtain ⟨A, n, c, L, hv, h1, h2, h3, h4⟩ := trod_rows (good := fun y : Tok × Hd => Reads w w.heap.size 2 y.2.1 y.1.attrs.length (s2V y.1.attrs) ∧ okTok y.1) 4 tokN.cells (fun _ => rfl) (by omega) ht he hone hC rfl h (fun vs hl hj => by
    obtain ⟨v0, v1, v2, v3, rfl⟩ := four_list hl
    obtain ⟨x0, y0, n0, e0', h0⟩ := hj 0 f0 rfl
    obtain ⟨x1, y1, n1, e1', h1⟩ := hj 1 f1 rfl
    obtain ⟨x2, y2, n2, e2', h2⟩ := hj 2 f2 rfl
    obtain ⟨x3, y3, n3, e3', h3⟩ := hj 3 f3 rfl
    simp at e0' e1' e2' e3'
    subst e0' e1' e2' e3'
    rw [e0] at h0
    rw [e1] at h1
    rw [e2] at h2
    rw [e3] at h3
    obtain ⟨k, rfl, z0⟩ := trod_num hi h0
    obtain ⟨s1, rfl, z1⟩ := trod_str hu h1
    obtain ⟨A', n', c', l', rfl, q1, q2, q3, q4⟩ := trod_s2s hta hea hu honea hCa d0 d1 h2
    obtain ⟨s3, rfl, z3⟩ := trod_str hu h3
    subst q1
    exact ⟨(⟨k, s1, l', s3⟩, (A', c')), rfl, q3, z0, z1, ⟨q2, q4⟩, z3⟩)
  simp at hv
  exact ⟨A, n, c, L.map (·.1), hv, h2, ⟨L, rfl, h3, fun y hy => (h4 y hy).1⟩, fun a ha => by
    obtain ⟨y, hy, rfl⟩ := List.mem_map.1 ha
    exact (h4 y hy).2⟩
theorem trod_nods {t e u i ta ea : TypeId} {f0 f1 f2 f3 g0 g1 : Field} {fuel : Nat} {v : Value} {x : DataW H × List MemPlace} (ht : P.underlying t = some (.slice e)) (he : P.underlying e = some (.struct #[f0, f1, f2, f3])) (hu : P.underlying u = some .string) (hi : P.underlying i = some (.int .i64))
    (hone : oneCellFields P #[f0, f1, f2, f3] = true) (hC : P.cellsOf e = 4) (e0 : f0.type = u) (e1 : f1.type = u) (e2 : f2.type = i) (e3 : f3.type = ta)
    (hta : P.underlying ta = some (.slice ea)) (hea : P.underlying ea = some (.struct #[g0, g1])) (honea : oneCellFields P #[g0, g1] = true) (hCa : P.cellsOf ea = 2) (d0 : g0.type = u) (d1 : g1.type = u)
    (h : DataW.trod enc P w 0 spare held fuel t [v] = some x) :
    ∃ A n c l, v = .slice A n c ∧ n ≤ maxLen ∧ ReadsN nodN w w.heap.size A n l ∧ ∀ a ∈ l, okNod a := by
  obtain ⟨A, n, c, L, hv, h1, h2, h3, h4⟩ := trod_rows (good := fun y : Nod × Hd => Reads w w.heap.size 2 y.2.1 y.1.attrs.length (s2V y.1.attrs) ∧ okNod y.1) 4 nodN.cells (fun _ => rfl) (by omega) ht he hone hC rfl h (fun vs hl hj => by
    obtain ⟨v0, v1, v2, v3, rfl⟩ := four_list hl
    obtain ⟨x0, y0, n0, e0', h0⟩ := hj 0 f0 rfl
    obtain ⟨x1, y1, n1, e1', h1⟩ := hj 1 f1 rfl
    obtain ⟨x2, y2, n2, e2', h2⟩ := hj 2 f2 rfl
    obtain ⟨x3, y3, n3, e3', h3⟩ := hj 3 f3 rfl
    simp at e0' e1' e2' e3'
    subst e0' e1' e2' e3'
    rw [e0] at h0
    rw [e1] at h1
    rw [e2] at h2
    rw [e3] at h3
    obtain ⟨s0, rfl, z0⟩ := trod_str hu h0
    obtain ⟨s1, rfl, z1⟩ := trod_str hu h1
    obtain ⟨k, rfl, z2⟩ := trod_num hi h2
    obtain ⟨A', n', c', l', rfl, q1, q2, q3, q4⟩ := trod_s2s hta hea hu honea hCa d0 d1 h3
    subst q1
    exact ⟨(⟨s0, s1, k, l'⟩, (A', c')), rfl, q3, z0, z1, z2, q2, q4⟩)
  simp at hv
  exact ⟨A, n, c, L.map (·.1), hv, h2, ⟨L, rfl, h3, fun y hy => (h4 y hy).1⟩, fun a ha => by
    obtain ⟨y, hy, rfl⟩ := List.mem_map.1 ha
    exact (h4 y hy).2⟩
theorem trod_sheets {t e u i ta ea : TypeId} {f0 g0 g1 : Field} {fuel : Nat} {v : Value} {x : DataW H × List MemPlace} (ht : P.underlying t = some (.slice e)) (he : P.underlying e = some (.struct #[f0])) (hu : P.underlying u = some .string) (hi : P.underlying i = some (.int .i64))
    (hone : oneCellFields P #[f0] = true) (hC : P.cellsOf e = 1) (e0 : f0.type = ta)
    (hta : P.underlying ta = some (.slice ea)) (hea : P.underlying ea = some (.struct #[g0, g1])) (honea : oneCellFields P #[g0, g1] = true) (hCa : P.cellsOf ea = 2) (d0 : g0.type = u) (d1 : g1.type = i)
    (h : DataW.trod enc P w 0 spare held fuel t [v] = some x) :
    ∃ A n c l, v = .slice A n c ∧ n ≤ maxLen ∧ ReadsN shN w w.heap.size A n l ∧ ∀ a ∈ l, okSh a := by
  obtain ⟨A, n, c, L, hv, h1, h2, h3, h4⟩ := trod_rows (good := fun y : List Rul × Hd => Reads w w.heap.size 2 y.2.1 y.1.length (rulV y.1) ∧ okSh y.1) 1 shN.cells (fun _ => rfl) (by omega) ht he hone hC rfl h (fun vs hl hj => by
    obtain ⟨v0, rfl⟩ := one_list hl
    obtain ⟨x0, y0, n0, e0', h0⟩ := hj 0 f0 rfl
    simp at e0'
    subst e0'
    rw [e0] at h0
    obtain ⟨A', n', c', l', rfl, q1, q2, q3, q4⟩ := trod_ruls hta hea hu hi honea hCa d0 d1 h0
    subst q1
    exact ⟨(l', (A', c')), rfl, q3, q2, q4⟩)
  simp at hv
  exact ⟨A, n, c, L.map (·.1), hv, h2, ⟨L, rfl, h3, fun y hy => (h4 y hy).1⟩, fun a ha => by
    obtain ⟨y, hy, rfl⟩ := List.mem_map.1 ha
    exact (h4 y hy).2⟩
/-! ### Parameters -/
theorem open_tok {r : Reach} {b0 : Nat} {e u i ta ea : TypeId} {f0 f1 f2 f3 g0 g1 : Field} {v : Value} {d : DataW H} {ps : List MemPlace} (he : P.underlying e = some (.struct #[f0, f1, f2, f3])) (hu : P.underlying u = some .string) (hi : P.underlying i = some (.int .i64))
    (hone : oneCellFields P #[f0, f1, f2, f3] = true) (hC : P.cellsOf e = 4) (e0 : f0.type = i) (e1 : f1.type = u) (e2 : f2.type = ta) (e3 : f3.type = u)
    (hta : P.underlying ta = some (.slice ea)) (hea : P.underlying ea = some (.struct #[g0, g1])) (honea : oneCellFields P #[g0, g1] = true) (hCa : P.cellsOf ea = 2) (d0 : g0.type = u) (d1 : g1.type = u)
    (hv : Value.okWide P w r b0 e v) (h : DataW.Trod enc P w 0 spare held e v d ps) :
    ∃ (t : Tok) (A : Option Addr) (c : Nat), v = .agg #[.int .i64 t.kind, .string t.name, .slice A t.attrs.length c, .string t.text] ∧ Reads w w.heap.size 2 A t.attrs.length (s2V t.attrs) ∧ okTok t := by
  obtain ⟨v0, v1, v2, v3, y0, y1, y2, y3, n, rfl, _, _, h0, h1, h2, h3⟩ := Go.Joins.open_agg4 he hone hC hv h
  rw [e0] at h0
  rw [e1] at h1
  rw [e2] at h2
  rw [e3] at h3
  obtain ⟨k, rfl, z0⟩ := trod_num hi h0
  obtain ⟨s1, rfl, z1⟩ := trod_str hu h1
  obtain ⟨A', n', c', l', rfl, q1, q2, q3, q4⟩ := trod_s2s hta hea hu honea hCa d0 d1 h2
  obtain ⟨s3, rfl, z3⟩ := trod_str hu h3
  subst q1
  exact ⟨⟨k, s1, l', s3⟩, A', c', rfl, q3, z0, z1, ⟨q2, q4⟩, z3⟩
theorem open_one {r : Reach} {b0 : Nat} {e : TypeId} {f0 : Field} {v : Value} {d : DataW H} {ps : List MemPlace} (he : P.underlying e = some (.struct #[f0])) (hone : oneCellFields P #[f0] = true) (hC : P.cellsOf e = 1)
    (hv : Value.okWide P w r b0 e v) (h : DataW.Trod enc P w 0 spare held e v d ps) : ∃ (v0 : Value) (y0 : DataW H × List MemPlace) (n : Nat), v = .agg #[v0] ∧ DataW.trod enc P w 0 spare held n f0.type [v0] = some y0 := by
  obtain ⟨cs, rfl, hsz⟩ := okWide_struct he hv
  obtain ⟨c0, rfl⟩ : ∃ c0, cs = #[c0] := by
    obtain ⟨l⟩ := cs
    match l, hsz.trans hC with
    | [c0], _ => exact ⟨c0, rfl⟩
  obtain ⟨fuel, hf⟩ := h
  obtain ⟨y0, n, hx, _, h0⟩ := trod_struct1 he hf
  obtain ⟨o0, k0⟩ := hone_of hone 0 f0 rfl
  exact ⟨c0, y0, n, rfl, by simpa [Value.cells, o0, k0] using h0⟩
theorem open_str1 {r : Reach} {b0 : Nat} {e u : TypeId} {f0 : Field} {v : Value} {d : DataW H} {ps : List MemPlace} (he : P.underlying e = some (.struct #[f0])) (hu : P.underlying u = some .string) (hone : oneCellFields P #[f0] = true) (hC : P.cellsOf e = 1) (e0 : f0.type = u)
    (hv : Value.okWide P w r b0 e v) (h : DataW.Trod enc P w 0 spare held e v d ps) : ∃ s : ByteArray, v = .agg #[.string s] ∧ s.size ≤ maxLen := by
  obtain ⟨v0, y0, n, rfl, h0⟩ := open_one he hone hC hv h
  rw [e0] at h0
  obtain ⟨s, rfl, hz⟩ := trod_str hu h0
  exact ⟨s, rfl, by unfold maxLen; exact hz⟩
theorem trod_nums {t e : TypeId} {fuel : Nat} {v : Value} {x : DataW H × List MemPlace} (ht : P.underlying t = some (.slice e)) (he : P.underlying e = some (.int .i64)) (hc : P.cellsOf e = 1) (h : DataW.trod enc P w 0 spare held fuel t [v] = some x) :
    ∃ A n c zs, v = .slice A n c ∧ ArgInts .i64 w A n zs := by
  have hT : DataW.Trod enc P w 0 spare held t v x.1 x.2 ∨ True := .inr trivial
  rcases DataW.trod_slice ht h with ⟨hcs, _⟩ | ⟨a, len, cap, elems, rest, n, _, hcs, _, _, hl, hm, hlen, hel, _, _⟩
  · simp at hcs
    subst hcs
    exact ⟨none, 0, 0, [], rfl, rfl, by simp [maxLen], ⟨rfl, fun h => absurd h (by omega)⟩, by simp⟩
  · simp at hcs
    subst hcs
    have hex : ∀ i, i < len → ∃ z : Int, w.cell? (a.add i) = some (.int .i64 z) ∧ (Lit.int .i64 z).wf = true := by
      intro i hi
      have h1 := hel i hi
      rw [hc, Nat.mul_one] at h1
      rw [List.getElem?_eq_getElem (by omega)] at h1
      obtain ⟨cs', h2, h3⟩ := Option.bind_eq_some_iff.1 h1
      obtain ⟨_, hcl, hat⟩ := World.cells?_some h2
      have h4 := hat 0 (by omega)
      obtain ⟨z, hz, _, hw⟩ := DataW.trod_int he h3
      subst hz
      refine ⟨z, ?_, hw⟩
      have : (a.add i).add 0 = a.add i := by simp [Addr.add]
      rw [this] at h4
      simpa using h4
    obtain ⟨L, hL, hp⟩ := exists_list len hex
    refine ⟨some a, len, cap, L, rfl, hL, by omega, ⟨by simp [hL], fun hn => ⟨a, rfl, ?_, ?_⟩⟩, ?_⟩
    · have h1 := World.block_lt_of_cell? w _ (hp 0 (by omega)).1
      simpa [Addr.add] using h1
    · intro j u hu
      rw [List.getElem?_map] at hu
      obtain ⟨z, hz, rfl⟩ := Option.map_eq_some_iff.1 hu
      obtain ⟨hj, rfl⟩ := List.getElem?_eq_some_iff.1 hz
      exact (hp j hj).1
    · intro z hz
      obtain ⟨i, hi, rfl⟩ := List.getElem_of_mem hz
      exact (hp i hi).2
/-- what a builder that came in reads as -/
def ArgB (w : World) (A : Option Addr) (n : Nat) (l : List Nod) (A' : Option Addr) (n' : Nat) (zs : List Int) : Prop :=
  n ≤ 9223372036854775807 ∧ ReadsN nodN w w.heap.size A n l ∧ (∀ a ∈ l, okNod a) ∧ zs.length = n' ∧ n' ≤ 9223372036854775807 ∧ Reads w w.heap.size 1 A' n' (zs.map (Value.int .i64)) ∧ ∀ z ∈ zs, -9223372036854775808 ≤ z ∧ z ≤ 9223372036854775807
theorem open_builder {r : Reach} {b0 : Nat} {b t e u i ti ta ea : TypeId} {h0 h1 f0 f1 f2 f3 g0 g1 : Field} {v : Value} {d : DataW H} {ps : List MemPlace} (hb : P.underlying b = some (.struct #[h0, h1])) (honeb : oneCellFields P #[h0, h1] = true) (hCb : P.cellsOf b = 2) (c0 : h0.type = t) (c1 : h1.type = ti)
    (ht : P.underlying t = some (.slice e)) (he : P.underlying e = some (.struct #[f0, f1, f2, f3])) (hu : P.underlying u = some .string) (hi : P.underlying i = some (.int .i64)) (hti : P.underlying ti = some (.slice i)) (hci : P.cellsOf i = 1)
    (hone : oneCellFields P #[f0, f1, f2, f3] = true) (hC : P.cellsOf e = 4) (e0 : f0.type = u) (e1 : f1.type = u) (e2 : f2.type = i) (e3 : f3.type = ta)
    (hta : P.underlying ta = some (.slice ea)) (hea : P.underlying ea = some (.struct #[g0, g1])) (honea : oneCellFields P #[g0, g1] = true) (hCa : P.cellsOf ea = 2) (d0 : g0.type = u) (d1 : g1.type = u)
    (hv : Value.okWide P w r b0 b v) (h : DataW.Trod enc P w 0 spare held b v d ps) :
    ∃ A n c l A' n' c' zs, v = .agg #[.slice A n c, .slice A' n' c'] ∧ ArgB w A n l A' n' zs := by
  obtain ⟨v0, v1, y0, y1, n, rfl, _, _, q0, q1⟩ := Go.Joins.open_agg2 hb honeb hCb hv h
  rw [c0] at q0
  rw [c1] at q1
  obtain ⟨A, n, c, l, rfl, k1, k2, k3⟩ := trod_nods ht he hu hi hone hC e0 e1 e2 e3 hta hea honea hCa d0 d1 q0
  obtain ⟨A', n', c', zs, rfl, m1, m2, m3, m4⟩ := trod_nums hti hi hci q1
  unfold maxLen at k1 m2
  exact ⟨A, n, c, l, A', n', c', zs, rfl, by omega, k2, k3, m1, by omega, m3, i64_all m4⟩
end
end Go.Proofs.YtmfaihelphfbgaaDoor
