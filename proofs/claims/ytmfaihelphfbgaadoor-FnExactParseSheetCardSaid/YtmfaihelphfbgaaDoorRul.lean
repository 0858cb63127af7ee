/-
  Words for slices of rules (a string and a number). No program is named. No condition.
-/
import Derived.Test.YtmfaihelphfbgaaDoorNop
namespace Go.Proofs.YtmfaihelphfbgaaDoor
set_option linter.unusedVariables false
open Go.RowKit
theorem rulV_at0 {l : List Rul} {k : Nat} (h : k < l.length) : (rulV l)[k * 2]? = some (.string l[k].1) := by
  have := flatMap_at (f := fun a : Rul => ([.string a.1, .int .i64 a.2] : List Value)) (k := 2) (fun _ => rfl) (i := k) (j := 0) h (by omega)
  simpa [rulV] using this
theorem rulV_at1 {l : List Rul} {k : Nat} (h : k < l.length) : (rulV l)[k * 2 + 1]? = some (.int .i64 l[k].2) := by
  have := flatMap_at (f := fun a : Rul => ([.string a.1, .int .i64 a.2] : List Value)) (k := 2) (fun _ => rfl) (i := k) (j := 1) h (by omega)
  simpa [rulV] using this
theorem rul_one (l : List Rul) : ∀ u ∈ rulV l, u.oneCell' = true := by
  intro u hu
  simp only [rulV, List.mem_flatMap] at hu
  obtain ⟨a, _, h⟩ := hu
  simp at h
  rcases h with rfl | rfl <;> rfl
theorem Reads.rul {w : World} {B n k : Nat} {A : Option Addr} {l : List Rul} (h : Reads w B 2 A n (rulV l)) (hk : k < n) :
    ∃ b off, A = some ⟨b, off, none⟩ ∧ b < B ∧ ∀ hl : k < l.length, w.cell? ⟨b, off + k * 2, none⟩ = some (.string l[k].1) ∧ w.cell? ⟨b, off + k * 2 + 1, none⟩ = some (.int .i64 l[k].2) := by
  obtain ⟨b, off, e, hb, hc⟩ := h.place (by omega) (by omega)
  exact ⟨b, off, e, hb, fun hl => ⟨hc _ _ (rulV_at0 hl), by rw [Nat.add_assoc]; exact hc _ _ (rulV_at1 hl)⟩⟩
theorem Reads.lenR {w : World} {B n : Nat} {A : Option Addr} {l : List Rul} (h : Reads w B 2 A n (rulV l)) : l.length = n := by
  have := h.1; rw [rulV_length] at this; omega
theorem fill_rul {cur : List Value} {l : List Rul} {k : Nat} (h : cur.take (k * 2) = (rulV l).take (k * 2)) (hk : k < l.length) (hc : k * 2 + 1 < cur.length) :
    ((cur.set (k * 2) (.string l[k].1)).set (k * 2 + 1) (.int .i64 l[k].2)).take ((k + 1) * 2) = (rulV l).take ((k + 1) * 2) := by
  have hl := rulV_length l
  have g0 : (rulV l)[k * 2]'(by omega) = .string l[k].1 := by have := rulV_at0 hk; rw [List.getElem?_eq_getElem (by omega)] at this; exact Option.some.inj this
  have g1 : (rulV l)[k * 2 + 1]'(by omega) = .int .i64 l[k].2 := by have := rulV_at1 hk; rw [List.getElem?_eq_getElem (by omega)] at this; exact Option.some.inj this
  have h1 := take_set_succ h (by omega) (by omega)
  rw [g0] at h1
  have h2 := take_set_succ h1 (by omega) (by simpa using hc)
  rw [g1] at h2
  rw [show (k + 1) * 2 = k * 2 + 1 + 1 from by omega]
  exact h2
def rulsz (l : List Rul) : Int := (l.map fun a => (a.1.size : Int)).sum
theorem rulsz_cons (a : Rul) (l : List Rul) : rulsz (a :: l) = a.1.size + rulsz l := by simp [rulsz]
theorem rulsz_nonneg (l : List Rul) : 0 ≤ rulsz l := by
  induction l with
  | nil => simp [rulsz]
  | cons a l ih => rw [rulsz_cons]; omega
theorem rulsz_take {l : List Rul} {k : Nat} (h : k < l.length) : rulsz (l.take (k + 1)) = rulsz (l.take k) + l[k].1.size := by
  rw [List.take_succ_eq_append_getElem h, rulsz, rulsz, List.map_append, List.sum_append]; simp
theorem rulsz_mem {l : List Rul} {a : Rul} (h : a ∈ l) : (a.1.size : Int) ≤ rulsz l := by
  induction l with
  | nil => cases h
  | cons b l ih =>
    rw [rulsz_cons]
    have := rulsz_nonneg l
    rcases List.mem_cons.1 h with rfl | h
    · omega
    · have := ih h; omega
section
open Go.ChangeShapes Go.WideShapes Go.Deep
variable {H : Type} {enc : TypeId × Value → H} {P : Program} {w : World} {spare : Nat → Bool} {held : Bool}
def ArgSh (w : World) (A : Option Addr) (n : Nat) (l : List (List Rul)) : Prop := n ≤ 9223372036854775807 ∧ ReadsN shN w w.heap.size A n l ∧ ∀ a ∈ l, okSh a
theorem open_sheets {r : Reach} {b0 : Nat} {t e u i ta ea : TypeId} {f0 g0 g1 : Field} {v : Value} {d : DataW H} {ps : List MemPlace} (ht : P.underlying t = some (.slice e)) (he : P.underlying e = some (.struct #[f0])) (hu : P.underlying u = some .string) (hi : P.underlying i = some (.int .i64))
    (hone : oneCellFields P #[f0] = true) (hC : P.cellsOf e = 1) (e0 : f0.type = ta)
    (hta : P.underlying ta = some (.slice ea)) (hea : P.underlying ea = some (.struct #[g0, g1])) (honea : oneCellFields P #[g0, g1] = true) (hCa : P.cellsOf ea = 2) (d0 : g0.type = u) (d1 : g1.type = i)
    (hv : Value.okWide P w r b0 t v) (h : DataW.Trod enc P w 0 spare held t v d ps) : ∃ A n c l, v = .slice A n c ∧ ArgSh w A n l := by
  obtain ⟨a0, len, cap, rfl⟩ := okWide_slice ht hv
  obtain ⟨fuel, hf⟩ := h
  obtain ⟨A, n, c, l, hv, h1, h2, h3⟩ := trod_sheets ht he hu hi hone hC e0 hta hea honea hCa d0 d1 (v := .slice a0 len cap) (by simpa [Value.cells] using hf)
  unfold maxLen at h1
  exact ⟨A, n, c, l, hv, by omega, h2, h3⟩
theorem open_sheet1 {r : Reach} {b0 : Nat} {e u i ta ea : TypeId} {f0 g0 g1 : Field} {v : Value} {d : DataW H} {ps : List MemPlace} (he : P.underlying e = some (.struct #[f0])) (hu : P.underlying u = some .string) (hi : P.underlying i = some (.int .i64))
    (hone : oneCellFields P #[f0] = true) (hC : P.cellsOf e = 1) (e0 : f0.type = ta)
    (hta : P.underlying ta = some (.slice ea)) (hea : P.underlying ea = some (.struct #[g0, g1])) (honea : oneCellFields P #[g0, g1] = true) (hCa : P.cellsOf ea = 2) (d0 : g0.type = u) (d1 : g1.type = i)
    (hv : Value.okWide P w r b0 e v) (h : DataW.Trod enc P w 0 spare held e v d ps) : ∃ (l : List Rul) (A : Option Addr) (c : Nat), v = .agg #[.slice A l.length c] ∧ Reads w w.heap.size 2 A l.length (rulV l) ∧ okSh l := by
  obtain ⟨v0, y0, n, rfl, h0⟩ := open_one he hone hC hv h
  rw [e0] at h0
  obtain ⟨A', n', c', l', rfl, q1, q2, q3, q4⟩ := trod_ruls hta hea hu hi honea hCa d0 d1 h0
  subst q1
  exact ⟨l', A', c', rfl, q3, q2, q4⟩
end
def mkR (q : Int) (n : Nat) : List Rul := (List.range n).map fun i : Nat => (mkT (q + 2 * (i : Int)), q + 2 * (i : Int) + 1)
theorem mkR_length (q : Int) (n : Nat) : (mkR q n).length = n := by simp [mkR]
theorem mkR_get {q : Int} {n k : Nat} (h : k < (mkR q n).length) : (mkR q n)[k] = (mkT (q + 2 * k), q + 2 * k + 1) := by simp [mkR]
end Go.Proofs.YtmfaihelphfbgaaDoor
