/-
  Contract of SortAddrs of the reference. Condition: at most 2^30 elements.
-/
import Derived.Test.YtpehaoamfifgbaaSo
import Derived.Test.YtpehaoamfifgbaaHas
import Derived.Test.YtpehaoamfifgbaaAdd
import Derived.Test.YtpehaoamfifgbaaAds
import Derived.Deep.RegionHeld3
import Derived.Deep.QuietTactic
import Derived.BigQuiet
namespace Go.Proofs.Ytpehaoamfifgbaa
set_option linter.unusedVariables false
set_option linter.unusedSimpArgs false
set_option maxRecDepth 100000
open Go.ChangeShapes Go.WideShapes Go.ChangeAt Go.RowKit Go.Deep

theorem Reads.take2 {w : World} {B n m : Nat} {A : Option Addr} {l : List S2} (h : Reads w B 2 A n (s2V l)) (hm : m ≤ n) : Reads w B 2 A m (s2V (l.take m)) := by
  have hl := h.len2
  refine ⟨by rw [s2V_length, List.length_take]; have : min m l.length = m := by omega
             rw [this], fun h0 => ?_⟩
  obtain ⟨ad, e, hb, hc⟩ := h.2 (by omega)
  refine ⟨ad, e, hb, fun j u hu => hc j u ?_⟩
  rw [← s2V_take, List.getElem?_take] at hu
  split at hu
  · exact hu
  · cases hu
theorem Reads.drop2 {w : World} {B n m b off : Nat} {l : List S2} (h : Reads w B 2 (some ⟨b, off, none⟩) n (s2V l)) (hm : m ≤ n) : Reads w B 2 (some ⟨b, off + m * 2, none⟩) (n - m) (s2V (l.drop m)) := by
  have hl := h.len2
  refine ⟨by rw [s2V_length, List.length_drop, hl], fun h0 => ?_⟩
  obtain ⟨b', off', e, hb, hc⟩ := h.place (by omega) (by omega)
  injection e with e
  injection e with e1 e2
  subst e1 e2
  refine ⟨_, rfl, hb, fun j u hu => ?_⟩
  rw [← s2V_drop, List.getElem?_drop] at hu
  have := hc _ _ hu
  have hadd : (⟨b, off + m * 2, none⟩ : Addr).add j = ⟨b, off + (m * 2 + j), none⟩ := by unfold Addr.add; split <;> simp_all <;> omega
  rw [hadd]
  exact this
theorem Reads.pair (w : World) (a b : Value) (t : TypeId) : Reads (w.alloc (.cells #[a, b] t)) (w.heap.size + 1) 2 (some ⟨w.heap.size, 0, none⟩) 1 [a, b] := by
  refine ⟨rfl, fun _ => ⟨_, rfl, by simp, fun j x hx => ?_⟩⟩
  have hadd : (⟨w.heap.size, 0, none⟩ : Addr).add j = ⟨w.heap.size, j, none⟩ := by unfold Addr.add; split <;> simp_all
  rw [hadd, World.cell?_alloc_at _ _ _ _ rfl]
  simpa using hx
theorem Own.shape {w : World} {lo hi n c : Nat} {e : TypeId} {size : Nat} {A : Option Addr} {xs : List Value} (h : Own w lo hi e size (.slice A n c) n xs) : (A = none ∧ n = 0 ∧ c = 0) ∨ ∃ g, A = some ⟨g, 0, none⟩ ∧ n ≤ c ∧ c ≤ 9223372036854775807 := by
  obtain ⟨⟨h1, h2⟩, h3⟩ := h
  rcases h2 with ⟨hv, hn⟩ | ⟨g, cap, cur, hv, hb, hg, hn, hc, hs, ht⟩
  · injection hv with h4 _ h5
    exact .inl ⟨h4, hn, h5⟩
  · injection hv with hA _ hcap
    unfold maxLen at hc
    exact .inr ⟨g, hA, by omega, by omega⟩
def GotSort (w : World) (e : TypeId) (l : List S2) (r : Ending) (w' : World) : Prop :=
  ∃ x A c, SortOf l x ∧ x.length ≤ l.length ∧ r = .returned (.slice A x.length c) ∧ Own w' w.heap.size w'.heap.size e 2 (.slice A x.length c) x.length (s2V x) ∧ Below w.heap.size w w'
end Go.Proofs.Ytpehaoamfifgbaa
