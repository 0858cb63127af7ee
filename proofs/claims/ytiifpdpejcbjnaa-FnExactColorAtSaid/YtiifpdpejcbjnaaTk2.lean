/-
  Contracts of the generated helpers on slices of tokens: measure, compare, copy. Conditions: sizes of Go strings and slices, at most 2^30 elements.
-/
import Derived.Test.YtiifpdpejcbjnaaNmk
import Derived.Test.YtiifpdpejcbjnaaNop
import Derived.Deep.RegionWith
namespace Go.Proofs.Ytiifpdpejcbjnaa
set_option linter.unusedVariables false
set_option linter.unusedSimpArgs false
set_option maxRecDepth 100000
open Go.ChangeShapes Go.WideShapes Go.ChangeAt Go.RowKit Go.Deep

theorem run_make_four {P : Program} (t e : TypeId) (z : Value) (bytes : Nat) (ht : P.underlying t = some (.slice e)) (hinfo : (P.info? e).map (fun i => (i.zero, i.size, i.bytes)) = some (some z, 4, bytes)) (n : Nat) (hb : bytes * n ≤ 281474976710656) (h63 : n ≤ 9223372036854775807) (w : World) :
    (Instr.makeSlice t (.int .i64 (n : Int)) (.int .i64 (n : Int))).run P w = .ok (.slice (some ⟨w.heap.size, 0, none⟩) n n) (w.alloc (.cells (madeCells z.cells (n * 4)) e)) := by
  obtain ⟨i, hi, hz, hs, hby⟩ := info_parts hinfo
  have h2 : (i.bytes : Int) * (n : Int) ≤ 281474976710656 := by
    rw [hby]
    have h : ((bytes * n : Nat) : Int) ≤ 281474976710656 := by omega
    rwa [Int.natCast_mul] at h
  have hr := run_make (P := P) w t e i z ht hi hz .i64 .i64 n n (by omega) (Int.le_refl _) h2 (by omega)
  simp only [Int.toNat_natCast, hs] at hr
  exact hr
def toksSz (l : List Tok) : Int := (l.map tokSz).sum
theorem tokSz_nonneg (t : Tok) : 0 ≤ tokSz t := by have := s2sz_nonneg t.attrs; unfold tokSz; omega
theorem toksSz_nonneg (l : List Tok) : 0 ≤ toksSz l := by
  induction l with
  | nil => simp [toksSz]
  | cons a l ih => have := tokSz_nonneg a; simp only [toksSz, List.map_cons, List.sum_cons] at *; omega
theorem toksSz_mem {l : List Tok} {a : Tok} (h : a ∈ l) : tokSz a ≤ toksSz l := by
  induction l with
  | nil => cases h
  | cons b l ih =>
    have h1 : toksSz (b :: l) = tokSz b + toksSz l := by simp [toksSz]
    have h2 := toksSz_nonneg l
    have h3 := tokSz_nonneg b
    rw [h1]
    rcases List.mem_cons.1 h with rfl | h
    · omega
    · have := ih h; omega
theorem toksSz_take {l : List Tok} {k : Nat} (h : k < l.length) : toksSz (l.take (k + 1)) = toksSz (l.take k) + tokSz l[k] := by
  rw [List.take_succ_eq_append_getElem h, toksSz, toksSz, List.map_append, List.sum_append]; simp
theorem attrs_le_tokSz (t : Tok) : (t.attrs.length : Int) ≤ tokSz t := by have := s2sz_nonneg t.attrs; unfold tokSz; omega
end Go.Proofs.Ytiifpdpejcbjnaa
