/-
  Contracts of the generated helpers on slices of tokens: measure, compare, copy. Conditions: sizes of Go strings and slices, at most 2^30 elements.
-/
import Derived.Test.YtkmechjilekcmaaDoorNmk
import Derived.Test.YtkmechjilekcmaaDoorNop
import Derived.Deep.RegionWith
namespace Go.Proofs.YtkmechjilekcmaaDoor
set_option linter.unusedVariables false
set_option linter.unusedSimpArgs false
set_option maxRecDepth 100000
open Go.ChangeShapes Go.WideShapes Go.ChangeAt Go.RowKit Go.Deep

theorem run_make_four {P : Program} (t e : TypeId) (z : Value) (bytes : Nat) (ht : P.underlying t = some (.slice e)) (hinfo : (P.info? e).map (fun i => (i.zero, i.size, i.bytes)) = some (some z, 4, bytes)) (n : Nat) (hb : bytes * n ≤ 281474976710656) (h63 : n ≤ 9223372036854775807) (w : World) :
    (Instr.makeSlice t (.int .i64 (n : Int)) (.int .i64 (n : Int))).run P w = .ok (.slice (some ⟨w.heap.size, 0, none⟩) n n) (w.alloc (.cells (madeCells z.cells (n * 4)) e)) := by
  obtain ⟨i, hi, hz, hs, hby⟩ := info_parts hinfo
  have h2 : (i.bytes : Int) * (n : Int) ≤ 281474976710656 := by
    rw [hby]
    have h : ((bytes * n : Nat) : Int) ≤ 281474976710656 := by omega
    rwa [Int.natCast_mul] at h
  have hr := run_make (P := P) w t e i z ht hi hz .i64 .i64 n n (by omega) (Int.le_refl _) h2 (by omega)
  simp only [Int.toNat_natCast, hs] at hr
  exact hr
def toksSz (l : List Tok) : Int := (l.map tokSz).sum
theorem tokSz_nonneg (t : Tok) : 0 ≤ tokSz t := by have := s2sz_nonneg t.attrs; unfold tokSz; omega
theorem toksSz_nonneg (l : List Tok) : 0 ≤ toksSz l := by
  induction l with
  | nil => simp [toksSz]
  | cons a l ih => have := tokSz_nonneg a; simp only [toksSz, List.map_cons, List.sum_cons] at *; omega
theorem toksSz_mem {l : List Tok} {a : Tok} (h : a ∈ l) : tokSz a ≤ toksSz l := by
  induction l with
  | nil => cases h
  | cons b l ih =>
    have h1 : toksSz (b :: l) = tokSz b + toksSz l := by simp [toksSz]
    have h2 := toksSz_nonneg l
    have h3 := tokSz_nonneg b
    rw [h1]
    rcases List.mem_cons.1 h with rfl | h
    · omega
    · have := ih h; omega
theorem toksSz_take {l : List Tok} {k : Nat} (h : k < l.length) : toksSz (l.take (k + 1)) = toksSz (l.take k) + tokSz l[k] := by
  rw [List.take_succ_eq_append_getElem h, toksSz, toksSz, List.map_append, List.sum_append]; simp
theorem attrs_le_tokSz (t : Tok) : (t.attrs.length : Int) ≤ tokSz t := by have := s2sz_nonneg t.attrs; unfold tokSz; omega
theorem info_Token : (Tryd.prog.info? 24).map (fun i => (i.zero, i.size, i.bytes)) = some (some (.agg #[.int .i64 0, .string ⟨#[]⟩, .slice none 0 0, .string ⟨#[]⟩]), 4, 64) := by kernel_rfl
theorem row_Token : RowT Tryd.prog 34 24 4 64 := RowT.mk' Tryd.underlying34 info_Token rfl (by omega)
set_option maxHeartbeats 400000 in
theorem eqTokenS_yes {A A' : Option Addr} {n n' c c' : Nat} {l : List Tok} (w : World) (hx : ReadsN tokN w w.heap.size A n l) (hy : ReadsN tokN w w.heap.size A' n' l) (hn : n ≤ 1073741824) (hm : ∀ a ∈ l, a.attrs.length ≤ 1073741824) :
    Calls Tryd.prog 28 #[.slice A n c, .slice A' n' c'] w fun e w' => e = .returned (.bool true) ∧ Below w.heap.size w w' := by
  have lx := hx.len
  have ly := hy.len
  obtain rfl : n = n' := by omega
  have Lx := Lib.hid lx
  clear lx ly
  go_enter Tryd.func28, Tryd.ntmps28
  go_wp2
  go_loopw [5] (fun i wr => ∃ k : Nat, k ≤ n ∧ i = .int .i64 k ∧ Below w.heap.size w wr) (fun i _ => n - (intOf i).toNat)
  case atStart => exact ⟨0, Nat.zero_le _, rfl, Below.refl _ _⟩
  case round =>
    obtain ⟨k, hk, rfl, hbel⟩ := hrel
    have hbs := hbel.size
    by_cases hlt : k < n
    · obtain ⟨b0, off0, rfl, hab, hcx⟩ := (hx.below hbel).tok hlt
      obtain ⟨b1, off1, rfl, hab', hcy⟩ := (hy.below hbel).tok hlt
      have hl1 : k < l.length := by rw [Lx.out]; exact hlt
      obtain ⟨A1, c1, hr, hc0, hc1, hc2, hc3⟩ := hcx hl1
      obtain ⟨A2, c2, hs, hd0, hd1, hd2, hd3⟩ := hcy hl1
      have hm1 := hm l[k] (List.getElem_mem _)
      have hk0 : (0 : Int) ≤ (k : Int) := Int.natCast_nonneg _
      have hk9 : (k : Int) < (n : Int) := by omega
      generalize l[k] = a at *
      have hr' : Reads wr.drew wr.drew.heap.size 2 A1 a.attrs.length (s2V a.attrs) := hr.more hbs
      have hs' : Reads wr.drew wr.drew.heap.size 2 A2 a.attrs.length (s2V a.attrs) := hs.more hbs
      clear hx hy hcx hcy hm hr hs
      go_wp2_with fail
      go_region_with (go_at_call 10; refine (eqToken_yes a _ hr' hs' hm1).mono ?_; rintro e w1 ⟨rfl, bb1⟩)
      all_goals
        go_wp2
        go_roundw
        case rel => exact ⟨k + 1, by omega, by go_num, (hbel.drew).trans (bb1.mono hbs)⟩
        case measure => simp [intOf]; omega
    · obtain rfl : k = n := by omega
      go_wp2
      go_ret
      exact ⟨rfl, hbel⟩
end Go.Proofs.YtkmechjilekcmaaDoor
