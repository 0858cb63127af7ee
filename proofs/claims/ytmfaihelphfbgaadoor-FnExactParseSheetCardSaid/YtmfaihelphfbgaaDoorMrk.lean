/-
  Contracts of the helper that prints a mark. Conditions: at most 2^30 elements, sizes of Go strings.
-/
import Derived.Test.YtmfaihelphfbgaaDoorTwo
import Derived.Test.YtmfaihelphfbgaaDoorStr
import Derived.Deep.RegionWith
namespace Go.Proofs.YtmfaihelphfbgaaDoor
set_option linter.unusedVariables false
set_option linter.unusedSimpArgs false
set_option maxRecDepth 100000
open Go.ChangeShapes Go.WideShapes Go.ChangeAt Go.RowKit Go.Deep

/-- what the measuring helpers answer -/
def Sz (left size : Int) (w : World) (e : Ending) (w' : World) : Prop :=
  ∃ r : Int, e = .returned (.int .i64 r) ∧ r ≤ left ∧ -1 ≤ r ∧ (0 ≤ r → size + r ≤ left) ∧ Below w.heap.size w w'
theorem run_make_two {P : Program} (t e : TypeId) (z : Value) (bytes : Nat) (ht : P.underlying t = some (.slice e)) (hinfo : (P.info? e).map (fun i => (i.zero, i.size, i.bytes)) = some (some z, 2, bytes)) (n : Nat) (hb : bytes * n ≤ 281474976710656) (h63 : n ≤ 9223372036854775807) (w : World) :
    (Instr.makeSlice t (.int .i64 (n : Int)) (.int .i64 (n : Int))).run P w = .ok (.slice (some ⟨w.heap.size, 0, none⟩) n n) (w.alloc (.cells (madeCells z.cells (n * 2)) e)) := by
  obtain ⟨i, hi, hz, hs, hby⟩ := info_parts hinfo
  have h2 : (i.bytes : Int) * (n : Int) ≤ 281474976710656 := by
    rw [hby]
    have h : ((bytes * n : Nat) : Int) ≤ 281474976710656 := by omega
    rwa [Int.natCast_mul] at h
  have hr := run_make (P := P) w t e i z ht hi hz .i64 .i64 n n (by omega) (Int.le_refl _) h2 (by omega)
  simp only [Int.toNat_natCast, hs] at hr
  exact hr

set_option maxHeartbeats 400000 in
theorem markText_any (q : Int) (w : World) (h1 : 0 < q) (h2 : q ≤ 1099511627776) : Calls Tryd.prog 56 #[.int .i64 q] w fun e w' => e = .returned (.string (mkT q)) ∧ Below w.heap.size w w' := by
  go_enter Tryd.func56, Tryd.ntmps56
  go_wp2
  go_loopw [0, 3] (fun p v wr => ∃ (f : Nat) (m : Int) (acc : ByteArray), f ≤ 20 ∧ p = .int .i64 m ∧ v = .string acc ∧ 0 ≤ m ∧ m ≤ q ∧ Hid (m < 10 ^ f ∧ dgB 20 q ⟨#[]⟩ = dgB f m acc) ∧ acc.size + f ≤ 20 ∧ Below w.heap.size w wr) (fun p _ _ => (intOf p).toNat)
  case atStart => exact ⟨20, q, ⟨#[]⟩, Nat.le_refl _, rfl, rfl, by omega, by omega, ⟨by simp; omega, rfl⟩, by simp [ByteArray.size], Below.refl _ _⟩
  case round =>
    obtain ⟨f, m, acc, hf, rfl, rfl, hm0, hm1, hcur, hsz, hbel⟩ := hrel
    have hbs := hbel.size
    by_cases hpos : 0 < m
    · obtain ⟨f, rfl⟩ : ∃ f', f = f' + 1 := by
        rcases f with _ | f
        · have := hcur.out.1; simp at this; omega
        · exact ⟨f, rfl⟩
      have hn : Hid (m / 10 < 10 ^ f ∧ dgB 20 q ⟨#[]⟩ = dgB f (m / 10) (strOfNums [48 + m % 10] ++ acc)) := ⟨dg_small hcur.out.1, by rw [hcur.out.2, dgB_step hpos]⟩
      have kc := run_string_reads (P := Tryd.prog) (c := 1) (zs := [48 + m % 10]) 22 5 9 Tryd.underlying22 Tryd.underlying5 Tryd.underlying9 (Reads.one wr (.int .u8 (48 + m % 10)) 5)
      have hsz1 : (strOfNums [48 + m % 10]).size ≤ 1 := by rw [strOfNums_size]; simp
      have hsz2 : (strOfNums [48 + m % 10] ++ acc).size + f ≤ 20 := by rw [ByteArray.size_append, strOfNums_size]; simp; omega
      have hacc : acc.size ≤ 20 := by omega
      clear hcur
      go_wp2
      go_roundw
      case rel => exact ⟨f, m / 10, _, by omega, rfl, rfl, by omega, by omega, hn, hsz2, hbel.alloc hbs _⟩
      case measure => simp [intOf]; omega
    · have hz : m ≤ 0 := by omega
      have hr : Hid ((⟨#[109]⟩ : ByteArray) ++ acc = mkT q) := by show _ = _; rw [mkT, hcur.out.2, dgB_stop hz]
      have hacc : acc.size ≤ 20 := by omega
      clear hcur
      go_wp2
      go_ret
      exact ⟨by rw [← hr.out]; rfl, hbel⟩

end Go.Proofs.YtmfaihelphfbgaaDoor
