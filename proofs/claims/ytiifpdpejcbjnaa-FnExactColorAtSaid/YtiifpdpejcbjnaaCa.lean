/-
  Contracts of ColorAt of the program and of the reference. Conditions: at most 2^30 elements.
-/
import Derived.Test.YtiifpdpejcbjnaaSh2
import Derived.Test.YtiifpdpejcbjnaaBd
import Derived.Deep.RegionHeld3
namespace Go.Proofs.Ytiifpdpejcbjnaa
set_option linter.unusedVariables false
set_option linter.unusedSimpArgs false
set_option maxRecDepth 100000
open Go.ChangeShapes Go.WideShapes Go.ChangeAt Go.RowKit Go.Deep

def colAt (l : List (List Rul)) (nodes : List Nod) : Nat → Int → Int
  | 0, _ => 0
  | f + 1, n => if h : 0 ≤ n ∧ n < nodes.length then (if colOf l (nodes[n.toNat]'(by omega)).name = 0 then colAt l nodes f (nodes[n.toNat]'(by omega)).parent else colOf l (nodes[n.toNat]'(by omega)).name) else 0
theorem colAt_out {l : List (List Rul)} {nodes : List Nod} {f : Nat} {n : Int} (h : ¬ (0 ≤ n ∧ n < nodes.length)) : colAt l nodes f n = 0 := by
  cases f with
  | zero => rfl
  | succ f => rw [colAt, dif_neg h]
theorem colAt_hit {l : List (List Rul)} {nodes : List Nod} {f j : Nat} (h : j < nodes.length) (hc : ¬ colOf l nodes[j].name = 0) : colAt l nodes (f + 1) (j : Int) = colOf l nodes[j].name := by
  rw [colAt, dif_pos ⟨by omega, by omega⟩]
  simp only [Int.toNat_natCast]
  rw [if_neg hc]
theorem colAt_step {l : List (List Rul)} {nodes : List Nod} {f j : Nat} (h : j < nodes.length) (hc : colOf l nodes[j].name = 0) : colAt l nodes (f + 1) (j : Int) = colAt l nodes f nodes[j].parent := by
  rw [colAt, dif_pos ⟨by omega, by omega⟩]
  simp only [Int.toNat_natCast]
  rw [if_pos hc]
set_option maxHeartbeats 1600000 in
theorem colorAt_spec {A B B' : Option Addr} {n c m d m' d' : Nat} {l : List (List Rul)} (b : Bld) (at0 : Int) (w : World) (hx : ReadsN shN w w.heap.size A n l) (hy : ReadsB w w.heap.size B m B' m' b) (hn : n ≤ 1073741824) (hm : ∀ a ∈ l, a.length ≤ 1073741824) (hmm : m ≤ 1073741824) :
    Calls Try.prog 15 #[.slice A n c, .agg #[.slice B m d, .slice B' m' d'], .int .i64 at0] w fun e w' => e = .returned (.int .i64 (colAt l b.nodes 40 at0)) ∧ Below w.heap.size w w' := by
  have hb0 := (Below.refl w.heap.size w).alloc (Nat.le_refl _) (.cells #[.slice B m d, .slice B' m' d'] 38)
  have hs' := (hx.below hb0).more hb0.size
  have hy' := (hy.next hb0).1
  have ly := Lib.hid hy'.len
  clear hx hy
  obtain ⟨nodes, opens⟩ := b
  simp only at *
  obtain ⟨V, hV⟩ : ∃ V, V = colAt l nodes 40 at0 := ⟨_, rfl⟩
  have HV : Hid (colAt l nodes (40 - 0) at0 = V) := by show _ = _; rw [hV]
  rw [← hV]
  clear hV
  go_enter Try.func15, Try.ntmps15
  go_wp2
  go_loop [2, 7] (fun p i => ∃ (k : Nat) (t : Int), k ≤ 40 ∧ i = .int .i64 k ∧ p = .int .i64 t ∧ Hid (colAt l nodes (40 - k) t = V)) (fun _ i => 40 - (intOf i).toNat)
  case atStart => exact ⟨0, at0, by omega, rfl, rfl, HV⟩
  case round =>
    obtain ⟨k, t, hk, rfl, rfl, hcur⟩ := hrel
    by_cases h40 : k < 40
    · by_cases hin : 0 ≤ t ∧ t < m
      · obtain ⟨j, rfl⟩ := Int.eq_ofNat_of_zero_le hin.1
        have hjm : j < m := by omega
        have hq : inR (j : Int) 0 ((m : Int) - 1) = true := inR_mk (by omega) (by omega)
        obtain ⟨b0, off0, rfl, hab, hcx⟩ := hy'.nod hjm
        have hl1 : j < nodes.length := by rw [ly.out]; exact hjm
        obtain ⟨A1, c1, hr, hc0, hc1, hc2, hc3⟩ := hcx hl1
        have hk0 : (0 : Int) ≤ (j : Int) := Int.natCast_nonneg _
        have hk9 : (j : Int) < (m : Int) := by omega
        have e40 : 40 - k = (40 - (k + 1)) + 1 := by omega
        by_cases hz : colOf l nodes[j].name = 0
        · have hres : Hid (colAt l nodes (40 - (k + 1)) nodes[j].parent = V) := by show _ = _; rw [← hcur.out, e40, colAt_step hl1 hz]
          generalize nodes[j] = x at *
          clear hcx hr hcur e40
          have hz' : (colOf l x.name != 0) = false := by rw [hz]; rfl
          clear hz
          go_wp2_with (first | (go_at_call 31; refine (inRange_spec _ _ _ _).mono ?_; rintro e w' ⟨rfl, rfl⟩; rw [hq]) | (go_at_call 8; refine (colorOf_spec _ _ hs' hn hm).mono ?_; rintro e w' ⟨rfl, rfl⟩))
          go_round
          case rel => exact ⟨k + 1, x.parent, by omega, by go_num, rfl, hres⟩
          case measure => simp [intOf]; omega
        · have hres : Hid (colOf l nodes[j].name = V) := by show _ = _; rw [← hcur.out, e40, colAt_hit hl1 hz]
          generalize nodes[j] = x at *
          clear hcx hr hcur e40
          have hz' : (colOf l x.name != 0) = true := by simpa using hz
          clear hz
          go_wp2_with (first | (go_at_call 31; refine (inRange_spec _ _ _ _).mono ?_; rintro e w' ⟨rfl, rfl⟩; rw [hq]) | (go_at_call 8; refine (colorOf_spec _ _ hs' hn hm).mono ?_; rintro e w' ⟨rfl, rfl⟩))
          go_ret
          exact ⟨ret_int hres.out, hb0⟩
      · have hres : Hid (0 = V) := by show _ = _; rw [← hcur.out, colAt_out (by rw [ly.out]; exact hin)]
        have hq : inR t 0 ((m : Int) - 1) = false := by simp [inR]; omega
        clear hcur
        by_cases h0 : 0 ≤ t
        · have h1 : ¬ t < m := by omega
          clear hin
          go_wp2_with (go_at_call 31; refine (inRange_spec _ _ _ _).mono ?_; rintro e w' ⟨rfl, rfl⟩; rw [hq])
          go_ret
          exact ⟨ret_int hres.out, hb0⟩
        · clear hin
          go_wp2_with (go_at_call 31; refine (inRange_spec _ _ _ _).mono ?_; rintro e w' ⟨rfl, rfl⟩; rw [hq])
          go_ret
          exact ⟨ret_int hres.out, hb0⟩
    · obtain rfl : k = 40 := by omega
      have hres : Hid (0 = V) := hcur.out
      go_wp2
      go_ret
      exact ⟨ret_int hres.out, hb0⟩
set_option maxHeartbeats 1600000 in
theorem colorAt_impl {A B B' : Option Addr} {n c m d m' d' : Nat} {l : List (List Rul)} (b : Bld) (at0 : Int) (w : World) (hx : ReadsN shN w w.heap.size A n l) (hy : ReadsB w w.heap.size B m B' m' b) (hn : n ≤ 1073741824) (hm : ∀ a ∈ l, a.length ≤ 1073741824) (hmm : m ≤ 1073741824) :
    Calls Try.prog 17 #[.slice A n c, .agg #[.slice B m d, .slice B' m' d'], .int .i64 at0] w fun e w' => e = .returned (.int .i64 (colAt l b.nodes 40 at0)) ∧ Below w.heap.size w w' := by
  have hb0 := (Below.refl w.heap.size w).alloc (Nat.le_refl _) (.cells #[.slice B m d, .slice B' m' d'] 38)
  have hs' := (hx.below hb0).more hb0.size
  have hy' := (hy.next hb0).1
  have ly := Lib.hid hy'.len
  clear hx hy
  obtain ⟨nodes, opens⟩ := b
  simp only at *
  obtain ⟨V, hV⟩ : ∃ V, V = colAt l nodes 40 at0 := ⟨_, rfl⟩
  have HV : Hid (colAt l nodes (40 - 0) at0 = V) := by show _ = _; rw [hV]
  rw [← hV]
  clear hV
  go_enter Try.func17, Try.ntmps17
  go_wp2
  go_loop [2, 7] (fun p i => ∃ (k : Nat) (t : Int), k ≤ 40 ∧ i = .int .i64 k ∧ p = .int .i64 t ∧ Hid (colAt l nodes (40 - k) t = V)) (fun _ i => 40 - (intOf i).toNat)
  case atStart => exact ⟨0, at0, by omega, rfl, rfl, HV⟩
  case round =>
    obtain ⟨k, t, hk, rfl, rfl, hcur⟩ := hrel
    by_cases h40 : k < 40
    · by_cases hin : 0 ≤ t ∧ t < m
      · obtain ⟨j, rfl⟩ := Int.eq_ofNat_of_zero_le hin.1
        have hjm : j < m := by omega
        have hq : inR (j : Int) 0 ((m : Int) - 1) = true := inR_mk (by omega) (by omega)
        obtain ⟨b0, off0, rfl, hab, hcx⟩ := hy'.nod hjm
        have hl1 : j < nodes.length := by rw [ly.out]; exact hjm
        obtain ⟨A1, c1, hr, hc0, hc1, hc2, hc3⟩ := hcx hl1
        have hk0 : (0 : Int) ≤ (j : Int) := Int.natCast_nonneg _
        have hk9 : (j : Int) < (m : Int) := by omega
        have e40 : 40 - k = (40 - (k + 1)) + 1 := by omega
        by_cases hz : colOf l nodes[j].name = 0
        · have hres : Hid (colAt l nodes (40 - (k + 1)) nodes[j].parent = V) := by show _ = _; rw [← hcur.out, e40, colAt_step hl1 hz]
          generalize nodes[j] = x at *
          clear hcx hr hcur e40
          have hz' : (colOf l x.name != 0) = false := by rw [hz]; rfl
          clear hz
          go_wp2_with (go_at_call 10; refine (colorOf_impl _ _ hs' hn hm).mono ?_; rintro e w' ⟨rfl, rfl⟩)
          go_round
          case rel => exact ⟨k + 1, x.parent, by omega, by go_num, rfl, hres⟩
          case measure => simp [intOf]; omega
        · have hres : Hid (colOf l nodes[j].name = V) := by show _ = _; rw [← hcur.out, e40, colAt_hit hl1 hz]
          generalize nodes[j] = x at *
          clear hcx hr hcur e40
          have hz' : (colOf l x.name != 0) = true := by simpa using hz
          clear hz
          go_wp2_with (go_at_call 10; refine (colorOf_impl _ _ hs' hn hm).mono ?_; rintro e w' ⟨rfl, rfl⟩)
          go_ret
          exact ⟨ret_int hres.out, hb0⟩
      · have hres : Hid (0 = V) := by show _ = _; rw [← hcur.out, colAt_out (by rw [ly.out]; exact hin)]
        have hq : inR t 0 ((m : Int) - 1) = false := by simp [inR]; omega
        clear hcur
        by_cases h0 : 0 ≤ t
        · have h1 : ¬ t < m := by omega
          clear hin
          go_wp2
          go_ret
          exact ⟨ret_int hres.out, hb0⟩
        · clear hin
          go_wp2
          go_ret
          exact ⟨ret_int hres.out, hb0⟩
    · obtain rfl : k = 40 := by omega
      have hres : Hid (0 = V) := hcur.out
      go_wp2
      go_ret
      exact ⟨ret_int hres.out, hb0⟩
end Go.Proofs.Ytiifpdpejcbjnaa
