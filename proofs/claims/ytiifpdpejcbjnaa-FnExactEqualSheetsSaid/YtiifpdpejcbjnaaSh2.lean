/-
  Contracts of ColorOf of the program and of the reference. Conditions: at most 2^30 elements.
-/
import Derived.Test.YtiifpdpejcbjnaaSh1
namespace Go.Proofs.Ytiifpdpejcbjnaa
set_option linter.unusedVariables false
set_option linter.unusedSimpArgs false
set_option maxRecDepth 100000
open Go.ChangeShapes Go.WideShapes Go.ChangeAt Go.RowKit Go.Deep

/-- the color that the first m rules of a sheet give, the last first; of the first k sheets, the last first -/
def colS (r : List Rul) (nm : ByteArray) : Nat → Option Int
  | 0 => none
  | m + 1 => match r[m]? with
    | some a => if a.1.toList == nm.toList then some a.2 else colS r nm m
    | none => colS r nm m
def colL (l : List (List Rul)) (nm : ByteArray) : Nat → Int
  | 0 => 0
  | k + 1 => match l[k]? with
    | some r => match colS r nm r.length with
      | some z => z
      | none => colL l nm k
    | none => colL l nm k
def colOf (l : List (List Rul)) (nm : ByteArray) : Int := colL l nm l.length
theorem colS_yes {r : List Rul} {nm : ByteArray} {m : Nat} (h : m < r.length) (he : (r[m].1.toList == nm.toList) = true) : colS r nm (m + 1) = some r[m].2 := by
  rw [colS, List.getElem?_eq_getElem h]; simp only [he, if_true]
theorem colS_no {r : List Rul} {nm : ByteArray} {m : Nat} (h : m < r.length) (he : (r[m].1.toList == nm.toList) = false) : colS r nm (m + 1) = colS r nm m := by
  rw [colS, List.getElem?_eq_getElem h]; simp only [he]; rfl
theorem colL_none {l : List (List Rul)} {nm : ByteArray} {k : Nat} (h : k < l.length) (he : colS l[k] nm l[k].length = none) : colL l nm (k + 1) = colL l nm k := by
  rw [colL, List.getElem?_eq_getElem h]; simp only [he]
theorem colL_some {l : List (List Rul)} {nm : ByteArray} {k : Nat} {z : Int} (h : k < l.length) (he : colS l[k] nm l[k].length = some z) : colL l nm (k + 1) = z := by
  rw [colL, List.getElem?_eq_getElem h]; simp only [he]
set_option maxHeartbeats 800000 in
theorem colorOf_spec {A : Option Addr} {n c : Nat} {l : List (List Rul)} (nm : ByteArray) (w : World) (hx : ReadsN shN w w.heap.size A n l) (hn : n ≤ 1073741824) (hm : ∀ a ∈ l, a.length ≤ 1073741824) :
    Calls Try.prog 8 #[.slice A n c, .string nm] w fun e w' => e = .returned (.int .i64 (colOf l nm)) ∧ w = w' := by
  have lx := Lib.hid hx.len
  obtain ⟨V, hV⟩ : ∃ V, V = colOf l nm := ⟨_, rfl⟩
  have HV : Hid (colL l nm n = V) := by show _ = _; rw [hV, colOf, lx.out]
  rw [← hV]
  clear hV
  go_enter Try.func8, Try.ntmps8
  go_wp2
  go_loop [5] (fun i => ∃ k : Nat, k ≤ n ∧ i = .int .i64 ((k : Int) - 1) ∧ Hid (colL l nm k = V)) (fun i => (intOf i + 1).toNat)
  case atStart => exact ⟨n, Nat.le_refl _, rfl, HV⟩
  case round =>
    obtain ⟨k, hk, rfl, hcur⟩ := hrel
    rcases k with _ | k
    · have hres : Hid (0 = V) := hcur.out
      go_wp2
      go_ret
      exact ⟨ret_int hres.out, rfl⟩
    · have ek : ((k + 1 : Nat) : Int) - 1 = (k : Int) := by omega
      rw [ek]
      clear ek
      have hlt : k < n := by omega
      obtain ⟨b0, off0, rfl, hab, hcx⟩ := hx.sheet hlt
      have hl1 : k < l.length := by rw [lx.out]; exact hlt
      obtain ⟨A1, c1, hr, hc0⟩ := hcx hl1
      have hk0 : (0 : Int) ≤ (k : Int) := Int.natCast_nonneg _
      have hk9 : (k : Int) < (n : Int) := by omega
      have hm1 := hm l[k] (List.getElem_mem _)
      have hnone : Hid (colS l[k] nm l[k].length = none → colL l nm k = V) := fun h => by rw [← hcur.out, colL_none hl1 h]
      have hsome : Hid (∀ z, colS l[k] nm l[k].length = some z → z = V) := fun z h => by rw [← hcur.out, colL_some hl1 h]
      generalize l[k] = r at *
      clear hcx hcur
      go_wp2
      go_loop [6] (fun i => ∃ m : Nat, m ≤ r.length ∧ i = .int .i64 ((m : Int) - 1) ∧ Hid (colS r nm m = colS r nm r.length)) (fun i => (intOf i + 1).toNat)
      case atStart => exact ⟨r.length, Nat.le_refl _, rfl, rfl⟩
      case round =>
        obtain ⟨m, hm2, rfl, hcur⟩ := hrel
        rcases m with _ | m
        · have hres := Lib.hid (hnone.out (by rw [← hcur.out]; rfl))
          go_wp2
          go_round
          case rel => exact ⟨k, by omega, rfl, hres⟩
          case measure => first | (simp [intOf]; done) | (simp [intOf]; omega)
        · have em : ((m + 1 : Nat) : Int) - 1 = (m : Int) := by omega
          rw [em]
          clear em
          have hmlt : m < r.length := by omega
          obtain ⟨b1, off1, rfl, hab', hcy⟩ := hr.rul hmlt
          obtain ⟨hd0, hd1⟩ := hcy hmlt
          have hm0 : (0 : Int) ≤ (m : Int) := Int.natCast_nonneg _
          have hm9 : (m : Int) < (r.length : Int) := by omega
          cases he : (r[m].1.toList == nm.toList)
          · have hres : Hid (colS r nm m = colS r nm r.length) := by show _ = _; rw [← hcur.out, colS_no hmlt he]
            generalize r[m] = x at *
            clear hcy hcur
            go_wp2
            go_round
            case rel => exact ⟨m, by omega, rfl, hres⟩
            case measure => first | (simp [intOf]; done) | (simp [intOf]; omega)
          · have hres : Hid (r[m].2 = V) := hsome.out _ (by rw [← hcur.out, colS_yes hmlt he])
            generalize r[m] = x at *
            clear hcy hcur
            go_wp2
            go_ret
            exact ⟨ret_int hres.out, rfl⟩
set_option maxHeartbeats 800000 in
theorem colorOf_impl {A : Option Addr} {n c : Nat} {l : List (List Rul)} (nm : ByteArray) (w : World) (hx : ReadsN shN w w.heap.size A n l) (hn : n ≤ 1073741824) (hm : ∀ a ∈ l, a.length ≤ 1073741824) :
    Calls Try.prog 10 #[.slice A n c, .string nm] w fun e w' => e = .returned (.int .i64 (colOf l nm)) ∧ w = w' := by
  have lx := Lib.hid hx.len
  obtain ⟨V, hV⟩ : ∃ V, V = colOf l nm := ⟨_, rfl⟩
  have HV : Hid (colL l nm n = V) := by show _ = _; rw [hV, colOf, lx.out]
  rw [← hV]
  clear hV
  go_enter Try.func10, Try.ntmps10
  go_wp2
  go_loop [5] (fun i => ∃ k : Nat, k ≤ n ∧ i = .int .i64 ((k : Int) - 1) ∧ Hid (colL l nm k = V)) (fun i => (intOf i + 1).toNat)
  case atStart => exact ⟨n, Nat.le_refl _, rfl, HV⟩
  case round =>
    obtain ⟨k, hk, rfl, hcur⟩ := hrel
    rcases k with _ | k
    · have hres : Hid (0 = V) := hcur.out
      go_wp2
      go_ret
      exact ⟨ret_int hres.out, rfl⟩
    · have ek : ((k + 1 : Nat) : Int) - 1 = (k : Int) := by omega
      rw [ek]
      clear ek
      have hlt : k < n := by omega
      obtain ⟨b0, off0, rfl, hab, hcx⟩ := hx.sheet hlt
      have hl1 : k < l.length := by rw [lx.out]; exact hlt
      obtain ⟨A1, c1, hr, hc0⟩ := hcx hl1
      have hk0 : (0 : Int) ≤ (k : Int) := Int.natCast_nonneg _
      have hk9 : (k : Int) < (n : Int) := by omega
      have hm1 := hm l[k] (List.getElem_mem _)
      have hnone : Hid (colS l[k] nm l[k].length = none → colL l nm k = V) := fun h => by rw [← hcur.out, colL_none hl1 h]
      have hsome : Hid (∀ z, colS l[k] nm l[k].length = some z → z = V) := fun z h => by rw [← hcur.out, colL_some hl1 h]
      generalize l[k] = r at *
      clear hcx hcur
      go_wp2
      go_loop [6] (fun i => ∃ m : Nat, m ≤ r.length ∧ i = .int .i64 ((m : Int) - 1) ∧ Hid (colS r nm m = colS r nm r.length)) (fun i => (intOf i + 1).toNat)
      case atStart => exact ⟨r.length, Nat.le_refl _, rfl, rfl⟩
      case round =>
        obtain ⟨m, hm2, rfl, hcur⟩ := hrel
        rcases m with _ | m
        · have hres := Lib.hid (hnone.out (by rw [← hcur.out]; rfl))
          go_wp2
          go_round
          case rel => exact ⟨k, by omega, rfl, hres⟩
          case measure => first | (simp [intOf]; done) | (simp [intOf]; omega)
        · have em : ((m + 1 : Nat) : Int) - 1 = (m : Int) := by omega
          rw [em]
          clear em
          have hmlt : m < r.length := by omega
          obtain ⟨b1, off1, rfl, hab', hcy⟩ := hr.rul hmlt
          obtain ⟨hd0, hd1⟩ := hcy hmlt
          have hm0 : (0 : Int) ≤ (m : Int) := Int.natCast_nonneg _
          have hm9 : (m : Int) < (r.length : Int) := by omega
          cases he : (r[m].1.toList == nm.toList)
          · have hres : Hid (colS r nm m = colS r nm r.length) := by show _ = _; rw [← hcur.out, colS_no hmlt he]
            generalize r[m] = x at *
            clear hcy hcur
            go_wp2
            go_round
            case rel => exact ⟨m, by omega, rfl, hres⟩
            case measure => first | (simp [intOf]; done) | (simp [intOf]; omega)
          · have hres : Hid (r[m].2 = V) := hsome.out _ (by rw [← hcur.out, colS_yes hmlt he])
            generalize r[m] = x at *
            clear hcy hcur
            go_wp2
            go_ret
            exact ⟨ret_int hres.out, rfl⟩
end Go.Proofs.Ytiifpdpejcbjnaa
