/-
  Words of valid builders; contracts of isOpenable of the program and of l6Node of the reference. Conditions: at most 2^30 nodes; sizes of Go strings.
-/
import Derived.Test.YtleopmeaaabejaaP07
import Derived.Test.YtleopmeaaabejaaP10
import Derived.Test.YtleopmeaaabejaaP03
import Derived.Test.YtleopmeaaabejaaP09
namespace Go.Proofs.Ytleopmeaaabejaa
set_option linter.unusedVariables false
set_option linter.unusedSimpArgs false
set_option maxRecDepth 100000
open Go.ChangeShapes Go.WideShapes Go.ChangeAt Go.RowKit Go.Deep

def opnB (b : Bld) (m : Int) : Bool := decide (0 ≤ m) && (match b.nodes[m.toNat]? with | none => false | some x => !decide (x.name.size = 0) && !voidB x.name)
theorem opnB_neg {b : Bld} {m : Int} (h : m < 0) : opnB b m = false := by
  have : ¬ 0 ≤ m := by omega
  simp [opnB, this]
theorem opnB_far {b : Bld} {m : Int} (h : (b.nodes.length : Int) ≤ m) : opnB b m = false := by
  have : b.nodes[m.toNat]? = none := List.getElem?_eq_none (by omega)
  simp [opnB, this]
theorem opnB_at {b : Bld} {j : Nat} (hj : j < b.nodes.length) : opnB b (j : Int) = (!decide (b.nodes[j].name.size = 0) && !voidB b.nodes[j].name) := by
  simp [opnB, List.getElem?_eq_getElem hj]
theorem opnB_in {b : Bld} {m : Int} (h : opnB b m = true) : ∃ j : Nat, m = (j : Int) ∧ ∃ hj : j < b.nodes.length, ¬ b.nodes[j].name.size = 0 ∧ voidB b.nodes[j].name = false := by
  rcases Int.lt_or_le m 0 with h1 | h1
  · rw [opnB_neg h1] at h; cases h
  · obtain ⟨j, rfl⟩ := Int.eq_ofNat_of_zero_le h1
    by_cases hj : j < b.nodes.length
    · rw [opnB_at hj] at h
      simp only [Bool.and_eq_true, Bool.not_eq_true', decide_eq_false_iff_not] at h
      exact ⟨j, rfl, hj, h.1, h.2⟩
    · rw [opnB_far (by omega)] at h; cases h
def bodyB (x : Nod) : Bool := (nameB x.name && decide (x.text.size = 0)) || (decide (x.name.size = 0) && !decide (x.text.size = 0) && decide (x.attrs.length = 0))
def nodeB (b : Bld) (i : Nat) (x : Nod) : Bool := decide (x.parent < i) && opnB b x.parent && bodyB x
theorem nameB_empty {s : ByteArray} (h : s.size = 0) : nameB s = false := by simp [nameB, h]
set_option maxHeartbeats 400000 in
theorem isOpenable_impl {A A' : Option Addr} {n c n' c' : Nat} {b : Bld} (m : Int) (w : World) (hx : ReadsN nodN w w.heap.size A n b.nodes) (hn : n ≤ 1073741824) :
    Calls Try.prog 49 #[.agg #[.slice A n c, .slice A' n' c'], .int .i64 m] w fun e w' => e = .returned (.bool (opnB b m)) ∧ Below w.heap.size w w' := by
  have hl := Lib.hid hx.len
  have hb := (Below.refl w.heap.size w).alloc (Nat.le_refl _) (.cells #[.slice A n c, .slice A' n' c'] 27)
  rcases Int.lt_or_le m 0 with h0 | h0
  · have hres : Hid (opnB b m = false) := opnB_neg h0
    have hd : decide ((0 : Int) ≤ m) = false := by simpa using h0
    generalize opnB b m = V at *
    go_enter Try.func49, Try.ntmps49
    go_wp2
    go_ret
    exact ⟨ret_bool hres.out.symm, hb⟩
  rcases Int.lt_or_le m n with h1 | h1
  · obtain ⟨j, rfl⟩ := Int.eq_ofNat_of_zero_le h0
    have hj : j < n := by omega
    have hjl : j < b.nodes.length := by rw [hl.out]; exact hj
    obtain ⟨b1, off1, rfl, hb1, hcx⟩ := (hx.below hb).nod hj
    obtain ⟨Ax, cx, hrk, e0, e1, e2, e3⟩ := hcx hjl
    have ho := Lib.hid (opnB_at hjl)
    clear hcx hrk e1 e2 e3
    generalize b.nodes[j].name = nm at *
    have hd : decide ((0 : Int) ≤ (j : Int)) = true := by simp
    have hd2 : decide ((j : Int) < (n : Int)) = true := by simp; omega
    have hk0 : (0 : Int) ≤ (j : Int) := by omega
    have hk9 : (j : Int) < (n : Int) := by omega
    by_cases hz : nm.size = 0
    · obtain rfl := bytes_nil hz
      have hemp : (⟨#[]⟩ : ByteArray).toList.isEmpty = true := by rw [Lib.toList_data]; rfl
      have hres : Hid (opnB b (j : Int) = false) := by show _ = _; rw [ho.out]; rfl
      generalize opnB b (j : Int) = V at *
      go_enter Try.func49, Try.ntmps49
      go_wp2
      go_ret
      exact ⟨ret_bool hres.out.symm, hb⟩
    · have hne := toList_ne hz
      cases hv : voidB nm
      · have hres : Hid (opnB b (j : Int) = true) := by show _ = _; rw [ho.out]; simp [hz, hv]
        generalize opnB b (j : Int) = V at *
        go_enter Try.func49, Try.ntmps49
        go_wp2_with (first
          | (go_at_call 13; refine (isVoid_impl _ _).mono ?_; rintro e w5 ⟨rfl, rfl⟩; simp only [hv]))
        go_ret
        exact ⟨ret_bool hres.out.symm, hb⟩
      · have hres : Hid (opnB b (j : Int) = false) := by show _ = _; rw [ho.out]; simp [hz, hv]
        generalize opnB b (j : Int) = V at *
        go_enter Try.func49, Try.ntmps49
        go_wp2_with (first
          | (go_at_call 13; refine (isVoid_impl _ _).mono ?_; rintro e w5 ⟨rfl, rfl⟩; simp only [hv]))
        go_ret
        exact ⟨ret_bool hres.out.symm, hb⟩
  · have hres : Hid (opnB b m = false) := opnB_far (by rw [hl.out]; exact h1)
    have hd : decide ((0 : Int) ≤ m) = true := by simpa using h0
    have hd2 : decide (m < (n : Int)) = false := by simpa using h1
    generalize opnB b m = V at *
    go_enter Try.func49, Try.ntmps49
    go_wp2
    go_ret
    exact ⟨ret_bool hres.out.symm, hb⟩
set_option maxHeartbeats 1000000 in
theorem l6Node_spec {A A' : Option Addr} {n c n' c' : Nat} {b : Bld} (i : Nat) (w : World) (hx : ReadsN nodN w w.heap.size A n b.nodes) (hn : n ≤ 1073741824) (hz : ∀ a ∈ b.nodes, a.name.size ≤ 9223372036854775807) (hi1 : 1 ≤ i) (hi : i < n) (hil : i < b.nodes.length) :
    Calls Try.prog 51 #[.agg #[.slice A n c, .slice A' n' c'], .int .i64 i] w fun e w' => e = .returned (.bool (nodeB b i b.nodes[i])) ∧ Below w.heap.size w w' := by
  have hl := Lib.hid hx.len
  have hb1 := (Below.refl w.heap.size w).alloc (Nat.le_refl _) (.cells #[.slice A n c, .slice A' n' c'] 27)
  obtain ⟨b1, off1, rfl, hbb, hcx⟩ := (hx.below hb1).nod hi
  obtain ⟨Ax, cx, hrk, e0, e1, e2, e3⟩ := hcx hil
  have hzi := hz _ (List.getElem_mem hil)
  clear hcx hrk
  generalize hxx : b.nodes[i] = x at *
  clear hxx
  obtain ⟨name, text, parent, attrs⟩ := x
  simp only at e0 e1 e2 e3 hzi
  have hb2 := hb1.alloc (by simp) (.cells #[.string name, .string text, .int .i64 parent, .slice Ax attrs.length cx] 33)
  have hi0 : (0 : Int) ≤ (i : Int) := by omega
  have hi9 : (i : Int) < (n : Int) := by omega
  by_cases hp : 0 ≤ parent ∧ parent < i
  · obtain ⟨p, rfl⟩ := Int.eq_ofNat_of_zero_le hp.1
    have hpn : p < n := by omega
    have hpl : p < b.nodes.length := by rw [hl.out]; exact hpn
    have hq : inR (p : Int) 0 ((i : Int) - 1) = true := inR_mk (by omega) (by omega)
    obtain ⟨b2, off2, hA, hbb2, hcy⟩ := (hx.below hb2).nod hpn
    injection hA with hA
    injection hA with hA1 hA2
    subst hA1 hA2
    obtain ⟨Ay, cy, hrk, d0, d1, d2, d3⟩ := hcy hpl
    have ho := Lib.hid (opnB_at hpl)
    clear hcy hrk d1 d2 d3
    generalize b.nodes[p].name = nm at *
    have hk0 : (0 : Int) ≤ (p : Int) := by omega
    have hk9 : (p : Int) < (n : Int) := by omega
    have hpi : (p : Int) < (i : Int) := hp.2
    clear hp
    have hno : opnB b (p : Int) = false → Hid (nodeB b i ⟨name, text, p, attrs⟩ = false) := fun h => by show _ = _; simp [nodeB, h]
    have hyes : opnB b (p : Int) = true → Hid (nodeB b i ⟨name, text, p, attrs⟩ = bodyB ⟨name, text, p, attrs⟩) := fun h => by show _ = _; simp [nodeB, h, hpi]
    generalize nodeB b i ⟨name, text, p, attrs⟩ = V at *
    by_cases hzm : nm.size = 0
    · obtain rfl := bytes_nil hzm
      have hemp : (⟨#[]⟩ : ByteArray).toList.isEmpty = true := by rw [Lib.toList_data]; rfl
      have hres := hno (by rw [ho.out]; rfl)
      clear hno hyes
      go_enter Try.func51, Try.ntmps51
      go_wp2_with (go_at_call 50; refine (inRange_spec _ _ _ _).mono ?_; rintro e w' ⟨rfl, rfl⟩; rw [hq])
      go_ret
      exact ⟨ret_bool hres.out.symm, hb2⟩
    · have hne := toList_ne hzm
      cases hv : voidB nm
      · have hres := hyes (by rw [ho.out]; simp [hzm, hv])
        clear hno hyes
        by_cases hxn : name.size = 0
        · obtain rfl := bytes_nil hxn
          have hemp : (⟨#[]⟩ : ByteArray).toList.isEmpty = true := by rw [Lib.toList_data]; rfl
          have hbd : Hid (bodyB ⟨⟨#[]⟩, text, p, attrs⟩ = (!decide (text.size = 0) && decide (attrs.length = 0))) := by show _ = _; simp [bodyB, nameB_empty hxn, hxn]
          by_cases htx : text.size = 0
          · obtain rfl := bytes_nil htx
            have hr2 : Hid (V = false) := by show _ = _; rw [hres.out, hbd.out]; rfl
            go_enter Try.func51, Try.ntmps51
            go_wp2_with (first | (go_at_call 50; refine (inRange_spec _ _ _ _).mono ?_; rintro e w' ⟨rfl, rfl⟩; rw [hq]) | (go_at_call 42; refine (isVoid_spec _ _).mono ?_; rintro e w5 ⟨rfl, rfl⟩; simp only [hv]))
            go_ret
            exact ⟨ret_bool hr2.out.symm, hb2⟩
          · have hnt := toList_ne htx
            by_cases hat : attrs.length = 0
            · have hr2 : Hid (V = true) := by show _ = _; rw [hres.out, hbd.out]; simp [htx, hat]
              have hat2 : ((attrs.length : Int) == 0) = true := by simp; exact List.eq_nil_of_length_eq_zero hat
              clear hat
              go_enter Try.func51, Try.ntmps51
              go_wp2_with (first | (go_at_call 50; refine (inRange_spec _ _ _ _).mono ?_; rintro e w' ⟨rfl, rfl⟩; rw [hq]) | (go_at_call 42; refine (isVoid_spec _ _).mono ?_; rintro e w5 ⟨rfl, rfl⟩; simp only [hv]))
              go_ret
              exact ⟨ret_bool hr2.out.symm, hb2⟩
            · have hr2 : Hid (V = false) := by show _ = _; rw [hres.out, hbd.out]; simp [hat]
              have hat2 : ((attrs.length : Int) == 0) = false := by simp; intro h; exact hat (by rw [h]; rfl)
              go_enter Try.func51, Try.ntmps51
              go_wp2_with (first | (go_at_call 50; refine (inRange_spec _ _ _ _).mono ?_; rintro e w' ⟨rfl, rfl⟩; rw [hq]) | (go_at_call 42; refine (isVoid_spec _ _).mono ?_; rintro e w5 ⟨rfl, rfl⟩; simp only [hv]))
              go_ret
              exact ⟨ret_bool hr2.out.symm, hb2⟩
        · have hnn := toList_ne hxn
          have hbd : Hid (bodyB ⟨name, text, p, attrs⟩ = (nameB name && decide (text.size = 0))) := by show _ = _; simp [bodyB, hxn]
          cases hnm : nameB name
          · have hr2 : Hid (V = false) := by show _ = _; rw [hres.out, hbd.out, hnm]; rfl
            go_enter Try.func51, Try.ntmps51
            go_wp2_with (first | (go_at_call 50; refine (inRange_spec _ _ _ _).mono ?_; rintro e w' ⟨rfl, rfl⟩; rw [hq]) | (go_at_call 42; refine (isVoid_spec _ _).mono ?_; rintro e w5 ⟨rfl, rfl⟩; simp only [hv]) | (go_at_call 20; refine (isName_spec _ hzi _).mono ?_; rintro e w6 ⟨rfl, rfl⟩; simp only [hnm]))
            go_ret
            exact ⟨ret_bool hr2.out.symm, hb2⟩
          · by_cases htx : text.size = 0
            · obtain rfl := bytes_nil htx
              have hemp : (⟨#[]⟩ : ByteArray).toList.isEmpty = true := by rw [Lib.toList_data]; rfl
              have hr2 : Hid (V = true) := by show _ = _; rw [hres.out, hbd.out, hnm]; rfl
              go_enter Try.func51, Try.ntmps51
              go_wp2_with (first | (go_at_call 50; refine (inRange_spec _ _ _ _).mono ?_; rintro e w' ⟨rfl, rfl⟩; rw [hq]) | (go_at_call 42; refine (isVoid_spec _ _).mono ?_; rintro e w5 ⟨rfl, rfl⟩; simp only [hv]) | (go_at_call 20; refine (isName_spec _ hzi _).mono ?_; rintro e w6 ⟨rfl, rfl⟩; simp only [hnm]))
              go_ret
              exact ⟨ret_bool hr2.out.symm, hb2⟩
            · have hnt := toList_ne htx
              have hr2 : Hid (V = false) := by show _ = _; rw [hres.out, hbd.out]; simp [htx]
              go_enter Try.func51, Try.ntmps51
              go_wp2_with (first | (go_at_call 50; refine (inRange_spec _ _ _ _).mono ?_; rintro e w' ⟨rfl, rfl⟩; rw [hq]) | (go_at_call 42; refine (isVoid_spec _ _).mono ?_; rintro e w5 ⟨rfl, rfl⟩; simp only [hv]) | (go_at_call 20; refine (isName_spec _ hzi _).mono ?_; rintro e w6 ⟨rfl, rfl⟩; simp only [hnm]))
              go_ret
              exact ⟨ret_bool hr2.out.symm, hb2⟩
      · have hres := hno (by rw [ho.out]; simp [hv])
        clear hno hyes
        go_enter Try.func51, Try.ntmps51
        go_wp2_with (first | (go_at_call 50; refine (inRange_spec _ _ _ _).mono ?_; rintro e w' ⟨rfl, rfl⟩; rw [hq]) | (go_at_call 42; refine (isVoid_spec _ _).mono ?_; rintro e w5 ⟨rfl, rfl⟩; simp only [hv]))
        go_ret
        exact ⟨ret_bool hres.out.symm, hb2⟩
  · have hq : inR parent 0 ((i : Int) - 1) = false := by simp [inR]; omega
    have hres : Hid (nodeB b i ⟨name, text, parent, attrs⟩ = false) := by
      show _ = _
      rcases Int.lt_or_le parent 0 with h | h
      · simp [nodeB, opnB_neg h]
      · have : ¬ parent < i := by omega
        simp [nodeB, this]
    generalize nodeB b i ⟨name, text, parent, attrs⟩ = V at *
    clear hp
    go_enter Try.func51, Try.ntmps51
    go_wp2_with (go_at_call 50; refine (inRange_spec _ _ _ _).mono ?_; rintro e w' ⟨rfl, rfl⟩; rw [hq])
    go_ret
    exact ⟨ret_bool hres.out.symm, hb2⟩
end Go.Proofs.Ytleopmeaaabejaa
