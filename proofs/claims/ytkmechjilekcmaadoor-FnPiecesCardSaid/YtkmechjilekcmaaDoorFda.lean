/-
  Contracts of FindAttr of the program and of the reference, and of slices.IndexFunc at it. Conditions: at most 2^30 attributes.
-/
import Derived.Test.YtkmechjilekcmaaDoorTk1
import Derived.Deep.RegionHeld3
namespace Go.Proofs.YtkmechjilekcmaaDoor
set_option linter.unusedVariables false
set_option linter.unusedSimpArgs false
set_option maxRecDepth 100000
open Go.ChangeShapes Go.WideShapes Go.ChangeAt Go.RowKit Go.Deep

def findV (l : List S2) (nm : ByteArray) : ByteArray × Bool :=
  match l.find? (fun a => a.1.toList == nm.toList) with
  | some a => (a.2, true)
  | none => (⟨#[]⟩, false)
def noneTo (l : List S2) (nm : ByteArray) (k : Nat) : Prop := ∀ j (h : j < l.length), j < k → (l[j].1.toList == nm.toList) = false
theorem noneTo_zero (l : List S2) (nm : ByteArray) : noneTo l nm 0 := fun _ _ h => absurd h (by omega)
theorem noneTo_succ {l : List S2} {nm : ByteArray} {k : Nat} (h : noneTo l nm k) (hk : k < l.length) (he : (l[k].1.toList == nm.toList) = false) : noneTo l nm (k + 1) := by
  intro j hj hjk
  by_cases e : j = k
  · subst e; exact he
  · exact h j hj (by omega)
theorem findV_at {l : List S2} {nm : ByteArray} {k : Nat} (h : noneTo l nm k) (hk : k < l.length) (he : (l[k].1.toList == nm.toList) = true) : findV l nm = (l[k].2, true) := by
  have : l.find? (fun a => a.1.toList == nm.toList) = some l[k] := by
    rw [List.find?_eq_some_iff_getElem]
    exact ⟨he, k, hk, rfl, fun j hj => by rw [h j (by omega) hj]; rfl⟩
  rw [findV, this]
theorem findV_end {l : List S2} {nm : ByteArray} {k : Nat} (h : noneTo l nm k) (hk : l.length ≤ k) : findV l nm = (⟨#[]⟩, false) := by
  have : l.find? (fun a => a.1.toList == nm.toList) = none := by
    rw [List.find?_eq_none]
    intro x hx
    obtain ⟨j, hj, rfl⟩ := List.getElem_of_mem hx
    rw [h j hj (by omega)]
    simp
  rw [findV, this]
theorem ret_sb {a b : ByteArray} {x y : Bool} (h : (a, x) = (b, y)) : Ending.returned (.tuple #[.string a, .bool x]) = .returned (.tuple #[.string b, .bool y]) := by injection h with h1 h2; rw [h1, h2]

set_option maxHeartbeats 400000 in
theorem findAttr_spec {A : Option Addr} {n c : Nat} {l : List S2} (nm : ByteArray) (w : World) (hx : Reads w w.heap.size 2 A n (s2V l)) (hn : n ≤ 1073741824) :
    Calls Tryd.prog 34 #[.slice A n c, .string nm] w fun e w' => e = .returned (.tuple #[.string (findV l nm).1, .bool (findV l nm).2]) ∧ Below w.heap.size w w' := by
  have lx := Lib.hid hx.len2
  generalize hF : findV l nm = F
  have HF := Lib.hid hF
  clear hF
  obtain ⟨F1, F2⟩ := F
  go_enter Tryd.func34, Tryd.ntmps34
  go_wp2
  go_loop [6] (fun i => ∃ k : Nat, k ≤ n ∧ i = .int .i64 k ∧ Hid (noneTo l nm k)) (fun i => n - (intOf i).toNat)
  case atStart => exact ⟨0, Nat.zero_le _, rfl, noneTo_zero _ _⟩
  case round =>
    obtain ⟨k, hk, rfl, hnot⟩ := hrel
    by_cases hlt : k < n
    · obtain ⟨b0, off0, rfl, hab, hcx⟩ := hx.two hlt
      have hl1 : k < l.length := by rw [lx.out]; exact hlt
      obtain ⟨hc0, hc1⟩ := hcx hl1
      cases he : (l[k].1.toList == nm.toList)
      · have hm : Hid (noneTo l nm (k + 1)) := noneTo_succ hnot.out hl1 he
        generalize l[k] = x at *
        clear hx hcx hnot
        go_wp2
        go_round
        case rel => exact ⟨k + 1, by omega, by go_num, hm⟩
        case measure => simp [intOf]; omega
      · have hm : Hid (findV l nm = (l[k].2, true)) := findV_at hnot.out hl1 he
        generalize l[k] = x at *
        clear hx hcx hnot
        go_wp2
        go_ret2
        exact ⟨ret_sb (by rw [← hm.out, HF.out]), Below.refl _ _⟩
    · obtain rfl : k = n := by omega
      have hm : Hid (findV l nm = (⟨#[]⟩, false)) := findV_end hnot.out (by rw [lx.out]; exact Nat.le_refl _)
      go_wp2
      go_ret2
      exact ⟨ret_sb (by rw [← hm.out, HF.out]), Below.refl _ _⟩
theorem findAttr_closure (a : S2) (nm : ByteArray) (b : Nat) (w : World) (hb : b < w.heap.size) (hc : w.cell? ⟨b, 0, none⟩ = some (.string nm)) :
    Calls Tryd.prog 59 #[.agg #[.string a.1, .string a.2], .pointer (some ⟨b, 0, none⟩)] w fun e w' => e = .returned (.bool (a.1.toList == nm.toList)) ∧ Below w.heap.size w w' := by
  have hc' : (w.alloc (.cells #[.string a.1, .string a.2] 57)).cell? ⟨b, 0, none⟩ = some (.string nm) := (World.cell?_alloc_some _ _ _ (by rw [hc]; rfl)).trans hc
  have hb0 := (Below.refl w.heap.size w).alloc (Nat.le_refl _) (.cells #[.string a.1, .string a.2] 57)
  generalize hE : (a.1.toList == nm.toList) = E
  cases E
  all_goals
    go_enter Tryd.func59, Tryd.ntmps59
    go_wp2
    go_ret
    exact ⟨rfl, hb0⟩
set_option maxHeartbeats 400000 in
theorem indexAttr_any {A : Option Addr} {n c : Nat} {l : List S2} (nm : ByteArray) (b : Nat) (w : World) (hx : Reads w w.heap.size 2 A n (s2V l)) (hn : n ≤ 1073741824) (hb : b < w.heap.size) (hc : w.cell? ⟨b, 0, none⟩ = some (.string nm)) :
    Calls Tryd.prog 58 #[.slice A n c, .func (.func 59) #[] #[.pointer (some ⟨b, 0, none⟩)]] w fun e w' =>
      Below w.heap.size w w' ∧ ((e = .returned (.int .i64 (-1)) ∧ findV l nm = (⟨#[]⟩, false)) ∨ ∃ (k : Nat) (h : k < l.length), e = .returned (.int .i64 k) ∧ findV l nm = (l[k].2, true)) := by
  have lx := Lib.hid hx.len2
  go_enter Tryd.func58, Tryd.ntmps58
  go_wp2
  go_loopw [8] (fun i wr => ∃ k : Nat, k ≤ n ∧ i = .int .i64 k ∧ Hid (noneTo l nm k) ∧ Below w.heap.size w wr) (fun i _ => n - (intOf i).toNat)
  case atStart => exact ⟨0, Nat.zero_le _, rfl, noneTo_zero _ _, Below.refl _ _⟩
  case round =>
    obtain ⟨k, hk, rfl, hnot, hbel⟩ := hrel
    have hbs := hbel.size
    by_cases hlt : k < n
    · obtain ⟨b0, off0, rfl, hab, hcx⟩ := (hx.below hbel).two hlt
      have hl1 : k < l.length := by rw [lx.out]; exact hlt
      obtain ⟨hc0, hc1⟩ := hcx hl1
      have hcr : wr.cell? ⟨b, 0, none⟩ = some (.string nm) := by rw [(bcell hbel).1 _ _ hb]; exact hc
      cases he : (l[k].1.toList == nm.toList)
      · have hm : Hid (noneTo l nm (k + 1)) := noneTo_succ hnot.out hl1 he
        generalize l[k] = x at *
        clear hx hcx hnot
        go_wp2_with (go_at_call 59; refine (findAttr_closure x nm b _ (by omega) hcr).mono ?_; rintro e w1 ⟨rfl, b1⟩; rw [he])
        go_roundw
        case rel => exact ⟨k + 1, by omega, by go_num, hm, hbel.trans (b1.mono hbs)⟩
        case measure => simp [intOf]; omega
      · have hm : Hid (∃ h : k < l.length, findV l nm = (l[k].2, true)) := ⟨hl1, findV_at hnot.out hl1 he⟩
        generalize l[k] = x at *
        clear hx hcx hnot
        go_wp2_with (go_at_call 59; refine (findAttr_closure x nm b _ (by omega) hcr).mono ?_; rintro e w1 ⟨rfl, b1⟩; rw [he])
        go_ret
        obtain ⟨h, e⟩ := hm.out
        exact ⟨hbel.trans (b1.mono hbs), .inr ⟨k, h, rfl, e⟩⟩
    · obtain rfl : k = n := by omega
      have hm : Hid (findV l nm = (⟨#[]⟩, false)) := findV_end hnot.out (by rw [lx.out]; exact Nat.le_refl _)
      go_wp2
      go_ret
      exact ⟨hbel, .inl ⟨rfl, hm.out⟩⟩
set_option maxHeartbeats 400000 in
theorem findAttr_impl {A : Option Addr} {n c : Nat} {l : List S2} (nm : ByteArray) (w : World) (hx : Reads w w.heap.size 2 A n (s2V l)) (hn : n ≤ 1073741824) :
    Calls Tryd.prog 39 #[.slice A n c, .string nm] w fun e w' => e = .returned (.tuple #[.string (findV l nm).1, .bool (findV l nm).2]) ∧ Below w.heap.size w w' := by
  have lx := Lib.hid hx.len2
  have hb0 := (Below.refl w.heap.size w).alloc (Nat.le_refl _) (.cells #[.string nm] 9)
  have hx' := (hx.below hb0).more hb0.size
  go_enter Tryd.func39, Tryd.ntmps39
  go_wp2_with fail
  refine (indexAttr_any (l := l) nm w.heap.size _ hx' hn (by simp) (by simp [go_sem])).mono ?_
  rintro e w1 ⟨b1, h⟩
  rcases h with ⟨rfl, hF⟩ | ⟨k, hl, rfl, hF⟩
  · replace hF := Lib.hid hF
    go_wp2
    go_ret2
    exact ⟨ret_sb hF.out.symm, hb0.trans (b1.mono hb0.size)⟩
  · have hlt : k < n := by have := lx.out; omega
    obtain ⟨b0, off0, rfl, hab, hcx⟩ := (hx'.below b1).two hlt
    obtain ⟨hc0, hc1⟩ := hcx hl
    replace hF := Lib.hid hF
    generalize l[k] = x at *
    clear hx hx' hcx
    go_wp2
    go_ret2
    exact ⟨ret_sb hF.out.symm, hb0.trans (b1.mono hb0.size)⟩
end Go.Proofs.YtkmechjilekcmaaDoor
