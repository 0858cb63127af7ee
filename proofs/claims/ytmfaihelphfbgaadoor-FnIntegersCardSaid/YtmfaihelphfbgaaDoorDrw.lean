/-
  Contracts of the functions that draw: 'some value of its range comes back; of the old blocks the cursor's alone is changed'. Condition: the cursor is a cursor over bytes.
-/
import Derived.Test.YtmfaihelphfbgaaDoorCry
import Derived.BigQuiet
import Derived.OneCell
namespace Go.Proofs.YtmfaihelphfbgaaDoor
set_option linter.unusedVariables false
set_option linter.unusedSimpArgs false
set_option maxRecDepth 100000
open Go.ChangeShapes Go.WideShapes Go.ChangeAt Go.RowKit Go.Deep

/-- a cursor over bytes of older blocks -/
def Cur (w : World) (g : Nat) : Prop := ∃ (A : Option Addr) (n c : Nat) (zs : List Int) (k : Nat) (h : Int),
  w.heap[g]? = some (.cells #[.slice A n c, .int .i64 k, .int .i64 h] 70) ∧ n ≤ maxLen ∧ k ≤ n ∧ Reads w g 1 A n (zs.map (Value.int .u8)) ∧ (∀ z ∈ zs, 0 ≤ z ∧ z ≤ 255) ∧ -9223372036854775808 ≤ h ∧ h ≤ 9223372036854775807
def Draws (g : Nat) (w w' : World) : Prop := Keeps (· = g) w w' ∧ Cur w' g
theorem Cur.lt {w : World} {g : Nat} (h : Cur w g) : g < w.heap.size := by
  obtain ⟨A, n, c, zs, k, h, hg, _⟩ := h
  exact (Array.getElem?_eq_some_iff.1 hg).1
theorem Cur.below {w w' : World} {g B : Nat} (h : Cur w g) (hb : Below B w w') (hB : g < B) : Cur w' g := by
  obtain ⟨A, n, c, zs, k, h, hg, h1, h2, h3, h4⟩ := h
  exact ⟨A, n, c, zs, k, h, (hb.block g hB).trans hg, h1, h2, h3.keep fun p hp => hb.cell (by omega), h4⟩

theorem three_set2 {w : World} {g : Nat} {a b c : Value} {t : TypeId} (h : w.heap[g]? = some (.cells #[a, b, c] t (0, 0))) (u : Value) : (w.setCell ⟨g, 2, none⟩ u).heap[g]? = some (.cells #[a, b, u] t (0, 0)) := by
  have hlt := lt_of_block h
  have h' : w.heap[g] = .cells #[a, b, c] t (0, 0) := by simpa [Array.getElem?_eq_getElem hlt] using h
  show (w.heap.modify g _)[g]? = _
  rw [Array.getElem?_eq_getElem (by simpa using hlt), Array.getElem_modify_self, h']
  rfl
theorem three_set1 {w : World} {g : Nat} {a b c : Value} {t : TypeId} (h : w.heap[g]? = some (.cells #[a, b, c] t (0, 0))) (u : Value) : (w.setCell ⟨g, 1, none⟩ u).heap[g]? = some (.cells #[a, u, c] t (0, 0)) := by
  have hlt := lt_of_block h
  have h' : w.heap[g] = .cells #[a, b, c] t (0, 0) := by simpa [Array.getElem?_eq_getElem hlt] using h
  show (w.heap.modify g _)[g]? = _
  rw [Array.getElem?_eq_getElem (by simpa using hlt), Array.getElem_modify_self, h']
  rfl
theorem wrap64_in (x : Int) : -9223372036854775808 ≤ wrap64 x ∧ wrap64 x ≤ 9223372036854775807 := by
  unfold wrap64
  omega

theorem and_in (X : Int) (m : Nat) (hm : m < 9223372036854775808) : 0 ≤ bits .and .i64 X (m : Int) ∧ bits .and .i64 X (m : Int) ≤ (m : Int) := by
  have e : bits .and .i64 X (m : Int) = IntKind.i64.wrap ((BitVec.ofInt 64 X &&& BitVec.ofInt 64 (m : Int)).toNat : Int) := rfl
  have h : (BitVec.ofInt 64 X &&& BitVec.ofInt 64 (m : Int)).toNat ≤ m := by
    rw [BitVec.toNat_and, ofInt_i64 m hm]
    exact Nat.and_le_right
  rw [e, IntKind.wrap_i64]
  omega
theorem and255 (X : Int) : 0 ≤ bits .and .i64 X 255 ∧ bits .and .i64 X 255 ≤ 255 := and_in X 255 (by omega)

theorem drews3 {w w' : World} {S : Nat → Prop} (h : Keeps S w w') : Keeps S w w'.drew.drew.drew := ⟨h.os, h.tape, h.output, h.size, h.block⟩
theorem drews2 {w w' : World} {S : Nat → Prop} (h : Keeps S w w') : Keeps S w w'.drew.drew := ⟨h.os, h.tape, h.output, h.size, h.block⟩

set_option maxHeartbeats 800000 in
theorem l1Byte_any (w : World) (g : Nat) (hc : Cur w g) : Calls Tryd.prog 62 #[.pointer (some ⟨g, 0, none⟩)] w fun e w' => ∃ x : Int, 0 ≤ x ∧ x ≤ 255 ∧ e = .returned (.int .i64 x) ∧ Draws g w w' := by
  obtain ⟨A, n, c, zs, k, h, hg, hn, hk, hr, hz, h1, h2⟩ := hc
  have hlt : g < w.heap.size := (Array.getElem?_eq_some_iff.1 hg).1
  have c0 : w.cell? ⟨g, 0, none⟩ = some (.slice A n c) := by simp [World.cell?, hg]
  have c1 : w.cell? ⟨g, 1, none⟩ = some (.int .i64 k) := by simp [World.cell?, hg]
  have c2 : w.cell? ⟨g, 2, none⟩ = some (.int .i64 h) := by simp [World.cell?, hg]
  have f1 : w.frozen? ⟨g, 1, none⟩ = false := by simp [World.frozen?, hg]
  have f2 : w.frozen? ⟨g, 2, none⟩ = false := by simp [World.frozen?, hg]
  have hset : ∀ (h' : Int), (w.setCell ⟨g, 2, none⟩ (.int .i64 h')).heap[g]? = some (.cells #[.slice A n c, .int .i64 k, .int .i64 h'] 70) := fun h' => three_set2 hg _
  have hw64 : ∀ x : Int, -9223372036854775808 ≤ wrap64 x ∧ wrap64 x ≤ 9223372036854775807 := wrap64_in
  clear c0 c1 f1
  go_enter Tryd.func62, Tryd.ntmps62
  go_wp2
  have hkp : Keeps (· = g) w (w.setCell ⟨g, 2, none⟩ (.int .i64 (wrap64 (wrap64 (h * 6364136223846793005) + 1442695040888963407)))) := keeps_set w (p := ⟨g, 2, none⟩) _ rfl
  obtain ⟨h3, h4⟩ := hw64 (wrap64 (h * 6364136223846793005) + 1442695040888963407)
  have hg1 := hset (wrap64 (wrap64 (h * 6364136223846793005) + 1442695040888963407))
  generalize wrap64 (wrap64 (h * 6364136223846793005) + 1442695040888963407) = h' at *
  generalize w.setCell ⟨g, 2, none⟩ (.int .i64 h') = w1 at *
  have hr1 : Reads w1 g 1 A n (zs.map (Value.int .u8)) := hr.keep fun p hp => (hkp.below (B := g) (by omega) (fun k hk => by omega)).cell hp
  clear hset hw64 c2 f2 hr
  have c0 : w1.cell? ⟨g, 0, none⟩ = some (.slice A n c) := by simp [World.cell?, hg1]
  have c1 : w1.cell? ⟨g, 1, none⟩ = some (.int .i64 k) := by simp [World.cell?, hg1]
  have c2 : w1.cell? ⟨g, 2, none⟩ = some (.int .i64 h') := by simp [World.cell?, hg1]
  have f1 : w1.frozen? ⟨g, 1, none⟩ = false := by simp [World.frozen?, hg1]
  have hd : ∀ p, w1.drew.cell? p = w1.cell? p := fun _ => rfl
  by_cases hkn : k < n
  · obtain ⟨b0, off0, rfl, hb0, hcx⟩ := hr1.num hkn
    have lz : zs.length = n := by simpa using hr1.1
    replace hcx := hcx (by omega)
    obtain ⟨hv1, hv2⟩ := hz _ (List.getElem_mem (by omega : k < zs.length))
    generalize zs[k]'(by omega) = x at *
    have hset : ∀ (N : Nat) (u : Value), ((w1.drewN N).setCell ⟨g, 1, none⟩ u).heap[g]? = _ := fun N u => three_set1 (w := w1.drewN N) hg1 u
    have hks : ∀ (N : Nat) (u : Value), Keeps (· = g) w ((w1.drewN N).setCell ⟨g, 1, none⟩ u) := fun N u => (Keeps.trans hkp (show Keeps (· = g) w1 (w1.drewN N) from ⟨rfl, rfl, rfl, Nat.le_refl _, fun _ _ _ => rfl⟩)).trans (keeps_set (w1.drewN N) (S := (· = g)) (p := ⟨g, 1, none⟩) u rfl)
    have hrs : ∀ (N : Nat) (u : Value), Reads ((w1.drewN N).setCell ⟨g, 1, none⟩ u) g 1 (some ⟨b0, off0, none⟩) n (zs.map (Value.int .u8)) := fun N u => (hr1.keep (w' := w1.drewN N) fun _ _ => rfl).keep fun p hp => ((keeps_set (w1.drewN N) (S := (· = g)) (p := ⟨g, 1, none⟩) u rfl).below (B := g) (by show g ≤ w1.heap.size; have := hkp.size; omega) (fun k hk => by omega)).cell hp
    clear hg1 hg
    go_region
    obtain ⟨b1, b2⟩ := and255 (bits .xor .i64 (h' / 8589934592) (h' / 140737488355328))
    generalize bits .and .i64 (bits .xor .i64 (h' / 8589934592) (h' / 140737488355328)) 255 = y at *
    go_wp2
    go_region
    go_wp2
    obtain ⟨b3, b4⟩ := and255 (y + x)
    go_quiet (fail)
    generalize bits .and .i64 (y + x) 255 = y2 at *
    have hn63 : n ≤ 9223372036854775807 := hn
    go_wp2
    rw [show ((k : Int) + 1) = ((k + 1 : Nat) : Int) by omega]
    go_ret
    exact ⟨y2, b3, b4, rfl, hks _ _, _, _, _, _, _, _, hset _ _, hn, hkn, hrs _ _, hz, h3, h4⟩
  · go_region
    obtain ⟨b1, b2⟩ := and255 (bits .xor .i64 (h' / 8589934592) (h' / 140737488355328))
    generalize bits .and .i64 (bits .xor .i64 (h' / 8589934592) (h' / 140737488355328)) 255 = y at *
    go_wp2
    go_region
    go_wp2
    go_ret
    exact ⟨y, b1, b2, rfl, drews2 hkp, _, _, _, _, _, _, hg1, hn, hk, hr1.keep fun _ _ => rfl, hz, h3, h4⟩
end Go.Proofs.YtmfaihelphfbgaaDoor
