/-
  Plain facts: bytes of a string, derived keys, readers of byte strings and of lists. No program is named. No condition.
-/
import Derived.Test.YtifghjkiodnehaaPla
namespace Go.Proofs.Ytifghjkiodnehaa
set_option linter.unusedVariables false
open Go.RowKit

def strI (s : ByteArray) : List Int := s.data.toList.map fun b => (b.toNat : Int)
theorem strI_length (s : ByteArray) : (strI s).length = s.size := by simp [strI]
theorem strI_bytes (s : ByteArray) : ∀ z ∈ strI s, 0 ≤ z ∧ z ≤ 255 := by
  intro z hz
  simp only [strI, List.mem_map] at hz
  obtain ⟨b, _, rfl⟩ := hz
  have := b.toNat_lt
  omega
theorem reads_bytesRow (w : World) (s : ByteArray) (cap E : Nat) (mk : Nat × Nat) : Reads (w.alloc (.cells (bytesRow s cap) E mk)) (w.heap.size + 1) 1 (some ⟨w.heap.size, 0, none⟩) s.size ((strI s).map (Value.int .u8)) := by
  refine ⟨by rw [List.length_map, strI_length, Nat.mul_one], fun _ => ⟨_, rfl, by simp, fun j u hu => ?_⟩⟩
  have hadd : (⟨w.heap.size, 0, none⟩ : Addr).add j = ⟨w.heap.size, j, none⟩ := by unfold Addr.add; split <;> simp_all
  rw [hadd]
  have hj : j < s.size := by
    have := (List.getElem?_eq_some_iff.1 hu).1
    rwa [List.length_map, strI_length] at this
  have hh : (w.alloc (.cells (bytesRow s cap) E mk)).heap[w.heap.size]? = some (.cells (bytesRow s cap) E mk) := by
    show (w.heap.push _)[w.heap.size]? = _
    simp
  have hs : j < s.data.size := hj
  simp only [World.cell?, hh, Option.isSome_none, Bool.false_eq_true, if_false]
  rw [← hu]
  simp [bytesRow, strI, Array.getElem?_append, hj]
def derZ (key : Int) (s : ByteArray) : Int := if khZ key (bti s.size (strI s) s.size) = 0 then 1 else khZ key (bti s.size (strI s) s.size)
theorem bti_in {n : Nat} {xs : List Int} (hn : n ≤ 1073741824) (h : ∀ z ∈ xs, 0 ≤ z ∧ z ≤ 255) (k : Nat) : ∀ z ∈ bti n xs k, -9223372036854775808 ≤ z ∧ z ≤ 9223372036854775807 := by
  intro z hz
  rw [bti] at hz
  rcases List.mem_cons.1 hz with rfl | hz
  · omega
  · have := h z (List.mem_of_mem_take hz); omega

/-! ### What a read varint is like -/
theorem ruF_some {zs : List Int} (hz : ∀ z ∈ zs, 0 ≤ z ∧ z ≤ 255) : ∀ (f p : Nat) (pw acc n a : Int), 0 ≤ pw → 0 ≤ acc → ruF zs f p pw acc = some (n, a) → 0 ≤ n ∧ n ≤ 1000000000000 ∧ (p : Int) < a ∧ a ≤ zs.length := by
  intro f
  induction f with
  | zero => intro p pw acc n a _ _ h; simp [ruF] at h
  | succ f ih =>
    intro p pw acc n a hp ha h
    by_cases hl : p < zs.length
    · have hq : zs[p]? = some zs[p] := List.getElem?_eq_getElem hl
      have hx := hz zs[p] (List.getElem_mem _)
      have hm : 0 ≤ zs[p] % 128 * pw := Int.mul_nonneg (by omega) hp
      by_cases hb : zs[p] < 128
      · by_cases hg : (1 < pw ∧ zs[p] = 0) ∨ 1000000000000 < acc + zs[p] % 128 * pw
        · rw [ruF_bad hq hb hg] at h; cases h
        · rw [ruF_good hq hb hg] at h
          simp only [Option.some.injEq, Prod.mk.injEq] at h
          omega
      · rw [ruF_big hq (by omega)] at h
        have := ih (p + 1) (pw * 128) (acc + zs[p] % 128 * pw) n a (by omega) (by omega) h
        omega
    · rw [ruF_out (by omega)] at h; cases h
theorem readU_bd {zs : List Int} (hz : ∀ z ∈ zs, 0 ≤ z ∧ z ≤ 255) {off n a : Int} (h : readU zs off = some (n, a)) : 0 ≤ n ∧ n ≤ 1000000000000 ∧ 0 < a ∧ a ≤ zs.length := by
  unfold readU at h
  split at h
  · cases h
  · have := ruF_some hz 6 off.toNat 1 0 n a (by omega) (by omega) h
    omega

/-! ### Byte strings and lists -/
def rL (r : Option (List Int × Int)) : List Int := (r.map (·.1)).getD []
def rA (r : Option (List Int × Int)) : Int := (r.map (·.2)).getD 0
def rbR (zs : List Int) (off mx : Int) : Option (List Int × Int) :=
  match readU zs off with
  | none => none
  | some (n, a) => if mx < n ∨ (zs.length : Int) - a < n then none else some ((zs.drop a.toNat).take n.toNat, a + n)
theorem rbR_none {zs : List Int} {off mx : Int} (h : readU zs off = none) : rbR zs off mx = none := by simp [rbR, h]
theorem rbR_bad {zs : List Int} {off mx n a : Int} (h : readU zs off = some (n, a)) (hb : mx < n ∨ (zs.length : Int) - a < n) : rbR zs off mx = none := by simp only [rbR, h]; rw [if_pos hb]
theorem rbR_good {zs : List Int} {off mx n a : Int} (h : readU zs off = some (n, a)) (hb : ¬ (mx < n ∨ (zs.length : Int) - a < n)) : rbR zs off mx = some ((zs.drop a.toNat).take n.toNat, a + n) := by simp only [rbR, h]; rw [if_neg hb]
theorem rbR_len (zs : List Int) (off mx : Int) : (rL (rbR zs off mx)).length ≤ zs.length := by
  unfold rbR
  split
  · simp [rL]
  · split
    · simp [rL]
    · simp [rL]; omega
def decF (zs : List Int) : Nat → Int → Option (List Int × Int)
  | 0, off => some ([], off)
  | n + 1, off => match readU zs off with
    | none => none
    | some (x, a) => (decF zs n a).map fun r => (x :: r.1, r.2)
def decR (zs : List Int) (off count : Int) : Option (List Int × Int) := if inR count 0 100 && inR off 0 zs.length then decF zs count.toNat off else none
/-- what is still to come, onto what was read -/
def onto (cur : List Int) (r : Option (List Int × Int)) : Option (List Int × Int) := r.map fun r => (cur ++ r.1, r.2)
theorem onto_nil (r : Option (List Int × Int)) : onto [] r = r := by cases r <;> simp [onto]
theorem dec_none {zs : List Int} {n : Nat} {off : Int} {cur : List Int} (h : readU zs off = none) : onto cur (decF zs (n + 1) off) = none := by simp [decF, h, onto]
theorem dec_some {zs : List Int} {n : Nat} {off x a : Int} {cur : List Int} (h : readU zs off = some (x, a)) : onto cur (decF zs (n + 1) off) = onto (cur ++ [x]) (decF zs n a) := by
  simp only [decF, h, onto, Option.map_map]; congr 1; funext r; simp
theorem dec_done {zs : List Int} {off : Int} {cur : List Int} : onto cur (decF zs 0 off) = some (cur, off) := by simp [decF, onto]
theorem decF_len (zs : List Int) : ∀ (n : Nat) (off : Int), (rL (decF zs n off)).length ≤ n := by
  intro n
  induction n with
  | zero => intro off; simp [decF, rL]
  | succ n ih =>
    intro off
    rw [decF]
    cases h : readU zs off with
    | none => simp [rL]
    | some p =>
      have := ih p.2
      cases h2 : decF zs n p.2 with
      | none => simp [h2, rL]
      | some q => rw [h2] at this; simp [rL] at this; simp [h2, rL]; exact this
theorem decR_len (zs : List Int) (off count : Int) : (rL (decR zs off count)).length ≤ 100 := by
  unfold decR
  split
  · rename_i h
    rw [Bool.and_eq_true] at h
    have h1 := inR_true h.1
    have := decF_len zs count.toNat off
    omega
  · simp [rL]
def Got3 (w : World) (E : Nat) (kd : IntKind) (r : Option (List Int × Int)) (e : Ending) (w' : World) : Prop :=
  ∃ A c, e = .returned (.tuple #[.slice A (rL r).length c, .int .i64 (rA r), .bool r.isSome]) ∧ Own w' w.heap.size w'.heap.size E 1 (.slice A (rL r).length c) (rL r).length ((rL r).map (Value.int kd)) ∧ Below w.heap.size w w'
theorem Got3.none_ {w w' : World} {E : Nat} {kd : IntKind} {r : Option (List Int × Int)} {A : Option Addr} {c : Nat} (h : r = none) (o : w'.ownsRow w.heap.size E 1 (.slice A 0 c) 0 []) (b : Below w.heap.size w w') :
    Got3 w E kd r (.returned (.tuple #[.slice A 0 c, .int .i64 0, .bool false])) w' := by subst h; exact ⟨A, c, rfl, Own.of_row o, b⟩
theorem Got3.some_ {w w' : World} {E : Nat} {kd : IntKind} {r : Option (List Int × Int)} {A : Option Addr} {c n : Nat} {l : List Int} {a a' : Int} (h : r = some (l, a)) (hn : n = l.length) (ha : a' = a) (o : w'.ownsRow w.heap.size E 1 (.slice A n c) n (l.map (Value.int kd))) (b : Below w.heap.size w w') :
    Got3 w E kd r (.returned (.tuple #[.slice A n c, .int .i64 a', .bool true])) w' := by subst h hn ha; exact ⟨A, c, rfl, Own.of_row o, b⟩
/-- a cut of a slice, read -/
theorem Reads.cut {w : World} {B b off n k m : Nat} {zs : List Value} (h : Reads w B 1 (some ⟨b, off, none⟩) n zs) (hk : k + m ≤ n) (hb : b < B) (hc : ∀ j u, zs[j]? = some u → w.cell? ⟨b, off + j, none⟩ = some u) :
    Reads w B 1 (some ⟨b, off + k, none⟩) m ((zs.drop k).take m) := by
  have hl := h.1
  refine ⟨by simp; omega, fun _ => ⟨_, rfl, hb, fun j u hu => ?_⟩⟩
  have hadd : (⟨b, off + k, none⟩ : Addr).add j = ⟨b, off + (k + j), none⟩ := by unfold Addr.add; split <;> simp_all [Nat.add_assoc]
  rw [hadd]
  refine hc (k + j) u ?_
  rw [List.getElem?_take] at hu
  split at hu
  · rwa [List.getElem?_drop] at hu
  · cases hu
theorem own_mono {w : World} {lo lo' e size n : Nat} {v : Value} {xs : List Value} (h : w.ownsRow lo e size v n xs) (hl : lo' ≤ lo) : w.ownsRow lo' e size v n xs := ((Own.of_row h).wide hl (Nat.le_refl _)).1
theorem own_cap {w : World} {lo e size n c : Nat} {A : Option Addr} {xs : List Value} (h : w.ownsRow lo e size (.slice A n c) n xs) : n ≤ c := by
  rcases h.2 with ⟨h1, h2⟩ | ⟨g, cap, cur, hv, _, _, hnc, _⟩
  · omega
  · injection hv with _ _ h3; omega
end Go.Proofs.Ytifghjkiodnehaa
