/-
  Contracts of ParseAddr of the program and of the reference. Conditions: strings of at most 2^30 bytes.
-/
import Derived.Test.YtpehaoamfifgbaaFmt
namespace Go.Proofs.Ytpehaoamfifgbaa
set_option linter.unusedVariables false
set_option linter.unusedSimpArgs false
set_option maxRecDepth 100000
open Go.ChangeShapes Go.WideShapes Go.ChangeAt Go.RowKit Go.Deep

def cutA (s base : ByteArray) : S2 := if ixB s 47 = -1 then (base, s) else (s.extract 0 (ixB s 47).toNat, s.extract ((ixB s 47).toNat + 1) s.size)
def retA (a : S2) : Ending := if isA a then .returned (.tuple #[.agg #[.string a.1, .string a.2], .bool true]) else .returned (.tuple #[.agg #[.string ⟨#[]⟩, .string ⟨#[]⟩], .bool false])
theorem retA_yes {a : S2} (h : isA a = true) : .returned (.tuple #[.agg #[.string a.1, .string a.2], .bool true]) = retA a := by rw [retA, if_pos h]
theorem retA_no {a : S2} (h : isA a = false) : .returned (.tuple #[.agg #[.string ⟨#[]⟩, .string ⟨#[]⟩], .bool false]) = retA a := by rw [retA, if_neg (by simp [h])]
theorem cutA_miss {s base : ByteArray} (h : ixB s 47 = -1) : cutA s base = (base, s) := by rw [cutA, if_pos h]
theorem cutA_hit {s base : ByteArray} {i : Nat} (h : ixB s 47 = i) : cutA s base = (s.extract 0 i, s.extract (i + 1) s.size) := by rw [cutA, h, if_neg (by omega)]; rfl
theorem box_next {W w1 : World} {B : Nat} (hb : Below B W w1) {b : Nat} (h : b < B) {u0 u1 : Value} (h0 : W.cell? ⟨b, 0, none⟩ = some u0) (h1 : W.cell? ⟨b, 1, none⟩ = some u1)
    (f0 : W.frozen? ⟨b, 0, none⟩ = false) (f1 : W.frozen? ⟨b, 1, none⟩ = false) :
    w1.cell? ⟨b, 0, none⟩ = some u0 ∧ w1.cell? ⟨b, 1, none⟩ = some u1 ∧ w1.frozen? ⟨b, 0, none⟩ = false ∧ w1.frozen? ⟨b, 1, none⟩ = false := by
  obtain ⟨hc, hf⟩ := bcell hb
  exact ⟨by rw [hc _ _ h, h0], by rw [hc _ _ h, h1], by rw [hf _ _ h, f0], by rw [hf _ _ h, f1]⟩
set_option maxHeartbeats 400000 in
theorem parseAddr_impl_miss0 (s b : ByteArray) (h1 : s.size ≤ 1073741824) (h2 : b.size ≤ 1073741824) (hm : ixB s 47 = -1) (hn : (nameB b && nameB s) = false) (w : World) :
    Calls Try.prog 7 #[.string s, .string b] w fun e w' => e = retA (b, s) ∧ Below w.heap.size w w' := by
  have e0 := Lib.hid (retA_no (a := (b, s)) hn)
  have cb := ((Below.refl w.heap.size w).alloc (Nat.le_refl _) (.cells #[.string ⟨#[]⟩, .string ⟨#[]⟩] 25)).alloc (by simp) (.cells #[.string b, .string s] 25)
  have ct := fun W => cut_miss s 47 hm W
  go_enter Try.func7, Try.ntmps7
  go_wp2_with (first
    | (go_at_call 27
       refine (ct _).mono ?_
       rintro e w1 ⟨rfl, b1⟩
       have cb1 := cb.trans (b1.mono cb.size)
       obtain ⟨r0, r1, rf0, rf1⟩ := box_next b1 (b := w.heap.size) (u0 := .string ⟨#[]⟩) (u1 := .string ⟨#[]⟩) (by simp; omega) (by simp [go_sem]) (by simp [go_sem]) (by simp [go_sem]) (by simp [go_sem])
       obtain ⟨a0, a1, af0, af1⟩ := box_next b1 (b := w.heap.size + 1) (u0 := .string b) (u1 := .string s) (by simp) (by simp [go_sem]) (by simp [go_sem]) (by simp [go_sem]) (by simp [go_sem]))
    | (go_at_call 11
       refine (isAddr_impl b s (by omega) (by omega) _).mono ?_
       rintro e w2 ⟨rfl, b2⟩
       rw [hn]
       have hz1 := b1.size
       have cb3 := cb1.trans (b2.mono cb1.size)
       obtain ⟨R0, R1, Rf0, Rf1⟩ := box_next b2 (b := w.heap.size) (u0 := .string ⟨#[]⟩) (u1 := .string ⟨#[]⟩) (by simp at hz1; omega) r0 r1 rf0 rf1
       obtain ⟨A0, A1, Af0, Af1⟩ := box_next b2 (b := w.heap.size + 1) (u0 := .string b) (u1 := .string s) (by simp at hz1; omega) a0 a1 af0 af1))
  all_goals
    exact bodyPost_ret (v := .tuple #[.agg #[.string ⟨#[]⟩, .string ⟨#[]⟩], .bool false]) (by simp [results, Try.results7, go_sem, R0, R1, Rf0, Rf1]) rfl
      ⟨e0.out, (cb3.setCell (p := ⟨w.heap.size, 0, none⟩) (Nat.le_refl _) (.string ⟨#[]⟩)).setCell (p := ⟨w.heap.size, 1, none⟩) (Nat.le_refl _) (.string ⟨#[]⟩)⟩
set_option maxHeartbeats 400000 in
theorem parseAddr_impl_miss1 (s b : ByteArray) (h1 : s.size ≤ 1073741824) (h2 : b.size ≤ 1073741824) (hm : ixB s 47 = -1) (hn : (nameB b && nameB s) = true) (w : World) :
    Calls Try.prog 7 #[.string s, .string b] w fun e w' => e = retA (b, s) ∧ Below w.heap.size w w' := by
  have e0 := Lib.hid (retA_yes (a := (b, s)) hn)
  have cb := ((Below.refl w.heap.size w).alloc (Nat.le_refl _) (.cells #[.string ⟨#[]⟩, .string ⟨#[]⟩] 25)).alloc (by simp) (.cells #[.string b, .string s] 25)
  have ct := fun W => cut_miss s 47 hm W
  go_enter Try.func7, Try.ntmps7
  go_wp2_with (first
    | (go_at_call 27
       refine (ct _).mono ?_
       rintro e w1 ⟨rfl, b1⟩
       have cb1 := cb.trans (b1.mono cb.size)
       obtain ⟨r0, r1, rf0, rf1⟩ := box_next b1 (b := w.heap.size) (u0 := .string ⟨#[]⟩) (u1 := .string ⟨#[]⟩) (by simp; omega) (by simp [go_sem]) (by simp [go_sem]) (by simp [go_sem]) (by simp [go_sem])
       obtain ⟨a0, a1, af0, af1⟩ := box_next b1 (b := w.heap.size + 1) (u0 := .string b) (u1 := .string s) (by simp) (by simp [go_sem]) (by simp [go_sem]) (by simp [go_sem]) (by simp [go_sem]))
    | (go_at_call 11
       refine (isAddr_impl b s (by omega) (by omega) _).mono ?_
       rintro e w2 ⟨rfl, b2⟩
       rw [hn]
       have hz1 := b1.size
       have cb3 := cb1.trans (b2.mono cb1.size)
       obtain ⟨R0, R1, Rf0, Rf1⟩ := box_next b2 (b := w.heap.size) (u0 := .string ⟨#[]⟩) (u1 := .string ⟨#[]⟩) (by simp at hz1; omega) r0 r1 rf0 rf1
       obtain ⟨A0, A1, Af0, Af1⟩ := box_next b2 (b := w.heap.size + 1) (u0 := .string b) (u1 := .string s) (by simp at hz1; omega) a0 a1 af0 af1))
  all_goals
    exact bodyPost_ret (v := .tuple #[.agg #[.string b, .string s], .bool true]) (by simp [results, Try.results7, go_sem, R0, R1, Rf0, Rf1]) rfl
      ⟨e0.out, (cb3.setCell (p := ⟨w.heap.size, 0, none⟩) (Nat.le_refl _) (.string b)).setCell (p := ⟨w.heap.size, 1, none⟩) (Nat.le_refl _) (.string s)⟩
set_option maxHeartbeats 400000 in
theorem parseAddr_impl_hit0 (s b : ByteArray) (h1 : s.size ≤ 1073741824) (h2 : b.size ≤ 1073741824) (i : Nat) (hi : i < s.size) (hm : ixB s 47 = i) (x y : ByteArray) (hX : s.extract 0 i = x) (hY : s.extract (i + 1) s.size = y) (hx : x.size ≤ 1073741824) (hy : y.size ≤ 1073741824) (hn : (nameB x && nameB y) = false) (w : World) :
    Calls Try.prog 7 #[.string s, .string b] w fun e w' => e = retA (x, y) ∧ Below w.heap.size w w' := by
  have e0 := Lib.hid (retA_no (a := (x, y)) hn)
  have cb := ((Below.refl w.heap.size w).alloc (Nat.le_refl _) (.cells #[.string ⟨#[]⟩, .string ⟨#[]⟩] 25)).alloc (by simp) (.cells #[.string b, .string s] 25)
  have ct := fun W => cut_hit s 47 i hi (by omega) hm W
  simp only [hX, hY] at ct
  go_enter Try.func7, Try.ntmps7
  go_wp2_with (first
    | (go_at_call 27
       refine (ct _).mono ?_
       rintro e w1 ⟨rfl, b1⟩
       have cb1 := cb.trans (b1.mono cb.size)
       obtain ⟨r0, r1, rf0, rf1⟩ := box_next b1 (b := w.heap.size) (u0 := .string ⟨#[]⟩) (u1 := .string ⟨#[]⟩) (by simp; omega) (by simp [go_sem]) (by simp [go_sem]) (by simp [go_sem]) (by simp [go_sem])
       obtain ⟨a0, a1, af0, af1⟩ := box_next b1 (b := w.heap.size + 1) (u0 := .string b) (u1 := .string s) (by simp) (by simp [go_sem]) (by simp [go_sem]) (by simp [go_sem]) (by simp [go_sem]))
    | (go_at_call 11
       refine (isAddr_impl x y (by omega) (by omega) _).mono ?_
       rintro e w2 ⟨rfl, b2⟩
       rw [hn]
       have hz1 := b1.size
       have cb2 := (cb1.setCell (p := ⟨w.heap.size + 1, 0, none⟩) (Nat.le_succ _) (.string x)).setCell (p := ⟨w.heap.size + 1, 1, none⟩) (Nat.le_succ _) (.string y)
       have cb3 := cb2.trans (b2.mono cb2.size)
       obtain ⟨R0, R1, Rf0, Rf1⟩ := box_next b2 (b := w.heap.size) (u0 := .string ⟨#[]⟩) (u1 := .string ⟨#[]⟩) (by simp at hz1 ⊢; omega) (by simp [go_sem, r0, r1, rf0, rf1]) (by simp [go_sem, r0, r1, rf0, rf1]) (by simp [go_sem, r0, r1, rf0, rf1]) (by simp [go_sem, r0, r1, rf0, rf1])
       obtain ⟨A0, A1, Af0, Af1⟩ := box_next b2 (b := w.heap.size + 1) (u0 := .string x) (u1 := .string y) (by simp at hz1 ⊢; omega) (by simp [go_sem, a0, a1, af0, af1]) (by simp [go_sem, a0, a1, af0, af1]) (by simp [go_sem, a0, a1, af0, af1]) (by simp [go_sem, a0, a1, af0, af1])))
  all_goals
    exact bodyPost_ret (v := .tuple #[.agg #[.string ⟨#[]⟩, .string ⟨#[]⟩], .bool false]) (by simp [results, Try.results7, go_sem, R0, R1, Rf0, Rf1]) rfl
      ⟨e0.out, (cb3.setCell (p := ⟨w.heap.size, 0, none⟩) (Nat.le_refl _) (.string ⟨#[]⟩)).setCell (p := ⟨w.heap.size, 1, none⟩) (Nat.le_refl _) (.string ⟨#[]⟩)⟩
set_option maxHeartbeats 400000 in
theorem parseAddr_impl_hit1 (s b : ByteArray) (h1 : s.size ≤ 1073741824) (h2 : b.size ≤ 1073741824) (i : Nat) (hi : i < s.size) (hm : ixB s 47 = i) (x y : ByteArray) (hX : s.extract 0 i = x) (hY : s.extract (i + 1) s.size = y) (hx : x.size ≤ 1073741824) (hy : y.size ≤ 1073741824) (hn : (nameB x && nameB y) = true) (w : World) :
    Calls Try.prog 7 #[.string s, .string b] w fun e w' => e = retA (x, y) ∧ Below w.heap.size w w' := by
  have e0 := Lib.hid (retA_yes (a := (x, y)) hn)
  have cb := ((Below.refl w.heap.size w).alloc (Nat.le_refl _) (.cells #[.string ⟨#[]⟩, .string ⟨#[]⟩] 25)).alloc (by simp) (.cells #[.string b, .string s] 25)
  have ct := fun W => cut_hit s 47 i hi (by omega) hm W
  simp only [hX, hY] at ct
  go_enter Try.func7, Try.ntmps7
  go_wp2_with (first
    | (go_at_call 27
       refine (ct _).mono ?_
       rintro e w1 ⟨rfl, b1⟩
       have cb1 := cb.trans (b1.mono cb.size)
       obtain ⟨r0, r1, rf0, rf1⟩ := box_next b1 (b := w.heap.size) (u0 := .string ⟨#[]⟩) (u1 := .string ⟨#[]⟩) (by simp; omega) (by simp [go_sem]) (by simp [go_sem]) (by simp [go_sem]) (by simp [go_sem])
       obtain ⟨a0, a1, af0, af1⟩ := box_next b1 (b := w.heap.size + 1) (u0 := .string b) (u1 := .string s) (by simp) (by simp [go_sem]) (by simp [go_sem]) (by simp [go_sem]) (by simp [go_sem]))
    | (go_at_call 11
       refine (isAddr_impl x y (by omega) (by omega) _).mono ?_
       rintro e w2 ⟨rfl, b2⟩
       rw [hn]
       have hz1 := b1.size
       have cb2 := (cb1.setCell (p := ⟨w.heap.size + 1, 0, none⟩) (Nat.le_succ _) (.string x)).setCell (p := ⟨w.heap.size + 1, 1, none⟩) (Nat.le_succ _) (.string y)
       have cb3 := cb2.trans (b2.mono cb2.size)
       obtain ⟨R0, R1, Rf0, Rf1⟩ := box_next b2 (b := w.heap.size) (u0 := .string ⟨#[]⟩) (u1 := .string ⟨#[]⟩) (by simp at hz1 ⊢; omega) (by simp [go_sem, r0, r1, rf0, rf1]) (by simp [go_sem, r0, r1, rf0, rf1]) (by simp [go_sem, r0, r1, rf0, rf1]) (by simp [go_sem, r0, r1, rf0, rf1])
       obtain ⟨A0, A1, Af0, Af1⟩ := box_next b2 (b := w.heap.size + 1) (u0 := .string x) (u1 := .string y) (by simp at hz1 ⊢; omega) (by simp [go_sem, a0, a1, af0, af1]) (by simp [go_sem, a0, a1, af0, af1]) (by simp [go_sem, a0, a1, af0, af1]) (by simp [go_sem, a0, a1, af0, af1])))
  all_goals
    exact bodyPost_ret (v := .tuple #[.agg #[.string x, .string y], .bool true]) (by simp [results, Try.results7, go_sem, R0, R1, Rf0, Rf1]) rfl
      ⟨e0.out, (cb3.setCell (p := ⟨w.heap.size, 0, none⟩) (Nat.le_refl _) (.string x)).setCell (p := ⟨w.heap.size, 1, none⟩) (Nat.le_refl _) (.string y)⟩
end Go.Proofs.Ytpehaoamfifgbaa
