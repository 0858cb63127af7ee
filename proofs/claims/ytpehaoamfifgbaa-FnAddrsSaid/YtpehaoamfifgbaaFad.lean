/-
  The reference's draws of addresses: some addresses of short strings. No condition.
-/
import Derived.Test.YtpehaoamfifgbaaBig
import Derived.Test.YtpehaoamfifgbaaFmt
import Derived.Test.YtpehaoamfifgbaaBox
namespace Go.Proofs.Ytpehaoamfifgbaa
set_option linter.unusedVariables false
set_option linter.unusedSimpArgs false
set_option maxRecDepth 100000
open Go.ChangeShapes Go.WideShapes Go.ChangeAt Go.RowKit Go.Deep

def shortA (a : S2) : Prop := a.1.size ≤ 60 ∧ a.2.size ≤ 60
def GotA (R : World → World → Prop) (w : World) (e : Ending) (w' : World) : Prop := ∃ a : S2, shortA a ∧ e = .returned (.agg #[.string a.1, .string a.2]) ∧ R w w'
theorem BoxAt.keeps {S : Nat → Prop} {w w' : World} {g : Nat} {vs : List Value} {t : TypeId} (h : BoxAt w g vs t) (hk : Keeps S w w') (hs : ¬ S g) : BoxAt w' g vs t := (hk.block g h.lt hs).trans h
set_option maxHeartbeats 1000000 in
theorem l4Host_any (w : World) (g : Nat) (hc : Cur w g) : Calls Try.prog 65 #[.pointer (some ⟨g, 0, none⟩)] w fun e w' => ∃ s : ByteArray, s.size ≤ 60 ∧ e = .returned (.string s) ∧ Draws g w w' := by
  have hd := Draws.refl hc
  go_enter Try.func65, Try.ntmps65
  go_wp2_with (fail)
  go_at_call 29
  refine (l1Str_any _ g (hd.alloc _).2 _ 4 [⟨#[104, 111, 109, 101]⟩, ⟨#[99, 100, 110]⟩, ⟨#[101, 118, 105, 108]⟩, ⟨#[104, 111, 109, 101]⟩] (by have := hd.lt; omega) (by omega) (by omega) rfl (fun j v h => alloc_vals _ _ _ j v h) (alloc_lt _ _)).mono ?_
  rintro e w3 ⟨z, hz, rfl, d⟩
  replace hd := (hd.alloc _).trans d
  have hz2 : z.size ≤ 60 := by
    simp only [List.mem_cons, List.not_mem_nil, or_false] at hz
    rcases hz with rfl | rfl | rfl | rfl <;> decide
  clear d hz
  go_wp2
  go_ret
  exact ⟨z, hz2, rfl, hd⟩
set_option maxHeartbeats 1000000 in
theorem l4Path_any (w : World) (g : Nat) (hc : Cur w g) : Calls Try.prog 66 #[.pointer (some ⟨g, 0, none⟩)] w fun e w' => ∃ s : ByteArray, s.size ≤ 60 ∧ e = .returned (.string s) ∧ Draws g w w' := by
  have hd := Draws.refl hc
  go_enter Try.func66, Try.ntmps66
  go_wp2_with (fail)
  go_at_call 29
  refine (l1Str_any _ g (hd.alloc _).2 _ 7 [⟨#[105, 110, 100, 101, 120]⟩, ⟨#[97, 112, 112]⟩, ⟨#[115, 116, 121, 108, 101]⟩, ⟨#[108, 105, 98]⟩, ⟨#[108, 111, 103, 111]⟩, ⟨#[110, 101, 120, 116]⟩, ⟨#[117, 116, 105, 108]⟩] (by have := hd.lt; omega) (by omega) (by omega) rfl (fun j v h => alloc_vals _ _ _ j v h) (alloc_lt _ _)).mono ?_
  rintro e w3 ⟨z, hz, rfl, d⟩
  replace hd := (hd.alloc _).trans d
  have hz2 : z.size ≤ 60 := by
    simp only [List.mem_cons, List.not_mem_nil, or_false] at hz
    rcases hz with rfl | rfl | rfl | rfl | rfl | rfl | rfl <;> decide
  clear d hz
  go_wp2
  go_ret
  exact ⟨z, hz2, rfl, hd⟩
theorem draws_put {g : Nat} {w w1 : World} (h : Draws g w w1) (hg : g < w.heap.size) {b o : Nat} (hb : w.heap.size ≤ b) (v : Value) : Draws g w (w1.setCell ⟨b, o, none⟩ v) :=
  h.next ((Below.refl w.heap.size w1).setCell (p := ⟨b, o, none⟩) hb v) (Nat.le_refl _) hg
set_option maxHeartbeats 1000000 in
theorem l4Addr_any (w : World) (g : Nat) (hc : Cur w g) : Calls Try.prog 51 #[.pointer (some ⟨g, 0, none⟩)] w (GotA (Draws g) w) := by
  have hg := hc.lt
  have hd := (Draws.refl hc).alloc (.cells #[.string ⟨#[]⟩, .string ⟨#[]⟩] 25)
  have bx := BoxAt.new (w := w) rfl [.string ⟨#[]⟩, .string ⟨#[]⟩] 25
  go_enter Try.func51, Try.ntmps51
  go_wp2_with (fail)
  go_at_call 65
  refine (l4Host_any _ g hd.2).mono ?_
  rintro e w1 ⟨s, hs, rfl, d⟩
  replace bx := bx.keeps d.1 (by omega)
  replace hd := hd.trans d
  clear d
  go_wp2_with (fail)
  go_at_call 66
  refine (l4Path_any _ g hd.2).mono ?_
  rintro e w2 ⟨p, hp, rfl, d⟩
  replace bx := bx.keeps d.1 (by omega)
  replace hd := hd.trans d
  clear d
  have q0 := bx.open_ 0
  have q1 := bx.open_ 1
  have p0 := bx.cell 0 _ rfl
  have p1 := bx.cell 1 _ rfl
  have bz := (bx.put (j := 0) (.string s)).put (j := 1) (.string p)
  have f0 := bz.cell 0 _ rfl
  have f1 := bz.cell 1 _ rfl
  have hfin := draws_put (draws_put hd hg (Nat.le_refl _) (o := 0) (.string s)) hg (Nat.le_refl _) (o := 1) (.string p)
  clear bx bz hd
  go_wp2
  exact bodyPost_ret (v := .agg #[.string s, .string p]) (by simp [results, Try.results51, go_sem, f0, f1]) rfl ⟨(s, p), ⟨hs, hp⟩, rfl, hfin⟩
set_option maxHeartbeats 2000000 in
theorem l4Any_any (w : World) (g : Nat) (hc : Cur w g) : Calls Try.prog 32 #[.pointer (some ⟨g, 0, none⟩)] w (GotA (Draws g) w) := by
  have hg := hc.lt
  have hd := (Draws.refl hc).alloc (.cells #[.string ⟨#[]⟩, .string ⟨#[]⟩] 25)
  have bx := BoxAt.new (w := w) rfl [.string ⟨#[]⟩, .string ⟨#[]⟩] 25
  go_enter Try.func32, Try.ntmps32
  go_wp2_with (fail)
  go_at_call 51
  refine (l4Addr_any _ g hd.2).mono ?_
  rintro e w1 ⟨⟨s, p⟩, ⟨hs, hp⟩, rfl, d⟩
  simp only at hs hp
  replace bx := bx.keeps d.1 (by omega)
  replace hd := hd.trans d
  have hz1 : w.heap.size ≤ w1.heap.size := hd.size
  have ax := BoxAt.new (w := w1) rfl [.string s, .string p] 25
  replace bx := bx.alloc (.cells #[.string s, .string p] 25)
  replace hd := hd.alloc (.cells #[.string s, .string p] 25)
  have hne : w.heap.size < w1.heap.size := by have := d.lt; have := d.size; simp at this; omega
  clear d
  go_wp2_with (fail)
  go_at_call 50
  refine (l1Below_any _ g hd.2 12 (by omega) (by omega)).mono ?_
  rintro e w2 ⟨x, hx1, hx2, rfl, d⟩
  replace bx := bx.keeps d.1 (by omega)
  replace ax := ax.keeps d.1 (by omega)
  replace hd := hd.trans d
  clear d
  by_cases c0 : x = 0
  · subst c0
    go_wp2_with (fail)
    go_at_call 29
    have hlt := hd.lt
    refine (l1Str_any _ g (hd.alloc _).2 _ 4 [⟨#[]⟩, ⟨#[65]⟩, ⟨#[97, 98, 99, 100, 101, 102, 103, 104, 105]⟩, ⟨#[97, 98, 99, 100, 101, 102, 103, 104]⟩] (by omega) (by omega) (by omega) rfl (fun j v h => alloc_vals _ _ _ j v h) (alloc_lt _ _)).mono ?_
    rintro e w3 ⟨z, hz, rfl, d⟩
    replace bx := (bx.alloc _).keeps d.1 (by omega)
    replace ax := (ax.alloc _).keeps d.1 (by omega)
    replace hd := (hd.alloc _).trans d
    have hz2 : z.size ≤ 60 := by
      simp only [List.mem_cons, List.not_mem_nil, or_false] at hz
      rcases hz with rfl | rfl | rfl | rfl <;> decide
    clear d hz
    have a0 := ax.cell 0 _ rfl
    have a1 := ax.cell 1 _ rfl
    have r0 := ax.open_ 0
    replace ax := ax.put (j := 0) (.string z)
    have p0 := bx.cell 0 _ rfl
    have p1 := bx.cell 1 _ rfl
    replace bx := bx.other (p := ⟨w1.heap.size, 0, none⟩) (by show w.heap.size ≠ w1.heap.size; omega) (.string z)
    have k0 := ax.cell 0 _ rfl
    have k1 := ax.cell 1 _ rfl
    have q0 := bx.open_ 0
    have q1 := bx.open_ 1
    have bz := (bx.put (j := 0) (.string z)).put (j := 1) (.string p)
    have f0 := bz.cell 0 _ rfl
    have f1 := bz.cell 1 _ rfl
    have hfin := draws_put (draws_put (draws_put hd hg hz1 (o := 0) (.string z)) hg (Nat.le_refl _) (o := 0) (.string z)) hg (Nat.le_refl _) (o := 1) (.string p)
    clear bx bz hd ax
    go_wp2
    exact bodyPost_ret (v := .agg #[.string z, .string p]) (by simp [results, Try.results32, go_sem, f0, f1]) rfl ⟨(z, p), ⟨hz2, hp⟩, rfl, hfin⟩
  · have e0 : (x == 0) = false := by simpa using c0
    by_cases c1 : x = 1
    · subst c1
      go_wp2_with (fail)
      go_at_call 29
      have hlt := hd.lt
      refine (l1Str_any _ g (hd.alloc _).2 _ 3 [⟨#[]⟩, ⟨#[97, 47, 98]⟩, ⟨#[97, 49]⟩] (by omega) (by omega) (by omega) rfl (fun j v h => alloc_vals _ _ _ j v h) (alloc_lt _ _)).mono ?_
      rintro e w3 ⟨z, hz, rfl, d⟩
      replace bx := (bx.alloc _).keeps d.1 (by omega)
      replace ax := (ax.alloc _).keeps d.1 (by omega)
      replace hd := (hd.alloc _).trans d
      have hz2 : z.size ≤ 60 := by
        simp only [List.mem_cons, List.not_mem_nil, or_false] at hz
        rcases hz with rfl | rfl | rfl <;> decide
      clear d hz
      have a0 := ax.cell 0 _ rfl
      have a1 := ax.cell 1 _ rfl
      have r0 := ax.open_ 1
      replace ax := ax.put (j := 1) (.string z)
      have p0 := bx.cell 0 _ rfl
      have p1 := bx.cell 1 _ rfl
      replace bx := bx.other (p := ⟨w1.heap.size, 1, none⟩) (by show w.heap.size ≠ w1.heap.size; omega) (.string z)
      have k0 := ax.cell 0 _ rfl
      have k1 := ax.cell 1 _ rfl
      have q0 := bx.open_ 0
      have q1 := bx.open_ 1
      have bz := (bx.put (j := 0) (.string s)).put (j := 1) (.string z)
      have f0 := bz.cell 0 _ rfl
      have f1 := bz.cell 1 _ rfl
      have hfin := draws_put (draws_put (draws_put hd hg hz1 (o := 1) (.string z)) hg (Nat.le_refl _) (o := 0) (.string s)) hg (Nat.le_refl _) (o := 1) (.string z)
      clear bx bz hd ax
      go_wp2
      exact bodyPost_ret (v := .agg #[.string s, .string z]) (by simp [results, Try.results32, go_sem, f0, f1]) rfl ⟨(s, z), ⟨hs, hz2⟩, rfl, hfin⟩
    · have e1 : (x == 1) = false := by simpa using c1
      have k0 := ax.cell 0 _ rfl
      have k1 := ax.cell 1 _ rfl
      have p0 := bx.cell 0 _ rfl
      have p1 := bx.cell 1 _ rfl
      have q0 := bx.open_ 0
      have q1 := bx.open_ 1
      have bz := (bx.put (j := 0) (.string s)).put (j := 1) (.string p)
      have f0 := bz.cell 0 _ rfl
      have f1 := bz.cell 1 _ rfl
      have hfin := draws_put (draws_put hd hg (Nat.le_refl _) (o := 0) (.string s)) hg (Nat.le_refl _) (o := 1) (.string p)
      clear bx bz hd ax
      go_wp2
      exact bodyPost_ret (v := .agg #[.string s, .string p]) (by simp [results, Try.results32, go_sem, f0, f1]) rfl ⟨(s, p), ⟨hs, hp⟩, rfl, hfin⟩
set_option maxHeartbeats 2000000 in
theorem l4Addrs_any (w : World) (g : Nat) (hc : Cur w g) : Calls Try.prog 35 #[.pointer (some ⟨g, 0, none⟩)] w fun e w' => ∃ (A : Option Addr) (c : Nat) (l : List S2), l.length ≤ 6 ∧ e = .returned (.slice A l.length c) ∧ w'.ownsRow w.heap.size 25 2 (.slice A l.length c) l.length (s2V l) ∧ Draws g w w' := by
  have hg := hc.lt
  have hd := (Draws.refl hc).alloc (.cells #[] 25)
  have ho := own_empty w 25 2
  go_enter Try.func35, Try.ntmps35
  go_wp2_with (fail)
  go_at_call 50
  refine (l1Below_any _ g hd.2 6 (by omega) (by omega)).mono ?_
  rintro e w1 ⟨x, hx1, hx2, rfl, d⟩
  have ho1 := own_draws ho d hg
  have hd1 := hd.trans d
  clear ho hd d
  obtain ⟨j, rfl⟩ := Int.eq_ofNat_of_zero_le hx1
  go_wp2_with (fail)
  go_loopw [3, 4] (fun v i wr => ∃ (k : Nat) (A' : Option Addr) (c' : Nat) (l : List S2), l.length + k ≤ 6 ∧ i = .int .i64 k ∧ v = .slice A' l.length c' ∧ wr.ownsRow w.heap.size 25 2 (.slice A' l.length c') l.length (s2V l) ∧ Draws g w wr)
    (fun _ i _ => (intOf i).toNat)
  case atStart => exact ⟨j, _, 0, [], by simp; omega, rfl, rfl, ho1, hd1⟩
  case round =>
    clear hd1 ho1
    obtain ⟨k, A', c', l, hk, rfl, rfl, hown, hd⟩ := hrel
    have hz1 : w.heap.size ≤ wr.heap.size := hd.size
    by_cases hlt : 0 < k
    · go_wp2_with (fail)
      go_at_call 51
      refine (l4Addr_any _ g hd.2).mono ?_
      rintro e w1 ⟨⟨s, p⟩, -, rfl, d⟩
      have ho1 := (own_draws hown d hg).alloc (.cells #[.string s, .string p] 25)
      have hr1 := Reads.pair2 w1 (.string s) (.string p) 25
      have hd1 := (hd.trans d).alloc (.cells #[.string s, .string p] 25)
      have hs : Hid (s2V l ++ [.string s, .string p] = s2V (l ++ [(s, p)])) := by show _ = _; rw [s2V_append]; rfl
      have hz3 : w.heap.size ≤ w1.heap.size := (hd.trans d).size
      have hll : (l ++ [(s, p)]).length = l.length + 1 := by rw [List.length_append]; rfl
      clear hown d hd
      go_wp2_with (at_builtin; refine wpList_app row_Addr rfl (.tmp 12) (.tmp 15) rfl w.heap.size A' l.length c' _ rfl ho1 (w1.heap.size + 1) _ 1 1 [.string s, .string p] rfl hr1 (s2_one [(s, p)]) (l.length + 1) _ (by omega) hs.out ⟨by omega, by omega⟩ (by simp; omega) ?_; intro A2 c2 w2 ho2 hb2)
      go_roundw
      case rel => exact ⟨k - 1, A2, c2, l ++ [(s, p)], by rw [hll]; omega, by first | go_num | (congr 1; omega), by rw [hll], by rw [hll]; exact ho2, hd1.next hb2 (Nat.le_refl _) hg⟩
      case measure => simp [intOf]; omega
    · obtain rfl : k = 0 := by omega
      go_wp2
      go_ret
      exact ⟨A', c', l, by omega, rfl, hown, hd⟩
end Go.Proofs.Ytpehaoamfifgbaa
