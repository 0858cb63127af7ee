/-
  The law FnTags: its walk. Condition: the library's MaxLen holds some integer.
-/
import Derived.Test.YtkmechjilekcmaaDoorTgz
import Derived.Test.YtkmechjilekcmaaDoorTgd
import Derived.Test.YtkmechjilekcmaaDoorTgl
import Derived.Test.YtkmechjilekcmaaDoorBig
namespace Go.Proofs.YtkmechjilekcmaaDoor
set_option linter.unusedVariables false
set_option linter.unusedSimpArgs false
set_option maxRecDepth 100000
open Go.ChangeShapes Go.WideShapes Go.ChangeAt Go.RowKit Go.Deep

set_option maxHeartbeats 4000000 in
theorem tags_walk (w : World) (hm : LdM w) (A : Option Addr) (n c : Nat) (zs : List Int) (ha : ArgInts .u8 w A n zs) : Calls Tryd.prog 4 #[.slice A n c] w fun e w' => e = .returned (.bool true) ∧ Below w.heap.size w w' := by
  obtain ⟨hl, hmx, hx, hwf⟩ := ha
  have hz : ∀ z ∈ zs, 0 ≤ z ∧ z ≤ 255 := u8_all hwf
  clear hwf hl
  by_cases hn : n ≤ 1048576
  · go_enter Tryd.func4, Tryd.ntmps4
    go_wp2_with (fail)
    go_at_call 13
    refine (big_no _ hn).mono ?_
    rintro e w0 ⟨rfl, rfl⟩
    go_wp2_with (fail)
    go_at_call 14
    refine (drawTagOf_any _ hx hn hz).mono ?_
    rintro e w1 ⟨s, hp, hs, rfl, hb⟩
    replace hx := hx.next hb
    have hT := fun u h => tagOf_impl u h s (by omega)
    have hS := fun u => tagOf_spec u s (by omega)
    obtain ⟨f1, f2, f3⟩ := tag_facts hp hs
    have hK := fun u h => tokensOf_impl u h (⟨#[60]⟩ ++ s ++ ⟨#[62]⟩) (by omega)
    rw [f1] at hK
    clear f1 hp
    generalize tagT s = T at *
    obtain ⟨t, ok⟩ := T
    simp only at hK f2
    have y0 := hb.size
    go_wp2_with (fail)
    go_at_call 9
    refine (hT _ (hm.below hb)).mono ?_
    rintro e w2 ⟨A2, c2, rfl, o2, b2⟩
    simp only at o2
    have y2 := b2.size
    replace hx := hx.next b2
    replace hb := hb.trans (b2.mono hb.size)
    clear hT b2
    have hX := BoxAt.new (w := w2) rfl [.int .i64 t.kind, .string t.name, .slice A2 t.attrs.length c2, .string t.text] 24
    have a2 := (Below.refl w2.heap.size w2).alloc (Nat.le_refl _) (.cells #[.int .i64 t.kind, .string t.name, .slice A2 t.attrs.length c2, .string t.text] 24)
    replace o2 := o2.below a2
    replace hx := hx.next a2
    replace hb := hb.trans (a2.mono hb.size)
    have z2 : (w2.alloc (.cells #[.int .i64 t.kind, .string t.name, .slice A2 t.attrs.length c2, .string t.text] 24)).heap.size = w2.heap.size + 1 := by simp
    clear a2
    go_wp2_with (fail)
    go_at_call 8
    refine (hS _).mono ?_
    rintro e w3 ⟨A3, c3, rfl, o3, b3⟩
    clear o3 hS
    have y3 := b3.size
    rw [z2] at y3
    replace o2 := o2.below b3
    replace hX := hX.next b3
    replace hx := hx.next b3
    replace hb := hb.trans (b3.mono hb.size)
    clear b3 z2
    have a3 := (Below.refl w3.heap.size w3).alloc (Nat.le_refl _) (.cells #[.int .i64 t.kind, .string t.name, .slice A3 t.attrs.length c3, .string t.text] 24)
    replace o2 := o2.below a3
    replace hX := hX.next a3
    replace hx := hx.next a3
    replace hb := hb.trans (a3.mono hb.size)
    have z3 : (w3.alloc (.cells #[.int .i64 t.kind, .string t.name, .slice A3 t.attrs.length c3, .string t.text] 24)).heap.size = w3.heap.size + 1 := by simp
    clear a3
    obtain ⟨⟨e0, e1, e2, e3⟩, -⟩ := hX.four
    cases ok
    · clear f2
      simp only [Bool.false_eq_true, if_false] at hK
      go_wp2_with (fail)
      go_at_call 16
      refine (hK _ (hm.below hb)).mono ?_
      rintro e w4 ⟨A4, c4, L4, rfl, q4, o4, b4⟩
      replace hx := hx.next b4
      replace hb := hb.trans (b4.mono hb.size)
      clear b4 o4 hK
      go_wp2_with (fail)
      go_at_call 17
      refine (drawIsValue_any _ hx hn hz).mono ?_
      rintro e w5 ⟨v, hv, rfl, b5⟩
      replace hb := hb.trans (b5.mono hb.size)
      go_wp2
      go_ret
      exact ⟨rfl, hb⟩
    · obtain ⟨f4, f5⟩ := f2 rfl
      clear f2
      simp only [if_true] at hK
      go_wp2_with (fail)
      go_at_call 15
      refine (formatToken_impl t _ ((Reads.of_own o2.1).more (by omega)) (by omega)).mono ?_
      rintro e w4 ⟨rfl, b4⟩
      replace hx := hx.next b4
      replace hb := hb.trans (b4.mono hb.size)
      clear b4 o2 hX e0 e1 e2 e3
      rw [f4]
      go_wp2_with (fail)
      go_at_call 16
      refine (hK _ (hm.below hb)).mono ?_
      rintro e w5 ⟨A5, c5, L5, rfl, q5, o5, b5⟩
      have y5 := b5.size
      have hR := o5.reads (Nat.le_refl _)
      rw [q5] at hR
      replace hx := hx.next b5
      replace hb := hb.trans (b5.mono hb.size)
      clear b5 o5 hK q5
      go_wp2_with (fail)
      go_at_call 17
      refine (drawIsValue_any _ hx hn hz).mono ?_
      rintro e w6 ⟨v, hv, rfl, b6⟩
      replace hb := hb.trans (b6.mono hb.size)
      replace hR := hR.next b6
      clear b6 hx hz
      obtain ⟨b0, off0, rfl, hab, hcx⟩ := hR.tok (show 0 < 1 by omega)
      obtain ⟨A7, c7, r7, k0, k1, k2, k3⟩ := hcx (by simp)
      simp only [List.getElem_cons_zero, Nat.zero_mul, Nat.add_zero] at r7 k0 k1 k2 k3
      clear hcx hR
      go_wp2_with (fail)
      go_at_call 15
      refine (formatToken_impl t _ r7 (by omega)).mono ?_
      rintro e w7 ⟨rfl, b7⟩
      replace hb := hb.trans (b7.mono hb.size)
      rw [f4]
      go_wp2_with (fail)
      go_at_call 18
      refine (isValue_impl v (by omega) _).mono ?_
      rintro e w8 ⟨rfl, rfl⟩
      go_wp2_with (fail)
      go_at_call 19
      refine (isValue_spec v (by omega) _).mono ?_
      rintro e w9 ⟨rfl, rfl⟩
      generalize valueB v = q
      go_wp2
      go_ret
      exact ⟨by simp, hb⟩
  · go_enter Tryd.func4, Tryd.ntmps4
    go_wp2_with (go_at_call 13; refine (big_yes _ hn hmx).mono ?_; rintro e w0 ⟨rfl, rfl⟩)
    go_ret
    exact ⟨rfl, Below.refl _ _⟩
end Go.Proofs.YtkmechjilekcmaaDoor
