/-
  The walk of the generated law of the function ParseSheet. Conditions: the library's MaxLen holds some integer; the table and sentinels of strconv as the text lays them.
-/
import Derived.Test.YtmfaihelphfbgaaDoorPsi
import Derived.Test.YtmfaihelphfbgaaDoorRu1
namespace Go.Proofs.YtmfaihelphfbgaaDoor
set_option linter.unusedVariables false
set_option linter.unusedSimpArgs false
set_option maxRecDepth 100000
open Go.ChangeShapes Go.WideShapes Go.ChangeAt Go.RowKit Go.Deep

theorem markSheet_any {lo hi : Nat} {A : Option Addr} {n c : Nat} {xs : List Value} {q : Int} (w : World) (hx : Own w lo hi 60 2 (.slice A n c) n xs) (hh : hi ≤ w.heap.size) (hlh : lo ≤ hi)
    (hn : n ≤ 1073741824) (q0 : 0 < q) (q1 : q ≤ 1073741824) : Calls Tryd.prog 19 #[.agg #[.slice A n c], .int .i64 q] w
      (Marked w lo hi (fun w' => Own w' lo hi 60 2 (.slice A n c) n (rulV (mkR q n))) (q + 2 * n)) := by
  have hb0 := (Below.refl w.heap.size w).alloc (Nat.le_refl _) (.cells #[.slice A n c] 34)
  have hx' := hx.below hb0
  go_enter Tryd.func19, Tryd.ntmps19
  go_wp2_with (go_at_call 42; refine (markRuleS_any _ hx' (by simp; omega) hlh hn q0 q1).mono ?_; rintro e w1 ⟨rfl, o1, k1⟩)
  go_ret
  exact ⟨rfl, o1, (Keeps.of_below hb0).trans k1⟩
theorem heldSheet_any {A : Option Addr} {n c : Nat} {q : Int} (w : World) (hx : Reads w w.heap.size 2 A n (rulV (mkR q n))) (hn : n ≤ 1073741824) (q0 : 0 < q) (q1 : q ≤ 1073741824) :
    Calls Tryd.prog 20 #[.agg #[.slice A n c], .int .i64 q] w fun e w' => e = .returned (.int .i64 (q + 2 * n)) ∧ Below w.heap.size w w' := by
  have hb0 := (Below.refl w.heap.size w).alloc (Nat.le_refl _) (.cells #[.slice A n c] 34)
  have hx' := hx.next hb0
  have hd : decide (q + 2 * (n : Int) < 0) = false := by simp; omega
  have hq0 : 0 ≤ q + 2 * (n : Int) := by omega
  go_enter Tryd.func20, Tryd.ntmps20
  go_wp2_with (go_at_call 43; refine (heldRuleS_any _ hx' hn q0 q1).mono ?_; rintro e w1 ⟨rfl, b1⟩)
  go_ret
  exact ⟨rfl, hb0.trans (b1.mono hb0.size)⟩
theorem BoxAt.keep {S : Nat → Prop} {w w' : World} {g : Nat} {vs : List Value} {t : TypeId} (h : BoxAt w g vs t) (hk : Keeps S w w') (hs : ¬ S g) : BoxAt w' g vs t := (hk.block g h.lt hs).trans h
set_option maxHeartbeats 4000000 in
theorem exactParseSheet_walk (w : World) (hm : LdM w) (hld : LdP w) (s : ByteArray) (g0 : s.size ≤ maxLen) : Calls Tryd.prog 4 #[.string s] w fun e w' => e = .returned (.bool true) ∧ Below w.heap.size w w' := by
  unfold maxLen at g0
  by_cases xx : 1048576 < s.size
  · go_enter Tryd.func4, Tryd.ntmps4
    go_wp2
    go_ret
    exact ⟨rfl, Below.refl _ _⟩
  have Xs : s.size ≤ 1048576 := by omega
  clear xx
  have hS := fun W => parseSheet_spec W s Xs
  have hI := fun W h1 h2 => parseSheet_impl W h1 h2 s Xs
  have hle := sheetT_le s
  generalize sheetT s = F at *
  go_enter Tryd.func4, Tryd.ntmps4
  go_wp2_with (fail)
  go_at_call 16
  refine (hS _).mono ?_
  rintro e v1 ⟨A1, c1, rfl, o1, cb⟩
  have z1 := cb.size
  have a1 := (Below.refl v1.heap.size v1).alloc (Nat.le_refl _) (.cells #[.slice A1 F.length c1] 34)
  have bx3 := BoxAt.new (w := v1) rfl [.slice A1 F.length c1] 34
  replace o1 := o1.below a1
  replace cb := cb.trans (a1.mono cb.size)
  have s1 : (v1.alloc (.cells #[.slice A1 F.length c1] 34)).heap.size = v1.heap.size + 1 := by simp
  clear a1
  go_wp2_with (fail)
  go_at_call 17
  refine (hI _ (hm.below cb) (hld.below cb)).mono ?_
  rintro e v2 ⟨A2, c2, rfl, o2, b2⟩
  have z2 := b2.size
  rw [s1] at z2 o2
  replace o1 := o1.below b2
  replace bx3 := bx3.next b2
  replace cb := cb.trans (b2.mono cb.size)
  clear b2 s1
  have a2 := (Below.refl v2.heap.size v2).alloc (Nat.le_refl _) (.cells #[.slice A2 F.length c2] 34)
  have bx4 := BoxAt.new (w := v2) rfl [.slice A2 F.length c2] 34
  replace o1 := o1.below a2
  replace o2 := o2.below a2
  replace bx3 := bx3.next a2
  replace cb := cb.trans (a2.mono cb.size)
  have s2 : (v2.alloc (.cells #[.slice A2 F.length c2] 34)).heap.size = v2.heap.size + 1 := by simp
  clear a2
  have K3 := bx3.cell 0 _ rfl
  have K4 := bx4.cell 0 _ rfl
  go_wp2_with (fail)
  go_at_call 18
  refine (eqSheet_yes F _ ((o2.reads (by omega)).more (by omega)) ((o1.reads (by omega)).more (by omega)) (by omega)).mono ?_
  rintro e v3 ⟨rfl, b3⟩
  have z3 := b3.size
  rw [s2] at z3
  replace o1 := o1.below b3
  replace o2 := o2.below b3
  replace bx3 := bx3.next b3
  replace bx4 := bx4.next b3
  replace cb := cb.trans (b3.mono cb.size)
  clear b3 s2 K3 K4
  have K4 := bx4.cell 0 _ rfl
  go_wp2_with (fail)
  go_at_call 19
  refine (markSheet_any _ o2 (by omega) (by omega) (by omega) (by omega) (by omega)).mono ?_
  rintro e v4 ⟨rfl, om, k4⟩
  have z4 := k4.size
  replace o1 := o1.keep k4 (fun k hk => by have h1 := hk.1; omega)
  replace bx3 := bx3.keep k4 (fun hk => by have h1 := hk.1; omega)
  replace bx4 := bx4.keep k4 (fun hk => by have h1 := hk.2; omega)
  replace cb := cb.trans (k4.below (B := w.heap.size) cb.size (fun k hk => by have := hk.1; omega))
  clear k4 K4 o2
  have K4 := bx4.cell 0 _ rfl
  go_wp2_with (fail)
  go_at_call 20
  refine (heldSheet_any _ ((om.reads (by omega)).more (by omega)) (by omega) (by omega) (by omega)).mono ?_
  rintro e v5 ⟨rfl, b5⟩
  have z5 := b5.size
  replace o1 := o1.below b5
  replace om := om.below b5
  replace bx3 := bx3.next b5
  replace bx4 := bx4.next b5
  replace cb := cb.trans (b5.mono cb.size)
  clear b5 K4
  have hq : decide ((1 : Int) + 2 * (F.length : Int) < 0) = false := by simp; omega
  have hq0 : (0 : Int) ≤ 1 + 2 * (F.length : Int) := by omega
  go_wp2_with (fail)
  go_at_call 17
  refine (hI _ (hm.below cb) (hld.below cb)).mono ?_
  rintro e v6 ⟨A6, c6, rfl, o6, b6⟩
  have z6 := b6.size
  replace o1 := o1.below b6
  replace om := om.below b6
  replace bx3 := bx3.next b6
  replace bx4 := bx4.next b6
  replace cb := cb.trans (b6.mono cb.size)
  clear b6
  have a6 := (Below.refl v6.heap.size v6).alloc (Nat.le_refl _) (.cells #[.slice A6 F.length c6] 34)
  have bx7 := BoxAt.new (w := v6) rfl [.slice A6 F.length c6] 34
  replace o1 := o1.below a6
  replace om := om.below a6
  replace o6 := o6.below a6
  replace bx3 := bx3.next a6
  replace bx4 := bx4.next a6
  replace cb := cb.trans (a6.mono cb.size)
  have s6 : (v6.alloc (.cells #[.slice A6 F.length c6] 34)).heap.size = v6.heap.size + 1 := by simp
  clear a6
  have K3 := bx3.cell 0 _ rfl
  have K7 := bx7.cell 0 _ rfl
  go_wp2_with (fail)
  go_at_call 18
  refine (eqSheet_yes F _ ((o6.reads (by omega)).more (by omega)) ((o1.reads (by omega)).more (by omega)) (by omega)).mono ?_
  rintro e v7 ⟨rfl, b7⟩
  have z7 := b7.size
  rw [s6] at z7
  replace om := om.below b7
  replace bx4 := bx4.next b7
  replace cb := cb.trans (b7.mono cb.size)
  clear b7 K3 K7 bx3 bx7 o1 o6 s6
  have K4 := bx4.cell 0 _ rfl
  go_wp2_with (fail)
  go_at_call 20
  refine (heldSheet_any _ ((om.reads (by omega)).more (by omega)) (by omega) (by omega) (by omega)).mono ?_
  rintro e v8 ⟨rfl, b8⟩
  replace cb := cb.trans (b8.mono cb.size)
  clear b8 K4
  go_wp2
  go_ret
  exact ⟨rfl, cb⟩
end Go.Proofs.YtmfaihelphfbgaaDoor
