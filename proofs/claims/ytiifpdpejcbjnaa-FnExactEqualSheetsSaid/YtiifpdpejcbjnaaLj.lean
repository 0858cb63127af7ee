/-
  The walk of the generated law of the function ColorOf. No condition.
-/
import Derived.Test.YtiifpdpejcbjnaaSh2
import Derived.Deep.RegionHeld3
namespace Go.Proofs.Ytiifpdpejcbjnaa
set_option linter.unusedVariables false
set_option linter.unusedSimpArgs false
set_option maxRecDepth 100000
open Go.ChangeShapes Go.WideShapes Go.ChangeAt Go.RowKit Go.Deep

theorem OwnN.rdS {α : Type} {N : Nest α} {w : World} {lo hi n c : Nat} {e ek : TypeId} {A : Option Addr} {L : List (α × Hd)} {l : List α} (h : OwnN N w lo hi e ek A n c L) (hL : L.map (·.1) = l) (hh : hi ≤ w.heap.size) : ReadsN N w w.heap.size A n l := by
  subst hL
  exact (h.reads hh).more hh
theorem sameB {P : Program} {f : FuncId} {args : Array Value} {w : World} {r : Ending} (h : Calls P f args w fun e w' => e = r ∧ w = w') : Calls P f args w fun e w' => e = r ∧ Below w.heap.size w w' :=
  h.mono fun _ _ ⟨h1, h2⟩ => ⟨h1, h2 ▸ Below.refl _ _⟩
theorem sh_bounds {l : List (List Rul)} (h : shsSz l ≤ 1048576) : ∀ a ∈ l, a.length ≤ 1073741824 := by
  intro a ha
  have h1 := shsSz_mem ha
  have h2 := rulsz_nonneg a
  unfold shSz at h1
  omega

set_option maxHeartbeats 2000000 in
theorem fnExactColorOf_walk (w : World) (a0 : Option Addr) (n0 c0 : Nat) (l0 : List (List Rul)) (g0 : ArgSh w a0 n0 l0) (s1 : ByteArray) (g1 : s1.size ≤ maxLen) :
    Calls Try.prog 3 #[.slice a0 n0 c0, .string s1] w fun e w' => e = .returned (.bool true) ∧ Below w.heap.size w w' := by
  unfold maxLen at g1
  by_cases xx : 1048576 < s1.size
  · go_enter Try.func3, Try.ntmps3
    go_wp2
    go_ret
    exact ⟨rfl, Below.refl _ _⟩
  have Xs1 : s1.size ≤ 1048576 := by omega
  clear xx
  obtain ⟨q01, hx0, q03⟩ := g0
  have nn0 := shsSz_nonneg l0
  have cb : Below w.heap.size w w := Below.refl _ _
  go_enter Try.func3, Try.ntmps3
  go_wp2_with fail
  refine (szSheetS_any _ hx0 q01 q03 _ (by omega) (by omega)).mono ?_
  rintro e v1 ⟨r1, rfl, h1a, h1b, h1c, bb⟩
  have zz := bb.size
  try simp only [World.size_drew, World.size_alloc] at zz
  replace hx0 := hx0.next bb
  replace cb : Below w.heap.size w v1 := by first | exact cb.trans (bb.mono cb.size) | exact cb.drew.trans (bb.mono cb.drew.size)
  clear bb
  rcases Int.lt_or_le r1 0 with hneg | hpos
  · go_wp2
    go_ret
    exact ⟨rfl, cb⟩
  · have h1d := h1c hpos
    clear h1c
    have y0 := sh_bounds (l := l0) (by omega)
    go_wp2_with fail
    refine (toSheetS_any _ hx0 (by omega) y0).mono ?_
    rintro e v2 ⟨Ao1, Co1, Lo1, rfl, ho1, o1, bb⟩
    have zz := bb.size
    try simp only [World.size_drew, World.size_alloc] at zz
    replace hx0 := hx0.next bb
    replace cb : Below w.heap.size w v2 := by first | exact cb.trans (bb.mono cb.size) | exact cb.drew.trans (bb.mono cb.drew.size)
    clear bb
    go_wp2_with fail
    refine (sameB (colorOf_spec s1 _ (OwnN.rdS o1 ho1 (by omega)) (by omega) y0)).mono ?_
    rintro e v3 ⟨rfl, bb⟩
    have zz := bb.size
    try simp only [World.size_drew, World.size_alloc] at zz
    replace o1 := o1.below bb
    replace hx0 := hx0.next bb
    replace cb : Below w.heap.size w v3 := by first | exact cb.trans (bb.mono cb.size) | exact cb.drew.trans (bb.mono cb.drew.size)
    clear bb
    clear o1
    go_wp2_with fail
    refine (toSheetS_any _ hx0 (by omega) y0).mono ?_
    rintro e v4 ⟨Ao2, Co2, Lo2, rfl, ho2, o2, bb⟩
    have zz := bb.size
    try simp only [World.size_drew, World.size_alloc] at zz
    replace hx0 := hx0.next bb
    replace cb : Below w.heap.size w v4 := by first | exact cb.trans (bb.mono cb.size) | exact cb.drew.trans (bb.mono cb.drew.size)
    clear bb
    go_wp2_with fail
    refine (sameB (colorOf_impl s1 _ (OwnN.rdS o2 ho2 (by omega)) (by omega) y0)).mono ?_
    rintro e v5 ⟨rfl, bb⟩
    have zz := bb.size
    try simp only [World.size_drew, World.size_alloc] at zz
    replace o2 := o2.below bb
    replace hx0 := hx0.next bb
    replace cb : Below w.heap.size w v5 := by first | exact cb.trans (bb.mono cb.size) | exact cb.drew.trans (bb.mono cb.drew.size)
    clear bb
    generalize colOf l0 s1 = CO
    go_wp2_with fail
    refine (toSheetS_any _ hx0 (by omega) y0).mono ?_
    rintro e v6 ⟨Ao3, Co3, Lo3, rfl, ho3, o3, bb⟩
    have zz := bb.size
    try simp only [World.size_drew, World.size_alloc] at zz
    replace o2 := o2.below bb
    replace hx0 := hx0.next bb
    replace cb : Below w.heap.size w v6 := by first | exact cb.trans (bb.mono cb.size) | exact cb.drew.trans (bb.mono cb.drew.size)
    clear bb
    go_wp2_with fail
    refine (eqSheetS_yes _ (OwnN.rdS o2 ho2 (by omega)) (OwnN.rdS o3 ho3 (by omega)) (by omega) y0).mono ?_
    rintro e v7 ⟨rfl, bb⟩
    have zz := bb.size
    try simp only [World.size_drew, World.size_alloc] at zz
    replace o2 := o2.below bb
    replace o3 := o3.below bb
    replace hx0 := hx0.next bb
    replace cb : Below w.heap.size w v7 := by first | exact cb.trans (bb.mono cb.size) | exact cb.drew.trans (bb.mono cb.drew.size)
    clear bb
    go_wp2
    go_ret
    exact ⟨rfl, cb⟩

end Go.Proofs.Ytiifpdpejcbjnaa
