/-
  The closed facts of the seat's program that every row asks, each proved once. No condition.
  Proved: each named law of this file returns true for every input, and its arguments read afterwards as before. No condition.
-/
import Derived.Test.YtleopmeaaabejaaRows
import Derived.JoinedOf
import Derived.KernelRfl
import Derived.Test.YtleopmeaaabejaaTr07
namespace Go.Proofs.Ytleopmeaaabejaa
set_option maxRecDepth 100000

def initSigns : List Char := List.map Char.ofNat [104, 97, 114, 110, 101, 115, 115, 32, 52, 99, 97, 101, 53, 51, 54, 52, 54, 102, 101, 55, 48, 54, 54, 50, 51, 48, 56, 100, 53, 56, 57, 53, 99, 101, 97, 55, 50, 52, 50, 48, 100, 56, 99, 48, 49, 99, 52, 49, 51, 48, 100, 51, 53, 97, 56, 56, 53, 50, 56, 49, 54, 56, 52, 100, 57, 56, 56, 51, 102, 100, 56, 97, 32, 99, 117, 116, 32, 97, 116, 32, 108, 111, 111, 112, 46, 101, 120, 97, 109, 112, 108, 101, 47, 103, 48, 48, 53, 56, 54, 47, 108, 97, 119, 115, 46, 70, 110, 84, 101, 120, 116, 115, 32, 108, 111, 111, 112, 46, 101, 120, 97, 109, 112, 108, 101, 47, 103, 48, 48, 53, 56, 54, 47, 108, 97, 119, 115, 46, 70, 110, 84, 114, 101, 101, 115, 32, 108, 111, 111, 112, 46, 101, 120, 97, 109, 112, 108, 101, 47, 103, 48, 48, 53, 56, 54, 47, 108, 97, 119, 115, 46, 70, 110, 69, 120, 97, 99, 116, 74, 111, 105, 110, 83, 104, 101, 101, 116, 115]
theorem init_eq : Try.prog.initOrder = String.ofList initSigns := by
  conv => lhs; whnf
  kernel_rfl
theorem init_list : Try.prog.initOrder.toList = initSigns := (congrArg String.toList init_eq).trans String.toList_ofList
def word0 : List Char := List.map Char.ofNat [99, 117, 116]
def wordsR : List (List Char) := List.map (List.map Char.ofNat) [[97, 116], [108, 111, 111, 112, 46, 101, 120, 97, 109, 112, 108, 101, 47, 103, 48, 48, 53, 56, 54, 47, 108, 97, 119, 115, 46, 70, 110, 84, 101, 120, 116, 115], [108, 111, 111, 112, 46, 101, 120, 97, 109, 112, 108, 101, 47, 103, 48, 48, 53, 56, 54, 47, 108, 97, 119, 115, 46, 70, 110, 84, 114, 101, 101, 115], [108, 111, 111, 112, 46, 101, 120, 97, 109, 112, 108, 101, 47, 103, 48, 48, 53, 56, 54, 47, 108, 97, 119, 115, 46, 70, 110, 69, 120, 97, 99, 116, 74, 111, 105, 110, 83, 104, 101, 101, 116, 115]]
theorem init_words : behindMainWord (wordsSigns initSigns) = word0 :: wordsR := by kernel_rfl
theorem p_words : behindMainWord (wordsSigns Try.prog.initOrder.toList) = word0 :: wordsR := (congrArg (fun l => behindMainWord (wordsSigns l)) init_list).trans init_words
theorem make_of {P : Program} {c : List Char} {rest : List (List Char)} (h : behindMainWord (wordsSigns P.initOrder.toList) = c :: rest) (h1 : (c == "gc".toList || c == "spec".toList) = false) (h2 : (c == "cut".toList) = true) : P.make = some .cut := by
  unfold Program.make
  rw [h]
  simp only [h1, h2, Bool.false_eq_true, if_false, Bool.true_or, if_true]
theorem lifts_of {P : Program} {c : List Char} {rest : List (List Char)} (h : behindMainWord (wordsSigns P.initOrder.toList) = c :: rest) (h1 : (stripLifts liftWords (c :: rest)).1 = []) : P.headLifts = [] := by
  unfold Program.headLifts
  rw [h]
  simp only [h1, ite_self]
theorem liftsFinal_of {P : Program} {c : List Char} {rest : List (List Char)} (h : behindMainWord (wordsSigns P.initOrder.toList) = c :: rest) (h1 : P.headLifts = []) (h2 : (some c == some "carried".toList) = false) : P.liftsFinal = false := by
  unfold Program.liftsFinal
  simp only [h, h1, List.head?_cons, h2, Bool.false_and, List.contains_nil, Bool.or_false]
theorem mayEnter_of {P : Program} {c : List Char} {rest : List (List Char)} (h : behindMainWord (wordsSigns P.initOrder.toList) = c :: rest)
    (h3 : ((stripLifts liftWords (c :: rest)).2.head? == some "cut".toList &&
      ((stripLifts liftWords (c :: rest)).1.contains "finals" || !P.laysLater) && ((stripLifts liftWords (c :: rest)).1.contains "reflectrows" || !P.bearsReflect) &&
      ((stripLifts liftWords (c :: rest)).1.contains "reflectrows" || !(stripLifts liftWords (c :: rest)).1.contains "leanrows") &&
      P.doorFits (stripLifts liftWords (c :: rest)).1) = true) : P.mayEnter = true := by
  unfold Program.mayEnter
  rw [h]
  simp only [h3, Bool.or_true]
theorem p_lifts : Try.prog.headLifts = [] := lifts_of p_words (by kernel_rfl)
theorem p_liftsFinal : Try.prog.liftsFinal = false := liftsFinal_of p_words p_lifts (by kernel_rfl)
theorem p_make : Try.prog.make = some .cut := make_of p_words (by kernel_rfl) (by kernel_rfl)
theorem p_mayEnter : Try.prog.mayEnter = true := mayEnter_of p_words (by kernel_rfl)
theorem and_mk {a b : Bool} (ha : a = true) (hb : b = true) : (a && b) = true := by rw [ha, hb]; rfl
theorem joined_mk {P : Program} {f : FuncId} {fn : Func} {s : ChangeSpec} {c : OpenClaim}
    (h0 : (c.wf (OpenSpec.ofChange s)) = true)
    (h1 : (laidOutB P) = true)
    (h2 : (mapsRowed P) = true)
    (h3 : (fn.params.all (P.readableRec ·)) = true)
    (h4 : (namedTie P c.named s.vars) = true)
    (h5 : ((c.stops == [])) = true)
    (h6 : ((P.stops == [])) = true)
    (h7 : ((c.knobs == [])) = true)
    (h8 : ((P.stopKnobs == [])) = true)
    (h9 : ((c.inPlace == P.inPlace f)) = true)
    (h10 : ((c.unfollowed == P.unfollowed f)) = true)
    (h11 : ((c.recurses == P.recurses f)) = true)
    (h12 : ((c.named == P.varsNamed f)) = true)
    (h13 : ((c.maps == (fn.params.toList ++ s.plain.varTypes P).any (P.mapsRec ·))) = true)
    (h14 : ((c.ifaces == (fn.params.toList ++ s.plain.varTypes P).any (P.ifacesRec ·))) = true)
    (h15 : ((c.mapsOut == P.mapsAmong fn.resultTypes.toList)) = true)
    (h16 : ((c.loops == (fn.params.toList ++ s.plain.varTypes P).any (P.loopsFrom ·))) = true)
    (h17 : ((c.wideKeys == (fn.params.toList ++ s.plain.varTypes P ++ fn.resultTypes.toList).any (P.wideKeysFrom ·))) = true)
    (h18 : (s.vars.all (P.varReadable ·)) = true)
    (h19 : (fn.resultTypes.all (fun t => P.readableRec t && decide (t < P.types.size))) = true)
    (h20 : ((c.ifacesOut == fn.resultTypes.toList.any (P.ifacesRec ·))) = true)
    (h21 : ((c.loopsOut == fn.resultTypes.toList.any (P.loopsFrom ·))) = true)
    (h22 : ((c.plainKeys == P.plainKeys)) = true)
    (h23 : (c.shortTexts.isNone) = true)
    (h24 : (P.stopsHeard) = true)
    (h25 : (P.mayEnter) = true)
    (h26 : ((c.lifted == P.liftsFinal)) = true)
    (h27 : ((P.make == some c.make)) = true)
    (h28 : ((c.kinds == (if c.domain.isEmpty then [] else fn.params.toList.map fun t => match P.underlying t with | some (.int k) => some k | _ => none))) = true)
    (h29 : ((c.pinned == c.pinnedBy)) = true)
    (h30 : ((c.veiled == (fn.params.toList ++ s.plain.varTypes P ++ fn.resultTypes.toList).any (P.veiledRec ·))) = true)
    (h31 : (c.veiledFits P fn.params.toList (fn.params.toList ++ s.plain.varTypes P ++ fn.resultTypes.toList)) = true)
    : joinedFacts P f fn s c = true := by
  unfold joinedFacts
  exact and_mk (and_mk (and_mk (and_mk (and_mk (and_mk (and_mk (and_mk (and_mk (and_mk (and_mk (and_mk (and_mk (and_mk (and_mk (and_mk (and_mk (and_mk (and_mk (and_mk (and_mk (and_mk (and_mk (and_mk (and_mk (and_mk (and_mk (and_mk (and_mk (and_mk (and_mk (h0) h1) h2) h3) h4) h5) h6) h7) h8) h9) h10) h11) h12) h13) h14) h15) h16) h17) h18) h19) h20) h21) h22) h23) h24) h25) h26) h27) h28) h29) h30) h31
theorem p_laidOut : laidOutB Try.prog = true := by kernel_rfl
theorem p_mapsRowed : mapsRowed Try.prog = true := by kernel_rfl
theorem p_stops : (Try.prog.stops == []) = true := by kernel_rfl
theorem p_stopKnobs : (Try.prog.stopKnobs == []) = true := by kernel_rfl
theorem p_plainKeys : Try.prog.plainKeys = true := by kernel_rfl
theorem p_stopsHeard : Try.prog.stopsHeard = true := by kernel_rfl
theorem p_own : ownKnob Try.prog.godebug = none := by kernel_rfl
end Go.Proofs.Ytleopmeaaabejaa

namespace Go.Proofs.Ytleopmeaaabejaa
open Go.ChangeShapes Go.WideShapes Go.ChangeAt Go.RowKit
open Go.ChangeMaps (open_string shut_string)
set_option linter.unusedVariables false
set_option maxRecDepth 100000

theorem fnTrees_lifted (os : Os) (started : os.Started) (H : Type) (enc : TypeId × Value → H) :
    ReturnsInHanded {} Try.checked os 4 .any (Rows.fnTreesSpec.pre6 enc Try.prog Try.f4 Rows.fnTreesRow.domain false) (Rows.fnTreesSpec.post enc Try.prog Try.f4 false true false false) := by
  refine returnsInHanded_of_change (C := Try.checked) own started (by kernel_rfl) Try.func4
    (ChangeSpec.witness6 (enc := enc) (C := Try.checked) false ⟨#[], #[.slice none 0 0], []⟩ 8 (by kernel_rfl) (by kernel_rfl) (by kernel_rfl) (by kernel_rfl)) ?_
  intro W base args ds gs before hval0 hW hcnd _
  have hval : ∀ (j : Nat) t v, Try.f4.params[j]? = some t → args[j]? = some v → Value.okWide Try.prog W .any base t v := hval0
  have hW' := hW
  obtain ⟨p, q, hA0, hV, rfl, hfz, hnd⟩ := hW
  have hA : DataW.TrodAll enc Try.prog W 0 (fun _ => true) true Try.f4.params.toList args.toList ds p := hA0
  rw [Try.params4] at hA hval
  obtain ⟨v0, vs0, d0, ds0, p0, q0, hargs, rfl, rfl, h0, r0⟩ := trodAll_cons hA
  obtain ⟨rfl, rfl, rfl⟩ := trodAll_nil r0
  obtain rfl : args = #[v0] := by cases args; simp_all
  obtain ⟨rfl, rfl⟩ := trodVars_none hV
  have k0 := h0
  have lt0 : ∀ x ∈ p0, x.block < W.heap.size := by obtain ⟨m, hm⟩ := k0; exact DataW.trod_lt m _ _ _ hm
  obtain ⟨a0, n0, c0, z0, rfl, w0⟩ := open_slice_ints Try.underlying22 Try.underlying5 (by kernel_rfl) (hval 0 22 v0 rfl rfl) k0
  clear hA0 hval0
  refine (trees_walk W a0 n0 c0 z0 w0).mono fun e W' ⟨he, bel⟩ => ?_
  subst he
  exact ⟨_, rfl, _, _, _, [], _, [], hW', trodAll_mk1 (shut_bool Try.underlying4 _), (trodAll_cons_mk (Below.trod laidOut (by kernel_rfl) (of_decide_eq_true (by kernel_rfl)) k0 bel lt0) trodAll_mk0), rfl, bel.frame _, fun h => by cases h⟩

theorem fnTrees_closed : joinedFacts Try.prog 4 Try.f4 Rows.fnTreesSpec Rows.fnTreesRow = true :=
  joined_mk (by as_aux_lemma => kernel_rfl) p_laidOut p_mapsRowed (by as_aux_lemma => kernel_rfl) (by as_aux_lemma => kernel_rfl) (by as_aux_lemma => kernel_rfl) p_stops (by as_aux_lemma => kernel_rfl) p_stopKnobs (by as_aux_lemma => kernel_rfl) (by as_aux_lemma => kernel_rfl) (by as_aux_lemma => kernel_rfl) (by as_aux_lemma => kernel_rfl) (by as_aux_lemma => kernel_rfl) (by as_aux_lemma => kernel_rfl) (by as_aux_lemma => kernel_rfl) (by as_aux_lemma => kernel_rfl) (by as_aux_lemma => kernel_rfl) (by as_aux_lemma => kernel_rfl) (by as_aux_lemma => kernel_rfl) (by as_aux_lemma => kernel_rfl) (by as_aux_lemma => kernel_rfl) (by rw [p_plainKeys]; kernel_rfl) (by as_aux_lemma => kernel_rfl) p_stopsHeard p_mayEnter (by rw [p_liftsFinal]; kernel_rfl) (by rw [p_make]; kernel_rfl) (by as_aux_lemma => kernel_rfl) (by as_aux_lemma => kernel_rfl) (by as_aux_lemma => kernel_rfl) (by as_aux_lemma => kernel_rfl)

theorem fnTrees_holds : Rows.FnTreesSaid :=
  OpenClaim.holds_of_wide 4 Try.f4 rfl rfl rfl rfl rfl rfl rfl ⟨rfl, rfl, rfl, rfl, rfl⟩ rfl rfl rfl rfl rfl (by kernel_rfl) Try.func4 fnTrees_closed
    (of_decide_eq_true (by kernel_rfl)) (by unfold Func.isWrapper; first | (rw [if_pos (by decide +kernel)]; kernel_rfl) | (rw [if_neg (by decide +kernel)]; exact ⟨rfl, rfl⟩))
    (fun os started H enc _ => fnTrees_lifted os started H enc)

end Go.Proofs.Ytleopmeaaabejaa
