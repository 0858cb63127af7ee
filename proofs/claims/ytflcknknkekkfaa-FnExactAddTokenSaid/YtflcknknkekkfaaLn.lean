/-
  Bounds of builders that took tokens; marks laid where only a bound of the number is wanted; slices of tokens as arguments. No condition beyond sizes.
-/
import Derived.Test.YtflcknknkekkfaaAs
import Derived.Test.YtflcknknkekkfaaNop
import Derived.Test.YtflcknknkekkfaaLb2
import Derived.Test.YtflcknknkekkfaaLg
namespace Go.Proofs.Ytflcknknkekkfaa
set_option linter.unusedVariables false
set_option linter.unusedSimpArgs false
set_option maxRecDepth 100000
open Go.ChangeShapes Go.WideShapes Go.ChangeAt Go.RowKit Go.Deep

theorem totN_app (a b : List Nat) : totN (a ++ b) = totN a + totN b := by simp [totN]
theorem totN_nods (l : List Nod) : totN (l.map nodN.num) ≤ 3 * l.length + 2 * nodsSz l := by
  induction l with
  | nil => simp [totN, nodsSz]
  | cons a l ih =>
    have h1 : nodsSz (a :: l) = nodSz a + nodsSz l := by simp [nodsSz]
    have h2 := attrs_le_nodSz a
    rw [List.map_cons, totN_cons, h1, List.length_cons]
    have h3 : nodN.num a = a.attrs.length := rfl
    omega
theorem totN_toks (l : List Tok) : totN (l.map tokN.num) ≤ 3 * l.length + 2 * toksSz l := by
  induction l with
  | nil => simp [totN, toksSz]
  | cons a l ih =>
    have h1 : toksSz (a :: l) = tokSz a + toksSz l := by simp [toksSz]
    have h2 := attrs_le_tokSz a
    rw [List.map_cons, totN_cons, h1, List.length_cons]
    have h3 : tokN.num a = a.attrs.length := rfl
    omega
theorem addB_grow (b : Bld) (t : Tok) : (addB b t).1.nodes.length ≤ b.nodes.length + 1 ∧ totN ((addB b t).1.nodes.map nodN.num) ≤ totN (b.nodes.map nodN.num) + (3 + 2 * t.attrs.length) ∧ (addB b t).1.opens.length ≤ b.opens.length + 1 := by
  rcases addB_cases b t with ⟨⟨m, e⟩, _⟩ | ⟨h40, h0, par, hpar, x, hx1, hx2, e1, e2, _⟩
  · rw [e]; refine ⟨by simp, by simp; omega, ?_⟩
    simp only [List.length_take]; omega
  · rw [e1]
    refine ⟨by simp, ?_, ?_⟩
    · rw [List.map_append, totN_app]
      have h3 : nodN.num x = x.attrs.length := rfl
      simp only [List.map_cons, List.map_nil, h3]
      rw [totN_cons]
      have : totN [] = 0 := rfl
      omega
    · rcases e2 with e2 | ⟨_, e2⟩ <;> rw [e2] <;> simp
theorem addsL_grow (l : List Tok) : ∀ b : Bld, (addsL b l).nodes.length ≤ b.nodes.length + l.length ∧ totN ((addsL b l).nodes.map nodN.num) ≤ totN (b.nodes.map nodN.num) + totN (l.map tokN.num) ∧ (addsL b l).opens.length ≤ b.opens.length + l.length := by
  induction l with
  | nil => intro b; simp [addsL, totN]
  | cons t l ih =>
    intro b
    have h1 := addB_grow b t
    have h2 := ih (addB b t).1
    have h3 : tokN.num t = t.attrs.length := rfl
    rw [List.map_cons, totN_cons, List.length_cons, h3]
    show (addsL (addB b t).1 l).nodes.length ≤ _ ∧ totN ((addsL (addB b t).1 l).nodes.map nodN.num) ≤ _ ∧ (addsL (addB b t).1 l).opens.length ≤ _
    omega
theorem markBuilder_some {lo hi n c n' c' : Nat} {A A' : Option Addr} {b : Bld} {L : List (Nod × Hd)} {q : Int} (w : World) (hx : OwnB w lo hi 74 94 3 A n c A' n' c' b L) (hh : hi ≤ w.heap.size) (hn : n ≤ 1073741824) (hn' : n' ≤ 1073741824)
    (q0 : 0 < q) (q1 : q + totN (b.nodes.map nodN.num) ≤ 1073741824) : Calls Try.prog 35 #[.agg #[.slice A n c, .slice A' n' c'], .int .i64 q] w
      fun e w' => ∃ Q : Int, e = .returned (.int .i64 Q) ∧ q ≤ Q ∧ Q ≤ q + totN (b.nodes.map nodN.num) + n' ∧ Keeps (Span lo hi) w w' :=
  (markBuilder_any w hx hh hn hn' q0 q1).mono fun _ w' ⟨h1, _, h3⟩ => ⟨_, h1, by have := totN_nonneg (b.nodes.map nodN.num); omega, Int.le_refl _, h3⟩
theorem markTokenS_some {lo hi : Nat} {A : Option Addr} {n c : Nat} {L : List (Tok × Hd)} {l : List Tok} {q : Int} (w : World) (hx : OwnN tokN w lo hi 35 94 A n c L) (hL : L.map (·.1) = l) (hh : hi ≤ w.heap.size)
    (hn : n ≤ 1073741824) (q0 : 0 < q) (q1 : q + totN (l.map tokN.num) ≤ 1073741824) : Calls Try.prog 30 #[.slice A n c, .int .i64 q] w
      fun e w' => ∃ Q : Int, e = .returned (.int .i64 Q) ∧ q ≤ Q ∧ Q ≤ q + totN (l.map tokN.num) ∧ Keeps (Span lo hi) w w' := by
  have en := nums_of (N := tokN) hL
  exact (markTokenS_any w hx hh hn q0 (by rw [en]; exact q1)).mono fun _ w' ⟨h1, _, h3⟩ => ⟨_, h1, by have := totN_nonneg (tokN.nums L); omega, by rw [en]; exact Int.le_refl _, h3⟩
theorem markToken_some {lo hi : Nat} {A : Option Addr} {c : Nat} {t : Tok} {q : Int} (w : World) (hx : Own w lo hi 94 2 (.slice A t.attrs.length c) t.attrs.length (s2V t.attrs)) (hh : hi ≤ w.heap.size) (hlh : lo ≤ hi)
    (hn : t.attrs.length ≤ 1073741824) (q0 : 0 < q) (q1 : q ≤ 1073741824) : Calls Try.prog 59 #[.agg #[.int .i64 t.kind, .string t.name, .slice A t.attrs.length c, .string t.text], .int .i64 q] w
      fun e w' => ∃ Q : Int, e = .returned (.int .i64 Q) ∧ q ≤ Q ∧ Q ≤ q + 2 * t.attrs.length ∧ Keeps (Span lo hi) w w' := by
  obtain ⟨kind, name, attrs, text⟩ := t
  simp only at *
  have hb := (Below.refl w.heap.size w).alloc (Nat.le_refl _) (.cells #[.int .i64 kind, .string name, .slice A attrs.length c, .string text] 35)
  have hx' := hx.below hb
  go_enter Try.func59, Try.ntmps59
  go_wp2_with fail
  refine (markAttrS_any (lo := lo) (hi := hi) _ hx' (by simp; omega) hlh hn q0 q1).mono ?_
  rintro e w1 ⟨rfl, _, k1⟩
  have hkp : Keeps (Span lo hi) w w1 := (Keeps.of_below hb).trans k1
  go_wp2
  go_ret
  exact ⟨_, rfl, by omega, by omega, hkp⟩
/-! ### a slice of tokens that came in -/
section
variable {H : Type} {enc : TypeId × Value → H} {P : Program} {w : World} {spare : Nat → Bool} {held : Bool}
theorem open_toks {r : Reach} {b0 : Nat} {t e u i ta ea : TypeId} {f0 f1 f2 f3 g0 g1 : Field} {v : Value} {d : DataW H} {ps : List MemPlace} (ht : P.underlying t = some (.slice e)) (he : P.underlying e = some (.struct #[f0, f1, f2, f3])) (hu : P.underlying u = some .string) (hi : P.underlying i = some (.int .i64))
    (hone : oneCellFields P #[f0, f1, f2, f3] = true) (hC : P.cellsOf e = 4) (e0 : f0.type = i) (e1 : f1.type = u) (e2 : f2.type = ta) (e3 : f3.type = u)
    (hta : P.underlying ta = some (.slice ea)) (hea : P.underlying ea = some (.struct #[g0, g1])) (honea : oneCellFields P #[g0, g1] = true) (hCa : P.cellsOf ea = 2) (d0 : g0.type = u) (d1 : g1.type = u)
    (hv : Value.okWide P w r b0 t v) (h : DataW.Trod enc P w 0 spare held t v d ps) :
    ∃ A n c l, v = .slice A n c ∧ n ≤ maxLen ∧ ReadsN tokN w w.heap.size A n l ∧ ∀ a ∈ l, okTok a := by
  obtain ⟨a0, len, cap, rfl⟩ := okWide_slice ht hv
  obtain ⟨fuel, hf⟩ := h
  have hf' : DataW.trod enc P w 0 spare held fuel t [.slice a0 len cap] = some (d, ps) := by simpa [Value.cells] using hf
  exact trod_toks ht he hu hi hone hC e0 e1 e2 e3 hta hea honea hCa d0 d1 hf'
end
end Go.Proofs.Ytflcknknkekkfaa
