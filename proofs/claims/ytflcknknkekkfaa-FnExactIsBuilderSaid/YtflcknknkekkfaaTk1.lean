/-
  Contracts of the generated helpers on tokens: measure, compare, copy. Conditions: sizes of Go strings and slices.
-/
import Derived.Test.YtflcknknkekkfaaAds
import Derived.Test.YtflcknknkekkfaaNst
namespace Go.Proofs.Ytflcknknkekkfaa
set_option linter.unusedVariables false
set_option linter.unusedSimpArgs false
set_option maxRecDepth 100000
open Go.ChangeShapes Go.WideShapes Go.ChangeAt Go.RowKit Go.Deep

theorem Own.set {w : World} {lo hi : Nat} {e : TypeId} {size n : Nat} {v : Value} {xs : List Value} (h : Own w lo hi e size v n xs) {p : Addr} (hp : p.block < lo) (u : Value) : Own (w.setCell p u) lo hi e size v n xs :=
  h.keep (keeps_set (S := fun k => k = p.block) w u rfl) fun k hk => .inl (by rw [hk]; exact hp)
theorem Own.drew {w : World} {lo hi : Nat} {e : TypeId} {size n : Nat} {v : Value} {xs : List Value} (h : Own w lo hi e size v n xs) : Own w.drew lo hi e size v n xs := h
theorem Own.ge {w : World} {lo hi : Nat} {e : TypeId} {size n : Nat} {v : Value} {xs : List Value} (h : Own w lo hi e size v n xs) : ∀ k, v.ownBlock = some k → lo ≤ k := fun k hk => (h.1.lt k hk).1
/-- one token with its attributes in blocks of the call's own -/
def GotTok (w : World) (ek : TypeId) (t : Tok) (r : Ending) (w' : World) : Prop :=
  ∃ A c, r = .returned (.agg #[.int .i64 t.kind, .string t.name, .slice A t.attrs.length c, .string t.text]) ∧ Own w' w.heap.size w'.heap.size ek 2 (.slice A t.attrs.length c) t.attrs.length (s2V t.attrs) ∧ Below w.heap.size w w'
def tokSz (t : Tok) : Int := t.name.size + (t.attrs.length + s2sz t.attrs) + t.text.size

set_option maxHeartbeats 400000 in
theorem szToken_any {A : Option Addr} {c : Nat} (t : Tok) (w : World) (hx : Reads w w.heap.size 2 A t.attrs.length (s2V t.attrs)) (h1 : t.name.size ≤ 9223372036854775807) (h2 : t.attrs.length ≤ 9223372036854775807) (h3 : ∀ a ∈ t.attrs, a.1.size ≤ 9223372036854775807 ∧ a.2.size ≤ 9223372036854775807) (h4 : t.text.size ≤ 9223372036854775807)
    (left : Int) (h0 : 0 ≤ left) (h9 : left ≤ 1048576) : Calls Try.prog 20 #[.agg #[.int .i64 t.kind, .string t.name, .slice A t.attrs.length c, .string t.text], .int .i64 left] w (Sz left (tokSz t) w) := by
  have hn := s2sz_nonneg t.attrs
  have hT : tokSz t = t.name.size + (t.attrs.length + s2sz t.attrs) + t.text.size := rfl
  generalize tokSz t = T at *
  obtain ⟨kind, name, attrs, text⟩ := t
  simp only at *
  by_cases hneg : left < name.size
  · have hT' := Lib.hid hT
    clear hT
    go_enter Try.func20, Try.ntmps20
    go_wp2
    go_ret
    exact ⟨-1, rfl, by omega, by omega, by omega, (Below.refl _ _).alloc (Nat.le_refl _) _⟩
  · have hT' := Lib.hid hT
    clear hT
    have hw1 : left - (name.size : Int) ≤ 1048576 := by omega
    have hb0 := (Below.refl w.heap.size w).alloc (Nat.le_refl _) (.cells #[.int .i64 kind, .string name, .slice A attrs.length c, .string text] 31)
    go_enter Try.func20, Try.ntmps20
    go_wp2_with (go_at_call 15; refine (szAttrS_s2 (l := attrs) _ ((hx.over (Nat.le_refl _) _).more (by simp)) h2 h3 _ (by omega) (by omega)).mono ?_; rintro e w1 ⟨r, rfl, ra, rb, rc, b1⟩; have c3 : w1.cell? ⟨w.heap.size, 3, none⟩ = some (.string text) := by { rw [(bcell b1).1 _ _ (by simp)]; simp [go_sem] })
    all_goals
      go_ret
      refine ⟨_, rfl, ?_, ?_, ?_, hb0.trans (b1.mono hb0.size)⟩
      all_goals (have := hT'.out; omega)
set_option maxHeartbeats 400000 in
theorem eqToken_yes {A A' : Option Addr} {c c' : Nat} (t : Tok) (w : World) (hx : Reads w w.heap.size 2 A t.attrs.length (s2V t.attrs)) (hy : Reads w w.heap.size 2 A' t.attrs.length (s2V t.attrs)) (hn : t.attrs.length ≤ 1073741824) :
    Calls Try.prog 24 #[.agg #[.int .i64 t.kind, .string t.name, .slice A t.attrs.length c, .string t.text], .agg #[.int .i64 t.kind, .string t.name, .slice A' t.attrs.length c', .string t.text]] w fun e w' => e = .returned (.bool true) ∧ Below w.heap.size w w' := by
  obtain ⟨kind, name, attrs, text⟩ := t
  simp only at *
  have hb0 := ((Below.refl w.heap.size w).alloc (Nat.le_refl _) (.cells #[.int .i64 kind, .string name, .slice A attrs.length c, .string text] 35)).alloc (by simp) (.cells #[.int .i64 kind, .string name, .slice A' attrs.length c', .string text] 35)
  have hx' := (hx.below hb0).more hb0.size
  have hy' := (hy.below hb0).more hb0.size
  go_enter Try.func24, Try.ntmps24
  go_wp2_with (go_at_call 19; refine (eqAttrS_yes (l := attrs) _ hx' hy' hn).mono ?_; rintro e w1 ⟨rfl, b1⟩; have c3 : w1.cell? ⟨w.heap.size, 3, none⟩ = some (.string text) := by { rw [(bcell b1).1 _ _ (by simp; omega)]; simp [go_sem] }; have c4 : w1.cell? ⟨w.heap.size + 1, 3, none⟩ = some (.string text) := by { rw [(bcell b1).1 _ _ (by simp)]; simp [go_sem] })
  go_ret
  exact ⟨rfl, hb0.trans (b1.mono hb0.size)⟩
set_option maxHeartbeats 800000 in
theorem toToken_any {A : Option Addr} {c : Nat} (t : Tok) (w : World) (hx : Reads w w.heap.size 2 A t.attrs.length (s2V t.attrs)) (hn : t.attrs.length ≤ 1073741824) :
    Calls Try.prog 22 #[.agg #[.int .i64 t.kind, .string t.name, .slice A t.attrs.length c, .string t.text]] w (GotTok w 94 t) := by
  obtain ⟨kind, name, attrs, text⟩ := t
  simp only at *
  have hb0 := (((Below.refl w.heap.size w).alloc (Nat.le_refl _) (.cells #[.int .i64 kind, .string name, .slice A attrs.length c, .string text] 31)).alloc (by simp) (.cells #[.int .i64 0, .string ⟨#[]⟩, .slice none 0 0, .string ⟨#[]⟩] 35)).alloc (by simp; omega) (.cells #[.int .i64 kind, .string name, .slice none 0 0, .string ⟨#[]⟩] 35)
  have hx' := (hx.below hb0).more hb0.size
  go_enter Try.func22, Try.ntmps22
  go_wp2_with (go_at_call 17; refine (toAttrS_any (l := attrs) _ hx' hn).mono ?_; rintro e w1 ⟨A', c', rfl, o1, b1⟩; obtain ⟨hc, hf⟩ := bcell b1; have zz := b1.size; simp at zz)
  refine bodyPost_ret (v := .agg #[.int .i64 kind, .string name, .slice A' attrs.length c', .string text]) (by simp [results, Try.results22, go_sem, hc, hf, zz]) rfl ⟨A', c', rfl, ?_, ?_⟩
  · exact ((((((o1.set (p := ⟨w.heap.size + 1 + 1, 2, none⟩) (by first | (simp; done) | (simp; omega)) (.slice A' attrs.length c')).set (p := ⟨w.heap.size + 1 + 1, 3, none⟩) (by first | (simp; done) | (simp; omega)) (.string text)).set (p := ⟨w.heap.size + 1, 0, none⟩) (by first | (simp; done) | (simp; omega)) (.int .i64 kind)).set (p := ⟨w.heap.size + 1, 1, none⟩) (by first | (simp; done) | (simp; omega)) (.string name)).set (p := ⟨w.heap.size + 1, 2, none⟩) (by first | (simp; done) | (simp; omega)) (.slice A' attrs.length c')).set (p := ⟨w.heap.size + 1, 3, none⟩) (by first | (simp; done) | (simp; omega)) (.string text)).wide (by first | (simp; done) | (simp; omega)) (by simp)
  · exact (((((((hb0.trans (b1.mono hb0.size)).setCell (p := ⟨w.heap.size + 1 + 1, 2, none⟩) (by first | (simp; done) | (simp; omega)) (.slice A' attrs.length c')).setCell (p := ⟨w.heap.size + 1 + 1, 3, none⟩) (by first | (simp; done) | (simp; omega)) (.string text)).setCell (p := ⟨w.heap.size + 1, 0, none⟩) (by first | (simp; done) | (simp; omega)) (.int .i64 kind)).setCell (p := ⟨w.heap.size + 1, 1, none⟩) (by first | (simp; done) | (simp; omega)) (.string name)).setCell (p := ⟨w.heap.size + 1, 2, none⟩) (by first | (simp; done) | (simp; omega)) (.slice A' attrs.length c')).setCell (p := ⟨w.heap.size + 1, 3, none⟩) (by first | (simp; done) | (simp; omega)) (.string text))
end Go.Proofs.Ytflcknknkekkfaa
