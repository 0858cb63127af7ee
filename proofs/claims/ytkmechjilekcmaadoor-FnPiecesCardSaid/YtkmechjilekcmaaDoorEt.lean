/-
  Contracts of EndText of the program and of the reference, and of the generated helpers on a tokenizer. Conditions: sizes of Go strings.
-/
import Derived.Test.YtkmechjilekcmaaDoorTk3
import Derived.Lib.SmallJoins
namespace Go.Proofs.YtkmechjilekcmaaDoor
set_option linter.unusedVariables false
set_option linter.unusedSimpArgs false
set_option maxRecDepth 100000
open Go.ChangeShapes Go.WideShapes Go.ChangeAt Go.RowKit Go.Deep

def endToks (s : ByteArray) : List Tok := if s.data.toList.head? = none ∨ s.data.toList.head? = some 60 then [] else [⟨3, ⟨#[]⟩, [], s⟩]
theorem bytes_nil {s : ByteArray} (h : s.size = 0) : s = ⟨#[]⟩ := by
  obtain ⟨⟨l⟩⟩ := s
  have : l.length = 0 := h
  rw [List.eq_nil_of_length_eq_zero this]
theorem head_of {s : ByteArray} (h : 0 < s.size) : s.data.toList.head? = some s[0] := by
  obtain ⟨⟨l⟩⟩ := s
  cases l with
  | nil => exact absurd h (by simp [ByteArray.size])
  | cons a l => rfl
theorem own_nil (w : World) (lo hi : Nat) (e : TypeId) (size : Nat) : Own w lo hi e size (.slice none 0 0) 0 [] :=
  ⟨⟨by simp, .inl ⟨rfl, rfl⟩⟩, fun k hk => by cases hk⟩
theorem gotN_none {α : Type} {N : Nest α} {w w' : World} {e ek : TypeId} {g : Nat} (hg : w'.heap.size = g) (hb : Below w.heap.size w w') : GotN N w e ek 0 [] (.returned (.slice (some ⟨g, 0, none⟩) 0 0)) (w'.alloc (.cells #[] e)) := by
  subst hg
  have hlo := hb.size
  refine ⟨_, _, [], rfl, rfl, ⟨⟨World.ownsRow_lit w' #[] 0 hlo (by simp [maxLen]) (by simp), fun k hk => ?_⟩, fun x hx => (by cases hx), List.Pairwise.nil, fun x hx => (by cases hx)⟩, hb.alloc hlo _⟩
  have e : some w'.heap.size = some k := hk
  injection e with e
  simp
  omega
theorem gotN_text {w w' : World} {e ek : TypeId} {g : Nat} (s : ByteArray) (hg : w'.heap.size = g) (hb : Below w.heap.size w w') :
    GotN tokN w e ek 1 [⟨3, ⟨#[]⟩, [], s⟩] (.returned (.slice (some ⟨g, 0, none⟩) 1 1)) (w'.alloc (.cells #[.int .i64 3, .string ⟨#[]⟩, .slice none 0 0, .string s] e)) := by
  subst hg
  have hlo := hb.size
  refine ⟨_, _, [(⟨3, ⟨#[]⟩, [], s⟩, (none, 0))], rfl, rfl, ⟨⟨World.ownsRow_lit w' #[.int .i64 3, .string ⟨#[]⟩, .slice none 0 0, .string s] 1 hlo (by simp [maxLen]) rfl, fun k hk => ?_⟩, fun x hx => ?_, by simp, fun x hx => ?_⟩, hb.alloc hlo _⟩
  · have e : some w'.heap.size = some k := hk
    injection e with e
    simp
    omega
  · simp at hx; subst hx; exact own_nil _ _ _ _ _
  · simp at hx; subst hx; intro k _ h; cases h
theorem szTokenizer_any (s : ByteArray) (hs : s.size ≤ 9223372036854775807) (left : Int) (h0 : 0 ≤ left) (h1 : left ≤ 1048576) (w : World) :
    Calls Tryd.prog 25 #[.agg #[.string s], .int .i64 left] w (Sz left s.size w) := by
  go_enter Tryd.func25, Tryd.ntmps25
  go_wp2
  all_goals go_ret
  all_goals refine ⟨_, rfl, ?_, ?_, ?_, (Below.refl _ _).alloc (Nat.le_refl _) _⟩
  all_goals omega
theorem toTokenizer_any (s : ByteArray) (w : World) : Calls Tryd.prog 27 #[.agg #[.string s]] w fun e w' => e = .returned (.agg #[.string s]) ∧ Below w.heap.size w w' := by
  go_enter Tryd.func27, Tryd.ntmps27
  go_wp2
  exact bodyPost_ret (v := .agg #[.string s]) (by simp [results, Tryd.results27, go_sem]) rfl ⟨rfl, ((((Below.refl _ _).alloc (Nat.le_refl _) _).alloc (by simp) _).alloc (by simp; omega) _)⟩
set_option maxHeartbeats 400000 in
theorem endText_impl (s : ByteArray) (w : World) (hs : s.size ≤ 1073741824) : Calls Tryd.prog 24 #[.agg #[.string s]] w (GotN tokN w 24 57 (endToks s).length (endToks s)) := by
  have hb := (Below.refl w.heap.size w).alloc (Nat.le_refl _) (.cells #[.string s] 40)
  by_cases h0 : s.size = 0
  · obtain rfl := bytes_nil h0
    have hE : endToks ⟨#[]⟩ = [] := rfl
    rw [hE]
    clear hE h0
    go_enter Tryd.func24, Tryd.ntmps24
    go_wp2
    go_ret
    exact gotN_none (w := w) (by simp) hb
  · have hp : 0 < s.size := by omega
    have hh := head_of hp
    have e1 : s.toList.isEmpty = false := by
      obtain ⟨⟨l⟩⟩ := s
      cases l with
      | nil => exact absurd rfl h0
      | cons a l => rw [Lib.toList_data]; rfl
    by_cases h6 : s[0] = 60
    · have hE : endToks s = [] := by rw [endToks, hh, h6]; rfl
      rw [hE]
      have h6' : (s[0].toNat : Int) = 60 := by rw [h6]; rfl
      clear hE hh
      go_enter Tryd.func24, Tryd.ntmps24
      go_wp2
      go_ret
      exact gotN_none (w := w) (by simp) hb
    · have hE : endToks s = [⟨3, ⟨#[]⟩, [], s⟩] := by rw [endToks, hh, if_neg (by simp [h6])]
      rw [hE]
      have h6' : ((s[0].toNat : Int) == 60) = false := by
        simp only [beq_eq_false_iff_ne, ne_eq]
        intro h
        exact h6 (UInt8.toNat_inj.1 (by show s[0].toNat = 60; omega))
      clear hE hh
      go_enter Tryd.func24, Tryd.ntmps24
      go_wp2
      go_ret
      exact gotN_text (w := w) s (by simp) hb
set_option maxHeartbeats 400000 in
theorem endText_spec (s : ByteArray) (w : World) (hs : s.size ≤ 1073741824) : Calls Tryd.prog 51 #[.agg #[.string s]] w (GotN tokN w 24 57 (endToks s).length (endToks s)) := by
  have hb := (Below.refl w.heap.size w).alloc (Nat.le_refl _) (.cells #[.string s] 40)
  by_cases h0 : s.size = 0
  · obtain rfl := bytes_nil h0
    have hE : endToks ⟨#[]⟩ = [] := rfl
    rw [hE]
    clear hE h0
    go_enter Tryd.func51, Tryd.ntmps51
    go_wp2
    go_ret
    exact gotN_none (w := w) (by simp) hb
  · have hp : 0 < s.size := by omega
    have hh := head_of hp
    have e1 : s.toList.isEmpty = false := by
      obtain ⟨⟨l⟩⟩ := s
      cases l with
      | nil => exact absurd rfl h0
      | cons a l => rw [Lib.toList_data]; rfl
    by_cases h6 : s[0] = 60
    · have hE : endToks s = [] := by rw [endToks, hh, h6]; rfl
      rw [hE]
      have h6' : (s[0].toNat : Int) = 60 := by rw [h6]; rfl
      clear hE hh
      go_enter Tryd.func51, Tryd.ntmps51
      go_wp2
      go_ret
      exact gotN_none (w := w) (by simp) hb
    · have hE : endToks s = [⟨3, ⟨#[]⟩, [], s⟩] := by rw [endToks, hh, if_neg (by simp [h6])]
      rw [hE]
      have h6' : ((s[0].toNat : Int) == 60) = false := by
        simp only [beq_eq_false_iff_ne, ne_eq]
        intro h
        exact h6 (UInt8.toNat_inj.1 (by show s[0].toNat = 60; omega))
      clear hE hh
      go_enter Tryd.func51, Tryd.ntmps51
      go_wp2
      go_ret
      exact gotN_text (w := w) s (by simp) hb
end Go.Proofs.YtkmechjilekcmaaDoor
