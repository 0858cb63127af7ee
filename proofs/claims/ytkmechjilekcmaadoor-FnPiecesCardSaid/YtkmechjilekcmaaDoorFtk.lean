/-
  Contracts of FormatToken of the program and of the reference. Conditions: at most 2^30 attributes, sizes of at most 2^30 in all.
-/
import Derived.Test.YtkmechjilekcmaaDoorTk1
import Derived.Deep.QuietTactic
import Derived.BigQuiet
namespace Go.Proofs.YtkmechjilekcmaaDoor
set_option linter.unusedVariables false
set_option linter.unusedSimpArgs false
set_option maxRecDepth 100000
open Go.ChangeShapes Go.WideShapes Go.ChangeAt Go.RowKit Go.Deep

def attrB (a : S2) : ByteArray := ⟨#[32]⟩ ++ a.1 ++ ⟨#[61]⟩ ++ a.2
def catA (s : ByteArray) (l : List S2) : ByteArray := l.foldl (fun s a => s ++ attrB a) s
theorem catA_snoc (s : ByteArray) (l : List S2) (a : S2) : catA s (l ++ [a]) = catA s l ++ attrB a := by simp [catA]
theorem catA_take {s : ByteArray} {l : List S2} {k : Nat} (h : k < l.length) : catA s (l.take (k + 1)) = catA s (l.take k) ++ attrB l[k] := by
  rw [List.take_succ_eq_append_getElem h, catA_snoc]
theorem attrB_size (a : S2) : (attrB a).size = a.1.size + a.2.size + 2 := by
  simp only [attrB, ByteArray.size_append]
  show 1 + a.1.size + 1 + a.2.size = _
  omega
theorem catA_size (s : ByteArray) (l : List S2) : ((catA s l).size : Int) = s.size + 2 * l.length + s2sz l := by
  induction l generalizing s with
  | nil => simp [catA, s2sz]
  | cons a l ih =>
    show ((catA (s ++ attrB a) l).size : Int) = _
    rw [ih, ByteArray.size_append, attrB_size, s2sz_cons, List.length_cons]
    push_cast
    omega
theorem s2sz_le {l : List S2} {k : Nat} (h : k ≤ l.length) : s2sz (l.take k) ≤ s2sz l := by
  have : s2sz l = s2sz (l.take k) + s2sz (l.drop k) := by rw [s2sz, s2sz, s2sz, ← List.sum_append, ← List.map_append, List.take_append_drop]
  have := s2sz_nonneg (l.drop k)
  omega
def fmtT (t : Tok) : ByteArray := if t.kind = 1 then catA (⟨#[60]⟩ ++ t.name) t.attrs ++ ⟨#[62]⟩ else if t.kind = 2 then ⟨#[60, 47]⟩ ++ t.name ++ ⟨#[62]⟩ else if t.kind = 3 then t.text else ⟨#[]⟩
theorem ret_st {x y : ByteArray} (h : x = y) : Ending.returned (.string x) = .returned (.string y) := by rw [h]
theorem catA_impl (s : ByteArray) (a : S2) : s ++ (⟨#[32]⟩ ++ a.1 ++ ⟨#[61]⟩ ++ a.2) = s ++ attrB a := rfl
theorem catA_spec (s : ByteArray) (a : S2) : s ++ ⟨#[32]⟩ ++ a.1 ++ ⟨#[61]⟩ ++ a.2 = s ++ attrB a := by simp only [attrB, ByteArray.append_assoc]
theorem val_st {x y : ByteArray} (h : x = y) : Value.string x = .string y := by rw [h]

set_option maxHeartbeats 800000 in
theorem formatToken_impl {A : Option Addr} {c : Nat} (t : Tok) (w : World) (hx : Reads w w.heap.size 2 A t.attrs.length (s2V t.attrs)) (hz : tokSz t ≤ 268435456) :
    Calls Tryd.prog 15 #[.agg #[.int .i64 t.kind, .string t.name, .slice A t.attrs.length c, .string t.text]] w fun e w' => e = .returned (.string (fmtT t)) ∧ Below w.heap.size w w' := by
  obtain ⟨kind, name, attrs, text⟩ := t
  unfold tokSz at hz
  simp only at *
  have hnn := s2sz_nonneg attrs
  have hb0 := (Below.refl w.heap.size w).alloc (Nat.le_refl _) (.cells #[.int .i64 kind, .string name, .slice A attrs.length c, .string text] 24)
  have hx' := (hx.below hb0).more hb0.size
  by_cases h1 : kind = 1
  · subst h1
    have hres : Hid (catA (⟨#[60]⟩ ++ name) attrs ++ ⟨#[62]⟩ = fmtT ⟨1, name, attrs, text⟩) := by show _ = _; simp [fmtT]
    have hs0 : (((⟨#[60]⟩ : ByteArray) ++ name).size : Int) ≤ 268435457 := by rw [ByteArray.size_append]; show ((1 + name.size : Nat) : Int) ≤ _; omega
    generalize fmtT ⟨1, name, attrs, text⟩ = RES at *
    generalize hS : (⟨#[60]⟩ : ByteArray) ++ name = S0 at *
    have HS0 := Lib.hid hS
    clear hS
    go_enter Tryd.func15, Tryd.ntmps15
    go_wp2
    go_loopw [3, 16] (fun s i wr => ∃ k : Nat, k ≤ attrs.length ∧ i = .int .i64 k ∧ s = .string (catA S0 (attrs.take k)) ∧ Below (w.alloc (.cells #[.int .i64 1, .string name, .slice A attrs.length c, .string text] 24)).heap.size (w.alloc (.cells #[.int .i64 1, .string name, .slice A attrs.length c, .string text] 24)) wr) (fun _ i _ => attrs.length - (intOf i).toNat)
    case atStart => exact ⟨0, Nat.zero_le _, rfl, by rw [← HS0.out]; rfl, Below.refl _ _⟩
    case round =>
      obtain ⟨k, hk, rfl, rfl, hbel⟩ := hrel
      have hbs := hbel.size
      have hcs := catA_size S0 (attrs.take k)
      have hle := s2sz_le hk
      have hlt' : (attrs.take k).length ≤ k := List.length_take_le _ _
      have hcs' : (catA S0 (attrs.take k)).size ≤ 1073741824 := by omega
      clear hcs hle hlt'
      by_cases hlt : k < attrs.length
      · obtain ⟨b0, off0, rfl, hab, hcx⟩ := (hx'.below hbel).two hlt
        obtain ⟨hc0, hc1⟩ := hcx hlt
        have hn1 : Hid (catA S0 (attrs.take k) ++ (⟨#[32]⟩ ++ attrs[k].1 ++ ⟨#[61]⟩ ++ attrs[k].2) = catA S0 (attrs.take (k + 1))) := (catA_take hlt).symm
        have hm := s2sz_mem (List.getElem_mem hlt)
        generalize attrs[k] = x at *
        generalize catA S0 (attrs.take k) = T0 at *
        clear hx hx' hcx
        have hk0 : (0 : Int) ≤ (k : Int) := Int.natCast_nonneg _
        have hk9 : (k : Int) < (attrs.length : Int) := by omega
        go_wp2
        go_roundw
        case rel => exact ⟨k + 1, by omega, by go_num, val_st hn1.out, hbel.alloc hbs _⟩
        case measure => simp [intOf]; omega
      · obtain rfl : k = attrs.length := by omega
        have hN : Hid (catA S0 (attrs.take attrs.length) ++ ⟨#[62]⟩ = RES) := by show _ = _; rw [List.take_length]; exact hres.out
        generalize catA S0 (attrs.take attrs.length) = T0 at *
        go_wp2
        go_ret
        exact ⟨ret_st hN.out, hb0.trans (hbel.mono hb0.size)⟩
  · have k1 : (kind == 1) = false := by simpa using h1
    by_cases h2 : kind = 2
    · subst h2
      have hres : Hid (⟨#[60, 47]⟩ ++ name ++ ⟨#[62]⟩ = fmtT ⟨2, name, attrs, text⟩) := by show _ = _; simp [fmtT]
      have hs0 : name.size ≤ 268435457 := by omega
      generalize fmtT ⟨2, name, attrs, text⟩ = RES at *
      go_enter Tryd.func15, Tryd.ntmps15
      go_wp2
      go_ret
      exact ⟨ret_st hres.out, hb0⟩
    · have k2 : (kind == 2) = false := by simpa using h2
      by_cases h3 : kind = 3
      · subst h3
        have hres : Hid (text = fmtT ⟨3, name, attrs, text⟩) := by show _ = _; simp [fmtT]
        generalize fmtT ⟨3, name, attrs, text⟩ = RES at *
        go_enter Tryd.func15, Tryd.ntmps15
        go_wp2
        go_ret
        exact ⟨ret_st hres.out, hb0⟩
      · have k3 : (kind == 3) = false := by simpa using h3
        have hres : Hid ((⟨#[]⟩ : ByteArray) = fmtT ⟨kind, name, attrs, text⟩) := by show _ = _; simp [fmtT, h1, h2, h3]
        generalize fmtT ⟨kind, name, attrs, text⟩ = RES at *
        go_enter Tryd.func15, Tryd.ntmps15
        go_wp2
        go_ret
        exact ⟨ret_st hres.out, hb0⟩
end Go.Proofs.YtkmechjilekcmaaDoor
