/-
  Plain words: a string cut at every occurrence of one byte. No program is named. No condition.
  Contracts of FindAttr of the program and of the reference, and of slices.IndexFunc at it. Conditions: at most 2^30 attributes.
  Plain words: what a tag's inside reads as. No program is named. No condition.
  Plain words: what a tokenizer makes of a text. No program is named. No condition.
  Words for a block that is known whole; a token in a block; what a tag's reading hands back. No program is named. No condition.
-/
import Derived.Lib.Split
import Derived.Lib.SplitLaws
import Derived.Lib.CountLaws
import Derived.Lib.IndexBytes
import Derived.Test.YtleopmeaaabejaaP15
import Derived.Deep.RegionHeld3
import Derived.Test.YtleopmeaaabejaaP04
import Derived.Test.YtleopmeaaabejaaP02
import Derived.Test.YtleopmeaaabejaaP03
namespace Go.Proofs.Ytleopmeaaabejaa
set_option linter.unusedVariables false
set_option linter.unusedSimpArgs false
open Go.RowKit

theorem one_sz (c : UInt8) : 1 ≤ (⟨#[c]⟩ : ByteArray).size := Nat.le_refl 1
def words (c : UInt8) (s : ByteArray) : List ByteArray := Lib.splitB ⟨#[c]⟩ 0 (Lib.countB s ⟨#[c]⟩) s
theorem index_one (s : ByteArray) (c : UInt8) : Lib.indexB s ⟨#[c]⟩ = ixB s c := by
  rw [Lib.one s ⟨#[c]⟩ rfl]
  unfold ixB
  congr 1
  show UInt8.ofNat ((c.toNat : Nat) : Int).toNat = c
  simp
theorem words_miss {c : UInt8} {s : ByteArray} (h : ixB s c = -1) : words c s = [s] := Lib.splitB_miss _ _ _ _ (by rw [index_one]; exact h)
theorem words_hit {c : UInt8} {s : ByteArray} {i : Nat} (h : ixB s c = i) : words c s = s.extract 0 i :: words c (s.extract (i + 1) s.size) := by
  have hi : Lib.indexB s ⟨#[c]⟩ = i := by rw [index_one]; exact h
  unfold words
  rw [Lib.countB_hit s ⟨#[c]⟩ i (one_sz c) hi, Nat.add_comm, Lib.splitB_hit _ _ _ _ i hi]
  rfl
theorem words_len (c : UInt8) (s : ByteArray) : (words c s).length = Lib.countB s ⟨#[c]⟩ + 1 := Lib.splitB_all _ (one_sz c) 0 _ s rfl
theorem words_pos (c : UInt8) (s : ByteArray) : 0 < (words c s).length := by rw [words_len]; omega
theorem words_le (c : UInt8) (s : ByteArray) : (words c s).length ≤ s.size + 1 := by
  rw [words_len]
  have := Lib.countB_le ⟨#[c]⟩ (one_sz c) s.size s (Nat.le_refl _)
  omega
theorem split_size (sep : ByteArray) : ∀ (k : Nat) (s : ByteArray), ∀ x ∈ Lib.splitB sep 0 k s, x.size ≤ s.size
  | 0, s, x, h => by
    rw [Lib.splitB_zero] at h
    simp at h
    subst h
    exact Nat.le_refl _
  | k + 1, s, x, h => by
    unfold Lib.splitB at h
    split at h
    · simp at h
      subst h
      exact Nat.le_refl _
    · rcases List.mem_cons.1 h with h | h
      · subst h
        rw [ByteArray.size_extract]
        omega
      · have := split_size sep k _ x h
        rw [ByteArray.size_extract] at this
        omega
theorem words_size (c : UInt8) (s : ByteArray) : ∀ x ∈ words c s, x.size ≤ s.size := split_size _ _ _
theorem words_none {c : UInt8} {s : ByteArray} {a : Nat} (h : ∀ j (hj : j < s.size), a ≤ j → s[j] ≠ c) : words c (s.extract a s.size) = [s.extract a s.size] := by
  refine words_miss (ixB_none fun i hi => ?_)
  rw [ByteArray.size_extract] at hi
  rw [ByteArray.getElem_extract]
  exact h _ (by omega) (by omega)
theorem words_next {c : UInt8} {s : ByteArray} {a b : Nat} (hab : a ≤ b) (hb : b < s.size) (hc : s[b] = c) (h : ∀ j (hj : j < s.size), a ≤ j → j < b → s[j] ≠ c) :
    words c (s.extract a s.size) = s.extract a b :: words c (s.extract (b + 1) s.size) := by
  have hi : ixB (s.extract a s.size) c = ((b - a : Nat) : Int) := by
    refine ixB_at (by rw [ByteArray.size_extract]; omega) ?_ fun j hj => ?_
    · rw [ByteArray.getElem_extract]
      have e : a + (b - a) = b := by omega
      simp only [e]
      exact hc
    · rw [ByteArray.getElem_extract]
      exact h _ (by omega) (by omega) (by omega)
  rw [words_hit hi, ByteArray.extract_extract, ByteArray.extract_extract, ByteArray.size_extract]
  congr 2
  · congr 1 <;> omega
  · congr 1 <;> omega
/-- the state of a loop that cuts: P found, the piece at hand begins at a, b bytes passed -/
structure Cutt (c : UInt8) (s : ByteArray) (a b : Nat) (P : List ByteArray) : Prop where
  no : ∀ j (hj : j < s.size), a ≤ j → j < b → s[j] ≠ c
  eq : words c s = P ++ words c (s.extract a s.size)
theorem Cutt.start (c : UInt8) (s : ByteArray) : Cutt c s 0 0 [] := ⟨fun _ _ _ h => absurd h (by omega), by rw [ByteArray.extract_zero_size]; rfl⟩
theorem Cutt.skip {c : UInt8} {s : ByteArray} {a b : Nat} {P : List ByteArray} (h : Cutt c s a b P) (hb : b < s.size) (hc : s[b] ≠ c) : Cutt c s a (b + 1) P :=
  ⟨fun j hj h1 h2 => by
    by_cases e : j = b
    · subst e; exact hc
    · exact h.no j hj h1 (by omega), h.eq⟩
theorem Cutt.hit {c : UInt8} {s : ByteArray} {a b : Nat} {P : List ByteArray} (h : Cutt c s a b P) (hab : a ≤ b) (hb : b < s.size) (hc : s[b] = c) : Cutt c s (b + 1) (b + 1) (P ++ [s.extract a b]) :=
  ⟨fun j hj h1 h2 => absurd h2 (by omega), by rw [h.eq, words_next hab hb hc fun j hj h1 h2 => h.no j hj h1 h2]; simp⟩
theorem Cutt.last {c : UInt8} {s : ByteArray} {a : Nat} {P : List ByteArray} (h : Cutt c s a s.size P) : words c s = P ++ [s.extract a s.size] := by
  rw [h.eq, words_none fun j hj h1 => h.no j hj h1 hj]
end Go.Proofs.Ytleopmeaaabejaa

namespace Go.Proofs.Ytleopmeaaabejaa
set_option linter.unusedVariables false
set_option linter.unusedSimpArgs false
set_option maxRecDepth 100000
open Go.ChangeShapes Go.WideShapes Go.ChangeAt Go.RowKit Go.Deep

def findV (l : List S2) (nm : ByteArray) : ByteArray × Bool :=
  match l.find? (fun a => a.1.toList == nm.toList) with
  | some a => (a.2, true)
  | none => (⟨#[]⟩, false)
def noneTo (l : List S2) (nm : ByteArray) (k : Nat) : Prop := ∀ j (h : j < l.length), j < k → (l[j].1.toList == nm.toList) = false
theorem noneTo_zero (l : List S2) (nm : ByteArray) : noneTo l nm 0 := fun _ _ h => absurd h (by omega)
theorem noneTo_succ {l : List S2} {nm : ByteArray} {k : Nat} (h : noneTo l nm k) (hk : k < l.length) (he : (l[k].1.toList == nm.toList) = false) : noneTo l nm (k + 1) := by
  intro j hj hjk
  by_cases e : j = k
  · subst e; exact he
  · exact h j hj (by omega)
theorem findV_at {l : List S2} {nm : ByteArray} {k : Nat} (h : noneTo l nm k) (hk : k < l.length) (he : (l[k].1.toList == nm.toList) = true) : findV l nm = (l[k].2, true) := by
  have : l.find? (fun a => a.1.toList == nm.toList) = some l[k] := by
    rw [List.find?_eq_some_iff_getElem]
    exact ⟨he, k, hk, rfl, fun j hj => by rw [h j (by omega) hj]; rfl⟩
  rw [findV, this]
theorem findV_end {l : List S2} {nm : ByteArray} {k : Nat} (h : noneTo l nm k) (hk : l.length ≤ k) : findV l nm = (⟨#[]⟩, false) := by
  have : l.find? (fun a => a.1.toList == nm.toList) = none := by
    rw [List.find?_eq_none]
    intro x hx
    obtain ⟨j, hj, rfl⟩ := List.getElem_of_mem hx
    rw [h j hj (by omega)]
    simp
  rw [findV, this]
theorem ret_sb {a b : ByteArray} {x y : Bool} (h : (a, x) = (b, y)) : Ending.returned (.tuple #[.string a, .bool x]) = .returned (.tuple #[.string b, .bool y]) := by injection h with h1 h2; rw [h1, h2]

set_option maxHeartbeats 400000 in
theorem findAttr_spec {A : Option Addr} {n c : Nat} {l : List S2} (nm : ByteArray) (w : World) (hx : Reads w w.heap.size 2 A n (s2V l)) (hn : n ≤ 1073741824) :
    Calls Try.prog 93 #[.slice A n c, .string nm] w fun e w' => e = .returned (.tuple #[.string (findV l nm).1, .bool (findV l nm).2]) ∧ Below w.heap.size w w' := by
  have lx := Lib.hid hx.len2
  generalize hF : findV l nm = F
  have HF := Lib.hid hF
  clear hF
  obtain ⟨F1, F2⟩ := F
  go_enter Try.func93, Try.ntmps93
  go_wp2
  go_loop [6] (fun i => ∃ k : Nat, k ≤ n ∧ i = .int .i64 k ∧ Hid (noneTo l nm k)) (fun i => n - (intOf i).toNat)
  case atStart => exact ⟨0, Nat.zero_le _, rfl, noneTo_zero _ _⟩
  case round =>
    obtain ⟨k, hk, rfl, hnot⟩ := hrel
    by_cases hlt : k < n
    · obtain ⟨b0, off0, rfl, hab, hcx⟩ := hx.two hlt
      have hl1 : k < l.length := by rw [lx.out]; exact hlt
      obtain ⟨hc0, hc1⟩ := hcx hl1
      cases he : (l[k].1.toList == nm.toList)
      · have hm : Hid (noneTo l nm (k + 1)) := noneTo_succ hnot.out hl1 he
        generalize l[k] = x at *
        clear hx hcx hnot
        go_wp2
        go_round
        case rel => exact ⟨k + 1, by omega, by go_num, hm⟩
        case measure => simp [intOf]; omega
      · have hm : Hid (findV l nm = (l[k].2, true)) := findV_at hnot.out hl1 he
        generalize l[k] = x at *
        clear hx hcx hnot
        go_wp2
        go_ret2
        exact ⟨ret_sb (by rw [← hm.out, HF.out]), Below.refl _ _⟩
    · obtain rfl : k = n := by omega
      have hm : Hid (findV l nm = (⟨#[]⟩, false)) := findV_end hnot.out (by rw [lx.out]; exact Nat.le_refl _)
      go_wp2
      go_ret2
      exact ⟨ret_sb (by rw [← hm.out, HF.out]), Below.refl _ _⟩
end Go.Proofs.Ytleopmeaaabejaa

namespace Go.Proofs.Ytleopmeaaabejaa
set_option linter.unusedVariables false
set_option linter.unusedSimpArgs false
open Go.RowKit

/-- one word of a tag: a name, '=', a value -/
def attrW (w : ByteArray) : Option S2 :=
  match words 61 w with
  | [p, q] => if nameB p && valueB q then some (p, q) else none
  | _ => none
def attrsF : List ByteArray → List S2 → Option (List S2)
  | [], acc => some acc
  | w :: r, acc =>
    match attrW w with
    | some a => if (findV acc a.1).2 then none else attrsF r (acc ++ [a])
    | none => none
def slashB (s : ByteArray) : Bool := match s.data.toList with | b :: _ => b == 47 | [] => false
def zeroTok : Tok := ⟨0, ⟨#[]⟩, [], ⟨#[]⟩⟩
def wordsT (s : ByteArray) : Tok × Bool :=
  match words 32 s with
  | [] => (zeroTok, false)
  | h :: t =>
    match attrsF t [] with
    | some l => if nameB h && decide (l.length ≤ 4) then (⟨1, h, l, ⟨#[]⟩⟩, true) else (zeroTok, false)
    | none => (zeroTok, false)
def tagT (s : ByteArray) : Tok × Bool :=
  if 60 < s.size then (zeroTok, false)
  else if slashB s then (if nameB (s.extract 1 s.size) then (⟨2, s.extract 1 s.size, [], ⟨#[]⟩⟩, true) else (zeroTok, false))
  else wordsT s

theorem attrW_len {w : ByteArray} (h : (words 61 w).length ≠ 2) : attrW w = none := by
  unfold attrW
  split
  · rename_i e; rw [e] at h; exact absurd rfl h
  · rfl
theorem attrW_two {w p q : ByteArray} (h : words 61 w = [p, q]) : attrW w = if nameB p && valueB q then some (p, q) else none := by
  unfold attrW
  rw [h]
theorem value_no {v : ByteArray} (h : valueB v = true) : ∀ i (hi : i < v.size), v[i] ≠ 61 := by
  intro i hi he
  have := valB_no hi (show valB v[i] = false by rw [he]; decide)
  rw [h] at this
  cases this
theorem attrW_miss {w : ByteArray} (h : ixB w 61 = -1) : attrW w = none := attrW_len (by rw [words_miss h]; simp)
theorem attrW_hit {w : ByteArray} {i : Nat} (h : ixB w 61 = i) : attrW w = if nameB (w.extract 0 i) && valueB (w.extract (i + 1) w.size) then some (w.extract 0 i, w.extract (i + 1) w.size) else none := by
  have hw := words_hit h
  by_cases hv : ixB (w.extract (i + 1) w.size) 61 = -1
  · rw [words_miss hv] at hw
    exact attrW_two hw
  · have hn : valueB (w.extract (i + 1) w.size) = false := by
      cases e : valueB (w.extract (i + 1) w.size) with
      | false => rfl
      | true => exact absurd (ixB_none (value_no e)) hv
    rw [hn, Bool.and_false, if_neg (by simp)]
    refine attrW_len ?_
    rw [hw]
    rcases ixB_cases (w.extract (i + 1) w.size) 61 with ⟨h1, _⟩ | ⟨j, hj, h1, _⟩
    · exact absurd h1 hv
    · rw [words_hit h1]
      have := words_pos 61 ((w.extract (i + 1) w.size).extract (j + 1) (w.extract (i + 1) w.size).size)
      simp only [List.length_cons]
      omega
theorem attrsF_len : ∀ {t : List ByteArray} {acc l : List S2}, attrsF t acc = some l → l.length = acc.length + t.length
  | [], acc, l, h => by simp [attrsF] at h; subst h; simp
  | w :: r, acc, l, h => by
    unfold attrsF at h
    split at h
    · split at h
      · cases h
      · have := attrsF_len h
        simp at this
        simp
        omega
    · cases h
theorem attrsF_step {w : ByteArray} {r : List ByteArray} {acc : List S2} {a : S2} (h : attrW w = some a) (h2 : (findV acc a.1).2 = false) : attrsF (w :: r) acc = attrsF r (acc ++ [a]) := by
  conv => lhs; unfold attrsF
  rw [h]
  simp [h2]
theorem attrsF_twice {w : ByteArray} {r : List ByteArray} {acc : List S2} {a : S2} (h : attrW w = some a) (h2 : (findV acc a.1).2 = true) : attrsF (w :: r) acc = none := by
  unfold attrsF
  rw [h]
  simp [h2]
theorem attrsF_bad {w : ByteArray} {r : List ByteArray} {acc : List S2} (h : attrW w = none) : attrsF (w :: r) acc = none := by
  unfold attrsF
  rw [h]
theorem wordsT_none {s h : ByteArray} {t : List ByteArray} (hw : words 32 s = h :: t) (hf : attrsF t [] = none) : wordsT s = (zeroTok, false) := by
  unfold wordsT; rw [hw]; simp [hf]
theorem wordsT_some {s h : ByteArray} {t : List ByteArray} {l : List S2} (hw : words 32 s = h :: t) (hf : attrsF t [] = some l) : wordsT s = if nameB h && decide (l.length ≤ 4) then (⟨1, h, l, ⟨#[]⟩⟩, true) else (zeroTok, false) := by
  unfold wordsT; rw [hw]; simp [hf]
theorem wordsT_early {s h : ByteArray} {t : List ByteArray} (hw : words 32 s = h :: t) (hb : nameB h = false ∨ 4 < t.length) : wordsT s = (zeroTok, false) := by
  cases hf : attrsF t [] with
  | none => exact wordsT_none hw hf
  | some l =>
    rw [wordsT_some hw hf]
    have hl := attrsF_len hf
    simp only [List.length_nil, Nat.zero_add] at hl
    rw [if_neg]
    rcases hb with hb | hb
    · rw [hb]; simp
    · simp; omega
theorem tagT_long {s : ByteArray} (h : 60 < s.size) : tagT s = (zeroTok, false) := by unfold tagT; rw [if_pos h]
theorem tagT_close {s : ByteArray} (h : ¬ 60 < s.size) (hs : slashB s = true) : tagT s = if nameB (s.extract 1 s.size) then (⟨2, s.extract 1 s.size, [], ⟨#[]⟩⟩, true) else (zeroTok, false) := by unfold tagT; rw [if_neg h, if_pos hs]
theorem tagT_open {s : ByteArray} (h : ¬ 60 < s.size) (hs : slashB s = false) : tagT s = wordsT s := by unfold tagT; rw [if_neg h, if_neg (by simp [hs])]
theorem slashB_at {s : ByteArray} (h : 0 < s.size) : slashB s = decide (s[0] = 47) := by
  obtain ⟨⟨l⟩⟩ := s
  cases l with
  | nil => simp [ByteArray.size] at h
  | cons b r => simp [slashB]; rfl
theorem slashB_nil {s : ByteArray} (h : s.size = 0) : slashB s = false := by
  obtain ⟨⟨l⟩⟩ := s
  cases l with
  | nil => rfl
  | cons b r => simp [ByteArray.size] at h
/-- the attributes of a tag: at most so many -/
theorem tagT_attrs (s : ByteArray) : (tagT s).1.attrs.length ≤ 4 := by
  unfold tagT
  split
  · simp [zeroTok]
  · split
    · split <;> simp [zeroTok]
    · unfold wordsT
      split
      · simp [zeroTok]
      · split
        · split
          · rename_i h; simp at h; exact h.2
          · simp [zeroTok]
        · simp [zeroTok]
end Go.Proofs.Ytleopmeaaabejaa

namespace Go.Proofs.Ytleopmeaaabejaa
set_option linter.unusedVariables false
set_option linter.unusedSimpArgs false
open Go.RowKit

def headLt (x : ByteArray) : Bool := match x.data.toList with | b :: _ => b == 60 | [] => false
theorem headLt_at {s : ByteArray} (h : 0 < s.size) : headLt s = decide (s[0] = 60) := by
  obtain ⟨⟨l⟩⟩ := s
  cases l with
  | nil => simp [ByteArray.size] at h
  | cons b r => simp [headLt]; rfl
theorem headLt_nil {s : ByteArray} (h : s.size = 0) : headLt s = false := by
  obtain ⟨⟨l⟩⟩ := s
  cases l with
  | nil => rfl
  | cons b r => simp [ByteArray.size] at h
/-- one step: what is left, the tokens of the step -/
def stepF (x : ByteArray) : Option (ByteArray × List Tok) :=
  if headLt x then
    (if 0 ≤ ixB x 62 then some (x.extract ((ixB x 62).toNat + 1) x.size, if (tagT (x.extract 1 (ixB x 62).toNat)).2 then [(tagT (x.extract 1 (ixB x 62).toNat)).1] else []) else none)
  else if 0 ≤ ixB x 60 then some (x.extract (ixB x 60).toNat x.size, [⟨3, ⟨#[]⟩, [], x.extract 0 (ixB x 60).toNat⟩])
  else none
def feedN : Nat → ByteArray → List Tok × ByteArray
  | 0, x => ([], x)
  | f + 1, x => match stepF x with
    | none => ([], x)
    | some (y, l) => (l ++ (feedN f y).1, (feedN f y).2)
def feed (x : ByteArray) : List Tok × ByteArray := feedN x.size x
theorem feedN_stop {x : ByteArray} (h : stepF x = none) : ∀ f, feedN f x = ([], x)
  | 0 => rfl
  | f + 1 => by unfold feedN; rw [h]
theorem feedN_step {x y : ByteArray} {l : List Tok} (h : stepF x = some (y, l)) (f : Nat) : feedN (f + 1) x = (l ++ (feedN f y).1, (feedN f y).2) := by
  conv => lhs; unfold feedN
  rw [h]
theorem ix_range (x : ByteArray) (c : UInt8) : (ixB x c = -1) ∨ ∃ i : Nat, ixB x c = i ∧ ∃ h : i < x.size, x[i] = c := by
  rcases ixB_cases x c with ⟨h, _⟩ | ⟨i, hi, h, h2, _⟩
  · exact .inl h
  · exact .inr ⟨i, h, hi, h2⟩
theorem stepF_less {x y : ByteArray} {l : List Tok} (h : stepF x = some (y, l)) : y.size < x.size := by
  unfold stepF at h
  split at h
  · split at h
    · rename_i h1 h2
      injection h with h
      injection h with h _
      subst h
      rcases ix_range x 62 with hx | ⟨i, hx, hi, _⟩
      · rw [hx] at h2; omega
      · rw [ByteArray.size_extract, hx]
        simp
        omega
    · cases h
  · split at h
    · rename_i h1 h2
      injection h with h
      injection h with h _
      subst h
      rcases ix_range x 60 with hx | ⟨i, hx, hi, he⟩
      · rw [hx] at h2; omega
      · rw [ByteArray.size_extract, hx]
        have : i ≠ 0 := by
          rintro rfl
          exact h1 (by rw [headLt_at hi]; simpa using he)
        simp
        omega
    · cases h
/-- the state of the loop: x0 came in, out was made, x is left -/
structure Feeds (x0 : ByteArray) (out : List Tok) (x : ByteArray) : Prop where
  eq : ∃ f, x.size ≤ f ∧ feed x0 = (out ++ (feedN f x).1, (feedN f x).2)
theorem Feeds.start (x : ByteArray) : Feeds x [] x := ⟨x.size, Nat.le_refl _, by simp [feed]⟩
theorem Feeds.stop {x0 x : ByteArray} {out : List Tok} (h : Feeds x0 out x) (hs : stepF x = none) : feed x0 = (out, x) := by
  obtain ⟨f, _, e⟩ := h.eq
  rw [e, feedN_stop hs]
  simp
theorem Feeds.step {x0 x y : ByteArray} {out l : List Tok} (h : Feeds x0 out x) (hs : stepF x = some (y, l)) : Feeds x0 (out ++ l) y := by
  obtain ⟨f, hf, e⟩ := h.eq
  have hl := stepF_less hs
  obtain ⟨f', rfl⟩ : ∃ f', f = f' + 1 := ⟨f - 1, by omega⟩
  exact ⟨f', by omega, by rw [e, feedN_step hs]; simp⟩
theorem stepF_text {x : ByteArray} {k : Nat} (h : headLt x = false) (hk : ixB x 60 = k) : stepF x = some (x.extract k x.size, [⟨3, ⟨#[]⟩, [], x.extract 0 k⟩]) := by
  unfold stepF
  rw [if_neg (by simp [h]), if_pos (by omega), hk]
  rfl
theorem stepF_rest {x : ByteArray} (h : headLt x = false) (hk : ixB x 60 = -1) : stepF x = none := by
  unfold stepF
  rw [if_neg (by simp [h]), if_neg (by omega)]
theorem stepF_tag {x : ByteArray} {k : Nat} {t : Tok} (h : headLt x = true) (hk : ixB x 62 = k) (ht : tagT (x.extract 1 k) = (t, true)) : stepF x = some (x.extract (k + 1) x.size, [t]) := by
  unfold stepF
  rw [if_pos h, if_pos (by omega), hk]
  simp [ht]
theorem stepF_skip {x : ByteArray} {k : Nat} {t : Tok} (h : headLt x = true) (hk : ixB x 62 = k) (ht : tagT (x.extract 1 k) = (t, false)) : stepF x = some (x.extract (k + 1) x.size, []) := by
  unfold stepF
  rw [if_pos h, if_pos (by omega), hk]
  simp [ht]
theorem stepF_open {x : ByteArray} (h : headLt x = true) (hk : ixB x 62 = -1) : stepF x = none := by
  unfold stepF
  rw [if_pos h, if_neg (by omega)]
/-- the place of the first byte, or the length -/
def ixS (s : ByteArray) (c : UInt8) : Int := if ixB s c = -1 then s.size else ixB s c
def strLen : Value → Nat
  | .string s => s.size
  | _ => 0
end Go.Proofs.Ytleopmeaaabejaa

namespace Go.Proofs.Ytleopmeaaabejaa
set_option linter.unusedVariables false
set_option linter.unusedSimpArgs false
open Go.ChangeShapes Go.WideShapes Go.ChangeAt Go.RowKit Go.Deep

abbrev BoxAt (w : World) (g : Nat) (vs : List Value) (t : TypeId) : Prop := w.heap[g]? = some (.cells vs.toArray t (0, 0))
theorem BoxAt.lt {w : World} {g : Nat} {vs : List Value} {t : TypeId} (h : BoxAt w g vs t) : g < w.heap.size := (Array.getElem?_eq_some_iff.1 h).1
theorem BoxAt.cell {w : World} {g : Nat} {vs : List Value} {t : TypeId} (h : BoxAt w g vs t) (j : Nat) (u : Value) (hu : vs[j]? = some u) : w.cell? ⟨g, j, none⟩ = some u := by
  simp [World.cell?, h, hu]
theorem BoxAt.open_ {w : World} {g : Nat} {vs : List Value} {t : TypeId} (h : BoxAt w g vs t) (j : Nat) : w.frozen? ⟨g, j, none⟩ = false := by
  simp [World.frozen?, h]
theorem BoxAt.below {w w' : World} {g B : Nat} {vs : List Value} {t : TypeId} (h : BoxAt w g vs t) (hb : Below B w w') (hg : g < B) : BoxAt w' g vs t := (hb.block g hg).trans h
theorem BoxAt.next {w w' : World} {g : Nat} {vs : List Value} {t : TypeId} (h : BoxAt w g vs t) (hb : Below w.heap.size w w') : BoxAt w' g vs t := h.below hb h.lt
theorem BoxAt.put {w : World} {g j : Nat} {vs : List Value} {t : TypeId} (h : BoxAt w g vs t) (u : Value) : BoxAt (w.setCell ⟨g, j, none⟩ u) g (vs.set j u) t := by
  obtain ⟨hlt, hk⟩ := Array.getElem?_eq_some_iff.1 h
  show (w.heap.modify g _)[g]? = _
  rw [Array.getElem?_eq_getElem (by rw [Array.size_modify]; exact hlt), Array.getElem_modify_self, hk]
  simp [List.setIfInBounds_toArray]
theorem BoxAt.other {w : World} {g : Nat} {p : Addr} {vs : List Value} {t : TypeId} (h : BoxAt w g vs t) (hp : g ≠ p.block) (u : Value) : BoxAt (w.setCell p u) g vs t := (Below.heap_setCell w p u g hp).trans h
theorem BoxAt.new {w : World} {g : Nat} (hg : w.heap.size = g) (vs : List Value) (t : TypeId) : BoxAt (w.alloc (.cells vs.toArray t)) g vs t := by
  subst hg
  show (w.heap.push _)[w.heap.size]? = _
  exact Array.getElem?_push_size
theorem BoxAt.alloc {w : World} {g : Nat} {vs : List Value} {t : TypeId} (h : BoxAt w g vs t) (o : Obj) : BoxAt (w.alloc o) g vs t := h.next ((Below.refl w.heap.size w).alloc (Nat.le_refl _) o)
theorem BoxAt.four {w : World} {g : Nat} {a b c d : Value} {t : TypeId} (h : BoxAt w g [a, b, c, d] t) :
    (w.cell? ⟨g, 0, none⟩ = some a ∧ w.cell? ⟨g, 1, none⟩ = some b ∧ w.cell? ⟨g, 2, none⟩ = some c ∧ w.cell? ⟨g, 3, none⟩ = some d) ∧
    w.frozen? ⟨g, 0, none⟩ = false ∧ w.frozen? ⟨g, 1, none⟩ = false ∧ w.frozen? ⟨g, 2, none⟩ = false ∧ w.frozen? ⟨g, 3, none⟩ = false :=
  ⟨⟨h.cell 0 _ rfl, h.cell 1 _ rfl, h.cell 2 _ rfl, h.cell 3 _ rfl⟩, h.open_ 0, h.open_ 1, h.open_ 2, h.open_ 3⟩
theorem BoxAt.four_put {w : World} {g : Nat} {a b c d : Value} {t : TypeId} (h : BoxAt w g [a, b, c, d] t) (a' b' c' d' : Value) :
    BoxAt ((((w.setCell ⟨g, 0, none⟩ a').setCell ⟨g, 1, none⟩ b').setCell ⟨g, 2, none⟩ c').setCell ⟨g, 3, none⟩ d') g [a', b', c', d'] t :=
  (((h.put (j := 0) a').put (j := 1) b').put (j := 2) c').put (j := 3) d'
theorem below_four {B g : Nat} {w w' : World} (h : Below B w w') (hg : B ≤ g) (a b c d : Value) :
    Below B w ((((w'.setCell ⟨g, 0, none⟩ a).setCell ⟨g, 1, none⟩ b).setCell ⟨g, 2, none⟩ c).setCell ⟨g, 3, none⟩ d) :=
  (((h.setCell (p := ⟨g, 0, none⟩) hg a).setCell (p := ⟨g, 1, none⟩) hg b).setCell (p := ⟨g, 2, none⟩) hg c).setCell (p := ⟨g, 3, none⟩) hg d
theorem own_zero (w : World) (lo hi : Nat) (e : TypeId) (size : Nat) : Own w lo hi e size (.slice none 0 0) 0 [] := ⟨⟨by simp, .inl ⟨rfl, rfl⟩⟩, fun k hk => by cases hk⟩
theorem Own.four {w : World} {lo hi n : Nat} {e : TypeId} {size g : Nat} {v : Value} {xs : List Value} (h : Own w lo hi e size v n xs) (hg : g < lo ∨ hi ≤ g) (a b c d : Value) :
    Own ((((w.setCell ⟨g, 0, none⟩ a).setCell ⟨g, 1, none⟩ b).setCell ⟨g, 2, none⟩ c).setCell ⟨g, 3, none⟩ d) lo hi e size v n xs :=
  h.keep (S := fun k => k = g) ((((keeps_set (S := fun k => k = g) w (p := ⟨g, 0, none⟩) a rfl).trans (keeps_set (S := fun k => k = g) _ (p := ⟨g, 1, none⟩) b rfl)).trans (keeps_set (S := fun k => k = g) _ (p := ⟨g, 2, none⟩) c rfl)).trans (keeps_set (S := fun k => k = g) _ (p := ⟨g, 3, none⟩) d rfl)) fun k hk => by subst hk; exact hg
theorem Reads.pair2 (w : World) (a b : Value) (t : TypeId) : Reads (w.alloc (.cells #[a, b] t)) (w.heap.size + 1) 2 (some ⟨w.heap.size, 0, none⟩) 1 [a, b] := by
  refine ⟨rfl, fun _ => ⟨_, rfl, by simp, fun j x hx => ?_⟩⟩
  have hadd : (⟨w.heap.size, 0, none⟩ : Addr).add j = ⟨w.heap.size, j, none⟩ := by unfold Addr.add; split <;> simp_all
  rw [hadd, World.cell?_alloc_at _ _ _ _ rfl]
  simpa using hx
/-- a token and whether it is one, its attributes in blocks of the call's own -/
def GotTag (w : World) (ek : TypeId) (t : Tok × Bool) (r : Ending) (w' : World) : Prop :=
  ∃ A c, r = .returned (.tuple #[.agg #[.int .i64 t.1.kind, .string t.1.name, .slice A t.1.attrs.length c, .string t.1.text], .bool t.2]) ∧ Own w' w.heap.size w'.heap.size ek 2 (.slice A t.1.attrs.length c) t.1.attrs.length (s2V t.1.attrs) ∧ Below w.heap.size w w'
theorem GotTag.zero {w w' : World} {ek : TypeId} {t : Tok × Bool} (h : t = (zeroTok, false)) (hb : Below w.heap.size w w') :
    GotTag w ek t (.returned (.tuple #[.agg #[.int .i64 0, .string ⟨#[]⟩, .slice none 0 0, .string ⟨#[]⟩], .bool false])) w' := by
  subst h
  exact ⟨none, 0, rfl, own_zero _ _ _ _ _, hb⟩
theorem GotTag.bare {w w' : World} {ek : TypeId} {t : Tok × Bool} {k : Int} {nm : ByteArray} (h : t = (⟨k, nm, [], ⟨#[]⟩⟩, true)) (hb : Below w.heap.size w w') :
    GotTag w ek t (.returned (.tuple #[.agg #[.int .i64 k, .string nm, .slice none 0 0, .string ⟨#[]⟩], .bool true])) w' := by
  subst h
  exact ⟨none, 0, rfl, own_zero _ _ _ _ _, hb⟩
theorem GotTag.full {w w' : World} {ek : TypeId} {t : Tok × Bool} {k : Int} {nm : ByteArray} {l : List S2} {A : Option Addr} {c : Nat} (h : t = (⟨k, nm, l, ⟨#[]⟩⟩, true)) (ho : Own w' w.heap.size w'.heap.size ek 2 (.slice A l.length c) l.length (s2V l)) (hb : Below w.heap.size w w') :
    GotTag w ek t (.returned (.tuple #[.agg #[.int .i64 k, .string nm, .slice A l.length c, .string ⟨#[]⟩], .bool true])) w' := by
  subst h
  exact ⟨A, c, rfl, ho, hb⟩
end Go.Proofs.Ytleopmeaaabejaa
