/-
  Plain words: a string cut at every occurrence of one byte. No program is named. No condition.
  Contracts of FindAttr of the program and of the reference, and of slices.IndexFunc at it. Conditions: at most 2^30 attributes.
  Plain words: what a tag's inside reads as. No program is named. No condition.
  Words for a block that is known whole; a token in a block; what a tag's reading hands back. No program is named. No condition.
  Contract of JoinSheets of the program. Conditions: at most 2^30 elements.
-/
import Derived.Lib.Split
import Derived.Lib.SplitLaws
import Derived.Lib.CountLaws
import Derived.Lib.IndexBytes
import Derived.Test.YtleopmeaaabejaaJ08
import Derived.Deep.RegionHeld3
import Derived.Test.YtleopmeaaabejaaJ06
import Derived.Test.YtleopmeaaabejaaJ04
import Derived.Test.YtleopmeaaabejaaJ02
import Derived.Test.YtleopmeaaabejaaJ03
import Derived.Test.YtleopmeaaabejaaShg
namespace Go.Proofs.Ytleopmeaaabejaa
set_option linter.unusedVariables false
set_option linter.unusedSimpArgs false
open Go.RowKit

theorem one_sz (c : UInt8) : 1 ≤ (⟨#[c]⟩ : ByteArray).size := Nat.le_refl 1
def words (c : UInt8) (s : ByteArray) : List ByteArray := Lib.splitB ⟨#[c]⟩ 0 (Lib.countB s ⟨#[c]⟩) s
theorem index_one (s : ByteArray) (c : UInt8) : Lib.indexB s ⟨#[c]⟩ = ixB s c := by
  rw [Lib.one s ⟨#[c]⟩ rfl]
  unfold ixB
  congr 1
  show UInt8.ofNat ((c.toNat : Nat) : Int).toNat = c
  simp
theorem words_miss {c : UInt8} {s : ByteArray} (h : ixB s c = -1) : words c s = [s] := Lib.splitB_miss _ _ _ _ (by rw [index_one]; exact h)
theorem words_hit {c : UInt8} {s : ByteArray} {i : Nat} (h : ixB s c = i) : words c s = s.extract 0 i :: words c (s.extract (i + 1) s.size) := by
  have hi : Lib.indexB s ⟨#[c]⟩ = i := by rw [index_one]; exact h
  unfold words
  rw [Lib.countB_hit s ⟨#[c]⟩ i (one_sz c) hi, Nat.add_comm, Lib.splitB_hit _ _ _ _ i hi]
  rfl
theorem words_len (c : UInt8) (s : ByteArray) : (words c s).length = Lib.countB s ⟨#[c]⟩ + 1 := Lib.splitB_all _ (one_sz c) 0 _ s rfl
theorem words_pos (c : UInt8) (s : ByteArray) : 0 < (words c s).length := by rw [words_len]; omega
theorem words_le (c : UInt8) (s : ByteArray) : (words c s).length ≤ s.size + 1 := by
  rw [words_len]
  have := Lib.countB_le ⟨#[c]⟩ (one_sz c) s.size s (Nat.le_refl _)
  omega
theorem split_size (sep : ByteArray) : ∀ (k : Nat) (s : ByteArray), ∀ x ∈ Lib.splitB sep 0 k s, x.size ≤ s.size
  | 0, s, x, h => by
    rw [Lib.splitB_zero] at h
    simp at h
    subst h
    exact Nat.le_refl _
  | k + 1, s, x, h => by
    unfold Lib.splitB at h
    split at h
    · simp at h
      subst h
      exact Nat.le_refl _
    · rcases List.mem_cons.1 h with h | h
      · subst h
        rw [ByteArray.size_extract]
        omega
      · have := split_size sep k _ x h
        rw [ByteArray.size_extract] at this
        omega
theorem words_size (c : UInt8) (s : ByteArray) : ∀ x ∈ words c s, x.size ≤ s.size := split_size _ _ _
theorem words_none {c : UInt8} {s : ByteArray} {a : Nat} (h : ∀ j (hj : j < s.size), a ≤ j → s[j] ≠ c) : words c (s.extract a s.size) = [s.extract a s.size] := by
  refine words_miss (ixB_none fun i hi => ?_)
  rw [ByteArray.size_extract] at hi
  rw [ByteArray.getElem_extract]
  exact h _ (by omega) (by omega)
theorem words_next {c : UInt8} {s : ByteArray} {a b : Nat} (hab : a ≤ b) (hb : b < s.size) (hc : s[b] = c) (h : ∀ j (hj : j < s.size), a ≤ j → j < b → s[j] ≠ c) :
    words c (s.extract a s.size) = s.extract a b :: words c (s.extract (b + 1) s.size) := by
  have hi : ixB (s.extract a s.size) c = ((b - a : Nat) : Int) := by
    refine ixB_at (by rw [ByteArray.size_extract]; omega) ?_ fun j hj => ?_
    · rw [ByteArray.getElem_extract]
      have e : a + (b - a) = b := by omega
      simp only [e]
      exact hc
    · rw [ByteArray.getElem_extract]
      exact h _ (by omega) (by omega) (by omega)
  rw [words_hit hi, ByteArray.extract_extract, ByteArray.extract_extract, ByteArray.size_extract]
  congr 2
  · congr 1 <;> omega
  · congr 1 <;> omega
/-- the state of a loop that cuts: P found, the piece at hand begins at a, b bytes passed -/
structure Cutt (c : UInt8) (s : ByteArray) (a b : Nat) (P : List ByteArray) : Prop where
  no : ∀ j (hj : j < s.size), a ≤ j → j < b → s[j] ≠ c
  eq : words c s = P ++ words c (s.extract a s.size)
theorem Cutt.start (c : UInt8) (s : ByteArray) : Cutt c s 0 0 [] := ⟨fun _ _ _ h => absurd h (by omega), by rw [ByteArray.extract_zero_size]; rfl⟩
theorem Cutt.skip {c : UInt8} {s : ByteArray} {a b : Nat} {P : List ByteArray} (h : Cutt c s a b P) (hb : b < s.size) (hc : s[b] ≠ c) : Cutt c s a (b + 1) P :=
  ⟨fun j hj h1 h2 => by
    by_cases e : j = b
    · subst e; exact hc
    · exact h.no j hj h1 (by omega), h.eq⟩
theorem Cutt.hit {c : UInt8} {s : ByteArray} {a b : Nat} {P : List ByteArray} (h : Cutt c s a b P) (hab : a ≤ b) (hb : b < s.size) (hc : s[b] = c) : Cutt c s (b + 1) (b + 1) (P ++ [s.extract a b]) :=
  ⟨fun j hj h1 h2 => absurd h2 (by omega), by rw [h.eq, words_next hab hb hc fun j hj h1 h2 => h.no j hj h1 h2]; simp⟩
theorem Cutt.last {c : UInt8} {s : ByteArray} {a : Nat} {P : List ByteArray} (h : Cutt c s a s.size P) : words c s = P ++ [s.extract a s.size] := by
  rw [h.eq, words_none fun j hj h1 => h.no j hj h1 hj]
end Go.Proofs.Ytleopmeaaabejaa

namespace Go.Proofs.Ytleopmeaaabejaa
set_option linter.unusedVariables false
set_option linter.unusedSimpArgs false
set_option maxRecDepth 100000
open Go.ChangeShapes Go.WideShapes Go.ChangeAt Go.RowKit Go.Deep

def findV (l : List S2) (nm : ByteArray) : ByteArray × Bool :=
  match l.find? (fun a => a.1.toList == nm.toList) with
  | some a => (a.2, true)
  | none => (⟨#[]⟩, false)
def noneTo (l : List S2) (nm : ByteArray) (k : Nat) : Prop := ∀ j (h : j < l.length), j < k → (l[j].1.toList == nm.toList) = false
theorem noneTo_zero (l : List S2) (nm : ByteArray) : noneTo l nm 0 := fun _ _ h => absurd h (by omega)
theorem noneTo_succ {l : List S2} {nm : ByteArray} {k : Nat} (h : noneTo l nm k) (hk : k < l.length) (he : (l[k].1.toList == nm.toList) = false) : noneTo l nm (k + 1) := by
  intro j hj hjk
  by_cases e : j = k
  · subst e; exact he
  · exact h j hj (by omega)
theorem findV_at {l : List S2} {nm : ByteArray} {k : Nat} (h : noneTo l nm k) (hk : k < l.length) (he : (l[k].1.toList == nm.toList) = true) : findV l nm = (l[k].2, true) := by
  have : l.find? (fun a => a.1.toList == nm.toList) = some l[k] := by
    rw [List.find?_eq_some_iff_getElem]
    exact ⟨he, k, hk, rfl, fun j hj => by rw [h j (by omega) hj]; rfl⟩
  rw [findV, this]
theorem findV_end {l : List S2} {nm : ByteArray} {k : Nat} (h : noneTo l nm k) (hk : l.length ≤ k) : findV l nm = (⟨#[]⟩, false) := by
  have : l.find? (fun a => a.1.toList == nm.toList) = none := by
    rw [List.find?_eq_none]
    intro x hx
    obtain ⟨j, hj, rfl⟩ := List.getElem_of_mem hx
    rw [h j hj (by omega)]
    simp
  rw [findV, this]
theorem ret_sb {a b : ByteArray} {x y : Bool} (h : (a, x) = (b, y)) : Ending.returned (.tuple #[.string a, .bool x]) = .returned (.tuple #[.string b, .bool y]) := by injection h with h1 h2; rw [h1, h2]

set_option maxHeartbeats 400000 in
theorem findAttr_spec {A : Option Addr} {n c : Nat} {l : List S2} (nm : ByteArray) (w : World) (hx : Reads w w.heap.size 2 A n (s2V l)) (hn : n ≤ 1073741824) :
    Calls Try.prog 93 #[.slice A n c, .string nm] w fun e w' => e = .returned (.tuple #[.string (findV l nm).1, .bool (findV l nm).2]) ∧ Below w.heap.size w w' := by
  have lx := Lib.hid hx.len2
  generalize hF : findV l nm = F
  have HF := Lib.hid hF
  clear hF
  obtain ⟨F1, F2⟩ := F
  go_enter Try.func93, Try.ntmps93
  go_wp2
  go_loop [6] (fun i => ∃ k : Nat, k ≤ n ∧ i = .int .i64 k ∧ Hid (noneTo l nm k)) (fun i => n - (intOf i).toNat)
  case atStart => exact ⟨0, Nat.zero_le _, rfl, noneTo_zero _ _⟩
  case round =>
    obtain ⟨k, hk, rfl, hnot⟩ := hrel
    by_cases hlt : k < n
    · obtain ⟨b0, off0, rfl, hab, hcx⟩ := hx.two hlt
      have hl1 : k < l.length := by rw [lx.out]; exact hlt
      obtain ⟨hc0, hc1⟩ := hcx hl1
      cases he : (l[k].1.toList == nm.toList)
      · have hm : Hid (noneTo l nm (k + 1)) := noneTo_succ hnot.out hl1 he
        generalize l[k] = x at *
        clear hx hcx hnot
        go_wp2
        go_round
        case rel => exact ⟨k + 1, by omega, by go_num, hm⟩
        case measure => simp [intOf]; omega
      · have hm : Hid (findV l nm = (l[k].2, true)) := findV_at hnot.out hl1 he
        generalize l[k] = x at *
        clear hx hcx hnot
        go_wp2
        go_ret2
        exact ⟨ret_sb (by rw [← hm.out, HF.out]), Below.refl _ _⟩
    · obtain rfl : k = n := by omega
      have hm : Hid (findV l nm = (⟨#[]⟩, false)) := findV_end hnot.out (by rw [lx.out]; exact Nat.le_refl _)
      go_wp2
      go_ret2
      exact ⟨ret_sb (by rw [← hm.out, HF.out]), Below.refl _ _⟩
end Go.Proofs.Ytleopmeaaabejaa

namespace Go.Proofs.Ytleopmeaaabejaa
set_option linter.unusedVariables false
set_option linter.unusedSimpArgs false
open Go.RowKit

/-- one word of a tag: a name, '=', a value -/
def attrW (w : ByteArray) : Option S2 :=
  match words 61 w with
  | [p, q] => if nameB p && valueB q then some (p, q) else none
  | _ => none
def attrsF : List ByteArray → List S2 → Option (List S2)
  | [], acc => some acc
  | w :: r, acc =>
    match attrW w with
    | some a => if (findV acc a.1).2 then none else attrsF r (acc ++ [a])
    | none => none
def slashB (s : ByteArray) : Bool := match s.data.toList with | b :: _ => b == 47 | [] => false
def zeroTok : Tok := ⟨0, ⟨#[]⟩, [], ⟨#[]⟩⟩
def wordsT (s : ByteArray) : Tok × Bool :=
  match words 32 s with
  | [] => (zeroTok, false)
  | h :: t =>
    match attrsF t [] with
    | some l => if nameB h && decide (l.length ≤ 4) then (⟨1, h, l, ⟨#[]⟩⟩, true) else (zeroTok, false)
    | none => (zeroTok, false)
def tagT (s : ByteArray) : Tok × Bool :=
  if 60 < s.size then (zeroTok, false)
  else if slashB s then (if nameB (s.extract 1 s.size) then (⟨2, s.extract 1 s.size, [], ⟨#[]⟩⟩, true) else (zeroTok, false))
  else wordsT s

theorem attrW_len {w : ByteArray} (h : (words 61 w).length ≠ 2) : attrW w = none := by
  unfold attrW
  split
  · rename_i e; rw [e] at h; exact absurd rfl h
  · rfl
theorem attrW_two {w p q : ByteArray} (h : words 61 w = [p, q]) : attrW w = if nameB p && valueB q then some (p, q) else none := by
  unfold attrW
  rw [h]
theorem value_no {v : ByteArray} (h : valueB v = true) : ∀ i (hi : i < v.size), v[i] ≠ 61 := by
  intro i hi he
  have := valB_no hi (show valB v[i] = false by rw [he]; decide)
  rw [h] at this
  cases this
theorem attrW_miss {w : ByteArray} (h : ixB w 61 = -1) : attrW w = none := attrW_len (by rw [words_miss h]; simp)
theorem attrW_hit {w : ByteArray} {i : Nat} (h : ixB w 61 = i) : attrW w = if nameB (w.extract 0 i) && valueB (w.extract (i + 1) w.size) then some (w.extract 0 i, w.extract (i + 1) w.size) else none := by
  have hw := words_hit h
  by_cases hv : ixB (w.extract (i + 1) w.size) 61 = -1
  · rw [words_miss hv] at hw
    exact attrW_two hw
  · have hn : valueB (w.extract (i + 1) w.size) = false := by
      cases e : valueB (w.extract (i + 1) w.size) with
      | false => rfl
      | true => exact absurd (ixB_none (value_no e)) hv
    rw [hn, Bool.and_false, if_neg (by simp)]
    refine attrW_len ?_
    rw [hw]
    rcases ixB_cases (w.extract (i + 1) w.size) 61 with ⟨h1, _⟩ | ⟨j, hj, h1, _⟩
    · exact absurd h1 hv
    · rw [words_hit h1]
      have := words_pos 61 ((w.extract (i + 1) w.size).extract (j + 1) (w.extract (i + 1) w.size).size)
      simp only [List.length_cons]
      omega
theorem attrsF_len : ∀ {t : List ByteArray} {acc l : List S2}, attrsF t acc = some l → l.length = acc.length + t.length
  | [], acc, l, h => by simp [attrsF] at h; subst h; simp
  | w :: r, acc, l, h => by
    unfold attrsF at h
    split at h
    · split at h
      · cases h
      · have := attrsF_len h
        simp at this
        simp
        omega
    · cases h
theorem attrsF_step {w : ByteArray} {r : List ByteArray} {acc : List S2} {a : S2} (h : attrW w = some a) (h2 : (findV acc a.1).2 = false) : attrsF (w :: r) acc = attrsF r (acc ++ [a]) := by
  conv => lhs; unfold attrsF
  rw [h]
  simp [h2]
theorem attrsF_twice {w : ByteArray} {r : List ByteArray} {acc : List S2} {a : S2} (h : attrW w = some a) (h2 : (findV acc a.1).2 = true) : attrsF (w :: r) acc = none := by
  unfold attrsF
  rw [h]
  simp [h2]
theorem attrsF_bad {w : ByteArray} {r : List ByteArray} {acc : List S2} (h : attrW w = none) : attrsF (w :: r) acc = none := by
  unfold attrsF
  rw [h]
theorem wordsT_none {s h : ByteArray} {t : List ByteArray} (hw : words 32 s = h :: t) (hf : attrsF t [] = none) : wordsT s = (zeroTok, false) := by
  unfold wordsT; rw [hw]; simp [hf]
theorem wordsT_some {s h : ByteArray} {t : List ByteArray} {l : List S2} (hw : words 32 s = h :: t) (hf : attrsF t [] = some l) : wordsT s = if nameB h && decide (l.length ≤ 4) then (⟨1, h, l, ⟨#[]⟩⟩, true) else (zeroTok, false) := by
  unfold wordsT; rw [hw]; simp [hf]
theorem wordsT_early {s h : ByteArray} {t : List ByteArray} (hw : words 32 s = h :: t) (hb : nameB h = false ∨ 4 < t.length) : wordsT s = (zeroTok, false) := by
  cases hf : attrsF t [] with
  | none => exact wordsT_none hw hf
  | some l =>
    rw [wordsT_some hw hf]
    have hl := attrsF_len hf
    simp only [List.length_nil, Nat.zero_add] at hl
    rw [if_neg]
    rcases hb with hb | hb
    · rw [hb]; simp
    · simp; omega
theorem tagT_long {s : ByteArray} (h : 60 < s.size) : tagT s = (zeroTok, false) := by unfold tagT; rw [if_pos h]
theorem tagT_close {s : ByteArray} (h : ¬ 60 < s.size) (hs : slashB s = true) : tagT s = if nameB (s.extract 1 s.size) then (⟨2, s.extract 1 s.size, [], ⟨#[]⟩⟩, true) else (zeroTok, false) := by unfold tagT; rw [if_neg h, if_pos hs]
theorem tagT_open {s : ByteArray} (h : ¬ 60 < s.size) (hs : slashB s = false) : tagT s = wordsT s := by unfold tagT; rw [if_neg h, if_neg (by simp [hs])]
theorem slashB_at {s : ByteArray} (h : 0 < s.size) : slashB s = decide (s[0] = 47) := by
  obtain ⟨⟨l⟩⟩ := s
  cases l with
  | nil => simp [ByteArray.size] at h
  | cons b r => simp [slashB]; rfl
theorem slashB_nil {s : ByteArray} (h : s.size = 0) : slashB s = false := by
  obtain ⟨⟨l⟩⟩ := s
  cases l with
  | nil => rfl
  | cons b r => simp [ByteArray.size] at h
/-- the attributes of a tag: at most so many -/
theorem tagT_attrs (s : ByteArray) : (tagT s).1.attrs.length ≤ 4 := by
  unfold tagT
  split
  · simp [zeroTok]
  · split
    · split <;> simp [zeroTok]
    · unfold wordsT
      split
      · simp [zeroTok]
      · split
        · split
          · rename_i h; simp at h; exact h.2
          · simp [zeroTok]
        · simp [zeroTok]
end Go.Proofs.Ytleopmeaaabejaa

namespace Go.Proofs.Ytleopmeaaabejaa
set_option linter.unusedVariables false
set_option linter.unusedSimpArgs false
open Go.ChangeShapes Go.WideShapes Go.ChangeAt Go.RowKit Go.Deep

abbrev BoxAt (w : World) (g : Nat) (vs : List Value) (t : TypeId) : Prop := w.heap[g]? = some (.cells vs.toArray t (0, 0))
theorem BoxAt.lt {w : World} {g : Nat} {vs : List Value} {t : TypeId} (h : BoxAt w g vs t) : g < w.heap.size := (Array.getElem?_eq_some_iff.1 h).1
theorem BoxAt.cell {w : World} {g : Nat} {vs : List Value} {t : TypeId} (h : BoxAt w g vs t) (j : Nat) (u : Value) (hu : vs[j]? = some u) : w.cell? ⟨g, j, none⟩ = some u := by
  simp [World.cell?, h, hu]
theorem BoxAt.open_ {w : World} {g : Nat} {vs : List Value} {t : TypeId} (h : BoxAt w g vs t) (j : Nat) : w.frozen? ⟨g, j, none⟩ = false := by
  simp [World.frozen?, h]
theorem BoxAt.below {w w' : World} {g B : Nat} {vs : List Value} {t : TypeId} (h : BoxAt w g vs t) (hb : Below B w w') (hg : g < B) : BoxAt w' g vs t := (hb.block g hg).trans h
theorem BoxAt.next {w w' : World} {g : Nat} {vs : List Value} {t : TypeId} (h : BoxAt w g vs t) (hb : Below w.heap.size w w') : BoxAt w' g vs t := h.below hb h.lt
theorem BoxAt.put {w : World} {g j : Nat} {vs : List Value} {t : TypeId} (h : BoxAt w g vs t) (u : Value) : BoxAt (w.setCell ⟨g, j, none⟩ u) g (vs.set j u) t := by
  obtain ⟨hlt, hk⟩ := Array.getElem?_eq_some_iff.1 h
  show (w.heap.modify g _)[g]? = _
  rw [Array.getElem?_eq_getElem (by rw [Array.size_modify]; exact hlt), Array.getElem_modify_self, hk]
  simp [List.setIfInBounds_toArray]
theorem BoxAt.other {w : World} {g : Nat} {p : Addr} {vs : List Value} {t : TypeId} (h : BoxAt w g vs t) (hp : g ≠ p.block) (u : Value) : BoxAt (w.setCell p u) g vs t := (Below.heap_setCell w p u g hp).trans h
theorem BoxAt.new {w : World} {g : Nat} (hg : w.heap.size = g) (vs : List Value) (t : TypeId) : BoxAt (w.alloc (.cells vs.toArray t)) g vs t := by
  subst hg
  show (w.heap.push _)[w.heap.size]? = _
  exact Array.getElem?_push_size
theorem BoxAt.alloc {w : World} {g : Nat} {vs : List Value} {t : TypeId} (h : BoxAt w g vs t) (o : Obj) : BoxAt (w.alloc o) g vs t := h.next ((Below.refl w.heap.size w).alloc (Nat.le_refl _) o)
theorem BoxAt.four {w : World} {g : Nat} {a b c d : Value} {t : TypeId} (h : BoxAt w g [a, b, c, d] t) :
    (w.cell? ⟨g, 0, none⟩ = some a ∧ w.cell? ⟨g, 1, none⟩ = some b ∧ w.cell? ⟨g, 2, none⟩ = some c ∧ w.cell? ⟨g, 3, none⟩ = some d) ∧
    w.frozen? ⟨g, 0, none⟩ = false ∧ w.frozen? ⟨g, 1, none⟩ = false ∧ w.frozen? ⟨g, 2, none⟩ = false ∧ w.frozen? ⟨g, 3, none⟩ = false :=
  ⟨⟨h.cell 0 _ rfl, h.cell 1 _ rfl, h.cell 2 _ rfl, h.cell 3 _ rfl⟩, h.open_ 0, h.open_ 1, h.open_ 2, h.open_ 3⟩
theorem BoxAt.four_put {w : World} {g : Nat} {a b c d : Value} {t : TypeId} (h : BoxAt w g [a, b, c, d] t) (a' b' c' d' : Value) :
    BoxAt ((((w.setCell ⟨g, 0, none⟩ a').setCell ⟨g, 1, none⟩ b').setCell ⟨g, 2, none⟩ c').setCell ⟨g, 3, none⟩ d') g [a', b', c', d'] t :=
  (((h.put (j := 0) a').put (j := 1) b').put (j := 2) c').put (j := 3) d'
theorem below_four {B g : Nat} {w w' : World} (h : Below B w w') (hg : B ≤ g) (a b c d : Value) :
    Below B w ((((w'.setCell ⟨g, 0, none⟩ a).setCell ⟨g, 1, none⟩ b).setCell ⟨g, 2, none⟩ c).setCell ⟨g, 3, none⟩ d) :=
  (((h.setCell (p := ⟨g, 0, none⟩) hg a).setCell (p := ⟨g, 1, none⟩) hg b).setCell (p := ⟨g, 2, none⟩) hg c).setCell (p := ⟨g, 3, none⟩) hg d
theorem own_zero (w : World) (lo hi : Nat) (e : TypeId) (size : Nat) : Own w lo hi e size (.slice none 0 0) 0 [] := ⟨⟨by simp, .inl ⟨rfl, rfl⟩⟩, fun k hk => by cases hk⟩
theorem Own.four {w : World} {lo hi n : Nat} {e : TypeId} {size g : Nat} {v : Value} {xs : List Value} (h : Own w lo hi e size v n xs) (hg : g < lo ∨ hi ≤ g) (a b c d : Value) :
    Own ((((w.setCell ⟨g, 0, none⟩ a).setCell ⟨g, 1, none⟩ b).setCell ⟨g, 2, none⟩ c).setCell ⟨g, 3, none⟩ d) lo hi e size v n xs :=
  h.keep (S := fun k => k = g) ((((keeps_set (S := fun k => k = g) w (p := ⟨g, 0, none⟩) a rfl).trans (keeps_set (S := fun k => k = g) _ (p := ⟨g, 1, none⟩) b rfl)).trans (keeps_set (S := fun k => k = g) _ (p := ⟨g, 2, none⟩) c rfl)).trans (keeps_set (S := fun k => k = g) _ (p := ⟨g, 3, none⟩) d rfl)) fun k hk => by subst hk; exact hg
theorem Reads.pair2 (w : World) (a b : Value) (t : TypeId) : Reads (w.alloc (.cells #[a, b] t)) (w.heap.size + 1) 2 (some ⟨w.heap.size, 0, none⟩) 1 [a, b] := by
  refine ⟨rfl, fun _ => ⟨_, rfl, by simp, fun j x hx => ?_⟩⟩
  have hadd : (⟨w.heap.size, 0, none⟩ : Addr).add j = ⟨w.heap.size, j, none⟩ := by unfold Addr.add; split <;> simp_all
  rw [hadd, World.cell?_alloc_at _ _ _ _ rfl]
  simpa using hx
/-- a token and whether it is one, its attributes in blocks of the call's own -/
def GotTag (w : World) (ek : TypeId) (t : Tok × Bool) (r : Ending) (w' : World) : Prop :=
  ∃ A c, r = .returned (.tuple #[.agg #[.int .i64 t.1.kind, .string t.1.name, .slice A t.1.attrs.length c, .string t.1.text], .bool t.2]) ∧ Own w' w.heap.size w'.heap.size ek 2 (.slice A t.1.attrs.length c) t.1.attrs.length (s2V t.1.attrs) ∧ Below w.heap.size w w'
theorem GotTag.zero {w w' : World} {ek : TypeId} {t : Tok × Bool} (h : t = (zeroTok, false)) (hb : Below w.heap.size w w') :
    GotTag w ek t (.returned (.tuple #[.agg #[.int .i64 0, .string ⟨#[]⟩, .slice none 0 0, .string ⟨#[]⟩], .bool false])) w' := by
  subst h
  exact ⟨none, 0, rfl, own_zero _ _ _ _ _, hb⟩
theorem GotTag.bare {w w' : World} {ek : TypeId} {t : Tok × Bool} {k : Int} {nm : ByteArray} (h : t = (⟨k, nm, [], ⟨#[]⟩⟩, true)) (hb : Below w.heap.size w w') :
    GotTag w ek t (.returned (.tuple #[.agg #[.int .i64 k, .string nm, .slice none 0 0, .string ⟨#[]⟩], .bool true])) w' := by
  subst h
  exact ⟨none, 0, rfl, own_zero _ _ _ _ _, hb⟩
theorem GotTag.full {w w' : World} {ek : TypeId} {t : Tok × Bool} {k : Int} {nm : ByteArray} {l : List S2} {A : Option Addr} {c : Nat} (h : t = (⟨k, nm, l, ⟨#[]⟩⟩, true)) (ho : Own w' w.heap.size w'.heap.size ek 2 (.slice A l.length c) l.length (s2V l)) (hb : Below w.heap.size w w') :
    GotTag w ek t (.returned (.tuple #[.agg #[.int .i64 k, .string nm, .slice A l.length c, .string ⟨#[]⟩], .bool true])) w' := by
  subst h
  exact ⟨A, c, rfl, ho, hb⟩
end Go.Proofs.Ytleopmeaaabejaa

namespace Go.Proofs.Ytleopmeaaabejaa
set_option linter.unusedVariables false
set_option linter.unusedSimpArgs false
set_option maxRecDepth 100000
open Go.ChangeShapes Go.WideShapes Go.ChangeAt Go.RowKit Go.Deep Go.Sort

theorem info_strJ : (Try.prog.info? 9).map (fun i => (i.zero, i.size, i.bytes)) = some (some (.string ⟨#[]⟩), 1, 16) := by kernel_rfl
theorem row_StrJ : RowT Try.prog 68 9 1 16 := RowT.mk' Try.underlying68 info_strJ rfl (by omega)
theorem strV_one (l : List ByteArray) : ∀ u ∈ strV l, u.oneCell' = true := by
  intro u hu
  obtain ⟨a, _, rfl⟩ := List.mem_map.1 hu
  rfl
theorem Own.shapeJ {w : World} {lo hi n c : Nat} {e : TypeId} {size : Nat} {A : Option Addr} {xs : List Value} (h : Own w lo hi e size (.slice A n c) n xs) : (A = none ∧ n = 0 ∧ c = 0) ∨ ∃ g, A = some ⟨g, 0, none⟩ ∧ lo ≤ g ∧ g < hi ∧ n ≤ c ∧ c ≤ 9223372036854775807 := by
  obtain ⟨⟨h1, h2⟩, h3⟩ := h
  rcases h2 with ⟨hv, hn⟩ | ⟨g, cap, cur, hv, hb, hg, hn, hc, hs, ht⟩
  · injection hv with h4 _ h5
    exact .inl ⟨h4, hn, h5⟩
  · injection hv with hA _ hcap
    unfold maxLen at hc
    exact .inr ⟨g, hA, hb, h3 g (by rw [hA]; rfl), by omega, by omega⟩
theorem js_sort {lo hi c : Nat} {A : Option Addr} {x : List ByteArray} (W : World) (ho : Own W lo hi 9 1 (.slice A x.length c) x.length (strV x)) (hh : hi ≤ W.heap.size) (hn : x.length ≤ 1073741824) :
    Calls Try.prog 55 #[.slice A x.length c] W fun e W' => e = .returned (.tuple #[]) ∧ ∃ y : List ByteArray, y.length = x.length ∧ (Lib.compact (y.map bl)) = Lib.compact ((x.map bl).mergeSort fun a b => decide (a ≤ b)) ∧
      Own W' lo hi 9 1 (.slice A x.length c) x.length (strV y) ∧ Keeps (fun k => lo ≤ k ∧ k < hi) W W' := by
  rcases Nat.eq_zero_or_pos x.length with h0 | h0
  · obtain rfl := List.eq_nil_of_length_eq_zero h0
    refine (Try.slices_Sort_string_none A c W).mono ?_
    rintro e W' ⟨rfl, rfl⟩
    exact ⟨rfl, [], rfl, by simp, ho, Keeps.refl _ _⟩
  · rcases ho.shapeJ with ⟨_, h1, _⟩ | ⟨g, rfl, h1, h2, h3, h4⟩
    · omega
    · have hcon := Try.slices_Sort_string g 0 c (x.map bl) W (str_holds ho.1) (by omega) (by rw [List.length_map]; omega)
      rw [List.length_map] at hcon
      refine hcon.mono ?_
      rintro e W' ⟨rfl, m, os, rfl⟩
      have hlen : ((x.map bl).mergeSort fun a b => decide (a ≤ b)).length = x.length := by rw [(List.mergeSort_perm _ _).length_eq, List.length_map]
      obtain ⟨o, k⟩ := str_sorted ho hlen m os
      refine ⟨rfl, ((x.map bl).mergeSort fun a b => decide (a ≤ b)).map lb, by rw [List.length_map, hlen], ?_, o, k.mono fun j hj => by subst hj; exact ⟨h1, h2⟩⟩
      rw [List.map_map]
      have : (bl ∘ lb) = id := by funext s; exact bl_lb s
      rw [this, List.map_id]
theorem js_compact {lo hi n c : Nat} {A : Option Addr} {y : List ByteArray} (W : World) (ho : Own W lo hi 9 1 (.slice A n c) n (strV y)) (hh : hi ≤ W.heap.size) (hn : n ≤ 1073741824) :
    Calls Try.prog 56 #[.slice A n c] W fun e W' => ∃ z : List ByteArray, z = (Lib.compact (y.map bl)).map lb ∧ z.length ≤ n ∧ e = .returned (.slice A z.length c) ∧
      Reads W' hi 1 A z.length (strV z) ∧ Keeps (fun k => lo ≤ k ∧ k < hi) W W' := by
  have hyl : y.length = n := by have := ho.len; rw [strV_len] at this; omega
  rcases Nat.eq_zero_or_pos n with h0 | h0
  · subst h0
    obtain rfl := List.eq_nil_of_length_eq_zero hyl
    refine (Try.slices_Compact_string_empty A c W).mono ?_
    rintro e W' ⟨rfl, rfl⟩
    exact ⟨[], rfl, Nat.le_refl _, rfl, Reads.none_, Keeps.refl _ _⟩
  · rcases ho.shapeJ with ⟨_, h1, _⟩ | ⟨g, rfl, h1, h2, h3, h4⟩
    · omega
    · have hcon := Try.slices_Compact_string g 0 c (y.map bl) W (str_holds ho.1) (by rw [List.length_map]; omega) (by rw [List.length_map]; omega)
      have hle := compact_le (y.map bl)
      rw [List.length_map, hyl] at hcon
      rw [List.length_map, hyl] at hle
      refine hcon.mono ?_
      rintro e W' ⟨rfl, q, rfl⟩
      rw [putRow_grow0]
      have hdl : (Lib.compact (y.map bl) ++ List.replicate (n - (Lib.compact (y.map bl)).length) ([] : List UInt8)).length = y.length := by rw [List.length_append, List.length_replicate]; omega
      obtain ⟨o, k⟩ := str_sorted ho hdl q #[]
      refine ⟨(Lib.compact (y.map bl)).map lb, rfl, by rw [List.length_map]; exact hle, by rw [List.length_map], ?_, k.mono fun j hj => by subst hj; exact ⟨h1, h2⟩⟩
      have hr := o.reads (Nat.le_trans hh k.size)
      rw [List.map_append] at hr
      exact hr.strFirst rfl (by rw [List.length_map]; exact hle)
end Go.Proofs.Ytleopmeaaabejaa
