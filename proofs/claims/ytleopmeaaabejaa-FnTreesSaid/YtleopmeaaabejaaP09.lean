/-
  Contracts of NewBuilder, CountName and TextOf of the program and of the reference. Conditions: at most 2^30 nodes, texts of at most 2^30 bytes in all.
  Contracts of EqualBuilders of the program and of the reference, and of what they call. Conditions: at most 2^30 elements.
-/
import Derived.Deep.RegionHeld3
import Derived.Test.YtleopmeaaabejaaP07
import Derived.Test.YtleopmeaaabejaaP08
import Derived.Laws.StructEq
import Derived.Deep.QuietTactic
import Derived.BigQuiet
namespace Go.Proofs.Ytleopmeaaabejaa
set_option linter.unusedVariables false
set_option linter.unusedSimpArgs false
set_option maxRecDepth 100000
open Go.ChangeShapes Go.WideShapes Go.ChangeAt Go.RowKit Go.Deep

def pageS : ByteArray := ⟨#[112, 97, 103, 101]⟩
def newB : Bld := ⟨[⟨⟨#[112, 97, 103, 101]⟩, ⟨#[]⟩, -1, []⟩], [0]⟩
def cntN (l : List Nod) (nm : ByteArray) : Nat := l.countP fun a => a.name.toList == nm.toList
theorem cntN_le (l : List Nod) (nm : ByteArray) : cntN l nm ≤ l.length := List.countP_le_length
theorem cntN_yes {l : List Nod} {nm : ByteArray} {k : Nat} (h : k < l.length) (he : (l[k].name.toList == nm.toList) = true) : cntN (l.take (k + 1)) nm = cntN (l.take k) nm + 1 := by
  rw [List.take_succ_eq_append_getElem h, cntN, cntN, List.countP_append]
  simp [he]
theorem cntN_no {l : List Nod} {nm : ByteArray} {k : Nat} (h : k < l.length) (he : (l[k].name.toList == nm.toList) = false) : cntN (l.take (k + 1)) nm = cntN (l.take k) nm := by
  rw [List.take_succ_eq_append_getElem h, cntN, cntN, List.countP_append]
  have : ¬ l[k].name.toList = nm.toList := by simpa using he
  simp [this]
def isText (a : Nod) (n : Int) : Prop := a.parent = n ∧ a.name.size = 0
instance (a : Nod) (n : Int) : Decidable (isText a n) := by unfold isText; exact inferInstance
def textN (l : List Nod) (n : Int) : ByteArray := l.foldl (fun s a => if isText a n then s ++ a.text else s) ⟨#[]⟩
theorem textN_yes {l : List Nod} {n : Int} {k : Nat} (h : k < l.length) (he : isText l[k] n) : textN (l.take (k + 1)) n = textN (l.take k) n ++ l[k].text := by
  rw [List.take_succ_eq_append_getElem h, textN, List.foldl_append]
  simp only [List.foldl_cons, List.foldl_nil, if_pos he]
  rfl
theorem textN_no {l : List Nod} {n : Int} {k : Nat} (h : k < l.length) (he : ¬ isText l[k] n) : textN (l.take (k + 1)) n = textN (l.take k) n := by
  rw [List.take_succ_eq_append_getElem h, textN, List.foldl_append]
  simp only [List.foldl_cons, List.foldl_nil, if_neg he]
  rfl
theorem textN_size (l : List Nod) (n : Int) : ((textN l n).size : Int) ≤ nodsSz l := by
  have key : ∀ (l : List Nod) (s : ByteArray), ((l.foldl (fun s a => if isText a n then s ++ a.text else s) s).size : Int) ≤ s.size + nodsSz l := by
    intro l
    induction l with
    | nil => intro s; simp [nodsSz]
    | cons a l ih =>
      intro s
      have h1 : nodsSz (a :: l) = nodSz a + nodsSz l := by simp [nodsSz]
      have h2 : (a.text.size : Int) ≤ nodSz a := by have := s2sz_nonneg a.attrs; unfold nodSz; omega
      have h3 := nodSz_nonneg a
      rw [List.foldl_cons, h1]
      refine Int.le_trans (ih _) ?_
      split
      · rw [ByteArray.size_append]; omega
      · omega
  have := key l ⟨#[]⟩
  have h0 : (⟨#[]⟩ : ByteArray).size = 0 := rfl
  rw [h0] at this
  simpa [textN] using this
theorem nodsSz_le {l : List Nod} {k : Nat} (h : k ≤ l.length) : nodsSz (l.take k) ≤ nodsSz l := by
  have : nodsSz l = nodsSz (l.take k) + nodsSz (l.drop k) := by rw [nodsSz, nodsSz, nodsSz, ← List.sum_append, ← List.map_append, List.take_append_drop]
  have := nodsSz_nonneg (l.drop k)
  omega
theorem own_new {w w' : World} {e : TypeId} {g : Nat} (hg : w'.heap.size = g) (cs : Array Value) (n size : Nat) (hs : cs.size = n * size) (hn : n ≤ maxLen) : Own (w'.alloc (.cells cs e)) g (g + 1) e size (.slice (some ⟨g, 0, none⟩) n n) n cs.toList := by
  subst hg
  exact ⟨World.ownsRow_lit w' cs n (Nat.le_refl _) hn hs, fun k hk => by have e : some w'.heap.size = some k := hk; injection e with e; omega⟩
theorem toList_ne {s : ByteArray} (h : ¬ s.size = 0) : s.toList.isEmpty = false := by
  obtain ⟨⟨l⟩⟩ := s
  cases l with
  | nil => exact absurd rfl h
  | cons a l => rw [Lib.toList_data]; rfl
theorem ret_st' {x y : ByteArray} (h : x = y) : Ending.returned (.string x) = .returned (.string y) := by rw [h]
set_option maxHeartbeats 400000 in
theorem newBuilder_spec (w : World) : Calls Try.prog 75 #[] w (GotB w 33 104 3 1 1 newB) := by
  go_enter Try.func75, Try.ntmps75
  go_wp2
  refine bodyPost_ret (v := .agg #[.slice (some ⟨w.heap.size + 1, 0, none⟩) 1 1, .slice (some ⟨w.heap.size + 1 + 1, 0, none⟩) 1 1]) (by simp [results, Try.results75, go_sem]) rfl ⟨_, _, _, _, [(⟨⟨#[112, 97, 103, 101]⟩, ⟨#[]⟩, -1, []⟩, (none, 0))], rfl, ⟨rfl, ?_, ?_, ?_⟩, ?_⟩
  · have o := (own_new (w := w) (w' := w.alloc (.cells #[.slice (some ⟨w.heap.size + 1, 0, none⟩) 1 1, .slice (some ⟨w.heap.size + 1 + 1, 0, none⟩) 1 1] 27)) (e := 33) (g := w.heap.size + 1) (by simp) #[.string ⟨#[112, 97, 103, 101]⟩, .string ⟨#[]⟩, .int .i64 (-1), .slice none 0 0] 1 4 rfl (by simp [maxLen])).below ((Below.refl _ _).alloc (Nat.le_refl _) (.cells #[.int .i64 0] 3))
    exact ⟨o.wide (by omega) (by simp), fun x hx => by simp at hx; subst hx; exact own_nil _ _ _ _ _, by simp, fun x hx => by simp at hx; subst hx; intro k _ h; cases h⟩
  · exact (own_new (w := w) (w' := (w.alloc (.cells #[.slice (some ⟨w.heap.size + 1, 0, none⟩) 1 1, .slice (some ⟨w.heap.size + 1 + 1, 0, none⟩) 1 1] 27)).alloc (.cells #[.string ⟨#[112, 97, 103, 101]⟩, .string ⟨#[]⟩, .int .i64 (-1), .slice none 0 0] 33)) (e := 3) (g := w.heap.size + 1 + 1) (by simp) #[.int .i64 0] 1 1 rfl (by simp [maxLen])).wide (by omega) (by simp)
  · intro k hk hf
    have e : some (w.heap.size + 1 + 1) = some k := hk
    injection e with e
    rcases hf with hf | ⟨x, hx, hf⟩
    · have e2 : some (w.heap.size + 1) = some k := hf
      injection e2 with e2
      omega
    · simp at hx
      subst hx
      cases hf
  · exact (((Below.refl _ _).alloc (Nat.le_refl _) _).alloc (by simp) _).alloc (by simp; omega) _
set_option maxHeartbeats 400000 in
theorem countName_impl {A A' : Option Addr} {n c n' c' : Nat} (b : Bld) (nm : ByteArray) (w : World) (hx : ReadsB w w.heap.size A n A' n' b) (hn : n ≤ 1073741824) :
    Calls Try.prog 12 #[.agg #[.slice A n c, .slice A' n' c'], .string nm] w fun e w' => e = .returned (.int .i64 (cntN b.nodes nm)) ∧ Below w.heap.size w w' := by
  have hb0 := (Below.refl w.heap.size w).alloc (Nat.le_refl _) (.cells #[.slice A n c, .slice A' n' c'] 27)
  have hx' := (hx.next hb0).1
  have lx := Lib.hid hx'.len
  obtain ⟨l, zs⟩ := b
  simp only at *
  clear hx
  go_enter Try.func12, Try.ntmps12
  go_wp2
  go_loopw [5, 11] (fun s i wr => ∃ k m : Nat, k ≤ n ∧ i = .int .i64 k ∧ s = .int .i64 m ∧ m ≤ k ∧ Hid (m = cntN (l.take k) nm) ∧ Below (w.alloc (.cells #[.slice A n c, .slice A' n' c'] 27)).heap.size (w.alloc (.cells #[.slice A n c, .slice A' n' c'] 27)) wr) (fun _ i _ => n - (intOf i).toNat)
  case atStart => exact ⟨0, 0, Nat.zero_le _, rfl, rfl, Nat.le_refl _, (by simp [cntN] : 0 = cntN (l.take 0) nm), Below.refl _ _⟩
  case round =>
    obtain ⟨k, m, hk, rfl, rfl, hmk, hcur, hbel⟩ := hrel
    have hbs := hbel.size
    have hcb : wr.cell? ⟨w.heap.size, 0, none⟩ = some (.slice A n c) := by rw [(bcell hbel).1 _ _ (by simp)]; simp [go_sem]
    by_cases hlt : k < n
    · obtain ⟨b0, off0, rfl, hab, hcx⟩ := (hx'.below hbel).nod hlt
      have hl1 : k < l.length := by rw [lx.out]; exact hlt
      obtain ⟨A1, c1, hr, hc0, hc1, hc2, hc3⟩ := hcx hl1
      have hk0 : (0 : Int) ≤ (k : Int) := Int.natCast_nonneg _
      have hk9 : (k : Int) < (n : Int) := by omega
      cases he : (l[k].name.toList == nm.toList)
      · have hm : Hid (m = cntN (l.take (k + 1)) nm) := by show _ = _; rw [cntN_no hl1 he]; exact hcur.out
        generalize l[k] = x at *
        clear hx' hcx hr hcur
        go_wp2
        go_roundw
        case rel => exact ⟨k + 1, m, by omega, by go_num, rfl, by omega, hm, hbel.alloc hbs _⟩
        case measure => simp [intOf]; omega
      · have hm : Hid (m + 1 = cntN (l.take (k + 1)) nm) := by show _ = _; rw [cntN_yes hl1 he, ← hcur.out]
        generalize l[k] = x at *
        clear hx' hcx hr hcur
        go_wp2
        go_roundw
        case rel => exact ⟨k + 1, m + 1, by omega, by go_num, by go_num, by omega, hm, hbel.alloc hbs _⟩
        case measure => simp [intOf]; omega
    · obtain rfl : k = n := by omega
      have hm : Hid (m = cntN l nm) := by show _ = _; rw [hcur.out, List.take_of_length_le (by rw [lx.out]; exact Nat.le_refl _)]
      clear hx'
      go_wp2
      go_ret
      exact ⟨ret_int (by rw [hm.out]), hb0.trans (hbel.mono hb0.size)⟩
set_option maxHeartbeats 800000 in
theorem textOf_spec {A A' : Option Addr} {n c n' c' : Nat} (b : Bld) (nn : Int) (w : World) (hx : ReadsB w w.heap.size A n A' n' b) (hn : n ≤ 1073741824) (hz : nodsSz b.nodes ≤ 268435456) (g1 : -9223372036854775808 ≤ nn) (g2 : nn ≤ 9223372036854775807) :
    Calls Try.prog 11 #[.agg #[.slice A n c, .slice A' n' c'], .int .i64 nn] w fun e w' => e = .returned (.string (textN b.nodes nn)) ∧ Below w.heap.size w w' := by
  have hb0 := (Below.refl w.heap.size w).alloc (Nat.le_refl _) (.cells #[.slice A n c, .slice A' n' c'] 27)
  have hx' := (hx.next hb0).1
  have lx := Lib.hid hx'.len
  obtain ⟨l, zs⟩ := b
  simp only at *
  clear hx
  go_enter Try.func11, Try.ntmps11
  go_wp2
  go_loopw [5, 6] (fun s i wr => ∃ (k : Nat) (T : ByteArray), k ≤ n ∧ i = .int .i64 k ∧ s = .string T ∧ Hid (T = textN (l.take k) nn) ∧ Below (w.alloc (.cells #[.slice A n c, .slice A' n' c'] 27)).heap.size (w.alloc (.cells #[.slice A n c, .slice A' n' c'] 27)) wr) (fun _ i _ => n - (intOf i).toNat)
  case atStart => exact ⟨0, _, Nat.zero_le _, rfl, rfl, rfl, Below.refl _ _⟩
  case round =>
    obtain ⟨k, T, hk, rfl, rfl, hcur, hbel⟩ := hrel
    have hbs := hbel.size
    have hcb : wr.cell? ⟨w.heap.size, 0, none⟩ = some (.slice A n c) := by rw [(bcell hbel).1 _ _ (by simp)]; simp [go_sem]
    by_cases hlt : k < n
    · obtain ⟨b0, off0, rfl, hab, hcx⟩ := (hx'.below hbel).nod hlt
      have hl1 : k < l.length := by rw [lx.out]; exact hlt
      obtain ⟨A1, c1, hr, hc0, hc1, hc2, hc3⟩ := hcx hl1
      have hk0 : (0 : Int) ≤ (k : Int) := Int.natCast_nonneg _
      have hk9 : (k : Int) < (n : Int) := by omega
      have hTs : T.size ≤ 268435456 := by have h1 := textN_size (l.take k) nn; have h2 := nodsSz_le (l := l) (k := k) (by omega); rw [← hcur.out] at h1; omega
      have hxs : l[k].text.size ≤ 268435456 := by have h1 := nodsSz_mem (List.getElem_mem hl1); have h2 := s2sz_nonneg l[k].attrs; unfold nodSz at h1; omega
      by_cases hy : isText l[k] nn
      · have hm : Hid (T ++ l[k].text = textN (l.take (k + 1)) nn) := by show _ = _; rw [textN_yes hl1 hy, ← hcur.out]
        obtain ⟨hp, hz0⟩ := hy
        have hn0 := bytes_nil hz0
        generalize l[k] = x at *
        obtain ⟨xn, xt, xp, xa⟩ := x
        simp only at *
        subst hp hn0
        clear hx' hcx hr hcur hz0
        go_wp2
        go_roundw
        case rel => exact ⟨k + 1, _, by omega, by go_num, rfl, hm, hbel⟩
        case measure => simp [intOf]; omega
      · have hm : Hid (T = textN (l.take (k + 1)) nn) := by show _ = _; rw [textN_no hl1 hy]; exact hcur.out
        generalize l[k] = x at *
        obtain ⟨xn, xt, xp, xa⟩ := x
        simp only at *
        clear hx' hcx hr hcur
        by_cases hp : xp = nn
        · subst hp
          have hz0 : ¬ xn.size = 0 := fun h => hy ⟨rfl, h⟩
          have e1 := toList_ne hz0
          clear hy hz0
          go_wp2
          go_roundw
          case rel => exact ⟨k + 1, _, by omega, by go_num, rfl, hm, hbel⟩
          case measure => simp [intOf]; omega
        · have e1 : (xp == nn) = false := by simpa using hp
          clear hy
          go_wp2
          go_roundw
          case rel => exact ⟨k + 1, _, by omega, by go_num, rfl, hm, hbel⟩
          case measure => simp [intOf]; omega
    · obtain rfl : k = n := by omega
      have hm : Hid (T = textN l nn) := by show _ = _; rw [hcur.out, List.take_of_length_le (by rw [lx.out]; exact Nat.le_refl _)]
      clear hx'
      go_wp2
      go_ret
      exact ⟨ret_st' hm.out, hb0.trans (hbel.mono hb0.size)⟩
set_option maxHeartbeats 800000 in
theorem textOf_impl {A A' : Option Addr} {n c n' c' : Nat} (b : Bld) (nn : Int) (w : World) (hx : ReadsB w w.heap.size A n A' n' b) (hn : n ≤ 1073741824) (hz : nodsSz b.nodes ≤ 268435456) (g1 : -9223372036854775808 ≤ nn) (g2 : nn ≤ 9223372036854775807) :
    Calls Try.prog 8 #[.agg #[.slice A n c, .slice A' n' c'], .int .i64 nn] w fun e w' => e = .returned (.string (textN b.nodes nn)) ∧ Below w.heap.size w w' := by
  have hb0 := (Below.refl w.heap.size w).alloc (Nat.le_refl _) (.cells #[.slice A n c, .slice A' n' c'] 27)
  have hx' := (hx.next hb0).1
  have lx := Lib.hid hx'.len
  obtain ⟨l, zs⟩ := b
  simp only at *
  clear hx
  go_enter Try.func8, Try.ntmps8
  go_wp2
  go_loopw [5, 11] (fun s i wr => ∃ (k : Nat) (T : ByteArray), k ≤ n ∧ i = .int .i64 k ∧ s = .string T ∧ Hid (T = textN (l.take k) nn) ∧ Below (w.alloc (.cells #[.slice A n c, .slice A' n' c'] 27)).heap.size (w.alloc (.cells #[.slice A n c, .slice A' n' c'] 27)) wr) (fun _ i _ => n - (intOf i).toNat)
  case atStart => exact ⟨0, _, Nat.zero_le _, rfl, rfl, rfl, Below.refl _ _⟩
  case round =>
    obtain ⟨k, T, hk, rfl, rfl, hcur, hbel⟩ := hrel
    have hbs := hbel.size
    have hcb : wr.cell? ⟨w.heap.size, 0, none⟩ = some (.slice A n c) := by rw [(bcell hbel).1 _ _ (by simp)]; simp [go_sem]
    by_cases hlt : k < n
    · obtain ⟨b0, off0, rfl, hab, hcx⟩ := (hx'.below hbel).nod hlt
      have hl1 : k < l.length := by rw [lx.out]; exact hlt
      obtain ⟨A1, c1, hr, hc0, hc1, hc2, hc3⟩ := hcx hl1
      have hk0 : (0 : Int) ≤ (k : Int) := Int.natCast_nonneg _
      have hk9 : (k : Int) < (n : Int) := by omega
      have hTs : T.size ≤ 268435456 := by have h1 := textN_size (l.take k) nn; have h2 := nodsSz_le (l := l) (k := k) (by omega); rw [← hcur.out] at h1; omega
      have hxs : l[k].text.size ≤ 268435456 := by have h1 := nodsSz_mem (List.getElem_mem hl1); have h2 := s2sz_nonneg l[k].attrs; unfold nodSz at h1; omega
      by_cases hy : isText l[k] nn
      · have hm : Hid (T ++ l[k].text = textN (l.take (k + 1)) nn) := by show _ = _; rw [textN_yes hl1 hy, ← hcur.out]
        obtain ⟨hp, hz0⟩ := hy
        have hn0 := bytes_nil hz0
        generalize l[k] = x at *
        obtain ⟨xn, xt, xp, xa⟩ := x
        simp only at *
        subst hp hn0
        clear hx' hcx hr hcur hz0
        go_wp2
        go_roundw
        case rel => exact ⟨k + 1, _, by omega, by go_num, rfl, hm, hbel.alloc hbs _⟩
        case measure => simp [intOf]; omega
      · have hm : Hid (T = textN (l.take (k + 1)) nn) := by show _ = _; rw [textN_no hl1 hy]; exact hcur.out
        generalize l[k] = x at *
        obtain ⟨xn, xt, xp, xa⟩ := x
        simp only at *
        clear hx' hcx hr hcur
        by_cases hp : xp = nn
        · subst hp
          have hz0 : ¬ xn.size = 0 := fun h => hy ⟨rfl, h⟩
          have e1 := toList_ne hz0
          clear hy hz0
          go_wp2
          go_roundw
          case rel => exact ⟨k + 1, _, by omega, by go_num, rfl, hm, hbel.alloc hbs _⟩
          case measure => simp [intOf]; omega
        · have e1 : (xp == nn) = false := by simpa using hp
          clear hy
          go_wp2
          go_roundw
          case rel => exact ⟨k + 1, _, by omega, by go_num, rfl, hm, hbel.alloc hbs _⟩
          case measure => simp [intOf]; omega
    · obtain rfl : k = n := by omega
      have hm : Hid (T = textN l nn) := by show _ = _; rw [hcur.out, List.take_of_length_le (by rw [lx.out]; exact Nat.le_refl _)]
      clear hx'
      go_wp2
      go_ret
      exact ⟨ret_st' hm.out, hb0.trans (hbel.mono hb0.size)⟩
end Go.Proofs.Ytleopmeaaabejaa

namespace Go.Proofs.Ytleopmeaaabejaa
set_option linter.unusedVariables false
set_option linter.unusedSimpArgs false
set_option maxRecDepth 100000
open Go.ChangeShapes Go.WideShapes Go.ChangeAt Go.RowKit Go.Deep

instance : DecidableEq Nod := fun a b =>
  if h : a.name = b.name ∧ a.text = b.text ∧ a.parent = b.parent ∧ a.attrs = b.attrs then isTrue (by cases a; cases b; simp at h; simp [h]) else isFalse (fun e => h (by subst e; exact ⟨rfl, rfl, rfl, rfl⟩))
theorem nod_ne {an bn ax bx : ByteArray} {ap bp : Int} {aa ba : List S2} (h : ¬ (an = bn ∧ ax = bx ∧ ap = bp ∧ aa = ba)) : decide ((⟨an, ax, ap, aa⟩ : Nod) = ⟨bn, bx, bp, ba⟩) = false := by
  simp only [decide_eq_false_iff_not]
  intro e
  injection e with h1 h2 h3 h4
  exact h ⟨h1, h2, h3, h4⟩
theorem list_ne_len {α : Type} [DecidableEq α] {l m : List α} (h : l.length ≠ m.length) : decide (l = m) = false := by
  simp only [decide_eq_false_iff_not]
  rintro rfl
  exact h rfl
theorem list_ne_at {α : Type} [DecidableEq α] {l m : List α} {k : Nat} (h1 : k < l.length) (h2 : k < m.length) (h : ¬ l[k] = m[k]) : decide (l = m) = false := by
  simp only [decide_eq_false_iff_not]
  rintro rfl
  exact h rfl
theorem list_eq_all {α : Type} [DecidableEq α] {l m : List α} {n : Nat} (h1 : l.length = n) (h2 : m.length = n) (h : l.take n = m.take n) : decide (l = m) = true := by
  rw [List.take_of_length_le (by omega), List.take_of_length_le (by omega)] at h
  simp [h]
theorem str_ne {a b : ByteArray} (h : ¬ a = b) : (a.toList == b.toList) = false := by rw [toList_eq_iff]; simp [h]
theorem eqIn_Attr (a b : S2) (w : World) : (Op.equalIn 10000 104 (.agg #[.string a.1, .string a.2]) (.agg #[.string b.1, .string b.2])).run Try.prog w = .ok (s2eq a b) w := by
  have u3 := Try.underlying9
  have a3 := Try.isAgg9
  have z3 := Try.sizeOf9
  have hS : Try.prog.underlying 104 = some (.struct (Try.prog.fieldsOf 104)) := by kernel_rfl
  have hp : Try.prog.stoodInHeld 104 = false := by kernel_rfl
  rw [show (10000 : Nat) = 9999 + 1 from rfl, run_equalIn_agg w 9999 104 _ _ hS hp]
  simp only [Program.fieldsOf, Try.underlying104]
  go_simp
  unfold s2eq
  by_cases h1 : a.1.toList = b.1.toList <;> by_cases h2 : a.2.toList = b.2.toList <;> simp [h1, h2]
theorem guard_Attr : Try.prog.eqGuardType Try.prog.depth 104 = false := by kernel_rfl
set_option maxHeartbeats 400000 in
theorem equalAttrs_any {A A' : Option Addr} {n n' c c' : Nat} {l m : List S2} (w : World) (hx : Reads w w.heap.size 2 A n (s2V l)) (hy : Reads w w.heap.size 2 A' n' (s2V m)) (hn : n ≤ 1073741824) :
    Calls Try.prog 68 #[.slice A n c, .slice A' n' c'] w fun e w' => e = .returned (.bool (decide (l = m))) ∧ Below w.heap.size w w' := by
  have lx := hx.len2
  have ly := hy.len2
  have hg := guard_Attr
  by_cases hnn : n = n'
  · subst hnn
    have Lx := Lib.hid lx
    have Ly := Lib.hid ly
    clear lx ly
    go_enter Try.func68, Try.ntmps68
    go_wp2
    go_loopw [13] (fun i wr => ∃ k : Nat, k ≤ n ∧ i = .int .i64 k ∧ Hid (l.take k = m.take k) ∧ Below w.heap.size w wr) (fun i _ => n - (intOf i).toNat)
    case atStart => exact ⟨0, Nat.zero_le _, rfl, rfl, Below.refl _ _⟩
    case round =>
      obtain ⟨k, hk, rfl, hall, hbel⟩ := hrel
      by_cases hlt : k < n
      · obtain ⟨b0, off0, rfl, hab, hcx⟩ := (hx.below hbel).two hlt
        obtain ⟨b1, off1, rfl, hab', hcy⟩ := (hy.below hbel).two hlt
        have hl1 : k < l.length := by rw [Lx.out]; exact hlt
        have hl2 : k < m.length := by rw [Ly.out]; exact hlt
        obtain ⟨hc0, hc1⟩ := hcx hl1
        obtain ⟨hd0, hd1⟩ := hcy hl2
        have hq := eqIn_Attr l[k] m[k]
        have hk0 : (0 : Int) ≤ (k : Int) := Int.natCast_nonneg _
        have hk9 : (k : Int) < (n : Int) := by omega
        cases he : s2eq l[k] m[k]
        · have hm : Hid (decide (l = m) = false) := list_ne_at hl1 hl2 (by rw [s2eq_iff] at he; simpa using he)
          generalize l[k] = x at *
          generalize m[k] = y at *
          clear hx hy hcx hcy hall
          go_wp2_with fail
          go_region
          all_goals
            go_wp2
            go_ret
            exact ⟨ret_bool hm.out.symm, hbel.drew⟩
        · have hm : Hid (l.take (k + 1) = m.take (k + 1)) := take_succ_eq hl1 hl2 hall.out (by rw [s2eq_iff] at he; simpa using he)
          generalize l[k] = x at *
          generalize m[k] = y at *
          clear hx hy hcx hcy hall
          go_wp2_with fail
          go_region
          all_goals
            go_wp2
            go_roundw
            case rel => exact ⟨k + 1, by omega, by go_num, hm, hbel.drew⟩
            case measure => simp [intOf]; omega
      · obtain rfl : k = n := by omega
        have hm : Hid (decide (l = m) = true) := list_eq_all Lx.out Ly.out hall.out
        go_wp2
        go_ret
        exact ⟨ret_bool hm.out.symm, hbel⟩
  · have hm : Hid (decide (l = m) = false) := list_ne_len (by omega)
    have hne : ((n : Int) != (n' : Int)) = true := by rw [bne_iff_ne]; omega
    clear lx ly
    go_enter Try.func68, Try.ntmps68
    go_wp2
    go_ret
    exact ⟨ret_bool hm.out.symm, Below.refl _ _⟩
set_option maxHeartbeats 800000 in
theorem equalNodes_any {A A' : Option Addr} {c c' : Nat} (a b : Nod) (w : World) (hx : Reads w w.heap.size 2 A a.attrs.length (s2V a.attrs)) (hy : Reads w w.heap.size 2 A' b.attrs.length (s2V b.attrs)) (hn : a.attrs.length ≤ 1073741824) (hn' : b.attrs.length ≤ 1073741824) :
    Calls Try.prog 45 #[.agg #[.string a.name, .string a.text, .int .i64 a.parent, .slice A a.attrs.length c], .agg #[.string b.name, .string b.text, .int .i64 b.parent, .slice A' b.attrs.length c']] w fun e w' => e = .returned (.bool (decide (a = b))) ∧ Below w.heap.size w w' := by
  obtain ⟨an, ax, ap, aa⟩ := a
  obtain ⟨bn, bx, bp, ba⟩ := b
  simp only at *
  have hb0 := ((Below.refl w.heap.size w).alloc (Nat.le_refl _) (.cells #[.string an, .string ax, .int .i64 ap, .slice A aa.length c] 33)).alloc (by simp) (.cells #[.string bn, .string bx, .int .i64 bp, .slice A' ba.length c'] 33)
  have hx' := (hx.below hb0).more hb0.size
  have hy' := (hy.below hb0).more hb0.size
  by_cases h1 : an = bn
  · subst h1
    by_cases h2 : ax = bx
    · subst h2
      by_cases h3 : ap = bp
      · subst h3
        have hres : decide (aa = ba) = decide ((⟨an, ax, ap, aa⟩ : Nod) = ⟨an, ax, ap, ba⟩) := by simp
        generalize hD : decide ((⟨an, ax, ap, aa⟩ : Nod) = ⟨an, ax, ap, ba⟩) = D at *
        clear hD
        go_enter Try.func45, Try.ntmps45
        go_wp2_with (go_at_call 68; refine (equalAttrs_any (l := aa) (m := ba) _ hx' hy' hn).mono ?_; rintro e w1 ⟨rfl, b1⟩; rw [hres])
        go_ret
        exact ⟨rfl, hb0.trans (b1.mono hb0.size)⟩
      · have e3 : (ap == bp) = false := by simpa using h3
        have e3' : (ap != bp) = true := by simpa using h3
        go_enter Try.func45, Try.ntmps45
        go_wp2
        go_ret
        exact ⟨ret_bool (nod_ne (fun h => h3 h.2.2.1)).symm, hb0⟩
    · have e2 := str_ne h2
      go_enter Try.func45, Try.ntmps45
      go_wp2
      go_ret
      exact ⟨ret_bool (nod_ne (fun h => h2 h.2.1)).symm, hb0⟩
  · have e1 := str_ne h1
    go_enter Try.func45, Try.ntmps45
    go_wp2
    go_ret
    exact ⟨ret_bool (nod_ne (fun h => h1 h.1)).symm, hb0⟩
set_option maxHeartbeats 800000 in
theorem equalFunc_any {A A' : Option Addr} {n n' c c' : Nat} {l m : List Nod} (w : World) (hx : ReadsN nodN w w.heap.size A n l) (hy : ReadsN nodN w w.heap.size A' n' m) (hn : n ≤ 1073741824) (hl : ∀ a ∈ l, a.attrs.length ≤ 1073741824) (hm : ∀ a ∈ m, a.attrs.length ≤ 1073741824) :
    Calls Try.prog 44 #[.slice A n c, .slice A' n' c', .func (.func 45) #[] #[]] w fun e w' => e = .returned (.bool (decide (l = m))) ∧ Below w.heap.size w w' := by
  have lx := hx.len
  have ly := hy.len
  by_cases hnn : n = n'
  · subst hnn
    have Lx := Lib.hid lx
    have Ly := Lib.hid ly
    clear lx ly
    go_enter Try.func44, Try.ntmps44
    go_wp2
    go_loopw [17] (fun i wr => ∃ k : Nat, k ≤ n ∧ i = .int .i64 k ∧ Hid (l.take k = m.take k) ∧ Below w.heap.size w wr) (fun i _ => n - (intOf i).toNat)
    case atStart => exact ⟨0, Nat.zero_le _, rfl, rfl, Below.refl _ _⟩
    case round =>
      obtain ⟨k, hk, rfl, hall, hbel⟩ := hrel
      have hbs := hbel.size
      by_cases hlt : k < n
      · obtain ⟨b0, off0, rfl, hab, hcx⟩ := (hx.below hbel).nod hlt
        obtain ⟨b1, off1, rfl, hab', hcy⟩ := (hy.below hbel).nod hlt
        have hl1 : k < l.length := by rw [Lx.out]; exact hlt
        have hl2 : k < m.length := by rw [Ly.out]; exact hlt
        obtain ⟨A1, c1, hr, hc0, hc1, hc2, hc3⟩ := hcx hl1
        obtain ⟨A2, c2, hs, hd0, hd1, hd2, hd3⟩ := hcy hl2
        have hk0 : (0 : Int) ≤ (k : Int) := Int.natCast_nonneg _
        have hk9 : (k : Int) < (n : Int) := by omega
        have e1 := hl l[k] (List.getElem_mem _)
        have e2 := hm m[k] (List.getElem_mem _)
        have hno : Hid (¬ l[k] = m[k] → decide (l = m) = false) := fun h => list_ne_at hl1 hl2 h
        have hyes : Hid (l[k] = m[k] → l.take (k + 1) = m.take (k + 1)) := fun h => take_succ_eq hl1 hl2 hall.out h
        generalize l[k] = x at *
        generalize m[k] = y at *
        have hb2 := ((Below.refl wr.heap.size wr).alloc (Nat.le_refl _) (.cells #[.string x.name, .string x.text, .int .i64 x.parent, .slice A1 x.attrs.length c1] 33)).alloc (by simp) (.cells #[.string y.name, .string y.text, .int .i64 y.parent, .slice A2 y.attrs.length c2] 33)
        have hr' := ((hr.more hbs).below hb2).more hb2.size
        have hs' := ((hs.more hbs).below hb2).more hb2.size
        have f0 : (wr.alloc (.cells #[.string x.name, .string x.text, .int .i64 x.parent, .slice A1 x.attrs.length c1] 33)).cell? ⟨b1, off1 + k * 4, none⟩ = some (.string y.name) := (World.cell?_alloc_some _ _ _ (by rw [hd0]; rfl)).trans hd0
        have f1 : (wr.alloc (.cells #[.string x.name, .string x.text, .int .i64 x.parent, .slice A1 x.attrs.length c1] 33)).cell? ⟨b1, off1 + k * 4 + 1, none⟩ = some (.string y.text) := (World.cell?_alloc_some _ _ _ (by rw [hd1]; rfl)).trans hd1
        have f2 : (wr.alloc (.cells #[.string x.name, .string x.text, .int .i64 x.parent, .slice A1 x.attrs.length c1] 33)).cell? ⟨b1, off1 + k * 4 + 2, none⟩ = some (.int .i64 y.parent) := (World.cell?_alloc_some _ _ _ (by rw [hd2]; rfl)).trans hd2
        have f3 : (wr.alloc (.cells #[.string x.name, .string x.text, .int .i64 x.parent, .slice A1 x.attrs.length c1] 33)).cell? ⟨b1, off1 + k * 4 + 3, none⟩ = some (.slice A2 y.attrs.length c2) := (World.cell?_alloc_some _ _ _ (by rw [hd3]; rfl)).trans hd3
        clear hx hy hcx hcy hall hl hm hr hs hd0 hd1 hd2 hd3
        cases he : decide (x = y)
        · have hres : Hid (decide (l = m) = false) := hno.out (by simpa using he)
          clear hno hyes
          go_wp2_with (go_at_call 45; refine (equalNodes_any x y _ hr' hs' e1 e2).mono ?_; rintro e w1 ⟨rfl, bb⟩; rw [he])
          go_ret
          exact ⟨ret_bool hres.out.symm, hbel.trans ((hb2.trans (bb.mono hb2.size)).mono hbs)⟩
        · have hres : Hid (l.take (k + 1) = m.take (k + 1)) := hyes.out (by simpa using he)
          clear hno hyes
          go_wp2_with (go_at_call 45; refine (equalNodes_any x y _ hr' hs' e1 e2).mono ?_; rintro e w1 ⟨rfl, bb⟩; rw [he])
          go_roundw
          case rel => exact ⟨k + 1, by omega, by go_num, hres, hbel.trans ((hb2.trans (bb.mono hb2.size)).mono hbs)⟩
          case measure => simp [intOf]; omega
      · obtain rfl : k = n := by omega
        have hres : Hid (decide (l = m) = true) := list_eq_all Lx.out Ly.out hall.out
        clear hx hy
        go_wp2
        go_ret
        exact ⟨ret_bool hres.out.symm, hbel⟩
  · have hres : Hid (decide (l = m) = false) := list_ne_len (by omega)
    have hne : ((n : Int) != (n' : Int)) = true := by rw [bne_iff_ne]; omega
    clear lx ly
    go_enter Try.func44, Try.ntmps44
    go_wp2
    go_ret
    exact ⟨ret_bool hres.out.symm, Below.refl _ _⟩
def eqBld (a b : Bld) : Bool := decide (a.nodes = b.nodes) && eqL a.opens b.opens
set_option maxHeartbeats 800000 in
theorem equalBuilders_impl {A A' D D' : Option Addr} {n c n' c' m d m' d' : Nat} (a b : Bld) (w : World) (hx : ReadsB w w.heap.size A n A' n' a) (hy : ReadsB w w.heap.size D m D' m' b) (hn : n ≤ 1073741824) (hn' : n' ≤ 1073741824) (hl : ∀ x ∈ a.nodes, x.attrs.length ≤ 1073741824) (hm : ∀ x ∈ b.nodes, x.attrs.length ≤ 1073741824) :
    Calls Try.prog 17 #[.agg #[.slice A n c, .slice A' n' c'], .agg #[.slice D m d, .slice D' m' d']] w fun e w' => e = .returned (.bool (eqBld a b)) ∧ Below w.heap.size w w' := by
  have hb0 := ((Below.refl w.heap.size w).alloc (Nat.le_refl _) (.cells #[.slice A n c, .slice A' n' c'] 27)).alloc (by simp) (.cells #[.slice D m d, .slice D' m' d'] 27)
  have hx' := hx.next hb0
  have hy' := hy.next hb0
  have hE : Hid (eqBld a b = (decide (a.nodes = b.nodes) && eqL a.opens b.opens)) := rfl
  clear hx hy
  go_enter Try.func17, Try.ntmps17
  go_wp2_with fail
  refine (equalFunc_any (l := a.nodes) (m := b.nodes) _ hx'.1 hy'.1 hn hl hm).mono ?_
  rintro e w1 ⟨rfl, b1⟩
  have c1 : w1.cell? ⟨w.heap.size, 1, none⟩ = some (.slice A' n' c') := by rw [(bcell b1).1 _ _ (by first | omega | (simp; done) | (simp; omega))]; simp [go_sem]
  have c2 : w1.cell? ⟨w.heap.size + 1, 1, none⟩ = some (.slice D' m' d') := by rw [(bcell b1).1 _ _ (by first | omega | (simp; done) | (simp; omega))]; simp [go_sem]
  have hb1 := hb0.trans (b1.mono hb0.size)
  have hx2 := hx'.next b1
  have hy2 := hy'.next b1
  clear hx' hy' b1
  cases he : decide (a.nodes = b.nodes)
  · rw [he] at hE
    go_wp2
    go_ret
    exact ⟨ret_bool hE.out.symm, hb1⟩
  · rw [he] at hE
    generalize hq : eqL a.opens b.opens = Q at *
    go_wp2_with fail
    refine (slicesEqual_ints _ hx2.2 hy2.2 (by omega)).mono ?_
    rintro e w2 ⟨rfl, b2⟩
    rw [hq]
    clear hq
    go_wp2
    go_ret
    exact ⟨ret_bool hE.out.symm, hb1.trans (b2.mono hb1.size)⟩
end Go.Proofs.Ytleopmeaaabejaa
