/-
  Contracts of NewBuilder, CountName and TextOf of the program and of the reference. Conditions: at most 2^30 nodes, texts of at most 2^30 bytes in all.
-/
import Derived.Test.YtflcknknkekkfaaBd
import Derived.Test.YtflcknknkekkfaaEt
import Derived.Deep.RegionHeld3
namespace Go.Proofs.Ytflcknknkekkfaa
set_option linter.unusedVariables false
set_option linter.unusedSimpArgs false
set_option maxRecDepth 100000
open Go.ChangeShapes Go.WideShapes Go.ChangeAt Go.RowKit Go.Deep

def pageS : ByteArray := ⟨#[112, 97, 103, 101]⟩
def newB : Bld := ⟨[⟨⟨#[112, 97, 103, 101]⟩, ⟨#[]⟩, -1, []⟩], [0]⟩
def cntN (l : List Nod) (nm : ByteArray) : Nat := l.countP fun a => a.name.toList == nm.toList
theorem cntN_le (l : List Nod) (nm : ByteArray) : cntN l nm ≤ l.length := List.countP_le_length
theorem cntN_yes {l : List Nod} {nm : ByteArray} {k : Nat} (h : k < l.length) (he : (l[k].name.toList == nm.toList) = true) : cntN (l.take (k + 1)) nm = cntN (l.take k) nm + 1 := by
  rw [List.take_succ_eq_append_getElem h, cntN, cntN, List.countP_append]
  simp [he]
theorem cntN_no {l : List Nod} {nm : ByteArray} {k : Nat} (h : k < l.length) (he : (l[k].name.toList == nm.toList) = false) : cntN (l.take (k + 1)) nm = cntN (l.take k) nm := by
  rw [List.take_succ_eq_append_getElem h, cntN, cntN, List.countP_append]
  have : ¬ l[k].name.toList = nm.toList := by simpa using he
  simp [this]
def isText (a : Nod) (n : Int) : Prop := a.parent = n ∧ a.name.size = 0
instance (a : Nod) (n : Int) : Decidable (isText a n) := by unfold isText; exact inferInstance
def textN (l : List Nod) (n : Int) : ByteArray := l.foldl (fun s a => if isText a n then s ++ a.text else s) ⟨#[]⟩
theorem textN_yes {l : List Nod} {n : Int} {k : Nat} (h : k < l.length) (he : isText l[k] n) : textN (l.take (k + 1)) n = textN (l.take k) n ++ l[k].text := by
  rw [List.take_succ_eq_append_getElem h, textN, List.foldl_append]
  simp only [List.foldl_cons, List.foldl_nil, if_pos he]
  rfl
theorem textN_no {l : List Nod} {n : Int} {k : Nat} (h : k < l.length) (he : ¬ isText l[k] n) : textN (l.take (k + 1)) n = textN (l.take k) n := by
  rw [List.take_succ_eq_append_getElem h, textN, List.foldl_append]
  simp only [List.foldl_cons, List.foldl_nil, if_neg he]
  rfl
theorem textN_size (l : List Nod) (n : Int) : ((textN l n).size : Int) ≤ nodsSz l := by
  have key : ∀ (l : List Nod) (s : ByteArray), ((l.foldl (fun s a => if isText a n then s ++ a.text else s) s).size : Int) ≤ s.size + nodsSz l := by
    intro l
    induction l with
    | nil => intro s; simp [nodsSz]
    | cons a l ih =>
      intro s
      have h1 : nodsSz (a :: l) = nodSz a + nodsSz l := by simp [nodsSz]
      have h2 : (a.text.size : Int) ≤ nodSz a := by have := s2sz_nonneg a.attrs; unfold nodSz; omega
      have h3 := nodSz_nonneg a
      rw [List.foldl_cons, h1]
      refine Int.le_trans (ih _) ?_
      split
      · rw [ByteArray.size_append]; omega
      · omega
  have := key l ⟨#[]⟩
  have h0 : (⟨#[]⟩ : ByteArray).size = 0 := rfl
  rw [h0] at this
  simpa [textN] using this
theorem nodsSz_le {l : List Nod} {k : Nat} (h : k ≤ l.length) : nodsSz (l.take k) ≤ nodsSz l := by
  have : nodsSz l = nodsSz (l.take k) + nodsSz (l.drop k) := by rw [nodsSz, nodsSz, nodsSz, ← List.sum_append, ← List.map_append, List.take_append_drop]
  have := nodsSz_nonneg (l.drop k)
  omega
theorem own_new {w w' : World} {e : TypeId} {g : Nat} (hg : w'.heap.size = g) (cs : Array Value) (n size : Nat) (hs : cs.size = n * size) (hn : n ≤ maxLen) : Own (w'.alloc (.cells cs e)) g (g + 1) e size (.slice (some ⟨g, 0, none⟩) n n) n cs.toList := by
  subst hg
  exact ⟨World.ownsRow_lit w' cs n (Nat.le_refl _) hn hs, fun k hk => by have e : some w'.heap.size = some k := hk; injection e with e; omega⟩
theorem toList_ne {s : ByteArray} (h : ¬ s.size = 0) : s.toList.isEmpty = false := by
  obtain ⟨⟨l⟩⟩ := s
  cases l with
  | nil => exact absurd rfl h
  | cons a l => rw [Lib.toList_data]; rfl
theorem ret_st' {x y : ByteArray} (h : x = y) : Ending.returned (.string x) = .returned (.string y) := by rw [h]
set_option maxHeartbeats 400000 in
theorem newBuilder_impl (w : World) : Calls Try.prog 33 #[] w (GotB w 74 94 3 1 1 newB) := by
  go_enter Try.func33, Try.ntmps33
  go_wp2
  refine bodyPost_ret (v := .agg #[.slice (some ⟨w.heap.size + 1, 0, none⟩) 1 1, .slice (some ⟨w.heap.size + 1 + 1, 0, none⟩) 1 1]) (by simp [results, Try.results33, go_sem]) rfl ⟨_, _, _, _, [(⟨⟨#[112, 97, 103, 101]⟩, ⟨#[]⟩, -1, []⟩, (none, 0))], rfl, ⟨rfl, ?_, ?_, ?_⟩, ?_⟩
  · have o := (own_new (w := w) (w' := w.alloc (.cells #[.slice (some ⟨w.heap.size + 1, 0, none⟩) 1 1, .slice (some ⟨w.heap.size + 1 + 1, 0, none⟩) 1 1] 52)) (e := 74) (g := w.heap.size + 1) (by simp) #[.string ⟨#[112, 97, 103, 101]⟩, .string ⟨#[]⟩, .int .i64 (-1), .slice none 0 0] 1 4 rfl (by simp [maxLen])).below ((Below.refl _ _).alloc (Nat.le_refl _) (.cells #[.int .i64 0] 3))
    exact ⟨o.wide (by omega) (by simp), fun x hx => by simp at hx; subst hx; exact own_nil _ _ _ _ _, by simp, fun x hx => by simp at hx; subst hx; intro k _ h; cases h⟩
  · exact (own_new (w := w) (w' := (w.alloc (.cells #[.slice (some ⟨w.heap.size + 1, 0, none⟩) 1 1, .slice (some ⟨w.heap.size + 1 + 1, 0, none⟩) 1 1] 52)).alloc (.cells #[.string ⟨#[112, 97, 103, 101]⟩, .string ⟨#[]⟩, .int .i64 (-1), .slice none 0 0] 74)) (e := 3) (g := w.heap.size + 1 + 1) (by simp) #[.int .i64 0] 1 1 rfl (by simp [maxLen])).wide (by omega) (by simp)
  · intro k hk hf
    have e : some (w.heap.size + 1 + 1) = some k := hk
    injection e with e
    rcases hf with hf | ⟨x, hx, hf⟩
    · have e2 : some (w.heap.size + 1) = some k := hf
      injection e2 with e2
      omega
    · simp at hx
      subst hx
      cases hf
  · exact (((Below.refl _ _).alloc (Nat.le_refl _) _).alloc (by simp) _).alloc (by simp; omega) _
set_option maxHeartbeats 400000 in
theorem newBuilder_spec (w : World) : Calls Try.prog 32 #[] w (GotB w 74 94 3 1 1 newB) := by
  go_enter Try.func32, Try.ntmps32
  go_wp2
  refine bodyPost_ret (v := .agg #[.slice (some ⟨w.heap.size + 1, 0, none⟩) 1 1, .slice (some ⟨w.heap.size + 1 + 1, 0, none⟩) 1 1]) (by simp [results, Try.results32, go_sem]) rfl ⟨_, _, _, _, [(⟨⟨#[112, 97, 103, 101]⟩, ⟨#[]⟩, -1, []⟩, (none, 0))], rfl, ⟨rfl, ?_, ?_, ?_⟩, ?_⟩
  · have o := (own_new (w := w) (w' := w.alloc (.cells #[.slice (some ⟨w.heap.size + 1, 0, none⟩) 1 1, .slice (some ⟨w.heap.size + 1 + 1, 0, none⟩) 1 1] 52)) (e := 74) (g := w.heap.size + 1) (by simp) #[.string ⟨#[112, 97, 103, 101]⟩, .string ⟨#[]⟩, .int .i64 (-1), .slice none 0 0] 1 4 rfl (by simp [maxLen])).below ((Below.refl _ _).alloc (Nat.le_refl _) (.cells #[.int .i64 0] 3))
    exact ⟨o.wide (by omega) (by simp), fun x hx => by simp at hx; subst hx; exact own_nil _ _ _ _ _, by simp, fun x hx => by simp at hx; subst hx; intro k _ h; cases h⟩
  · exact (own_new (w := w) (w' := (w.alloc (.cells #[.slice (some ⟨w.heap.size + 1, 0, none⟩) 1 1, .slice (some ⟨w.heap.size + 1 + 1, 0, none⟩) 1 1] 52)).alloc (.cells #[.string ⟨#[112, 97, 103, 101]⟩, .string ⟨#[]⟩, .int .i64 (-1), .slice none 0 0] 74)) (e := 3) (g := w.heap.size + 1 + 1) (by simp) #[.int .i64 0] 1 1 rfl (by simp [maxLen])).wide (by omega) (by simp)
  · intro k hk hf
    have e : some (w.heap.size + 1 + 1) = some k := hk
    injection e with e
    rcases hf with hf | ⟨x, hx, hf⟩
    · have e2 : some (w.heap.size + 1) = some k := hf
      injection e2 with e2
      omega
    · simp at hx
      subst hx
      cases hf
  · exact (((Below.refl _ _).alloc (Nat.le_refl _) _).alloc (by simp) _).alloc (by simp; omega) _
set_option maxHeartbeats 400000 in
theorem countName_spec {A A' : Option Addr} {n c n' c' : Nat} (b : Bld) (nm : ByteArray) (w : World) (hx : ReadsB w w.heap.size A n A' n' b) (hn : n ≤ 1073741824) :
    Calls Try.prog 38 #[.agg #[.slice A n c, .slice A' n' c'], .string nm] w fun e w' => e = .returned (.int .i64 (cntN b.nodes nm)) ∧ Below w.heap.size w w' := by
  have hb0 := (Below.refl w.heap.size w).alloc (Nat.le_refl _) (.cells #[.slice A n c, .slice A' n' c'] 52)
  have hx' := (hx.next hb0).1
  have lx := Lib.hid hx'.len
  obtain ⟨l, zs⟩ := b
  simp only at *
  clear hx
  go_enter Try.func38, Try.ntmps38
  go_wp2
  go_loopw [5, 6] (fun s i wr => ∃ k m : Nat, k ≤ n ∧ i = .int .i64 k ∧ s = .int .i64 m ∧ m ≤ k ∧ Hid (m = cntN (l.take k) nm) ∧ Below (w.alloc (.cells #[.slice A n c, .slice A' n' c'] 52)).heap.size (w.alloc (.cells #[.slice A n c, .slice A' n' c'] 52)) wr) (fun _ i _ => n - (intOf i).toNat)
  case atStart => exact ⟨0, 0, Nat.zero_le _, rfl, rfl, Nat.le_refl _, (by simp [cntN] : 0 = cntN (l.take 0) nm), Below.refl _ _⟩
  case round =>
    obtain ⟨k, m, hk, rfl, rfl, hmk, hcur, hbel⟩ := hrel
    have hbs := hbel.size
    have hcb : wr.cell? ⟨w.heap.size, 0, none⟩ = some (.slice A n c) := by rw [(bcell hbel).1 _ _ (by simp)]; simp [go_sem]
    by_cases hlt : k < n
    · obtain ⟨b0, off0, rfl, hab, hcx⟩ := (hx'.below hbel).nod hlt
      have hl1 : k < l.length := by rw [lx.out]; exact hlt
      obtain ⟨A1, c1, hr, hc0, hc1, hc2, hc3⟩ := hcx hl1
      have hk0 : (0 : Int) ≤ (k : Int) := Int.natCast_nonneg _
      have hk9 : (k : Int) < (n : Int) := by omega
      cases he : (l[k].name.toList == nm.toList)
      · have hm : Hid (m = cntN (l.take (k + 1)) nm) := by show _ = _; rw [cntN_no hl1 he]; exact hcur.out
        generalize l[k] = x at *
        clear hx' hcx hr hcur
        go_wp2
        go_roundw
        case rel => exact ⟨k + 1, m, by omega, by go_num, rfl, by omega, hm, hbel⟩
        case measure => simp [intOf]; omega
      · have hm : Hid (m + 1 = cntN (l.take (k + 1)) nm) := by show _ = _; rw [cntN_yes hl1 he, ← hcur.out]
        generalize l[k] = x at *
        clear hx' hcx hr hcur
        go_wp2
        go_roundw
        case rel => exact ⟨k + 1, m + 1, by omega, by go_num, by go_num, by omega, hm, hbel⟩
        case measure => simp [intOf]; omega
    · obtain rfl : k = n := by omega
      have hm : Hid (m = cntN l nm) := by show _ = _; rw [hcur.out, List.take_of_length_le (by rw [lx.out]; exact Nat.le_refl _)]
      clear hx'
      go_wp2
      go_ret
      exact ⟨ret_int (by rw [hm.out]), hb0.trans (hbel.mono hb0.size)⟩
set_option maxHeartbeats 400000 in
theorem countName_impl {A A' : Option Addr} {n c n' c' : Nat} (b : Bld) (nm : ByteArray) (w : World) (hx : ReadsB w w.heap.size A n A' n' b) (hn : n ≤ 1073741824) :
    Calls Try.prog 40 #[.agg #[.slice A n c, .slice A' n' c'], .string nm] w fun e w' => e = .returned (.int .i64 (cntN b.nodes nm)) ∧ Below w.heap.size w w' := by
  have hb0 := (Below.refl w.heap.size w).alloc (Nat.le_refl _) (.cells #[.slice A n c, .slice A' n' c'] 52)
  have hx' := (hx.next hb0).1
  have lx := Lib.hid hx'.len
  obtain ⟨l, zs⟩ := b
  simp only at *
  clear hx
  go_enter Try.func40, Try.ntmps40
  go_wp2
  go_loopw [5, 11] (fun s i wr => ∃ k m : Nat, k ≤ n ∧ i = .int .i64 k ∧ s = .int .i64 m ∧ m ≤ k ∧ Hid (m = cntN (l.take k) nm) ∧ Below (w.alloc (.cells #[.slice A n c, .slice A' n' c'] 52)).heap.size (w.alloc (.cells #[.slice A n c, .slice A' n' c'] 52)) wr) (fun _ i _ => n - (intOf i).toNat)
  case atStart => exact ⟨0, 0, Nat.zero_le _, rfl, rfl, Nat.le_refl _, (by simp [cntN] : 0 = cntN (l.take 0) nm), Below.refl _ _⟩
  case round =>
    obtain ⟨k, m, hk, rfl, rfl, hmk, hcur, hbel⟩ := hrel
    have hbs := hbel.size
    have hcb : wr.cell? ⟨w.heap.size, 0, none⟩ = some (.slice A n c) := by rw [(bcell hbel).1 _ _ (by simp)]; simp [go_sem]
    by_cases hlt : k < n
    · obtain ⟨b0, off0, rfl, hab, hcx⟩ := (hx'.below hbel).nod hlt
      have hl1 : k < l.length := by rw [lx.out]; exact hlt
      obtain ⟨A1, c1, hr, hc0, hc1, hc2, hc3⟩ := hcx hl1
      have hk0 : (0 : Int) ≤ (k : Int) := Int.natCast_nonneg _
      have hk9 : (k : Int) < (n : Int) := by omega
      cases he : (l[k].name.toList == nm.toList)
      · have hm : Hid (m = cntN (l.take (k + 1)) nm) := by show _ = _; rw [cntN_no hl1 he]; exact hcur.out
        generalize l[k] = x at *
        clear hx' hcx hr hcur
        go_wp2
        go_roundw
        case rel => exact ⟨k + 1, m, by omega, by go_num, rfl, by omega, hm, hbel.alloc hbs _⟩
        case measure => simp [intOf]; omega
      · have hm : Hid (m + 1 = cntN (l.take (k + 1)) nm) := by show _ = _; rw [cntN_yes hl1 he, ← hcur.out]
        generalize l[k] = x at *
        clear hx' hcx hr hcur
        go_wp2
        go_roundw
        case rel => exact ⟨k + 1, m + 1, by omega, by go_num, by go_num, by omega, hm, hbel.alloc hbs _⟩
        case measure => simp [intOf]; omega
    · obtain rfl : k = n := by omega
      have hm : Hid (m = cntN l nm) := by show _ = _; rw [hcur.out, List.take_of_length_le (by rw [lx.out]; exact Nat.le_refl _)]
      clear hx'
      go_wp2
      go_ret
      exact ⟨ret_int (by rw [hm.out]), hb0.trans (hbel.mono hb0.size)⟩
set_option maxHeartbeats 800000 in
theorem textOf_spec {A A' : Option Addr} {n c n' c' : Nat} (b : Bld) (nn : Int) (w : World) (hx : ReadsB w w.heap.size A n A' n' b) (hn : n ≤ 1073741824) (hz : nodsSz b.nodes ≤ 268435456) (g1 : -9223372036854775808 ≤ nn) (g2 : nn ≤ 9223372036854775807) :
    Calls Try.prog 41 #[.agg #[.slice A n c, .slice A' n' c'], .int .i64 nn] w fun e w' => e = .returned (.string (textN b.nodes nn)) ∧ Below w.heap.size w w' := by
  have hb0 := (Below.refl w.heap.size w).alloc (Nat.le_refl _) (.cells #[.slice A n c, .slice A' n' c'] 52)
  have hx' := (hx.next hb0).1
  have lx := Lib.hid hx'.len
  obtain ⟨l, zs⟩ := b
  simp only at *
  clear hx
  go_enter Try.func41, Try.ntmps41
  go_wp2
  go_loopw [5, 6] (fun s i wr => ∃ (k : Nat) (T : ByteArray), k ≤ n ∧ i = .int .i64 k ∧ s = .string T ∧ Hid (T = textN (l.take k) nn) ∧ Below (w.alloc (.cells #[.slice A n c, .slice A' n' c'] 52)).heap.size (w.alloc (.cells #[.slice A n c, .slice A' n' c'] 52)) wr) (fun _ i _ => n - (intOf i).toNat)
  case atStart => exact ⟨0, _, Nat.zero_le _, rfl, rfl, rfl, Below.refl _ _⟩
  case round =>
    obtain ⟨k, T, hk, rfl, rfl, hcur, hbel⟩ := hrel
    have hbs := hbel.size
    have hcb : wr.cell? ⟨w.heap.size, 0, none⟩ = some (.slice A n c) := by rw [(bcell hbel).1 _ _ (by simp)]; simp [go_sem]
    by_cases hlt : k < n
    · obtain ⟨b0, off0, rfl, hab, hcx⟩ := (hx'.below hbel).nod hlt
      have hl1 : k < l.length := by rw [lx.out]; exact hlt
      obtain ⟨A1, c1, hr, hc0, hc1, hc2, hc3⟩ := hcx hl1
      have hk0 : (0 : Int) ≤ (k : Int) := Int.natCast_nonneg _
      have hk9 : (k : Int) < (n : Int) := by omega
      have hTs : T.size ≤ 268435456 := by have h1 := textN_size (l.take k) nn; have h2 := nodsSz_le (l := l) (k := k) (by omega); rw [← hcur.out] at h1; omega
      have hxs : l[k].text.size ≤ 268435456 := by have h1 := nodsSz_mem (List.getElem_mem hl1); have h2 := s2sz_nonneg l[k].attrs; unfold nodSz at h1; omega
      by_cases hy : isText l[k] nn
      · have hm : Hid (T ++ l[k].text = textN (l.take (k + 1)) nn) := by show _ = _; rw [textN_yes hl1 hy, ← hcur.out]
        obtain ⟨hp, hz0⟩ := hy
        have hn0 := bytes_nil hz0
        generalize l[k] = x at *
        obtain ⟨xn, xt, xp, xa⟩ := x
        simp only at *
        subst hp hn0
        clear hx' hcx hr hcur hz0
        go_wp2
        go_roundw
        case rel => exact ⟨k + 1, _, by omega, by go_num, rfl, hm, hbel⟩
        case measure => simp [intOf]; omega
      · have hm : Hid (T = textN (l.take (k + 1)) nn) := by show _ = _; rw [textN_no hl1 hy]; exact hcur.out
        generalize l[k] = x at *
        obtain ⟨xn, xt, xp, xa⟩ := x
        simp only at *
        clear hx' hcx hr hcur
        by_cases hp : xp = nn
        · subst hp
          have hz0 : ¬ xn.size = 0 := fun h => hy ⟨rfl, h⟩
          have e1 := toList_ne hz0
          clear hy hz0
          go_wp2
          go_roundw
          case rel => exact ⟨k + 1, _, by omega, by go_num, rfl, hm, hbel⟩
          case measure => simp [intOf]; omega
        · have e1 : (xp == nn) = false := by simpa using hp
          clear hy
          go_wp2
          go_roundw
          case rel => exact ⟨k + 1, _, by omega, by go_num, rfl, hm, hbel⟩
          case measure => simp [intOf]; omega
    · obtain rfl : k = n := by omega
      have hm : Hid (T = textN l nn) := by show _ = _; rw [hcur.out, List.take_of_length_le (by rw [lx.out]; exact Nat.le_refl _)]
      clear hx'
      go_wp2
      go_ret
      exact ⟨ret_st' hm.out, hb0.trans (hbel.mono hb0.size)⟩
set_option maxHeartbeats 800000 in
theorem textOf_impl {A A' : Option Addr} {n c n' c' : Nat} (b : Bld) (nn : Int) (w : World) (hx : ReadsB w w.heap.size A n A' n' b) (hn : n ≤ 1073741824) (hz : nodsSz b.nodes ≤ 268435456) (g1 : -9223372036854775808 ≤ nn) (g2 : nn ≤ 9223372036854775807) :
    Calls Try.prog 42 #[.agg #[.slice A n c, .slice A' n' c'], .int .i64 nn] w fun e w' => e = .returned (.string (textN b.nodes nn)) ∧ Below w.heap.size w w' := by
  have hb0 := (Below.refl w.heap.size w).alloc (Nat.le_refl _) (.cells #[.slice A n c, .slice A' n' c'] 52)
  have hx' := (hx.next hb0).1
  have lx := Lib.hid hx'.len
  obtain ⟨l, zs⟩ := b
  simp only at *
  clear hx
  go_enter Try.func42, Try.ntmps42
  go_wp2
  go_loopw [5, 11] (fun s i wr => ∃ (k : Nat) (T : ByteArray), k ≤ n ∧ i = .int .i64 k ∧ s = .string T ∧ Hid (T = textN (l.take k) nn) ∧ Below (w.alloc (.cells #[.slice A n c, .slice A' n' c'] 52)).heap.size (w.alloc (.cells #[.slice A n c, .slice A' n' c'] 52)) wr) (fun _ i _ => n - (intOf i).toNat)
  case atStart => exact ⟨0, _, Nat.zero_le _, rfl, rfl, rfl, Below.refl _ _⟩
  case round =>
    obtain ⟨k, T, hk, rfl, rfl, hcur, hbel⟩ := hrel
    have hbs := hbel.size
    have hcb : wr.cell? ⟨w.heap.size, 0, none⟩ = some (.slice A n c) := by rw [(bcell hbel).1 _ _ (by simp)]; simp [go_sem]
    by_cases hlt : k < n
    · obtain ⟨b0, off0, rfl, hab, hcx⟩ := (hx'.below hbel).nod hlt
      have hl1 : k < l.length := by rw [lx.out]; exact hlt
      obtain ⟨A1, c1, hr, hc0, hc1, hc2, hc3⟩ := hcx hl1
      have hk0 : (0 : Int) ≤ (k : Int) := Int.natCast_nonneg _
      have hk9 : (k : Int) < (n : Int) := by omega
      have hTs : T.size ≤ 268435456 := by have h1 := textN_size (l.take k) nn; have h2 := nodsSz_le (l := l) (k := k) (by omega); rw [← hcur.out] at h1; omega
      have hxs : l[k].text.size ≤ 268435456 := by have h1 := nodsSz_mem (List.getElem_mem hl1); have h2 := s2sz_nonneg l[k].attrs; unfold nodSz at h1; omega
      by_cases hy : isText l[k] nn
      · have hm : Hid (T ++ l[k].text = textN (l.take (k + 1)) nn) := by show _ = _; rw [textN_yes hl1 hy, ← hcur.out]
        obtain ⟨hp, hz0⟩ := hy
        have hn0 := bytes_nil hz0
        generalize l[k] = x at *
        obtain ⟨xn, xt, xp, xa⟩ := x
        simp only at *
        subst hp hn0
        clear hx' hcx hr hcur hz0
        go_wp2
        go_roundw
        case rel => exact ⟨k + 1, _, by omega, by go_num, rfl, hm, hbel.alloc hbs _⟩
        case measure => simp [intOf]; omega
      · have hm : Hid (T = textN (l.take (k + 1)) nn) := by show _ = _; rw [textN_no hl1 hy]; exact hcur.out
        generalize l[k] = x at *
        obtain ⟨xn, xt, xp, xa⟩ := x
        simp only at *
        clear hx' hcx hr hcur
        by_cases hp : xp = nn
        · subst hp
          have hz0 : ¬ xn.size = 0 := fun h => hy ⟨rfl, h⟩
          have e1 := toList_ne hz0
          clear hy hz0
          go_wp2
          go_roundw
          case rel => exact ⟨k + 1, _, by omega, by go_num, rfl, hm, hbel.alloc hbs _⟩
          case measure => simp [intOf]; omega
        · have e1 : (xp == nn) = false := by simpa using hp
          clear hy
          go_wp2
          go_roundw
          case rel => exact ⟨k + 1, _, by omega, by go_num, rfl, hm, hbel.alloc hbs _⟩
          case measure => simp [intOf]; omega
    · obtain rfl : k = n := by omega
      have hm : Hid (T = textN l nn) := by show _ = _; rw [hcur.out, List.take_of_length_le (by rw [lx.out]; exact Nat.le_refl _)]
      clear hx'
      go_wp2
      go_ret
      exact ⟨ret_st' hm.out, hb0.trans (hbel.mono hb0.size)⟩
end Go.Proofs.Ytflcknknkekkfaa
