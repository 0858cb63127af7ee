/-
  Proved: each named law of this file returns true for every input, and its arguments read afterwards as before; the listed variables are tied to the program's text by the card. No other condition.
-/
import Derived.Test.YtkmechjilekcmaaDoorNap
import Derived.Test.YtkmechjilekcmaaDoorL5p
import Derived.Test.YtkmechjilekcmaaDoorTgz
import Derived.Deep.Cut
import Derived.Deep.CutRange
import Derived.Deep.RegionWith
import Derived.Deep.RegionHeld3
import Derived.Test.YtkmechjilekcmaaDoorFacts
import Derived.Test.YtkmechjilekcmaaDoorCards
import Derived.Test.YtkmechjilekcmaaDoorTie
import Derived.ProofKit
import Derived.LaidMore
import Derived.LaidHandle
import Derived.Handed
import Derived.Stop.Joined
import Derived.SevenTiedAt
import Derived.Lay
import Derived.OpenShut
namespace Go.Proofs.YtkmechjilekcmaaDoor
set_option linter.unusedVariables false
set_option linter.unusedSimpArgs false
set_option maxRecDepth 100000
open Go.ChangeShapes Go.WideShapes Go.ChangeAt Go.RowKit Go.Deep

/-- the row after the append is owned, the slices of its elements too, apart from each other -/
theorem OwnN.pushes {α : Type} {N : Nest α} {w w' : World} {lo m n n2 c c2 c' : Nat} {e ek : TypeId} {A A2 A' : Option Addr} {L M : List (α × Hd)}
    (h : OwnN N w lo m e ek A n c L) (hm : m ≤ w.heap.size) (hlm : lo ≤ m)
    (h2 : OwnN N w m w.heap.size e ek A2 n2 c2 M)
    (ho : w'.ownsRow lo e N.k (.slice A' (n + n2) c') (n + n2) (N.flat L ++ N.flat M))
    (hg : w.grownBy w' (Value.slice A n c).ownBlock)
    (hb : (Value.slice A' (n + n2) c').ownBlock = (Value.slice A n c).ownBlock ∨ (Value.slice A' (n + n2) c').ownBlock = some w.heap.size) :
    OwnN N w' lo w'.heap.size e ek A' (n + n2) c' (L ++ M) := by
  have hkp := Keeps.of_grown hg
  have hr1 := h.row.ltb
  have hold : ∀ y ∈ L, ∀ k, hdBlock y.2 = some k → k < m := fun y hy k hk' => (h.kids y hy).ltb k (by rw [hdBlock_eq _ _ _ y.2.2]; exact hk')
  have hnew : ∀ x ∈ M, ∀ k, hdBlock x.2 = some k → m ≤ k ∧ k < w.heap.size := fun x hx k hk' => ⟨(h2.kids x hx).geb k (by rw [hdBlock_eq _ _ _ x.2.2]; exact hk'), (h2.kids x hx).ltb k (by rw [hdBlock_eq _ _ _ x.2.2]; exact hk')⟩
  have hsz := hkp.size
  have hfar : ∀ y ∈ L ++ M, sep (Value.slice A n c).ownBlock (hdBlock y.2) := by
    intro y hy
    rcases List.mem_append.1 hy with h1 | h1
    · exact h.off y h1
    · exact sep_lt hr1 fun k hk' => (hnew y h1 k hk').1
  refine ⟨?_, ?_, ?_, ?_⟩
  · rw [Nest.flat_append]
    exact Own.of_row ho
  · intro y hy
    have hs := hfar y hy
    rcases List.mem_append.1 hy with h1 | h1
    · have h3 := (h.kids y h1).elsewhere hkp fun k hS hb' => hs k hS (by rw [← hdBlock_eq y.2.1 (N.num y.1) y.2.2]; exact hb')
      exact h3.wide (Nat.le_refl _) (by omega)
    · have h3 := (h2.kids y h1).elsewhere hkp fun k hS hb' => hs k hS (by rw [← hdBlock_eq y.2.1 (N.num y.1) y.2.2]; exact hb')
      exact h3.wide hlm hsz
  · rw [List.map_append, List.pairwise_append]
    refine ⟨h.apart, h2.apart, fun a ha b hb' => ?_⟩
    obtain ⟨y, hy, rfl⟩ := List.mem_map.1 ha
    obtain ⟨x, hx, rfl⟩ := List.mem_map.1 hb'
    exact sep_lt (hold y hy) fun k hk' => (hnew x hx k hk').1
  · intro y hy
    rcases hb with hb | hb
    · rw [hb]; exact hfar y hy
    · rw [hb]
      intro k hk' h3
      injection hk' with hk'
      subst hk'
      rcases List.mem_append.1 hy with h1 | h1
      · have := hold y h1 _ h3; omega
      · have := hnew y h1 _ h3
        omega
theorem OwnN.elsewhere {α : Type} {N : Nest α} {w w' : World} {lo hi n c : Nat} {e ek : TypeId} {A : Option Addr} {L : List (α × Hd)} {S : Nat → Prop} (h : OwnN N w lo hi e ek A n c L) (hk : Keeps S w w') (hs : ∀ k, S k → ¬ foot A L k) : OwnN N w' lo hi e ek A n c L :=
  ⟨h.row.elsewhere hk fun k hS hb => hs k hS (.inl (by rw [← hdBlock_eq A n c 0]; exact hb)), fun x hx => (h.kids x hx).elsewhere hk fun k hS hb => hs k hS (.inr ⟨x, hx, by rw [← hdBlock_eq x.2.1 (N.num x.1) x.2.2]; exact hb⟩), h.apart, h.off⟩
theorem foot_pushes {α : Type} {N : Nest α} {w : World} {m n n2 c c2 c' : Nat} {e ek : TypeId} {A A2 A' : Option Addr} {L M : List (α × Hd)} (hm : m ≤ w.heap.size) (h2 : OwnN N w m w.heap.size e ek A2 n2 c2 M)
    (hb : (Value.slice A' (n + n2) c').ownBlock = (Value.slice A n c).ownBlock ∨ (Value.slice A' (n + n2) c').ownBlock = some w.heap.size) : ∀ b, foot A' (L ++ M) b → foot A L b ∨ m ≤ b := by
  rintro b (h1 | ⟨x, hx, h1⟩)
  · rw [← hdBlock_eq A' (n + n2) c' 0] at h1
    rcases hb with hb | hb <;> rw [hb] at h1
    · exact .inl (.inl (by rw [← hdBlock_eq A n c 0]; exact h1))
    · injection h1 with h1
      exact .inr (by omega)
  · rcases List.mem_append.1 hx with hx | hx
    · exact .inl (.inr ⟨x, hx, h1⟩)
    · exact .inr ((h2.kids x hx).geb b (by rw [hdBlock_eq _ _ _ x.2.2]; exact h1))
/-- the step of a walk -/
theorem wpList_pushes {P : Program} {w : World} {α : Type} {N : Nest α} {T E bytes : Nat} (R : RowT P T E N.k bytes) {ops : Array Oper} {rest : List Oper} {o : Oper} {a : Act} {Q : Exit → Act → World → Prop} (hgd : o.guard = none) (s x : Operand)
    (ho : o.op = .call { callee := .builtin .append, args := #[s, x], argTypes := #[T, T] })
    {lo m n n2 c c2 : Nat} {ek : TypeId} {A A2 : Option Addr} {L M : List (α × Hd)} (h : OwnN N w lo m E ek A n c L) (hm : m ≤ w.heap.size) (hlm : lo ≤ m)
    (h2 : OwnN N w m w.heap.size E ek A2 n2 c2 M) (hs : a.eval s = .slice A n c) (hx : a.eval x = .slice A2 n2 c2)
    (N' : Nat) (hN : n + n2 = N') (hn : N' ≤ 1099511627776) (hbytes : bytes ≤ 128)
    (hK : ∀ A' c' w', OwnN N w' lo w'.heap.size E ek A' N' c' (L ++ M) → Keeps (fun b => (Value.slice A n c).ownBlock = some b) w w' → (∀ b, foot A' (L ++ M) b → foot A L b ∨ m ≤ b) → wpList P ops Q rest (a.put o.dst (.slice A' N' c')) w') : wpList P ops Q (o :: rest) a w := by
  subst hN
  obtain ⟨i, z, hi, hz, hsz, hby, hzs'⟩ := R.inf
  refine wpList_append_any w hgd s x T ho lo E i z N.k bytes R.und hi hz hsz hby hzs' R.pos _ n (N.flat L) hs h.row.1 w.heap.size A2 n2 c2 (N.flat M) hx (h2.row.reads (Nat.le_refl _)) (Nest.flat_one M) (by simp only [maxLen]; omega) ?_ (by omega) ?_
  · have := Nat.mul_le_mul hn hbytes; omega
  · intro A' c' w' h3 h4 h5
    exact hK A' c' w' (h.pushes hm hlm h2 h3 h4 h5) (Keeps.of_grown h4) (foot_pushes hm h2 h5)
end Go.Proofs.YtkmechjilekcmaaDoor

namespace Go.Proofs.YtkmechjilekcmaaDoor
set_option linter.unusedVariables false
set_option linter.unusedSimpArgs false
set_option maxRecDepth 100000
open Go.ChangeShapes Go.WideShapes Go.ChangeAt Go.RowKit Go.Deep

theorem cut_piece (s : ByteArray) {a b : Nat} (hab : a ≤ b) (hb : b ≤ s.size) : s.extract 0 b = s.extract 0 a ++ s.extract a b := by
  apply ByteArray.ext
  rw [ByteArray.data_append, ByteArray.data_extract, ByteArray.data_extract, ByteArray.data_extract]
  have hx : s.size = s.data.size := rfl
  apply Array.ext_getElem?
  intro i
  simp only [Array.getElem?_extract, Array.getElem?_append, Array.size_extract]
  grind
theorem feed_piece (s : ByteArray) {a b : Nat} (hab : a ≤ b) (hb : b ≤ s.size) :
    feed (s.extract 0 b) = ((feed (s.extract 0 a)).1 ++ (feed ((feed (s.extract 0 a)).2 ++ s.extract a b)).1, (feed ((feed (s.extract 0 a)).2 ++ s.extract a b)).2) := by
  rw [cut_piece s hab hb]
  exact feed_app _ _ _ (Nat.le_refl _)
theorem feed_empty (s : ByteArray) : feed (s.extract 0 0) = ([], ⟨#[]⟩) := by
  have e : s.extract 0 0 = ⟨#[]⟩ := by apply ByteArray.ext; simp
  rw [e]
  refine feed_stop ?_
  cases hs : stepF ⟨#[]⟩ with
  | none => rfl
  | some r =>
    have := stepF_less (y := r.1) (l := r.2) hs
    have hz : (⟨#[]⟩ : ByteArray).size = 0 := rfl
    omega
theorem feed_small (x : ByteArray) : (feed x).1.length ≤ x.size ∧ (feed x).2.size ≤ x.size := ⟨(feedN_toks x.size x).1, (feedN_toks x.size x).2.2⟩
def textOk (t : Tok) : Prop := (t.kind = 1 ∨ t.kind = 2 ∨ t.kind = 3) ∧ (t.kind = 3 → t.text.size ≠ 0)
theorem text_sz (x : ByteArray) : tokSz ⟨3, ⟨#[]⟩, [], x⟩ ≤ x.size := by
  have hz : (⟨#[]⟩ : ByteArray).size = 0 := rfl
  unfold tokSz
  simp [s2sz, hz]
theorem stepF_sz {x y : ByteArray} {l : List Tok} (h : stepF x = some (y, l)) : ∀ t ∈ l, tokSz t ≤ x.size + 2 := by
  unfold stepF at h
  split at h
  · split at h
    · injection h with h
      injection h with _ h
      subst h
      split
      · rename_i ht
        intro t hm
        simp only [List.mem_singleton] at hm
        subst hm
        obtain ⟨h1, h2, h3⟩ := tagT_shape ht
        have hz1 : (⟨#[60]⟩ : ByteArray).size = 1 := rfl
        have hz2 : (⟨#[62]⟩ : ByteArray).size = 1 := rfl
        have hb := congrArg ByteArray.size (tagT_back ht)
        rw [ByteArray.size_append, ByteArray.size_append, hz1, hz2, ByteArray.size_extract] at hb
        have := fmt_sz h1 h2 h3 hb
        omega
      · intro t hm; cases hm
    · cases h
  · split at h
    · injection h with h
      injection h with _ h
      subst h
      intro t hm
      simp only [List.mem_singleton] at hm
      subst hm
      have := text_sz (x.extract 0 (ixB x 60).toNat)
      rw [ByteArray.size_extract] at this
      omega
    · cases h
theorem feedN_sz : ∀ (f : Nat) (x : ByteArray), ∀ t ∈ (feedN f x).1, tokSz t ≤ x.size + 2
  | 0, x => by simp [feedN]
  | f + 1, x => by
    cases h : stepF x with
    | none => rw [feedN_stop h]; simp
    | some r =>
      obtain ⟨y, l⟩ := r
      rw [feedN_step h]
      intro t ht
      rcases List.mem_append.1 ht with h7 | h7
      · exact stepF_sz h t h7
      · have := feedN_sz f y t h7
        have := stepF_less h
        omega
theorem toksOf_sz (s : ByteArray) : ∀ t ∈ toksOf s, tokSz t ≤ s.size + 2 := by
  intro t ht
  unfold toksOf at ht
  rcases List.mem_append.1 ht with h | h
  · exact feedN_sz _ _ t h
  · have hs := (feed_small s).2
    rcases endToks_cases (feed s).2 with e | e <;> rw [e] at h
    · cases h
    · simp only [List.mem_singleton] at h
      subst h
      have := text_sz (feed s).2
      omega
theorem tagT_kind {s : ByteArray} (h : (tagT s).2 = true) : (tagT s).1.kind = 1 ∨ (tagT s).1.kind = 2 := by
  unfold tagT at h ⊢
  split at h
  · cases h
  · rename_i hs
    rw [if_neg hs]
    split at h
    · rename_i hb
      rw [if_pos hb]
      split at h
      · rename_i hn
        rw [if_pos hn]
        exact .inr rfl
      · cases h
    · rename_i hb
      rw [if_neg hb]
      unfold wordsT at h ⊢
      split at h
      · cases h
      · rename_i hd t hw
        try rw [hw]
        try simp only
        split at h
        · rename_i l hl
          try rw [hl]
          try simp only
          split at h
          · rename_i hn
            rw [if_pos hn]
            exact .inl rfl
          · cases h
        · cases h
theorem stepF_textOk {x y : ByteArray} {l : List Tok} (h : stepF x = some (y, l)) : ∀ t ∈ l, textOk t := by
  unfold stepF at h
  split at h
  · split at h
    · injection h with h
      injection h with _ h
      subst h
      split
      · rename_i ht
        intro t hm
        simp only [List.mem_singleton] at hm
        subst hm
        rcases tagT_kind ht with k | k
        · exact ⟨.inl k, fun e => by rw [k] at e; exact absurd e (by decide)⟩
        · exact ⟨.inr (.inl k), fun e => by rw [k] at e; exact absurd e (by decide)⟩
      · intro t hm; cases hm
    · cases h
  · split at h
    · rename_i h1 h2
      injection h with h
      injection h with _ h
      subst h
      intro t hm
      simp only [List.mem_singleton] at hm
      subst hm
      refine ⟨.inr (.inr rfl), fun _ => ?_⟩
      show (x.extract 0 (ixB x 60).toNat).size ≠ 0
      rcases ix_range x 60 with hx | ⟨i, hx, hi, he⟩
      · rw [hx] at h2; omega
      · rw [hx, ByteArray.size_extract]
        have : i ≠ 0 := by
          rintro rfl
          exact h1 (by rw [headLt_at hi]; simpa using he)
        simp only [Int.toNat_natCast]
        omega
    · cases h
theorem feedN_textOk : ∀ (f : Nat) (x : ByteArray), ∀ t ∈ (feedN f x).1, textOk t
  | 0, x => by simp [feedN]
  | f + 1, x => by
    cases h : stepF x with
    | none => rw [feedN_stop h]; simp
    | some r =>
      obtain ⟨y, l⟩ := r
      rw [feedN_step h]
      intro t ht
      rcases List.mem_append.1 ht with h7 | h7
      · exact stepF_textOk h t h7
      · exact feedN_textOk f y t h7
theorem toksOf_text (s : ByteArray) : ∀ t ∈ toksOf s, textOk t := by
  intro t ht
  unfold toksOf at ht
  rcases List.mem_append.1 ht with h | h
  · exact feedN_textOk _ _ t h
  · unfold endToks at h
    split at h
    · cases h
    · rename_i hc
      simp only [List.mem_singleton] at h
      subst h
      exact ⟨.inr (.inr rfl), fun _ hz => hc (.inl (by have hz' : (feed s).2.size = 0 := hz; rw [bytes_nil hz']; rfl))⟩
theorem fmtT_text {t : Tok} (h : textOk t) (hk : t.kind = 3) : ((fmtT t).toList == (⟨#[]⟩ : ByteArray).toList) = false ∧ (fmtT t).toList.isEmpty = false := by
  have he : fmtT t = t.text := by
    unfold fmtT
    rw [hk, if_neg (by decide), if_neg (by decide), if_pos rfl]
  have hz := h.2 hk
  rw [he]
  have h1 : t.text.toList ≠ [] := by
    rw [Lib.toList_data]
    intro e
    apply hz
    show t.text.data.size = 0
    rw [← Array.length_toList, e]
    rfl
  refine ⟨?_, ?_⟩
  · rw [Lib.toList_data (⟨#[]⟩ : ByteArray)]
    simpa using h1
  · simpa using h1

def SomeBool (w : World) (e : Ending) (w' : World) : Prop := ∃ b : Bool, e = .returned (.bool b) ∧ w = w'
set_option maxHeartbeats 1000000 in
theorem contains_any {A : Option Addr} {n c : Nat} {zs : List Int} (t : Int) (w : World) {B : Nat} (hx : Reads w B 1 A n (zs.map (Value.int .i64))) (hn : n ≤ 1073741824) :
    Calls Tryd.prog 22 #[.slice A n c, .int .i64 t] w (SomeBool w) := by
  have lx : Hid (zs.length = n) := by show zs.length = n; simpa using hx.1
  go_enter Tryd.func22, Tryd.ntmps22
  go_wp2
  go_loop [5] (fun i => ∃ k : Nat, k ≤ n ∧ i = .int .i64 k) (fun i => n - (intOf i).toNat)
  case atStart => exact ⟨0, Nat.zero_le _, rfl⟩
  case round =>
    obtain ⟨k, hk, rfl⟩ := hrel
    by_cases hlt : k < n
    · obtain ⟨b0, off0, rfl, hab, hcx⟩ := hx.num hlt
      have hl1 : k < zs.length := by rw [lx.out]; exact hlt
      replace hcx := hcx hl1
      generalize zs[k] = x at *
      clear hx
      by_cases he : x = t
      · subst he
        go_wp2
        go_ret
        exact ⟨true, rfl, rfl⟩
      · have he' : (x == t) = false := by simpa using he
        go_wp2
        go_round
        case rel => exact ⟨k + 1, by omega, by go_num⟩
        case measure => simp [intOf]; omega
    · go_wp2
      go_ret
      exact ⟨false, rfl, rfl⟩
set_option maxHeartbeats 2000000 in
theorem drawPieces_any {A : Option Addr} {n c : Nat} {zs : List Int} (w : World) (hx : Reads w w.heap.size 1 A n (zs.map (Value.int .u8))) (hn : n ≤ 1048576) (hz : ∀ z ∈ zs, 0 ≤ z ∧ z ≤ 255) :
    Calls Tryd.prog 20 #[.slice A n c] w fun e w' => ∃ (s : ByteArray) (A' : Option Addr) (m c' : Nat) (zs : List Int), s.size ≤ 40000 ∧ m ≤ 4 ∧ e = .returned (.tuple #[.string s, .slice A' m c']) ∧ Reads w' w'.heap.size 1 A' m (zs.map (Value.int .i64)) ∧ Below w.heap.size w w' := by
  go_enter Tryd.func20, Tryd.ntmps20
  go_wp2_with (fail)
  go_at_call 43
  refine (l1New_any _ hx hn hz).mono ?_
  rintro e w0 ⟨g, hg, rfl, hb, hc⟩
  clear hx hz
  have hd := Draws.refl hc
  go_wp2_with (fail)
  go_at_call 49
  refine (l5Page_any _ g hd.2 8 (by omega)).mono ?_
  rintro e w1 ⟨s, hs, rfl, d⟩
  replace hd := hd.trans d
  clear d
  have hg1 := hd.lt
  have hg0 := hc.lt
  have hw01 := hd.size
  have ho := own_empty w1 3 1
  have hd1 := hd.alloc (.cells #[] 3)
  go_wp2_with (fail)
  go_at_call 50
  refine (l1Below_any _ g hd1.2 4 (by omega) (by omega)).mono ?_
  rintro e w2 ⟨x, hx1, hx2, rfl, d⟩
  have ho1 := own_draws ho d hg1
  have hd2 := hd1.trans d
  clear ho hd1 d hd
  obtain ⟨j, rfl⟩ := Int.eq_ofNat_of_zero_le hx1
  go_wp2_with (fail)
  go_loopw [6, 7] (fun v i wr => ∃ (k : Nat) (A' : Option Addr) (m c' : Nat) (zs : List Int), m + k ≤ 4 ∧ i = .int .i64 k ∧ v = .slice A' m c' ∧ wr.ownsRow w1.heap.size 3 1 (.slice A' m c') m (zs.map (Value.int .i64)) ∧ Draws g w0 wr ∧ w1.heap.size ≤ wr.heap.size)
    (fun _ i _ => (intOf i).toNat)
  case atStart => exact ⟨j, _, 0, 0, [], by omega, rfl, rfl, ho1, hd2, by have := ho1; exact Nat.le_of_lt (ho1.lt _ rfl).2⟩
  case round =>
    clear hd2 ho1
    obtain ⟨k, A', m, c', zs, hk, rfl, rfl, hown, hd, hw1⟩ := hrel
    by_cases hlt : 0 < k
    · go_wp2_with (fail)
      go_at_call 50
      refine (l1Below_any _ g hd.2 ((s.size : Int) + 1) (by omega) (by omega)).mono ?_
      rintro e w3 ⟨x, hx1, hx2, rfl, d⟩
      have ho1 := (own_draws hown d hg1).alloc (.cells #[.int .i64 x] 3)
      have hr1 := Reads.one w3 (.int .i64 x) 3
      have hd1 := (hd.trans d).alloc (.cells #[.int .i64 x] 3)
      have hs2 : Hid (zs.map (Value.int .i64) ++ [.int .i64 x] = (zs ++ [x]).map (Value.int .i64)) := by show _ = _; simp
      have hz3 : w1.heap.size ≤ w3.heap.size := Nat.le_trans hw1 d.size
      clear hown d hd
      go_wp2_with (at_builtin; refine wpList_app row_i64 rfl (.tmp 19) (.tmp 25) rfl w1.heap.size A' m c' _ rfl ho1 (w3.heap.size + 1) _ 1 1 [.int .i64 x] rfl hr1 (int_one _ _) (m + 1) _ (by omega) hs2.out ⟨by omega, by omega⟩ (by simp; omega) ?_; intro A2 c2 w4 ho2 hb2)
      go_roundw
      case rel => exact ⟨k - 1, A2, m + 1, c2, _, by omega, by first | go_num | (congr 1; omega), rfl, ho2, hd1.next hb2 hw01 hg0, by have := hb2.size; simp at this; omega⟩
      case measure => simp [intOf]; omega
    · obtain rfl : k = 0 := by omega
      go_wp2
      go_ret2
      exact ⟨s, A', m, c', zs, hs, by omega, rfl, Reads.of_own hown, hb.trans (hd.below hb.size hg)⟩
end Go.Proofs.YtkmechjilekcmaaDoor

namespace Go.Proofs.YtkmechjilekcmaaDoor
set_option linter.unusedVariables false
set_option linter.unusedSimpArgs false
set_option maxRecDepth 100000
open Go.ChangeShapes Go.WideShapes Go.ChangeAt Go.RowKit Go.Deep

/-- the state of the law's first loop: a bytes were fed, b passed -/
structure PieceAt (w3 wr : World) (e ek eb : TypeId) (s : ByteArray) (a b : Nat) (L : List (Tok × Hd)) (A : Option Addr) (c : Nat) (R : ByteArray) : Prop where
  fed : L.map (·.1) = (feed (s.extract 0 a)).1 ∧ R = (feed (s.extract 0 a)).2
  own : OwnN tokN wr w3.heap.size wr.heap.size e ek A L.length c L
  foot : ∀ k, foot A L k → k ≠ w3.heap.size + 1
  box : BoxAt wr (w3.heap.size + 1) [.string R] eb
  bel : Below w3.heap.size w3 wr
  asz : a ≤ s.size
  bsz : b ≤ s.size + 1
  abz : a ≤ b
  finz : b = s.size + 1 → a = s.size
section
variable {w3 wr W w' : World} {e ek eb : TypeId} {s R : ByteArray} {a b c c' : Nat} {L M : List (Tok × Hd)} {A A' : Option Addr}
theorem PieceAt.small (h : PieceAt w3 wr e ek eb s a b L A c R) : L.length ≤ s.size ∧ R.size ≤ s.size := by
  have h1 := feed_small (s.extract 0 a)
  rw [← h.fed.1, ← h.fed.2, List.length_map, ByteArray.size_extract] at h1
  omega
theorem PieceAt.skip (h : PieceAt w3 wr e ek eb s a b L A c R) (hb : b < s.size) : PieceAt w3 wr e ek eb s a (b + 1) L A c R :=
  ⟨h.fed, h.own, h.foot, h.box, h.bel, h.asz, by omega, by have := h.abz; omega, fun e => by omega⟩
theorem PieceAt.push (h : PieceAt w3 wr e ek eb s a b L A c R) (hb : b ≤ s.size) (hW : Below wr.heap.size wr W) (hM : M.map (·.1) = (feed (R ++ s.extract a b)).1)
    (ho : OwnN tokN w' w3.heap.size w'.heap.size e ek A' (L ++ M).length c' (L ++ M)) (hk : Keeps (fun k => (Value.slice A L.length c).ownBlock = some k) W w') (hf : ∀ k, Go.Proofs.YtkmechjilekcmaaDoor.foot A' (L ++ M) k → Go.Proofs.YtkmechjilekcmaaDoor.foot A L k ∨ wr.heap.size ≤ k) :
    PieceAt w3 (w'.setCell ⟨w3.heap.size + 1, 0, none⟩ (.string (feed (R ++ s.extract a b)).2)) e ek eb s b (b + 1) (L ++ M) A' c' (feed (R ++ s.extract a b)).2 := by
  have hbl := h.box.lt
  obtain ⟨f1, f2⟩ := h.fed
  have hp := feed_piece s h.abz hb
  rw [← f2, ← f1] at hp
  have hf' : ∀ k, Go.Proofs.YtkmechjilekcmaaDoor.foot A' (L ++ M) k → k ≠ w3.heap.size + 1 := by
    intro k hk' e
    rcases hf k hk' with h1 | h1
    · exact h.foot k h1 e
    · omega
  have hbx : ¬ (Value.slice A L.length c).ownBlock = some (w3.heap.size + 1) := fun hS => h.foot _ (.inl (by rw [← hdBlock_eq A L.length c 0]; exact hS)) rfl
  have hbw : BoxAt W (w3.heap.size + 1) [.string R] eb := h.box.next hW
  have hb' : BoxAt w' (w3.heap.size + 1) [.string R] eb := (hk.block _ hbw.lt hbx).trans hbw
  refine ⟨⟨by rw [hp, List.map_append, hM], by rw [hp]⟩, ?_, hf', hb'.put (j := 0) _, ?_, hb, by omega, by omega, fun e => by omega⟩
  · exact (ho.elsewhere (S := fun k => k = w3.heap.size + 1) (keeps_set w' (p := ⟨w3.heap.size + 1, 0, none⟩) _ rfl) (fun k hS hfk => hf' k hfk hS)).wide (Nat.le_refl _) (by simp [World.setCell])
  · have hz := hW.size
    have hz3 := h.bel.size
    exact ((h.bel.trans (hW.mono hz3)).trans (hk.below (B := w3.heap.size) (by omega) (fun k hS => h.own.row.geb k hS))).setCell (p := ⟨w3.heap.size + 1, 0, none⟩) (by show w3.heap.size ≤ w3.heap.size + 1; omega) _
theorem PieceAt.start (w3 : World) (s : ByteArray) (e ek eb : TypeId) : PieceAt w3 ((w3.alloc (.cells #[] e)).alloc (.cells #[.string ⟨#[]⟩] eb)) e ek eb s 0 0 [] (some ⟨w3.heap.size, 0, none⟩) 0 ⟨#[]⟩ := by
  refine ⟨by rw [feed_empty]; exact ⟨rfl, rfl⟩, ⟨?_, fun x hx => (by cases hx), by simp, fun x hx => (by cases hx)⟩, ?_, BoxAt.new (by simp) _ _, ?_, Nat.zero_le _, Nat.zero_le _, Nat.le_refl _, fun e => by omega⟩
  · exact ((Own.of_row (own_empty w3 e 4)).below ((Below.refl _ _).alloc (Nat.le_refl _) _)).wide (Nat.le_refl _) (by simp)
  · rintro k (hk | ⟨x, hx, _⟩)
    · have e : some w3.heap.size = some k := hk
      injection e with e
      omega
    · cases hx
  · exact ((Below.refl _ _).alloc (Nat.le_refl _) _).alloc (by simp) _
end
set_option maxHeartbeats 16000000 in
theorem pieces_walk (w : World) (hm : LdM w) (A : Option Addr) (n c : Nat) (zs : List Int) (ha : ArgInts .u8 w A n zs) : Calls Tryd.prog 5 #[.slice A n c] w fun e w' => e = .returned (.bool true) ∧ Below w.heap.size w w' := by
  obtain ⟨hl, hmx, hx, hwf⟩ := ha
  have hz : ∀ z ∈ zs, 0 ≤ z ∧ z ≤ 255 := u8_all hwf
  clear hwf hl
  by_cases hn : n ≤ 1048576
  · go_enter Tryd.func5, Tryd.ntmps5
    go_wp2_with (fail)
    go_at_call 13
    refine (big_no _ hn).mono ?_
    rintro e w0 ⟨rfl, rfl⟩
    go_wp2_with (fail)
    go_at_call 20
    refine (drawPieces_any _ hx hn hz).mono ?_
    rintro e w1 ⟨s, A1, m1, c1, zs1, hs, hm1, rfl, hr1, hb⟩
    clear hx hz hn hmx
    have hT := fun W h => tokensOf_impl W h s (by omega)
    have hS := fun W => tokensOf_spec W s (by omega)
    have htx := toksOf_text s
    have hsz := toksOf_sz s
    obtain ⟨e1, -, -⟩ := toksOf_facts s
    have hTO := Lib.hid (show toksOf s = (feed s).1 ++ endToks (feed s).2 from rfl)
    generalize toksOf s = TT at *
    go_wp2_with (fail)
    go_at_call 16
    refine (hT _ (hm.below hb)).mono ?_
    rintro e w2 ⟨A2, c2, L2, rfl, q2, o2, b2⟩
    have hR2 := o2.reads (Nat.le_refl _)
    rw [q2] at hR2
    replace hr1 := hr1.next b2
    replace hb := hb.trans (b2.mono hb.size)
    clear b2 o2 q2 hT
    go_wp2_with (fail)
    go_at_call 21
    refine (hS _).mono ?_
    rintro e w3 ⟨A3, c3, L3, rfl, q3, o3, b3⟩
    replace hR2 := hR2.next b3
    replace hr1 := hr1.next b3
    replace hb := hb.trans (b3.mono hb.size)
    clear o3 q3 hS b3
    go_wp2_with (fail)
    go_loopw [6, 8, 9] (fun l f i wr => ∃ (a b : Nat) (Al : Option Addr) (cl : Nat) (L : List (Tok × Hd)) (R : ByteArray), l = .slice Al L.length cl ∧ f = .int .i64 a ∧ i = .int .i64 b ∧ PieceAt w3 wr 24 57 40 s a b L Al cl R) (fun _ _ i _ => s.size + 1 - (intOf i).toNat)
    case atStart => exact ⟨0, 0, _, 0, [], ⟨#[]⟩, rfl, rfl, rfl, PieceAt.start w3 s _ _ _⟩
    case round =>
      obtain ⟨a, b, Al, cl, L, R, rfl, rfl, rfl, h⟩ := hrel
      have hbs := h.bel.size
      have hLs := Lib.hid h.small.1
      have hRs := h.small.2
      have hab := h.abz
      have hbw : Below w.heap.size w wr := hb.trans (h.bel.mono hb.size)
      by_cases hlt : b ≤ s.size
      · have hbsz := hlt
        have hltI : (b : Int) ≤ (s.size : Int) := by omega
        by_cases hq : b < s.size
        · have hqI : (b : Int) < (s.size : Int) := by omega
          go_wp2_with (fail)
          go_at_call 22
          refine (contains_any (b : Int) _ (hr1.below h.bel) (by omega)).mono ?_
          rintro e w4 ⟨v, rfl, rfl⟩
          cases v
          · have hsk := h.skip hq
            go_wp2
            go_roundw
            case rel => exact ⟨a, b + 1, Al, cl, L, R, rfl, rfl, by go_num, hsk⟩
            case measure => simp [intOf]; omega
          · have ha0 : (0 : Int) ≤ (a : Int) := Int.natCast_nonneg _
            have hb0 : (0 : Int) ≤ (b : Int) := Int.natCast_nonneg _
            have habI : (a : Int) ≤ (b : Int) := by omega
            have hbI : (b : Int) ≤ (s.size : Int) := by omega
            have hmr : LdM wr := hm.below hbw
            have hFd := fun W h => feedText_impl W h R (s.extract a b) (by omega) (by rw [ByteArray.size_extract]; omega)
            have hFl := (feed_small (R ++ s.extract a b)).1
            have hFz := (feed_small (R ++ s.extract a b)).2
            rw [ByteArray.size_append, ByteArray.size_extract] at hFl hFz
            have hpush := fun W M w' A' c' => h.push (M := M) (W := W) (w' := w') (A' := A') (c' := c') (eb := 40) hbsz
            generalize feed (R ++ s.extract a b) = FF at *
            obtain ⟨F1, F2⟩ := FF
            simp only at hFl hFz
            have K0 : wr.cell? ⟨w3.heap.size + 1, 0, none⟩ = some (.string R) := h.box.cell 0 _ rfl
            go_upto_region 14 with fail
            go_cut [10, 11] from 30 to 59 (fun sx sy wc => ∃ (B : Nat) (Ax : Option Addr) (cx : Nat) (M : List (Tok × Hd)), sx = .slice Ax F1.length cx ∧ sy = .pointer (some ⟨B, 0, none⟩) ∧ wr.heap.size ≤ B ∧ BoxAt wc B [.string F2] 40 ∧ Hid (M.map (·.1) = F1) ∧ OwnN tokN wc wr.heap.size wc.heap.size 24 57 Ax F1.length cx M ∧ Below wr.heap.size wr wc)
            case first =>
              have hS : ∀ W : World, Below wr.heap.size wr W → W.cell? ⟨w3.heap.size + 1, 0, none⟩ = some (.string R) := fun W hW => (hW.cell (p := ⟨w3.heap.size + 1, 0, none⟩) h.box.lt).trans K0
              go_region_held3 (fun v : World => v.cell? ⟨w3.heap.size + 1, 0, none⟩ = some (.string R)) ((refine hS _ ?_; first | exact (Below.refl _ wr).drew | exact ((Below.refl _ wr).alloc (Nat.le_refl _) (.cells #[.string ⟨#[]⟩] 40)).drew | exact v5 | exact v5.alloc v5.size (.cells #[.string ⟨#[]⟩] 40) | exact v5.alloc v5.size _ | exact v5.setCell (p := ⟨wr.heap.size, 0, none⟩) (Nat.le_refl _) _))
                (first
                  | (go_at_call 23
                     refine (hFd _ (by first | exact hmr.below (Below.refl _ wr).drew | exact hmr.below ((Below.refl _ wr).alloc (Nat.le_refl _) (.cells #[.string ⟨#[]⟩] 40)).drew | exact hmr | exact hmr.below ((Below.refl _ wr).alloc (Nat.le_refl _) (.cells #[.string ⟨#[]⟩] 40)))).mono ?_
                     rintro e w5 ⟨A5, c5, L5, rfl, q5, o5, b5⟩
                     simp only at o5 q5
                     have v5 : Below wr.heap.size wr w5 := by first | exact (Below.refl _ wr).drew.trans b5 | exact ((Below.refl _ wr).alloc (Nat.le_refl _) (.cells #[.string ⟨#[]⟩] 40)).drew.trans (b5.mono (by simp)) | exact b5 | exact ((Below.refl _ wr).alloc (Nat.le_refl _) (.cells #[.string ⟨#[]⟩] 40)).trans (b5.mono (by simp))
                     (first | (have kA : BoxAt w5 wr.heap.size [.string ⟨#[]⟩] 40 := (b5.block wr.heap.size (by simp)).trans (BoxAt.new (w := wr) rfl [.string ⟨#[]⟩] 40); have kx0 := kA.cell 0 _ rfl; have kx1 := kA.open_ 0) | skip)))
              all_goals (go_wp2_with fail; go_meet)
              all_goals first
                | exact ⟨wr.heap.size, A5, c5, L5, rfl, rfl, Nat.le_refl _, kA.put (j := 0) (.string F2), q5, ((o5.keep (keeps_set (S := fun k => k = wr.heap.size) w5 (p := ⟨wr.heap.size, 0, none⟩) (.string F2) rfl) (fun k hk => by subst hk; left; simp)).wide (by simp) (by simp [World.setCell])), v5.setCell (p := ⟨wr.heap.size, 0, none⟩) (Nat.le_refl _) _⟩
                | exact ⟨w5.heap.size, A5, c5, L5, rfl, rfl, v5.size, BoxAt.new (w := w5) rfl [.string F2] 40, q5, ((o5.below ((Below.refl _ _).alloc (Nat.le_refl _) (.cells #[.string F2] 40))).wide (Nat.le_refl _) (by simp)), v5.alloc v5.size _⟩
            case rest =>
              obtain ⟨B, Ax, cx, M, rfl, rfl, hB, bxB, qM, oM, bW⟩ := hcut
              have hbx := h.box.next bW
              have hoc := h.own.below bW
              have hML : Hid (L.length + F1.length = (L ++ M).length) := by show _ = _; rw [List.length_append, ← qM.out, List.length_map]
              have hMn : (L ++ M).length ≤ 200000 := by rw [← hML.out]; have := hLs.out; omega
              have hzW := bW.size
              have hw3r := h.bel.size
              have hrow := fun k hS => h.own.row.ltb k hS
              have hfbox : ¬ (Value.slice Al L.length cl).ownBlock = some (w3.heap.size + 1) := fun hS => h.foot _ (.inl (by rw [← hdBlock_eq Al L.length cl 0]; exact hS)) rfl
              go_wp2_with (at_builtin
                           refine wpList_pushes (N := tokN) (bytes := 64) row_Token rfl (.tmp 55) (.tmp 56) rfl (lo := w3.heap.size) (m := wr.heap.size) (ek := 57) (L := L) (M := M) (A := Al) (n := L.length) (c := cl) hoc hzW hw3r oM rfl rfl (L ++ M).length hML.out (by omega) (by omega) ?_
                           intro A8 c8 w8 o8 k8 f8
                           have kB8 : BoxAt w8 B [.string F2] 40 := (k8.block B bxB.lt (fun hS => by have := hrow _ hS; omega)).trans bxB
                           have kB8c := kB8.cell 0 _ rfl
                           have kT8 : BoxAt w8 (w3.heap.size + 1) [.string R] 40 := (k8.block _ hbx.lt hfbox).trans hbx
                           have kT8f := kT8.open_ 0
                           have kT8c := kT8.cell 0 _ rfl)
              have hfin := hpush wc M w8 A8 c8 bW qM.out o8 k8 f8
              go_roundw
              case rel => first | exact ⟨b, b + 1, A8, c8, L ++ M, F2, by rw [List.length_append], rfl, by go_num, hfin⟩ | exact ⟨b, b + 1, A8, c8, L ++ M, F2, rfl, rfl, by go_num, hfin⟩
              case measure => simp [intOf]; omega
        · have hqI : (s.size : Int) ≤ (b : Int) := by omega
          have hqd : decide ((b : Int) < (s.size : Int)) = false := by simp; omega
          have ha0 : (0 : Int) ≤ (a : Int) := Int.natCast_nonneg _
          have hb0 : (0 : Int) ≤ (b : Int) := Int.natCast_nonneg _
          have habI : (a : Int) ≤ (b : Int) := by omega
          have hbI : (b : Int) ≤ (s.size : Int) := by omega
          have hmr : LdM wr := hm.below hbw
          have hFd := fun W h => feedText_impl W h R (s.extract a b) (by omega) (by rw [ByteArray.size_extract]; omega)
          have hFl := (feed_small (R ++ s.extract a b)).1
          have hFz := (feed_small (R ++ s.extract a b)).2
          rw [ByteArray.size_append, ByteArray.size_extract] at hFl hFz
          have hpush := fun W M w' A' c' => h.push (M := M) (W := W) (w' := w') (A' := A') (c' := c') (eb := 40) hbsz
          generalize feed (R ++ s.extract a b) = FF at *
          obtain ⟨F1, F2⟩ := FF
          simp only at hFl hFz
          have K0 : wr.cell? ⟨w3.heap.size + 1, 0, none⟩ = some (.string R) := h.box.cell 0 _ rfl
          go_upto_region 14 with fail
          go_cut [10, 11] from 30 to 59 (fun sx sy wc => ∃ (B : Nat) (Ax : Option Addr) (cx : Nat) (M : List (Tok × Hd)), sx = .slice Ax F1.length cx ∧ sy = .pointer (some ⟨B, 0, none⟩) ∧ wr.heap.size ≤ B ∧ BoxAt wc B [.string F2] 40 ∧ Hid (M.map (·.1) = F1) ∧ OwnN tokN wc wr.heap.size wc.heap.size 24 57 Ax F1.length cx M ∧ Below wr.heap.size wr wc)
          case first =>
            have hS : ∀ W : World, Below wr.heap.size wr W → W.cell? ⟨w3.heap.size + 1, 0, none⟩ = some (.string R) := fun W hW => (hW.cell (p := ⟨w3.heap.size + 1, 0, none⟩) h.box.lt).trans K0
            go_region_held3 (fun v : World => v.cell? ⟨w3.heap.size + 1, 0, none⟩ = some (.string R)) ((refine hS _ ?_; first | exact (Below.refl _ wr).drew | exact ((Below.refl _ wr).alloc (Nat.le_refl _) (.cells #[.string ⟨#[]⟩] 40)).drew | exact v5 | exact v5.alloc v5.size (.cells #[.string ⟨#[]⟩] 40) | exact v5.alloc v5.size _ | exact v5.setCell (p := ⟨wr.heap.size, 0, none⟩) (Nat.le_refl _) _))
              (first
                | (go_at_call 23
                   refine (hFd _ (by first | exact hmr.below (Below.refl _ wr).drew | exact hmr.below ((Below.refl _ wr).alloc (Nat.le_refl _) (.cells #[.string ⟨#[]⟩] 40)).drew | exact hmr | exact hmr.below ((Below.refl _ wr).alloc (Nat.le_refl _) (.cells #[.string ⟨#[]⟩] 40)))).mono ?_
                   rintro e w5 ⟨A5, c5, L5, rfl, q5, o5, b5⟩
                   simp only at o5 q5
                   have v5 : Below wr.heap.size wr w5 := by first | exact (Below.refl _ wr).drew.trans b5 | exact ((Below.refl _ wr).alloc (Nat.le_refl _) (.cells #[.string ⟨#[]⟩] 40)).drew.trans (b5.mono (by simp)) | exact b5 | exact ((Below.refl _ wr).alloc (Nat.le_refl _) (.cells #[.string ⟨#[]⟩] 40)).trans (b5.mono (by simp))
                   (first | (have kA : BoxAt w5 wr.heap.size [.string ⟨#[]⟩] 40 := (b5.block wr.heap.size (by simp)).trans (BoxAt.new (w := wr) rfl [.string ⟨#[]⟩] 40); have kx0 := kA.cell 0 _ rfl; have kx1 := kA.open_ 0) | skip)))
            all_goals (go_wp2_with fail; go_meet)
            all_goals first
              | exact ⟨wr.heap.size, A5, c5, L5, rfl, rfl, Nat.le_refl _, kA.put (j := 0) (.string F2), q5, ((o5.keep (keeps_set (S := fun k => k = wr.heap.size) w5 (p := ⟨wr.heap.size, 0, none⟩) (.string F2) rfl) (fun k hk => by subst hk; left; simp)).wide (by simp) (by simp [World.setCell])), v5.setCell (p := ⟨wr.heap.size, 0, none⟩) (Nat.le_refl _) _⟩
              | exact ⟨w5.heap.size, A5, c5, L5, rfl, rfl, v5.size, BoxAt.new (w := w5) rfl [.string F2] 40, q5, ((o5.below ((Below.refl _ _).alloc (Nat.le_refl _) (.cells #[.string F2] 40))).wide (Nat.le_refl _) (by simp)), v5.alloc v5.size _⟩
          case rest =>
            obtain ⟨B, Ax, cx, M, rfl, rfl, hB, bxB, qM, oM, bW⟩ := hcut
            have hbx := h.box.next bW
            have hoc := h.own.below bW
            have hML : Hid (L.length + F1.length = (L ++ M).length) := by show _ = _; rw [List.length_append, ← qM.out, List.length_map]
            have hMn : (L ++ M).length ≤ 200000 := by rw [← hML.out]; have := hLs.out; omega
            have hzW := bW.size
            have hw3r := h.bel.size
            have hrow := fun k hS => h.own.row.ltb k hS
            have hfbox : ¬ (Value.slice Al L.length cl).ownBlock = some (w3.heap.size + 1) := fun hS => h.foot _ (.inl (by rw [← hdBlock_eq Al L.length cl 0]; exact hS)) rfl
            go_wp2_with (at_builtin
                         refine wpList_pushes (N := tokN) (bytes := 64) row_Token rfl (.tmp 55) (.tmp 56) rfl (lo := w3.heap.size) (m := wr.heap.size) (ek := 57) (L := L) (M := M) (A := Al) (n := L.length) (c := cl) hoc hzW hw3r oM rfl rfl (L ++ M).length hML.out (by omega) (by omega) ?_
                         intro A8 c8 w8 o8 k8 f8
                         have kB8 : BoxAt w8 B [.string F2] 40 := (k8.block B bxB.lt (fun hS => by have := hrow _ hS; omega)).trans bxB
                         have kB8c := kB8.cell 0 _ rfl
                         have kT8 : BoxAt w8 (w3.heap.size + 1) [.string R] 40 := (k8.block _ hbx.lt hfbox).trans hbx
                         have kT8f := kT8.open_ 0
                         have kT8c := kT8.cell 0 _ rfl)
            have hfin := hpush wc M w8 A8 c8 bW qM.out o8 k8 f8
            go_roundw
            case rel => first | exact ⟨b, b + 1, A8, c8, L ++ M, F2, by rw [List.length_append], rfl, by go_num, hfin⟩ | exact ⟨b, b + 1, A8, c8, L ++ M, F2, rfl, rfl, by go_num, hfin⟩
            case measure => simp [intOf]; omega
      · have hbE : b = s.size + 1 := by have := h.bsz; omega
        subst hbE
        have haE := h.finz rfl
        subst haE
        have hfed := Lib.hid h.fed
        have hTT : Hid (L.map (·.1) ++ endToks R = TT) := by
          show _ = _
          rw [hTO.out, hfed.out.1, hfed.out.2, ByteArray.extract_zero_size]
        have hLl := h.small.1
        have hE := fun W => endText_impl R W (by omega)
        have hlen : Hid (L.length + (endToks R).length = TT.length) := by show _ = _; rw [← hTT.out, List.length_append, List.length_map]
        clear hTO hfed
        generalize endToks R = ET at *
        have K0 : wr.cell? ⟨w3.heap.size + 1, 0, none⟩ = some (.string R) := h.box.cell 0 _ rfl
        have hsI : (s.size : Int) < ((s.size + 1 : Nat) : Int) := by omega
        go_wp2_with (fail)
        go_at_call 24
        refine (hE _).mono ?_
        rintro e w6 ⟨A6, c6, L6, rfl, q6, o6, b6⟩
        have hoc := h.own.below b6
        have hz6 := b6.size
        have hge := fun k hk => h.own.row.geb k hk
        have hR6 := hR2.next (h.bel.trans (b6.mono hbs))
        have hmap : Hid ((L ++ L6).map (·.1) = TT) := by show _ = _; rw [List.map_append, q6, hTT.out]
        have hb6 := hbw.trans (b6.mono hbw.size)
        have hw3 := hb.size
        clear hE hTT q6 K0
        go_wp2_with (at_builtin
                     refine wpList_pushes (N := tokN) (bytes := 64) row_Token rfl (.tmp 60) (.tmp 62) rfl (lo := w3.heap.size) (m := wr.heap.size) (ek := 57) (L := L) (M := L6) (A := Al) (n := L.length) (c := cl) hoc hz6 hbs o6 rfl rfl TT.length hlen.out (by omega) (by omega) ?_
                     intro A7 c7 w7 o7 k7 f7)
        have hb67 : Below w3.heap.size w6 w7 := k7.below (by omega) hge
        have hRl := o7.reads (Nat.le_refl _)
        rw [hmap.out] at hRl
        have hRw : ReadsN tokN w7 w7.heap.size A2 TT.length TT := (hR2.below (h.bel.trans (b6.mono hbs))).below hb67 |>.more (by have := hb67.size; omega)
        have hb7 := hb6.trans (hb67.mono (by omega))
        clear o7 o6 hoc hR6 hlen hmap
        go_loopw [12] (fun i wq => ∃ k : Nat, k ≤ TT.length ∧ i = .int .i64 k ∧ Below w7.heap.size w7 wq) (fun i _ => TT.length - (intOf i).toNat)
        case atStart => exact ⟨0, Nat.zero_le _, rfl, Below.refl _ _⟩
        case round =>
          rename_i wr0 wr1
          clear h
          obtain ⟨k, hk, rfl, hbel⟩ := hrel
          by_cases hlt : k < TT.length
          · have hkI : (k : Int) < (TT.length : Int) := by omega
            have hk0I : (0 : Int) ≤ (k : Int) := by omega
            have hRl' := hRl.next hbel
            obtain ⟨b1, f1, rfl, hb1, hcx⟩ := hRl'.tok hlt
            obtain ⟨b2, f2, rfl, hb2, hcy⟩ := (hRw.next hbel).tok hlt
            obtain ⟨Aa, ca, hra, g0, g1, g2, g3⟩ := hcx hlt
            obtain ⟨Ab, cb, hrb, d0, d1, d2, d3⟩ := hcy hlt
            have hto := htx TT[k] (List.getElem_mem _)
            have hts' := hsz TT[k] (List.getElem_mem _)
            have hts : tokSz TT[k] ≤ 268435456 := by omega
            clear hts'
            clear hcx hcy
            generalize TT[k] = t at *
            go_upto_region 24 with fail
            go_cut [127] from 69 to 127 (fun cv wx => cv = .bool false ∧ Below wr.heap.size wr wx)
            case first =>
              clear htx hsz hRl hRw hm hb hb6 hb67 hb7 hbs hbw hLs hRs hab hlt hbel hR2 hr1
              have hcall : Hid (∀ (W : World) (A : Option Addr) (c : Nat), Reads W W.heap.size 2 A t.attrs.length (s2V t.attrs) → Calls Tryd.prog 15 #[.agg #[.int .i64 t.kind, .string t.name, .slice A t.attrs.length c, .string t.text]] W fun e w' => e = .returned (.string (fmtT t)) ∧ Below W.heap.size W w') := Lib.hid fun W A c h => formatToken_impl t W h hts
              have htx2 : Hid (t.kind = 3 → ((fmtT t).toList == (⟨#[]⟩ : ByteArray).toList) = false ∧ (fmtT t).toList.isEmpty = false) := Lib.hid fun h => fmtT_text hto h
              generalize fmtT t = Y at hcall htx2
              clear hto hts
              by_cases hk0 : k = 0
              · subst hk0
                simp only [Nat.zero_mul, Nat.add_zero] at g0 g1 g2 g3 d0 d1 d2 d3
                have hd0 : decide ((0 : Int) < 0) = false := by simp
                have hk8 : (0 : Int) ≤ 0 := Int.le_refl _
                have hk9 : (0 : Int) < (TT.length : Int) := by omega
                have hk9n : 0 < TT.length := by omega
                have hS : Hid (∀ W : World, Below wr.heap.size wr W → (W.cell? ⟨b1, f1 , none⟩ = some (.int .i64 t.kind) ∧ W.cell? ⟨b1, f1 + 1, none⟩ = some (.string t.name) ∧ W.cell? ⟨b1, f1 + 2, none⟩ = some (.slice Aa t.attrs.length ca) ∧ W.cell? ⟨b1, f1 + 3, none⟩ = some (.string t.text) ∧ W.cell? ⟨b2, f2 , none⟩ = some (.int .i64 t.kind) ∧ W.cell? ⟨b2, f2 + 1, none⟩ = some (.string t.name) ∧ W.cell? ⟨b2, f2 + 2, none⟩ = some (.slice Ab t.attrs.length cb) ∧ W.cell? ⟨b2, f2 + 3, none⟩ = some (.string t.text))) := Lib.hid fun W hW => ⟨(hW.cell (p := ⟨b1, _, none⟩) hb1).trans g0, (hW.cell (p := ⟨b1, _, none⟩) hb1).trans g1, (hW.cell (p := ⟨b1, _, none⟩) hb1).trans g2, (hW.cell (p := ⟨b1, _, none⟩) hb1).trans g3, (hW.cell (p := ⟨b2, _, none⟩) hb2).trans d0, (hW.cell (p := ⟨b2, _, none⟩) hb2).trans d1, (hW.cell (p := ⟨b2, _, none⟩) hb2).trans d2, (hW.cell (p := ⟨b2, _, none⟩) hb2).trans d3⟩
                refine wp_region_held_drew (S := fun v : World => v.cell? ⟨b1, f1 , none⟩ = some (.int .i64 t.kind) ∧ v.cell? ⟨b1, f1 + 1, none⟩ = some (.string t.name) ∧ v.cell? ⟨b1, f1 + 2, none⟩ = some (.slice Aa t.attrs.length ca) ∧ v.cell? ⟨b1, f1 + 3, none⟩ = some (.string t.text) ∧ v.cell? ⟨b2, f2 , none⟩ = some (.int .i64 t.kind) ∧ v.cell? ⟨b2, f2 + 1, none⟩ = some (.string t.name) ∧ v.cell? ⟨b2, f2 + 2, none⟩ = some (.slice Ab t.attrs.length cb) ∧ v.cell? ⟨b2, f2 + 3, none⟩ = some (.string t.text)) (by kernel_rfl) (hS.out _ (Below.refl _ _).drew) ?_
                intro hSd
                try simp only [List.replicate, Array.replicate]
                refine wpAnyH_take (i := 0) (v := ?_) rfl (by kernel_rfl) (by kernel_rfl) (by kernel_rfl) (fun _ _ _ h => h) (Or.inl ⟨by rfl, ?_⟩) (by assumption) ?_
                rotate_left 1
                · intro wS hSw; (try dsimp only at hSw); go_simp
                  all_goals with_reducible rfl
                try simp only [Act.put, List.getElem_toArray, List.getElem_cons_succ, List.getElem_cons_zero, List.setIfInBounds_toArray, List.set_cons_zero, List.set_cons_succ]
                refine wpAnyH_take (i := 1) (v := ?_) rfl (by kernel_rfl) (by kernel_rfl) (by kernel_rfl) (fun _ _ _ h => h) (Or.inl ⟨by rfl, ?_⟩) (by assumption) ?_
                rotate_left 1
                · intro wS hSw; (try dsimp only at hSw); go_simp
                  all_goals with_reducible rfl
                try simp only [Act.put, List.getElem_toArray, List.getElem_cons_succ, List.getElem_cons_zero, List.setIfInBounds_toArray, List.set_cons_zero, List.set_cons_succ]
                refine wpAnyH_take (i := 2) (v := ?_) rfl (by kernel_rfl) (by kernel_rfl) (by kernel_rfl) (fun _ _ _ h => h) (Or.inl ⟨by rfl, ?_⟩) (by assumption) ?_
                rotate_left 1
                · intro wS hSw; (try dsimp only at hSw); go_simp
                  all_goals with_reducible rfl
                try simp only [Act.put, List.getElem_toArray, List.getElem_cons_succ, List.getElem_cons_zero, List.setIfInBounds_toArray, List.set_cons_zero, List.set_cons_succ]
                refine wpAnyH_take (i := 3) (v := ?_) rfl (by kernel_rfl) (by kernel_rfl) (by kernel_rfl) (fun _ _ _ h => h) (Or.inl ⟨by rfl, ?_⟩) (by assumption) ?_
                rotate_left 1
                · intro wS hSw; (try dsimp only at hSw); go_simp
                  all_goals with_reducible rfl
                try simp only [Act.put, List.getElem_toArray, List.getElem_cons_succ, List.getElem_cons_zero, List.setIfInBounds_toArray, List.set_cons_zero, List.set_cons_succ]
                refine wpAnyH_take (i := 5) (v := ?_) rfl (by kernel_rfl) (by kernel_rfl) (by kernel_rfl) (fun _ _ _ h => h) (Or.inl ⟨by rfl, ?_⟩) (by assumption) ?_
                rotate_left 1
                · intro wS hSw; (try dsimp only at hSw); go_simp
                  all_goals with_reducible rfl
                try simp only [Act.put, List.getElem_toArray, List.getElem_cons_succ, List.getElem_cons_zero, List.setIfInBounds_toArray, List.set_cons_zero, List.set_cons_succ]
                refine wpAnyH_take (i := 6) (v := ?_) rfl (by kernel_rfl) (by kernel_rfl) (by kernel_rfl) (fun _ _ _ h => h) (Or.inl ⟨by rfl, ?_⟩) (by assumption) ?_
                rotate_left 1
                · intro wS hSw; (try dsimp only at hSw); go_simp
                  all_goals with_reducible rfl
                try simp only [Act.put, List.getElem_toArray, List.getElem_cons_succ, List.getElem_cons_zero, List.setIfInBounds_toArray, List.set_cons_zero, List.set_cons_succ]
                refine wpAnyH_take (i := 7) (v := ?_) rfl (by kernel_rfl) (by kernel_rfl) (by kernel_rfl) (fun _ _ _ h => h) (Or.inl ⟨by rfl, ?_⟩) (by assumption) ?_
                rotate_left 1
                · intro wS hSw; (try dsimp only at hSw); go_simp
                  all_goals with_reducible rfl
                try simp only [Act.put, List.getElem_toArray, List.getElem_cons_succ, List.getElem_cons_zero, List.setIfInBounds_toArray, List.set_cons_zero, List.set_cons_succ]
                refine wpAnyH_take (i := 8) (v := ?_) rfl (by kernel_rfl) (by kernel_rfl) (by kernel_rfl) (fun _ _ _ h => h) (Or.inl ⟨by rfl, ?_⟩) (by assumption) ?_
                rotate_left 1
                · intro wS hSw; (try dsimp only at hSw); go_simp
                  all_goals with_reducible rfl
                try simp only [Act.put, List.getElem_toArray, List.getElem_cons_succ, List.getElem_cons_zero, List.setIfInBounds_toArray, List.set_cons_zero, List.set_cons_succ]
                refine wpAnyH_ready (rs := [4]) (by kernel_rfl) (by simp) ?_
                refine AllReadyH.cons rfl (fun K hK => ?_) AllReadyH.nil
                go_simp
                refine (hcall.out _ _ _ (by first | exact hra | exact hra.drew)).mono ?_
                rintro e w1' ⟨rfl, b1⟩
                have v1 : Below wr.heap.size wr w1' := by first | exact (Below.refl _ wr).drew.trans b1 | exact b1
                refine hK.out _ _ (hS.out _ v1) (fun hSe1 => ?_)
                clear hK K
                try simp only [Act.put, List.getElem_toArray, List.getElem_cons_succ, List.getElem_cons_zero, List.setIfInBounds_toArray, List.set_cons_zero, List.set_cons_succ]
                refine wpAnyH_ready (rs := [9]) (by kernel_rfl) (by simp) ?_
                refine AllReadyH.cons rfl (fun K hK => ?_) AllReadyH.nil
                go_simp
                refine (hcall.out _ _ _ ((hrb.below v1).more v1.size)).mono ?_
                rintro e w2' ⟨rfl, b2⟩
                have v2 : Below wr.heap.size wr w2' := v1.trans (b2.mono v1.size)
                refine hK.out _ _ (hS.out _ v2) (fun hSe2 => ?_)
                clear hK K
                try simp only [Act.put, List.getElem_toArray, List.getElem_cons_succ, List.getElem_cons_zero, List.setIfInBounds_toArray, List.set_cons_zero, List.set_cons_succ]
                refine wpAnyH_take (i := 10) (v := ?_) rfl (by kernel_rfl) (by kernel_rfl) (by kernel_rfl) (fun _ _ _ h => h) (Or.inl ⟨by rfl, ?_⟩) (by assumption) ?_
                rotate_left 1
                · intro wS hSw; (try dsimp only at hSw); go_simp
                  all_goals with_reducible rfl
                try simp only [Act.put, List.getElem_toArray, List.getElem_cons_succ, List.getElem_cons_zero, List.setIfInBounds_toArray, List.set_cons_zero, List.set_cons_succ]
                refine wpAnyH_take (i := 11) (v := ?_) rfl (by kernel_rfl) (by kernel_rfl) (by kernel_rfl) (fun _ _ _ h => h) (Or.inl ⟨by rfl, ?_⟩) (by assumption) ?_
                rotate_left 1
                · intro wS hSw; (try dsimp only at hSw); go_simp
                  all_goals with_reducible rfl
                try simp only [Act.put, List.getElem_toArray, List.getElem_cons_succ, List.getElem_cons_zero, List.setIfInBounds_toArray, List.set_cons_zero, List.set_cons_succ]
                refine wpAnyH_take (i := 12) (v := ?_) rfl (by kernel_rfl) (by kernel_rfl) (by kernel_rfl) (fun _ _ _ h => h) (Or.inl ⟨by rfl, ?_⟩) (by assumption) ?_
                rotate_left 1
                · intro wS hSw; (try dsimp only at hSw); go_simp
                  all_goals with_reducible rfl
                try simp only [Act.put, List.getElem_toArray, List.getElem_cons_succ, List.getElem_cons_zero, List.setIfInBounds_toArray, List.set_cons_zero, List.set_cons_succ]
                refine wpAnyH_take (i := 13) (v := ?_) rfl (by kernel_rfl) (by kernel_rfl) (by kernel_rfl) (fun _ _ _ h => h) (Or.inl ⟨by rfl, ?_⟩) (by assumption) ?_
                rotate_left 1
                · intro wS hSw; (try dsimp only at hSw); go_simp
                  all_goals with_reducible rfl
                try simp only [Act.put, List.getElem_toArray, List.getElem_cons_succ, List.getElem_cons_zero, List.setIfInBounds_toArray, List.set_cons_zero, List.set_cons_succ]
                refine wpAnyH_take (i := 14) (v := ?_) rfl (by kernel_rfl) (by kernel_rfl) (by kernel_rfl) (fun _ _ _ h => h) (Or.inl ⟨by rfl, ?_⟩) (by assumption) ?_
                rotate_left 1
                · intro wS hSw; (try dsimp only at hSw); go_simp
                  all_goals with_reducible rfl
                try simp only [Act.put, List.getElem_toArray, List.getElem_cons_succ, List.getElem_cons_zero, List.setIfInBounds_toArray, List.set_cons_zero, List.set_cons_succ]
                refine wpAnyH_take (i := 15) (v := ?_) rfl (by kernel_rfl) (by kernel_rfl) (by kernel_rfl) (fun _ _ _ h => h) (Or.inl ⟨by rfl, ?_⟩) (by assumption) ?_
                rotate_left 1
                · intro wS hSw; (try dsimp only at hSw); go_simp
                  all_goals with_reducible rfl
                try simp only [Act.put, List.getElem_toArray, List.getElem_cons_succ, List.getElem_cons_zero, List.setIfInBounds_toArray, List.set_cons_zero, List.set_cons_succ]
                refine wpAnyH_take (i := 16) (v := ?_) rfl (by kernel_rfl) (by kernel_rfl) (by kernel_rfl) (fun _ _ _ h => h) (Or.inl ⟨by rfl, ?_⟩) (by assumption) ?_
                rotate_left 1
                · intro wS hSw; (try dsimp only at hSw); go_simp
                  all_goals with_reducible rfl
                try simp only [Act.put, List.getElem_toArray, List.getElem_cons_succ, List.getElem_cons_zero, List.setIfInBounds_toArray, List.set_cons_zero, List.set_cons_succ]
                refine wpAnyH_take (i := 17) (v := ?_) rfl (by kernel_rfl) (by kernel_rfl) (by kernel_rfl) (fun _ _ _ h => h) (Or.inl ⟨by rfl, ?_⟩) (by assumption) ?_
                rotate_left 1
                · intro wS hSw; (try dsimp only at hSw); go_simp
                  all_goals with_reducible rfl
                try simp only [Act.put, List.getElem_toArray, List.getElem_cons_succ, List.getElem_cons_zero, List.setIfInBounds_toArray, List.set_cons_zero, List.set_cons_succ]
                refine wpAnyH_take (i := 18) (v := ?_) rfl (by kernel_rfl) (by kernel_rfl) (by kernel_rfl) (fun _ _ _ h => h) (Or.inl ⟨by rfl, ?_⟩) (by assumption) ?_
                rotate_left 1
                · intro wS hSw; (try dsimp only at hSw); go_simp
                  all_goals with_reducible rfl
                try simp only [Act.put, List.getElem_toArray, List.getElem_cons_succ, List.getElem_cons_zero, List.setIfInBounds_toArray, List.set_cons_zero, List.set_cons_succ]
                refine wpAnyH_take (i := 19) (v := ?_) rfl (by kernel_rfl) (by kernel_rfl) (by kernel_rfl) (fun _ _ _ h => h) (Or.inl ⟨by rfl, ?_⟩) (by assumption) ?_
                rotate_left 1
                · intro wS hSw; (try dsimp only at hSw); go_simp
                  all_goals with_reducible rfl
                try simp only [Act.put, List.getElem_toArray, List.getElem_cons_succ, List.getElem_cons_zero, List.setIfInBounds_toArray, List.set_cons_zero, List.set_cons_succ]
                refine wpAnyH_take (i := 20) (v := ?_) rfl (by kernel_rfl) (by kernel_rfl) (by kernel_rfl) (fun _ _ _ h => h) (Or.inl ⟨by rfl, ?_⟩) (by assumption) ?_
                rotate_left 1
                · intro wS hSw; (try dsimp only at hSw); go_simp
                  all_goals with_reducible rfl
                try simp only [Act.put, List.getElem_toArray, List.getElem_cons_succ, List.getElem_cons_zero, List.setIfInBounds_toArray, List.set_cons_zero, List.set_cons_succ]
                refine wpAnyH_take (i := 21) (v := ?_) rfl (by kernel_rfl) (by kernel_rfl) (by kernel_rfl) (fun _ _ _ h => h) (Or.inl ⟨by rfl, ?_⟩) (by assumption) ?_
                rotate_left 1
                · intro wS hSw; (try dsimp only at hSw); go_simp
                  all_goals with_reducible rfl
                try simp only [Act.put, List.getElem_toArray, List.getElem_cons_succ, List.getElem_cons_zero, List.setIfInBounds_toArray, List.set_cons_zero, List.set_cons_succ]
                refine wpAnyH_take (i := 22) (v := ?_) rfl (by kernel_rfl) (by kernel_rfl) (by kernel_rfl) (fun _ _ _ h => h) (Or.inl ⟨by rfl, ?_⟩) (by assumption) ?_
                rotate_left 1
                · intro wS hSw; (try dsimp only at hSw); go_simp
                  all_goals with_reducible rfl
                try simp only [Act.put, List.getElem_toArray, List.getElem_cons_succ, List.getElem_cons_zero, List.setIfInBounds_toArray, List.set_cons_zero, List.set_cons_succ]
                refine wpAnyH_take (i := 23) (v := ?_) rfl (by kernel_rfl) (by kernel_rfl) (by kernel_rfl) (fun _ _ _ h => h) (Or.inl ⟨by rfl, ?_⟩) (by assumption) ?_
                rotate_left 1
                · intro wS hSw; (try dsimp only at hSw); go_simp
                  all_goals with_reducible rfl
                try simp only [Act.put, List.getElem_toArray, List.getElem_cons_succ, List.getElem_cons_zero, List.setIfInBounds_toArray, List.set_cons_zero, List.set_cons_succ]
                refine wpAnyH_take (i := 24) (v := ?_) rfl (by kernel_rfl) (by kernel_rfl) (by kernel_rfl) (fun _ _ _ h => h) (Or.inl ⟨by rfl, ?_⟩) (by assumption) ?_
                rotate_left 1
                · intro wS hSw; (try dsimp only at hSw); go_simp
                  all_goals with_reducible rfl
                try simp only [Act.put, List.getElem_toArray, List.getElem_cons_succ, List.getElem_cons_zero, List.setIfInBounds_toArray, List.set_cons_zero, List.set_cons_succ]
                refine wpAnyH_take (i := 25) (v := ?_) rfl (by kernel_rfl) (by kernel_rfl) (by kernel_rfl) (fun _ _ _ h => h) (Or.inl ⟨by rfl, ?_⟩) (by assumption) ?_
                rotate_left 1
                · intro wS hSw; (try dsimp only at hSw); go_simp
                  all_goals with_reducible rfl
                try simp only [Act.put, List.getElem_toArray, List.getElem_cons_succ, List.getElem_cons_zero, List.setIfInBounds_toArray, List.set_cons_zero, List.set_cons_succ]
                refine wpAnyH_take (i := 26) (v := ?_) rfl (by kernel_rfl) (by kernel_rfl) (by kernel_rfl) (fun _ _ _ h => h) (Or.inl ⟨by rfl, ?_⟩) (by assumption) ?_
                rotate_left 1
                · intro wS hSw; (try dsimp only at hSw); go_simp
                  all_goals with_reducible rfl
                try simp only [Act.put, List.getElem_toArray, List.getElem_cons_succ, List.getElem_cons_zero, List.setIfInBounds_toArray, List.set_cons_zero, List.set_cons_succ]
                refine wpAnyH_take (i := 27) (v := ?_) rfl (by kernel_rfl) (by kernel_rfl) (by kernel_rfl) (fun _ _ _ h => h) (Or.inl ⟨by rfl, ?_⟩) (by assumption) ?_
                rotate_left 1
                · intro wS hSw; (try dsimp only at hSw); go_simp
                  all_goals with_reducible rfl
                try simp only [Act.put, List.getElem_toArray, List.getElem_cons_succ, List.getElem_cons_zero, List.setIfInBounds_toArray, List.set_cons_zero, List.set_cons_succ]
                refine wpAnyH_take (i := 28) (v := undef) rfl (by kernel_rfl) (by kernel_rfl) (by kernel_rfl) (fun _ _ _ h => h) (Or.inr ⟨by rfl, rfl⟩) (by assumption) ?_
                try simp only [Act.put, List.getElem_toArray, List.getElem_cons_succ, List.getElem_cons_zero, List.setIfInBounds_toArray, List.set_cons_zero, List.set_cons_succ]
                refine wpAnyH_take (i := 29) (v := undef) rfl (by kernel_rfl) (by kernel_rfl) (by kernel_rfl) (fun _ _ _ h => h) (Or.inr ⟨by rfl, rfl⟩) (by assumption) ?_
                try simp only [Act.put, List.getElem_toArray, List.getElem_cons_succ, List.getElem_cons_zero, List.setIfInBounds_toArray, List.set_cons_zero, List.set_cons_succ]
                refine wpAnyH_take (i := 30) (v := undef) rfl (by kernel_rfl) (by kernel_rfl) (by kernel_rfl) (fun _ _ _ h => h) (Or.inr ⟨by rfl, rfl⟩) (by assumption) ?_
                try simp only [Act.put, List.getElem_toArray, List.getElem_cons_succ, List.getElem_cons_zero, List.setIfInBounds_toArray, List.set_cons_zero, List.set_cons_succ]
                refine wpAnyH_take (i := 31) (v := undef) rfl (by kernel_rfl) (by kernel_rfl) (by kernel_rfl) (fun _ _ _ h => h) (Or.inr ⟨by rfl, rfl⟩) (by assumption) ?_
                try simp only [Act.put, List.getElem_toArray, List.getElem_cons_succ, List.getElem_cons_zero, List.setIfInBounds_toArray, List.set_cons_zero, List.set_cons_succ]
                refine wpAnyH_take (i := 32) (v := undef) rfl (by kernel_rfl) (by kernel_rfl) (by kernel_rfl) (fun _ _ _ h => h) (Or.inr ⟨by rfl, rfl⟩) (by assumption) ?_
                try simp only [Act.put, List.getElem_toArray, List.getElem_cons_succ, List.getElem_cons_zero, List.setIfInBounds_toArray, List.set_cons_zero, List.set_cons_succ]
                refine wpAnyH_take (i := 33) (v := undef) rfl (by kernel_rfl) (by kernel_rfl) (by kernel_rfl) (fun _ _ _ h => h) (Or.inr ⟨by rfl, rfl⟩) (by assumption) ?_
                try simp only [Act.put, List.getElem_toArray, List.getElem_cons_succ, List.getElem_cons_zero, List.setIfInBounds_toArray, List.set_cons_zero, List.set_cons_succ]
                refine wpAnyH_take (i := 34) (v := ?_) rfl (by kernel_rfl) (by kernel_rfl) (by kernel_rfl) (fun _ _ _ h => h) (Or.inl ⟨by rfl, ?_⟩) (by assumption) ?_
                rotate_left 1
                · intro wS hSw; (try dsimp only at hSw); go_simp
                  all_goals with_reducible rfl
                try simp only [Act.put, List.getElem_toArray, List.getElem_cons_succ, List.getElem_cons_zero, List.setIfInBounds_toArray, List.set_cons_zero, List.set_cons_succ]
                refine wpAnyH_take (i := 35) (v := ?_) rfl (by kernel_rfl) (by kernel_rfl) (by kernel_rfl) (fun _ _ _ h => h) (Or.inl ⟨by rfl, ?_⟩) (by assumption) ?_
                rotate_left 1
                · intro wS hSw; (try dsimp only at hSw); go_simp
                  all_goals with_reducible rfl
                try simp only [Act.put, List.getElem_toArray, List.getElem_cons_succ, List.getElem_cons_zero, List.setIfInBounds_toArray, List.set_cons_zero, List.set_cons_succ]
                refine wpAnyH_take (i := 36) (v := undef) rfl (by kernel_rfl) (by kernel_rfl) (by kernel_rfl) (fun _ _ _ h => h) (Or.inr ⟨by rfl, rfl⟩) (by assumption) ?_
                try simp only [Act.put, List.getElem_toArray, List.getElem_cons_succ, List.getElem_cons_zero, List.setIfInBounds_toArray, List.set_cons_zero, List.set_cons_succ]
                refine wpAnyH_take (i := 37) (v := undef) rfl (by kernel_rfl) (by kernel_rfl) (by kernel_rfl) (fun _ _ _ h => h) (Or.inr ⟨by rfl, rfl⟩) (by assumption) ?_
                try simp only [Act.put, List.getElem_toArray, List.getElem_cons_succ, List.getElem_cons_zero, List.setIfInBounds_toArray, List.set_cons_zero, List.set_cons_succ]
                refine wpAnyH_take (i := 38) (v := undef) rfl (by kernel_rfl) (by kernel_rfl) (by kernel_rfl) (fun _ _ _ h => h) (Or.inr ⟨by rfl, rfl⟩) (by assumption) ?_
                try simp only [Act.put, List.getElem_toArray, List.getElem_cons_succ, List.getElem_cons_zero, List.setIfInBounds_toArray, List.set_cons_zero, List.set_cons_succ]
                refine wpAnyH_take (i := 39) (v := undef) rfl (by kernel_rfl) (by kernel_rfl) (by kernel_rfl) (fun _ _ _ h => h) (Or.inr ⟨by rfl, rfl⟩) (by assumption) ?_
                try simp only [Act.put, List.getElem_toArray, List.getElem_cons_succ, List.getElem_cons_zero, List.setIfInBounds_toArray, List.set_cons_zero, List.set_cons_succ]
                refine wpAnyH_take (i := 40) (v := undef) rfl (by kernel_rfl) (by kernel_rfl) (by kernel_rfl) (fun _ _ _ h => h) (Or.inr ⟨by rfl, rfl⟩) (by assumption) ?_
                try simp only [Act.put, List.getElem_toArray, List.getElem_cons_succ, List.getElem_cons_zero, List.setIfInBounds_toArray, List.set_cons_zero, List.set_cons_succ]
                refine wpAnyH_take (i := 41) (v := undef) rfl (by kernel_rfl) (by kernel_rfl) (by kernel_rfl) (fun _ _ _ h => h) (Or.inr ⟨by rfl, rfl⟩) (by assumption) ?_
                try simp only [Act.put, List.getElem_toArray, List.getElem_cons_succ, List.getElem_cons_zero, List.setIfInBounds_toArray, List.set_cons_zero, List.set_cons_succ]
                refine wpAnyH_take (i := 42) (v := undef) rfl (by kernel_rfl) (by kernel_rfl) (by kernel_rfl) (fun _ _ _ h => h) (Or.inr ⟨by rfl, rfl⟩) (by assumption) ?_
                try simp only [Act.put, List.getElem_toArray, List.getElem_cons_succ, List.getElem_cons_zero, List.setIfInBounds_toArray, List.set_cons_zero, List.set_cons_succ]
                refine wpAnyH_take (i := 43) (v := ?_) rfl (by kernel_rfl) (by kernel_rfl) (by kernel_rfl) (fun _ _ _ h => h) (Or.inl ⟨by rfl, ?_⟩) (by assumption) ?_
                rotate_left 1
                · intro wS hSw; (try dsimp only at hSw); go_simp
                  all_goals with_reducible rfl
                try simp only [Act.put, List.getElem_toArray, List.getElem_cons_succ, List.getElem_cons_zero, List.setIfInBounds_toArray, List.set_cons_zero, List.set_cons_succ]
                refine wpAnyH_take (i := 44) (v := ?_) rfl (by kernel_rfl) (by kernel_rfl) (by kernel_rfl) (fun _ _ _ h => h) (Or.inl ⟨by rfl, ?_⟩) (by assumption) ?_
                rotate_left 1
                · intro wS hSw; (try dsimp only at hSw); go_simp
                  all_goals with_reducible rfl
                try simp only [Act.put, List.getElem_toArray, List.getElem_cons_succ, List.getElem_cons_zero, List.setIfInBounds_toArray, List.set_cons_zero, List.set_cons_succ]
                refine wpAnyH_take (i := 45) (v := undef) rfl (by kernel_rfl) (by kernel_rfl) (by kernel_rfl) (fun _ _ _ h => h) (Or.inr ⟨by rfl, rfl⟩) (by assumption) ?_
                try simp only [Act.put, List.getElem_toArray, List.getElem_cons_succ, List.getElem_cons_zero, List.setIfInBounds_toArray, List.set_cons_zero, List.set_cons_succ]
                refine wpAnyH_take (i := 46) (v := undef) rfl (by kernel_rfl) (by kernel_rfl) (by kernel_rfl) (fun _ _ _ h => h) (Or.inr ⟨by rfl, rfl⟩) (by assumption) ?_
                try simp only [Act.put, List.getElem_toArray, List.getElem_cons_succ, List.getElem_cons_zero, List.setIfInBounds_toArray, List.set_cons_zero, List.set_cons_succ]
                refine wpAnyH_take (i := 47) (v := undef) rfl (by kernel_rfl) (by kernel_rfl) (by kernel_rfl) (fun _ _ _ h => h) (Or.inr ⟨by rfl, rfl⟩) (by assumption) ?_
                try simp only [Act.put, List.getElem_toArray, List.getElem_cons_succ, List.getElem_cons_zero, List.setIfInBounds_toArray, List.set_cons_zero, List.set_cons_succ]
                refine wpAnyH_take (i := 48) (v := undef) rfl (by kernel_rfl) (by kernel_rfl) (by kernel_rfl) (fun _ _ _ h => h) (Or.inr ⟨by rfl, rfl⟩) (by assumption) ?_
                try simp only [Act.put, List.getElem_toArray, List.getElem_cons_succ, List.getElem_cons_zero, List.setIfInBounds_toArray, List.set_cons_zero, List.set_cons_succ]
                refine wpAnyH_take (i := 49) (v := undef) rfl (by kernel_rfl) (by kernel_rfl) (by kernel_rfl) (fun _ _ _ h => h) (Or.inr ⟨by rfl, rfl⟩) (by assumption) ?_
                try simp only [Act.put, List.getElem_toArray, List.getElem_cons_succ, List.getElem_cons_zero, List.setIfInBounds_toArray, List.set_cons_zero, List.set_cons_succ]
                refine wpAnyH_take (i := 50) (v := undef) rfl (by kernel_rfl) (by kernel_rfl) (by kernel_rfl) (fun _ _ _ h => h) (Or.inr ⟨by rfl, rfl⟩) (by assumption) ?_
                try simp only [Act.put, List.getElem_toArray, List.getElem_cons_succ, List.getElem_cons_zero, List.setIfInBounds_toArray, List.set_cons_zero, List.set_cons_succ]
                refine wpAnyH_take (i := 51) (v := ?_) rfl (by kernel_rfl) (by kernel_rfl) (by kernel_rfl) (fun _ _ _ h => h) (Or.inl ⟨by rfl, ?_⟩) (by assumption) ?_
                rotate_left 1
                · intro wS hSw; (try dsimp only at hSw); go_simp
                  all_goals with_reducible rfl
                try simp only [Act.put, List.getElem_toArray, List.getElem_cons_succ, List.getElem_cons_zero, List.setIfInBounds_toArray, List.set_cons_zero, List.set_cons_succ]
                refine wpAnyH_take (i := 52) (v := ?_) rfl (by kernel_rfl) (by kernel_rfl) (by kernel_rfl) (fun _ _ _ h => h) (Or.inl ⟨by rfl, ?_⟩) (by assumption) ?_
                rotate_left 1
                · intro wS hSw; (try dsimp only at hSw); go_simp
                  all_goals with_reducible rfl
                try simp only [Act.put, List.getElem_toArray, List.getElem_cons_succ, List.getElem_cons_zero, List.setIfInBounds_toArray, List.set_cons_zero, List.set_cons_succ]
                refine wpAnyH_done (by kernel_rfl) ?_ _
                go_wp2_with fail
                go_meet
                exact ⟨rfl, v2⟩
              obtain ⟨p, rfl⟩ : ∃ p, k = p + 1 := ⟨k - 1, by omega⟩
              obtain ⟨b1', f1', hA, hb1', hcx⟩ := hRl'.tok (i := p) (by omega)
              injection hA with hA
              injection hA with hA1 hA2
              subst hA1 hA2
              obtain ⟨Au, cu, -, u0, -, -, -⟩ := hcx (by omega)
              clear hcx
              generalize TT[p] = u at *
              have hd1 : decide ((0 : Int) < (p : Int) + 1) = true := by first | (simp; done) | (simp; omega)
              have hd2 : (0 : Int) < (p : Int) + 1 := by omega
              have hp0 : (0 : Int) ≤ (p : Int) := by omega
              have hp8 : (0 : Int) ≤ (p : Int) + 1 := by omega
              have hp9 : (p : Int) + 1 < (TT.length : Int) := by omega
              have hp1 : (p : Int) < (TT.length : Int) := by omega
              have hw1 : IntKind.i64.wrap ((p : Int) + 1 - 1) = (p : Int) := by rw [IntKind.wrap_i64]; omega
              have hw2 : IntKind.i64.wrap (p : Int) = (p : Int) := by rw [IntKind.wrap_i64]; omega
              have hS : Hid (∀ W : World, Below wr.heap.size wr W → (W.cell? ⟨b1, f1 + (p + 1) * 4, none⟩ = some (.int .i64 t.kind) ∧ W.cell? ⟨b1, f1 + (p + 1) * 4 + 1, none⟩ = some (.string t.name) ∧ W.cell? ⟨b1, f1 + (p + 1) * 4 + 2, none⟩ = some (.slice Aa t.attrs.length ca) ∧ W.cell? ⟨b1, f1 + (p + 1) * 4 + 3, none⟩ = some (.string t.text) ∧ W.cell? ⟨b2, f2 + (p + 1) * 4, none⟩ = some (.int .i64 t.kind) ∧ W.cell? ⟨b2, f2 + (p + 1) * 4 + 1, none⟩ = some (.string t.name) ∧ W.cell? ⟨b2, f2 + (p + 1) * 4 + 2, none⟩ = some (.slice Ab t.attrs.length cb) ∧ W.cell? ⟨b2, f2 + (p + 1) * 4 + 3, none⟩ = some (.string t.text) ∧ W.cell? ⟨b1, f1 + p * 4, none⟩ = some (.int .i64 u.kind))) := Lib.hid fun W hW => ⟨(hW.cell (p := ⟨b1, _, none⟩) hb1).trans g0, (hW.cell (p := ⟨b1, _, none⟩) hb1).trans g1, (hW.cell (p := ⟨b1, _, none⟩) hb1).trans g2, (hW.cell (p := ⟨b1, _, none⟩) hb1).trans g3, (hW.cell (p := ⟨b2, _, none⟩) hb2).trans d0, (hW.cell (p := ⟨b2, _, none⟩) hb2).trans d1, (hW.cell (p := ⟨b2, _, none⟩) hb2).trans d2, (hW.cell (p := ⟨b2, _, none⟩) hb2).trans d3, (hW.cell (p := ⟨b1, _, none⟩) hb1).trans u0⟩
              by_cases hk3 : t.kind = 3
              · obtain ⟨x1, x2⟩ := htx2.out hk3
                have hk3b : (t.kind == 3) = true := by simpa using hk3
                by_cases hu3 : u.kind = 3
                · have hu3b : (u.kind == 3) = true := by simpa using hu3
                  clear hk3 hu3 htx2
                  refine wp_region_held_drew (S := fun v : World => v.cell? ⟨b1, f1 + (p + 1) * 4, none⟩ = some (.int .i64 t.kind) ∧ v.cell? ⟨b1, f1 + (p + 1) * 4 + 1, none⟩ = some (.string t.name) ∧ v.cell? ⟨b1, f1 + (p + 1) * 4 + 2, none⟩ = some (.slice Aa t.attrs.length ca) ∧ v.cell? ⟨b1, f1 + (p + 1) * 4 + 3, none⟩ = some (.string t.text) ∧ v.cell? ⟨b2, f2 + (p + 1) * 4, none⟩ = some (.int .i64 t.kind) ∧ v.cell? ⟨b2, f2 + (p + 1) * 4 + 1, none⟩ = some (.string t.name) ∧ v.cell? ⟨b2, f2 + (p + 1) * 4 + 2, none⟩ = some (.slice Ab t.attrs.length cb) ∧ v.cell? ⟨b2, f2 + (p + 1) * 4 + 3, none⟩ = some (.string t.text) ∧ v.cell? ⟨b1, f1 + p * 4, none⟩ = some (.int .i64 u.kind)) (by kernel_rfl) (hS.out _ (Below.refl _ _).drew) ?_
                  intro hSd
                  try simp only [List.replicate, Array.replicate]
                  refine wpAnyH_take (i := 0) (v := ?_) rfl (by kernel_rfl) (by kernel_rfl) (by kernel_rfl) (fun _ _ _ h => h) (Or.inl ⟨by rfl, ?_⟩) (by assumption) ?_
                  rotate_left 1
                  · intro wS hSw; (try dsimp only at hSw); go_simp
                    all_goals with_reducible rfl
                  try simp only [Act.put, List.getElem_toArray, List.getElem_cons_succ, List.getElem_cons_zero, List.setIfInBounds_toArray, List.set_cons_zero, List.set_cons_succ]
                  refine wpAnyH_take (i := 1) (v := ?_) rfl (by kernel_rfl) (by kernel_rfl) (by kernel_rfl) (fun _ _ _ h => h) (Or.inl ⟨by rfl, ?_⟩) (by assumption) ?_
                  rotate_left 1
                  · intro wS hSw; (try dsimp only at hSw); go_simp
                    all_goals with_reducible rfl
                  try simp only [Act.put, List.getElem_toArray, List.getElem_cons_succ, List.getElem_cons_zero, List.setIfInBounds_toArray, List.set_cons_zero, List.set_cons_succ]
                  refine wpAnyH_take (i := 2) (v := ?_) rfl (by kernel_rfl) (by kernel_rfl) (by kernel_rfl) (fun _ _ _ h => h) (Or.inl ⟨by rfl, ?_⟩) (by assumption) ?_
                  rotate_left 1
                  · intro wS hSw; (try dsimp only at hSw); go_simp
                    all_goals with_reducible rfl
                  try simp only [Act.put, List.getElem_toArray, List.getElem_cons_succ, List.getElem_cons_zero, List.setIfInBounds_toArray, List.set_cons_zero, List.set_cons_succ]
                  refine wpAnyH_take (i := 3) (v := ?_) rfl (by kernel_rfl) (by kernel_rfl) (by kernel_rfl) (fun _ _ _ h => h) (Or.inl ⟨by rfl, ?_⟩) (by assumption) ?_
                  rotate_left 1
                  · intro wS hSw; (try dsimp only at hSw); go_simp
                    all_goals with_reducible rfl
                  try simp only [Act.put, List.getElem_toArray, List.getElem_cons_succ, List.getElem_cons_zero, List.setIfInBounds_toArray, List.set_cons_zero, List.set_cons_succ]
                  refine wpAnyH_take (i := 5) (v := ?_) rfl (by kernel_rfl) (by kernel_rfl) (by kernel_rfl) (fun _ _ _ h => h) (Or.inl ⟨by rfl, ?_⟩) (by assumption) ?_
                  rotate_left 1
                  · intro wS hSw; (try dsimp only at hSw); go_simp
                    all_goals with_reducible rfl
                  try simp only [Act.put, List.getElem_toArray, List.getElem_cons_succ, List.getElem_cons_zero, List.setIfInBounds_toArray, List.set_cons_zero, List.set_cons_succ]
                  refine wpAnyH_take (i := 6) (v := ?_) rfl (by kernel_rfl) (by kernel_rfl) (by kernel_rfl) (fun _ _ _ h => h) (Or.inl ⟨by rfl, ?_⟩) (by assumption) ?_
                  rotate_left 1
                  · intro wS hSw; (try dsimp only at hSw); go_simp
                    all_goals with_reducible rfl
                  try simp only [Act.put, List.getElem_toArray, List.getElem_cons_succ, List.getElem_cons_zero, List.setIfInBounds_toArray, List.set_cons_zero, List.set_cons_succ]
                  refine wpAnyH_take (i := 7) (v := ?_) rfl (by kernel_rfl) (by kernel_rfl) (by kernel_rfl) (fun _ _ _ h => h) (Or.inl ⟨by rfl, ?_⟩) (by assumption) ?_
                  rotate_left 1
                  · intro wS hSw; (try dsimp only at hSw); go_simp
                    all_goals with_reducible rfl
                  try simp only [Act.put, List.getElem_toArray, List.getElem_cons_succ, List.getElem_cons_zero, List.setIfInBounds_toArray, List.set_cons_zero, List.set_cons_succ]
                  refine wpAnyH_take (i := 8) (v := ?_) rfl (by kernel_rfl) (by kernel_rfl) (by kernel_rfl) (fun _ _ _ h => h) (Or.inl ⟨by rfl, ?_⟩) (by assumption) ?_
                  rotate_left 1
                  · intro wS hSw; (try dsimp only at hSw); go_simp
                    all_goals with_reducible rfl
                  try simp only [Act.put, List.getElem_toArray, List.getElem_cons_succ, List.getElem_cons_zero, List.setIfInBounds_toArray, List.set_cons_zero, List.set_cons_succ]
                  refine wpAnyH_ready (rs := [4]) (by kernel_rfl) (by simp) ?_
                  refine AllReadyH.cons rfl (fun K hK => ?_) AllReadyH.nil
                  go_simp
                  refine (hcall.out _ _ _ (by first | exact hra | exact hra.drew)).mono ?_
                  rintro e w1' ⟨rfl, b1⟩
                  have v1 : Below wr.heap.size wr w1' := by first | exact (Below.refl _ wr).drew.trans b1 | exact b1
                  refine hK.out _ _ (hS.out _ v1) (fun hSe1 => ?_)
                  clear hK K
                  try simp only [Act.put, List.getElem_toArray, List.getElem_cons_succ, List.getElem_cons_zero, List.setIfInBounds_toArray, List.set_cons_zero, List.set_cons_succ]
                  refine wpAnyH_ready (rs := [9]) (by kernel_rfl) (by simp) ?_
                  refine AllReadyH.cons rfl (fun K hK => ?_) AllReadyH.nil
                  go_simp
                  refine (hcall.out _ _ _ ((hrb.below v1).more v1.size)).mono ?_
                  rintro e w2' ⟨rfl, b2⟩
                  have v2 : Below wr.heap.size wr w2' := v1.trans (b2.mono v1.size)
                  refine hK.out _ _ (hS.out _ v2) (fun hSe2 => ?_)
                  clear hK K
                  try simp only [Act.put, List.getElem_toArray, List.getElem_cons_succ, List.getElem_cons_zero, List.setIfInBounds_toArray, List.set_cons_zero, List.set_cons_succ]
                  refine wpAnyH_take (i := 10) (v := ?_) rfl (by kernel_rfl) (by kernel_rfl) (by kernel_rfl) (fun _ _ _ h => h) (Or.inl ⟨by rfl, ?_⟩) (by assumption) ?_
                  rotate_left 1
                  · intro wS hSw; (try dsimp only at hSw); go_simp
                    all_goals with_reducible rfl
                  try simp only [Act.put, List.getElem_toArray, List.getElem_cons_succ, List.getElem_cons_zero, List.setIfInBounds_toArray, List.set_cons_zero, List.set_cons_succ]
                  refine wpAnyH_take (i := 11) (v := ?_) rfl (by kernel_rfl) (by kernel_rfl) (by kernel_rfl) (fun _ _ _ h => h) (Or.inl ⟨by rfl, ?_⟩) (by assumption) ?_
                  rotate_left 1
                  · intro wS hSw; (try dsimp only at hSw); go_simp
                    all_goals with_reducible rfl
                  try simp only [Act.put, List.getElem_toArray, List.getElem_cons_succ, List.getElem_cons_zero, List.setIfInBounds_toArray, List.set_cons_zero, List.set_cons_succ]
                  refine wpAnyH_take (i := 12) (v := ?_) rfl (by kernel_rfl) (by kernel_rfl) (by kernel_rfl) (fun _ _ _ h => h) (Or.inl ⟨by rfl, ?_⟩) (by assumption) ?_
                  rotate_left 1
                  · intro wS hSw; (try dsimp only at hSw); go_simp
                    all_goals with_reducible rfl
                  try simp only [Act.put, List.getElem_toArray, List.getElem_cons_succ, List.getElem_cons_zero, List.setIfInBounds_toArray, List.set_cons_zero, List.set_cons_succ]
                  refine wpAnyH_take (i := 13) (v := ?_) rfl (by kernel_rfl) (by kernel_rfl) (by kernel_rfl) (fun _ _ _ h => h) (Or.inl ⟨by rfl, ?_⟩) (by assumption) ?_
                  rotate_left 1
                  · intro wS hSw; (try dsimp only at hSw); go_simp
                    all_goals with_reducible rfl
                  try simp only [Act.put, List.getElem_toArray, List.getElem_cons_succ, List.getElem_cons_zero, List.setIfInBounds_toArray, List.set_cons_zero, List.set_cons_succ]
                  refine wpAnyH_take (i := 14) (v := ?_) rfl (by kernel_rfl) (by kernel_rfl) (by kernel_rfl) (fun _ _ _ h => h) (Or.inl ⟨by rfl, ?_⟩) (by assumption) ?_
                  rotate_left 1
                  · intro wS hSw; (try dsimp only at hSw); go_simp
                    all_goals with_reducible rfl
                  try simp only [Act.put, List.getElem_toArray, List.getElem_cons_succ, List.getElem_cons_zero, List.setIfInBounds_toArray, List.set_cons_zero, List.set_cons_succ]
                  refine wpAnyH_take (i := 15) (v := ?_) rfl (by kernel_rfl) (by kernel_rfl) (by kernel_rfl) (fun _ _ _ h => h) (Or.inl ⟨by rfl, ?_⟩) (by assumption) ?_
                  rotate_left 1
                  · intro wS hSw; (try dsimp only at hSw); go_simp
                    all_goals with_reducible rfl
                  try simp only [Act.put, List.getElem_toArray, List.getElem_cons_succ, List.getElem_cons_zero, List.setIfInBounds_toArray, List.set_cons_zero, List.set_cons_succ]
                  refine wpAnyH_take (i := 16) (v := ?_) rfl (by kernel_rfl) (by kernel_rfl) (by kernel_rfl) (fun _ _ _ h => h) (Or.inl ⟨by rfl, ?_⟩) (by assumption) ?_
                  rotate_left 1
                  · intro wS hSw; (try dsimp only at hSw); go_simp
                    all_goals with_reducible rfl
                  try simp only [Act.put, List.getElem_toArray, List.getElem_cons_succ, List.getElem_cons_zero, List.setIfInBounds_toArray, List.set_cons_zero, List.set_cons_succ]
                  refine wpAnyH_take (i := 17) (v := ?_) rfl (by kernel_rfl) (by kernel_rfl) (by kernel_rfl) (fun _ _ _ h => h) (Or.inl ⟨by rfl, ?_⟩) (by assumption) ?_
                  rotate_left 1
                  · intro wS hSw; (try dsimp only at hSw); go_simp
                    all_goals with_reducible rfl
                  try simp only [Act.put, List.getElem_toArray, List.getElem_cons_succ, List.getElem_cons_zero, List.setIfInBounds_toArray, List.set_cons_zero, List.set_cons_succ]
                  refine wpAnyH_take (i := 18) (v := ?_) rfl (by kernel_rfl) (by kernel_rfl) (by kernel_rfl) (fun _ _ _ h => h) (Or.inl ⟨by rfl, ?_⟩) (by assumption) ?_
                  rotate_left 1
                  · intro wS hSw; (try dsimp only at hSw); go_simp
                    all_goals with_reducible rfl
                  try simp only [Act.put, List.getElem_toArray, List.getElem_cons_succ, List.getElem_cons_zero, List.setIfInBounds_toArray, List.set_cons_zero, List.set_cons_succ]
                  refine wpAnyH_take (i := 19) (v := ?_) rfl (by kernel_rfl) (by kernel_rfl) (by kernel_rfl) (fun _ _ _ h => h) (Or.inl ⟨by rfl, ?_⟩) (by assumption) ?_
                  rotate_left 1
                  · intro wS hSw; (try dsimp only at hSw); go_simp
                    all_goals with_reducible rfl
                  try simp only [Act.put, List.getElem_toArray, List.getElem_cons_succ, List.getElem_cons_zero, List.setIfInBounds_toArray, List.set_cons_zero, List.set_cons_succ]
                  refine wpAnyH_take (i := 20) (v := ?_) rfl (by kernel_rfl) (by kernel_rfl) (by kernel_rfl) (fun _ _ _ h => h) (Or.inl ⟨by rfl, ?_⟩) (by assumption) ?_
                  rotate_left 1
                  · intro wS hSw; (try dsimp only at hSw); go_simp
                    all_goals with_reducible rfl
                  try simp only [Act.put, List.getElem_toArray, List.getElem_cons_succ, List.getElem_cons_zero, List.setIfInBounds_toArray, List.set_cons_zero, List.set_cons_succ]
                  refine wpAnyH_take (i := 21) (v := ?_) rfl (by kernel_rfl) (by kernel_rfl) (by kernel_rfl) (fun _ _ _ h => h) (Or.inl ⟨by rfl, ?_⟩) (by assumption) ?_
                  rotate_left 1
                  · intro wS hSw; (try dsimp only at hSw); go_simp
                    all_goals with_reducible rfl
                  try simp only [Act.put, List.getElem_toArray, List.getElem_cons_succ, List.getElem_cons_zero, List.setIfInBounds_toArray, List.set_cons_zero, List.set_cons_succ]
                  refine wpAnyH_take (i := 22) (v := ?_) rfl (by kernel_rfl) (by kernel_rfl) (by kernel_rfl) (fun _ _ _ h => h) (Or.inl ⟨by rfl, ?_⟩) (by assumption) ?_
                  rotate_left 1
                  · intro wS hSw; (try dsimp only at hSw); go_simp
                    all_goals with_reducible rfl
                  try simp only [Act.put, List.getElem_toArray, List.getElem_cons_succ, List.getElem_cons_zero, List.setIfInBounds_toArray, List.set_cons_zero, List.set_cons_succ]
                  refine wpAnyH_take (i := 23) (v := ?_) rfl (by kernel_rfl) (by kernel_rfl) (by kernel_rfl) (fun _ _ _ h => h) (Or.inl ⟨by rfl, ?_⟩) (by assumption) ?_
                  rotate_left 1
                  · intro wS hSw; (try dsimp only at hSw); go_simp
                    all_goals with_reducible rfl
                  try simp only [Act.put, List.getElem_toArray, List.getElem_cons_succ, List.getElem_cons_zero, List.setIfInBounds_toArray, List.set_cons_zero, List.set_cons_succ]
                  refine wpAnyH_take (i := 24) (v := ?_) rfl (by kernel_rfl) (by kernel_rfl) (by kernel_rfl) (fun _ _ _ h => h) (Or.inl ⟨by rfl, ?_⟩) (by assumption) ?_
                  rotate_left 1
                  · intro wS hSw; (try dsimp only at hSw); go_simp
                    all_goals with_reducible rfl
                  try simp only [Act.put, List.getElem_toArray, List.getElem_cons_succ, List.getElem_cons_zero, List.setIfInBounds_toArray, List.set_cons_zero, List.set_cons_succ]
                  refine wpAnyH_take (i := 25) (v := ?_) rfl (by kernel_rfl) (by kernel_rfl) (by kernel_rfl) (fun _ _ _ h => h) (Or.inl ⟨by rfl, ?_⟩) (by assumption) ?_
                  rotate_left 1
                  · intro wS hSw; (try dsimp only at hSw); go_simp
                    all_goals with_reducible rfl
                  try simp only [Act.put, List.getElem_toArray, List.getElem_cons_succ, List.getElem_cons_zero, List.setIfInBounds_toArray, List.set_cons_zero, List.set_cons_succ]
                  refine wpAnyH_take (i := 26) (v := ?_) rfl (by kernel_rfl) (by kernel_rfl) (by kernel_rfl) (fun _ _ _ h => h) (Or.inl ⟨by rfl, ?_⟩) (by assumption) ?_
                  rotate_left 1
                  · intro wS hSw; (try dsimp only at hSw); go_simp
                    all_goals with_reducible rfl
                  try simp only [Act.put, List.getElem_toArray, List.getElem_cons_succ, List.getElem_cons_zero, List.setIfInBounds_toArray, List.set_cons_zero, List.set_cons_succ]
                  refine wpAnyH_take (i := 27) (v := ?_) rfl (by kernel_rfl) (by kernel_rfl) (by kernel_rfl) (fun _ _ _ h => h) (Or.inl ⟨by rfl, ?_⟩) (by assumption) ?_
                  rotate_left 1
                  · intro wS hSw; (try dsimp only at hSw); go_simp
                    all_goals with_reducible rfl
                  try simp only [Act.put, List.getElem_toArray, List.getElem_cons_succ, List.getElem_cons_zero, List.setIfInBounds_toArray, List.set_cons_zero, List.set_cons_succ]
                  refine wpAnyH_take (i := 28) (v := ?_) rfl (by kernel_rfl) (by kernel_rfl) (by kernel_rfl) (fun _ _ _ h => h) (Or.inl ⟨by rfl, ?_⟩) (by assumption) ?_
                  rotate_left 1
                  · intro wS hSw; (try dsimp only at hSw); go_simp
                    all_goals with_reducible rfl
                  try simp only [Act.put, List.getElem_toArray, List.getElem_cons_succ, List.getElem_cons_zero, List.setIfInBounds_toArray, List.set_cons_zero, List.set_cons_succ]
                  refine wpAnyH_take (i := 29) (v := ?_) rfl (by kernel_rfl) (by kernel_rfl) (by kernel_rfl) (fun _ _ _ h => h) (Or.inl ⟨by rfl, ?_⟩) (by assumption) ?_
                  rotate_left 1
                  · intro wS hSw; (try dsimp only at hSw); go_simp
                    all_goals with_reducible rfl
                  try simp only [Act.put, List.getElem_toArray, List.getElem_cons_succ, List.getElem_cons_zero, List.setIfInBounds_toArray, List.set_cons_zero, List.set_cons_succ]
                  refine wpAnyH_take (i := 30) (v := ?_) rfl (by kernel_rfl) (by kernel_rfl) (by kernel_rfl) (fun _ _ _ h => h) (Or.inl ⟨by rfl, ?_⟩) (by assumption) ?_
                  rotate_left 1
                  · intro wS hSw; (try dsimp only at hSw); go_simp
                    all_goals with_reducible rfl
                  try simp only [Act.put, List.getElem_toArray, List.getElem_cons_succ, List.getElem_cons_zero, List.setIfInBounds_toArray, List.set_cons_zero, List.set_cons_succ]
                  refine wpAnyH_take (i := 31) (v := ?_) rfl (by kernel_rfl) (by kernel_rfl) (by kernel_rfl) (fun _ _ _ h => h) (Or.inl ⟨by rfl, ?_⟩) (by assumption) ?_
                  rotate_left 1
                  · intro wS hSw; (try dsimp only at hSw); go_simp
                    all_goals with_reducible rfl
                  try simp only [Act.put, List.getElem_toArray, List.getElem_cons_succ, List.getElem_cons_zero, List.setIfInBounds_toArray, List.set_cons_zero, List.set_cons_succ]
                  refine wpAnyH_take (i := 32) (v := ?_) rfl (by kernel_rfl) (by kernel_rfl) (by kernel_rfl) (fun _ _ _ h => h) (Or.inl ⟨by rfl, ?_⟩) (by assumption) ?_
                  rotate_left 1
                  · intro wS hSw; (try dsimp only at hSw); go_simp
                    all_goals with_reducible rfl
                  try simp only [Act.put, List.getElem_toArray, List.getElem_cons_succ, List.getElem_cons_zero, List.setIfInBounds_toArray, List.set_cons_zero, List.set_cons_succ]
                  refine wpAnyH_take (i := 33) (v := ?_) rfl (by kernel_rfl) (by kernel_rfl) (by kernel_rfl) (fun _ _ _ h => h) (Or.inl ⟨by rfl, ?_⟩) (by assumption) ?_
                  rotate_left 1
                  · intro wS hSw; (try dsimp only at hSw); go_simp
                    all_goals with_reducible rfl
                  try simp only [Act.put, List.getElem_toArray, List.getElem_cons_succ, List.getElem_cons_zero, List.setIfInBounds_toArray, List.set_cons_zero, List.set_cons_succ]
                  refine wpAnyH_take (i := 34) (v := ?_) rfl (by kernel_rfl) (by kernel_rfl) (by kernel_rfl) (fun _ _ _ h => h) (Or.inl ⟨by rfl, ?_⟩) (by assumption) ?_
                  rotate_left 1
                  · intro wS hSw; (try dsimp only at hSw); go_simp
                    all_goals with_reducible rfl
                  try simp only [Act.put, List.getElem_toArray, List.getElem_cons_succ, List.getElem_cons_zero, List.setIfInBounds_toArray, List.set_cons_zero, List.set_cons_succ]
                  refine wpAnyH_take (i := 35) (v := ?_) rfl (by kernel_rfl) (by kernel_rfl) (by kernel_rfl) (fun _ _ _ h => h) (Or.inl ⟨by rfl, ?_⟩) (by assumption) ?_
                  rotate_left 1
                  · intro wS hSw; (try dsimp only at hSw); go_simp
                    all_goals with_reducible rfl
                  try simp only [Act.put, List.getElem_toArray, List.getElem_cons_succ, List.getElem_cons_zero, List.setIfInBounds_toArray, List.set_cons_zero, List.set_cons_succ]
                  refine wpAnyH_take (i := 36) (v := ?_) rfl (by kernel_rfl) (by kernel_rfl) (by kernel_rfl) (fun _ _ _ h => h) (Or.inl ⟨by rfl, ?_⟩) (by assumption) ?_
                  rotate_left 1
                  · intro wS hSw; (try dsimp only at hSw); go_simp
                    all_goals with_reducible rfl
                  try simp only [Act.put, List.getElem_toArray, List.getElem_cons_succ, List.getElem_cons_zero, List.setIfInBounds_toArray, List.set_cons_zero, List.set_cons_succ]
                  refine wpAnyH_take (i := 37) (v := ?_) rfl (by kernel_rfl) (by kernel_rfl) (by kernel_rfl) (fun _ _ _ h => h) (Or.inl ⟨by rfl, ?_⟩) (by assumption) ?_
                  rotate_left 1
                  · intro wS hSw; (try dsimp only at hSw); go_simp
                    all_goals with_reducible rfl
                  try simp only [Act.put, List.getElem_toArray, List.getElem_cons_succ, List.getElem_cons_zero, List.setIfInBounds_toArray, List.set_cons_zero, List.set_cons_succ]
                  refine wpAnyH_take (i := 38) (v := ?_) rfl (by kernel_rfl) (by kernel_rfl) (by kernel_rfl) (fun _ _ _ h => h) (Or.inl ⟨by rfl, ?_⟩) (by assumption) ?_
                  rotate_left 1
                  · intro wS hSw; (try dsimp only at hSw); go_simp
                    all_goals with_reducible rfl
                  try simp only [Act.put, List.getElem_toArray, List.getElem_cons_succ, List.getElem_cons_zero, List.setIfInBounds_toArray, List.set_cons_zero, List.set_cons_succ]
                  refine wpAnyH_take (i := 39) (v := ?_) rfl (by kernel_rfl) (by kernel_rfl) (by kernel_rfl) (fun _ _ _ h => h) (Or.inl ⟨by rfl, ?_⟩) (by assumption) ?_
                  rotate_left 1
                  · intro wS hSw; (try dsimp only at hSw); go_simp
                    all_goals with_reducible rfl
                  try simp only [Act.put, List.getElem_toArray, List.getElem_cons_succ, List.getElem_cons_zero, List.setIfInBounds_toArray, List.set_cons_zero, List.set_cons_succ]
                  refine wpAnyH_take (i := 40) (v := ?_) rfl (by kernel_rfl) (by kernel_rfl) (by kernel_rfl) (fun _ _ _ h => h) (Or.inl ⟨by rfl, ?_⟩) (by assumption) ?_
                  rotate_left 1
                  · intro wS hSw; (try dsimp only at hSw); go_simp
                    all_goals with_reducible rfl
                  try simp only [Act.put, List.getElem_toArray, List.getElem_cons_succ, List.getElem_cons_zero, List.setIfInBounds_toArray, List.set_cons_zero, List.set_cons_succ]
                  refine wpAnyH_take (i := 41) (v := ?_) rfl (by kernel_rfl) (by kernel_rfl) (by kernel_rfl) (fun _ _ _ h => h) (Or.inl ⟨by rfl, ?_⟩) (by assumption) ?_
                  rotate_left 1
                  · intro wS hSw; (try dsimp only at hSw); go_simp
                    all_goals with_reducible rfl
                  try simp only [Act.put, List.getElem_toArray, List.getElem_cons_succ, List.getElem_cons_zero, List.setIfInBounds_toArray, List.set_cons_zero, List.set_cons_succ]
                  refine wpAnyH_take (i := 42) (v := ?_) rfl (by kernel_rfl) (by kernel_rfl) (by kernel_rfl) (fun _ _ _ h => h) (Or.inl ⟨by rfl, ?_⟩) (by assumption) ?_
                  rotate_left 1
                  · intro wS hSw; (try dsimp only at hSw); go_simp
                    all_goals with_reducible rfl
                  try simp only [Act.put, List.getElem_toArray, List.getElem_cons_succ, List.getElem_cons_zero, List.setIfInBounds_toArray, List.set_cons_zero, List.set_cons_succ]
                  refine wpAnyH_take (i := 43) (v := ?_) rfl (by kernel_rfl) (by kernel_rfl) (by kernel_rfl) (fun _ _ _ h => h) (Or.inl ⟨by rfl, ?_⟩) (by assumption) ?_
                  rotate_left 1
                  · intro wS hSw; (try dsimp only at hSw); go_simp
                    all_goals with_reducible rfl
                  try simp only [Act.put, List.getElem_toArray, List.getElem_cons_succ, List.getElem_cons_zero, List.setIfInBounds_toArray, List.set_cons_zero, List.set_cons_succ]
                  refine wpAnyH_take (i := 44) (v := ?_) rfl (by kernel_rfl) (by kernel_rfl) (by kernel_rfl) (fun _ _ _ h => h) (Or.inl ⟨by rfl, ?_⟩) (by assumption) ?_
                  rotate_left 1
                  · intro wS hSw; (try dsimp only at hSw); go_simp
                    all_goals with_reducible rfl
                  try simp only [Act.put, List.getElem_toArray, List.getElem_cons_succ, List.getElem_cons_zero, List.setIfInBounds_toArray, List.set_cons_zero, List.set_cons_succ]
                  refine wpAnyH_take (i := 45) (v := ?_) rfl (by kernel_rfl) (by kernel_rfl) (by kernel_rfl) (fun _ _ _ h => h) (Or.inl ⟨by rfl, ?_⟩) (by assumption) ?_
                  rotate_left 1
                  · intro wS hSw; (try dsimp only at hSw); go_simp
                    all_goals with_reducible rfl
                  try simp only [Act.put, List.getElem_toArray, List.getElem_cons_succ, List.getElem_cons_zero, List.setIfInBounds_toArray, List.set_cons_zero, List.set_cons_succ]
                  refine wpAnyH_take (i := 46) (v := ?_) rfl (by kernel_rfl) (by kernel_rfl) (by kernel_rfl) (fun _ _ _ h => h) (Or.inl ⟨by rfl, ?_⟩) (by assumption) ?_
                  rotate_left 1
                  · intro wS hSw; (try dsimp only at hSw); go_simp
                    all_goals with_reducible rfl
                  try simp only [Act.put, List.getElem_toArray, List.getElem_cons_succ, List.getElem_cons_zero, List.setIfInBounds_toArray, List.set_cons_zero, List.set_cons_succ]
                  refine wpAnyH_take (i := 47) (v := ?_) rfl (by kernel_rfl) (by kernel_rfl) (by kernel_rfl) (fun _ _ _ h => h) (Or.inl ⟨by rfl, ?_⟩) (by assumption) ?_
                  rotate_left 1
                  · intro wS hSw; (try dsimp only at hSw); go_simp
                    all_goals with_reducible rfl
                  try simp only [Act.put, List.getElem_toArray, List.getElem_cons_succ, List.getElem_cons_zero, List.setIfInBounds_toArray, List.set_cons_zero, List.set_cons_succ]
                  refine wpAnyH_take (i := 48) (v := ?_) rfl (by kernel_rfl) (by kernel_rfl) (by kernel_rfl) (fun _ _ _ h => h) (Or.inl ⟨by rfl, ?_⟩) (by assumption) ?_
                  rotate_left 1
                  · intro wS hSw; (try dsimp only at hSw); go_simp
                    all_goals with_reducible rfl
                  try simp only [Act.put, List.getElem_toArray, List.getElem_cons_succ, List.getElem_cons_zero, List.setIfInBounds_toArray, List.set_cons_zero, List.set_cons_succ]
                  refine wpAnyH_ready (rs := [49]) (by kernel_rfl) (by simp) ?_
                  refine AllReadyH.cons rfl (fun K hK => ?_) AllReadyH.nil
                  go_simp
                  refine (hcall.out _ _ _ ((hra.below v2).more v2.size)).mono ?_
                  rintro e w3' ⟨rfl, b3⟩
                  have v3 : Below wr.heap.size wr w3' := v2.trans (b3.mono v2.size)
                  refine hK.out _ _ (hS.out _ v3) (fun hSe3 => ?_)
                  clear hK K
                  try simp only [Act.put, List.getElem_toArray, List.getElem_cons_succ, List.getElem_cons_zero, List.setIfInBounds_toArray, List.set_cons_zero, List.set_cons_succ]
                  refine wpAnyH_take (i := 50) (v := ?_) rfl (by kernel_rfl) (by kernel_rfl) (by kernel_rfl) (fun _ _ _ h => h) (Or.inl ⟨by rfl, ?_⟩) (by assumption) ?_
                  rotate_left 1
                  · intro wS hSw; (try dsimp only at hSw); go_simp
                    all_goals with_reducible rfl
                  try simp only [Act.put, List.getElem_toArray, List.getElem_cons_succ, List.getElem_cons_zero, List.setIfInBounds_toArray, List.set_cons_zero, List.set_cons_succ]
                  refine wpAnyH_take (i := 51) (v := ?_) rfl (by kernel_rfl) (by kernel_rfl) (by kernel_rfl) (fun _ _ _ h => h) (Or.inl ⟨by rfl, ?_⟩) (by assumption) ?_
                  rotate_left 1
                  · intro wS hSw; (try dsimp only at hSw); go_simp
                    all_goals with_reducible rfl
                  try simp only [Act.put, List.getElem_toArray, List.getElem_cons_succ, List.getElem_cons_zero, List.setIfInBounds_toArray, List.set_cons_zero, List.set_cons_succ]
                  refine wpAnyH_take (i := 52) (v := ?_) rfl (by kernel_rfl) (by kernel_rfl) (by kernel_rfl) (fun _ _ _ h => h) (Or.inl ⟨by rfl, ?_⟩) (by assumption) ?_
                  rotate_left 1
                  · intro wS hSw; (try dsimp only at hSw); go_simp
                    all_goals with_reducible rfl
                  try simp only [Act.put, List.getElem_toArray, List.getElem_cons_succ, List.getElem_cons_zero, List.setIfInBounds_toArray, List.set_cons_zero, List.set_cons_succ]
                  refine wpAnyH_done (by kernel_rfl) ?_ _
                  go_wp2_with fail
                  go_meet
                  exact ⟨rfl, v3⟩
                · have hu3b : (u.kind == 3) = false := by simpa using hu3
                  clear hk3 hu3 htx2
                  refine wp_region_held_drew (S := fun v : World => v.cell? ⟨b1, f1 + (p + 1) * 4, none⟩ = some (.int .i64 t.kind) ∧ v.cell? ⟨b1, f1 + (p + 1) * 4 + 1, none⟩ = some (.string t.name) ∧ v.cell? ⟨b1, f1 + (p + 1) * 4 + 2, none⟩ = some (.slice Aa t.attrs.length ca) ∧ v.cell? ⟨b1, f1 + (p + 1) * 4 + 3, none⟩ = some (.string t.text) ∧ v.cell? ⟨b2, f2 + (p + 1) * 4, none⟩ = some (.int .i64 t.kind) ∧ v.cell? ⟨b2, f2 + (p + 1) * 4 + 1, none⟩ = some (.string t.name) ∧ v.cell? ⟨b2, f2 + (p + 1) * 4 + 2, none⟩ = some (.slice Ab t.attrs.length cb) ∧ v.cell? ⟨b2, f2 + (p + 1) * 4 + 3, none⟩ = some (.string t.text) ∧ v.cell? ⟨b1, f1 + p * 4, none⟩ = some (.int .i64 u.kind)) (by kernel_rfl) (hS.out _ (Below.refl _ _).drew) ?_
                  intro hSd
                  try simp only [List.replicate, Array.replicate]
                  refine wpAnyH_take (i := 0) (v := ?_) rfl (by kernel_rfl) (by kernel_rfl) (by kernel_rfl) (fun _ _ _ h => h) (Or.inl ⟨by rfl, ?_⟩) (by assumption) ?_
                  rotate_left 1
                  · intro wS hSw; (try dsimp only at hSw); go_simp
                    all_goals with_reducible rfl
                  try simp only [Act.put, List.getElem_toArray, List.getElem_cons_succ, List.getElem_cons_zero, List.setIfInBounds_toArray, List.set_cons_zero, List.set_cons_succ]
                  refine wpAnyH_take (i := 1) (v := ?_) rfl (by kernel_rfl) (by kernel_rfl) (by kernel_rfl) (fun _ _ _ h => h) (Or.inl ⟨by rfl, ?_⟩) (by assumption) ?_
                  rotate_left 1
                  · intro wS hSw; (try dsimp only at hSw); go_simp
                    all_goals with_reducible rfl
                  try simp only [Act.put, List.getElem_toArray, List.getElem_cons_succ, List.getElem_cons_zero, List.setIfInBounds_toArray, List.set_cons_zero, List.set_cons_succ]
                  refine wpAnyH_take (i := 2) (v := ?_) rfl (by kernel_rfl) (by kernel_rfl) (by kernel_rfl) (fun _ _ _ h => h) (Or.inl ⟨by rfl, ?_⟩) (by assumption) ?_
                  rotate_left 1
                  · intro wS hSw; (try dsimp only at hSw); go_simp
                    all_goals with_reducible rfl
                  try simp only [Act.put, List.getElem_toArray, List.getElem_cons_succ, List.getElem_cons_zero, List.setIfInBounds_toArray, List.set_cons_zero, List.set_cons_succ]
                  refine wpAnyH_take (i := 3) (v := ?_) rfl (by kernel_rfl) (by kernel_rfl) (by kernel_rfl) (fun _ _ _ h => h) (Or.inl ⟨by rfl, ?_⟩) (by assumption) ?_
                  rotate_left 1
                  · intro wS hSw; (try dsimp only at hSw); go_simp
                    all_goals with_reducible rfl
                  try simp only [Act.put, List.getElem_toArray, List.getElem_cons_succ, List.getElem_cons_zero, List.setIfInBounds_toArray, List.set_cons_zero, List.set_cons_succ]
                  refine wpAnyH_take (i := 5) (v := ?_) rfl (by kernel_rfl) (by kernel_rfl) (by kernel_rfl) (fun _ _ _ h => h) (Or.inl ⟨by rfl, ?_⟩) (by assumption) ?_
                  rotate_left 1
                  · intro wS hSw; (try dsimp only at hSw); go_simp
                    all_goals with_reducible rfl
                  try simp only [Act.put, List.getElem_toArray, List.getElem_cons_succ, List.getElem_cons_zero, List.setIfInBounds_toArray, List.set_cons_zero, List.set_cons_succ]
                  refine wpAnyH_take (i := 6) (v := ?_) rfl (by kernel_rfl) (by kernel_rfl) (by kernel_rfl) (fun _ _ _ h => h) (Or.inl ⟨by rfl, ?_⟩) (by assumption) ?_
                  rotate_left 1
                  · intro wS hSw; (try dsimp only at hSw); go_simp
                    all_goals with_reducible rfl
                  try simp only [Act.put, List.getElem_toArray, List.getElem_cons_succ, List.getElem_cons_zero, List.setIfInBounds_toArray, List.set_cons_zero, List.set_cons_succ]
                  refine wpAnyH_take (i := 7) (v := ?_) rfl (by kernel_rfl) (by kernel_rfl) (by kernel_rfl) (fun _ _ _ h => h) (Or.inl ⟨by rfl, ?_⟩) (by assumption) ?_
                  rotate_left 1
                  · intro wS hSw; (try dsimp only at hSw); go_simp
                    all_goals with_reducible rfl
                  try simp only [Act.put, List.getElem_toArray, List.getElem_cons_succ, List.getElem_cons_zero, List.setIfInBounds_toArray, List.set_cons_zero, List.set_cons_succ]
                  refine wpAnyH_take (i := 8) (v := ?_) rfl (by kernel_rfl) (by kernel_rfl) (by kernel_rfl) (fun _ _ _ h => h) (Or.inl ⟨by rfl, ?_⟩) (by assumption) ?_
                  rotate_left 1
                  · intro wS hSw; (try dsimp only at hSw); go_simp
                    all_goals with_reducible rfl
                  try simp only [Act.put, List.getElem_toArray, List.getElem_cons_succ, List.getElem_cons_zero, List.setIfInBounds_toArray, List.set_cons_zero, List.set_cons_succ]
                  refine wpAnyH_ready (rs := [4]) (by kernel_rfl) (by simp) ?_
                  refine AllReadyH.cons rfl (fun K hK => ?_) AllReadyH.nil
                  go_simp
                  refine (hcall.out _ _ _ (by first | exact hra | exact hra.drew)).mono ?_
                  rintro e w1' ⟨rfl, b1⟩
                  have v1 : Below wr.heap.size wr w1' := by first | exact (Below.refl _ wr).drew.trans b1 | exact b1
                  refine hK.out _ _ (hS.out _ v1) (fun hSe1 => ?_)
                  clear hK K
                  try simp only [Act.put, List.getElem_toArray, List.getElem_cons_succ, List.getElem_cons_zero, List.setIfInBounds_toArray, List.set_cons_zero, List.set_cons_succ]
                  refine wpAnyH_ready (rs := [9]) (by kernel_rfl) (by simp) ?_
                  refine AllReadyH.cons rfl (fun K hK => ?_) AllReadyH.nil
                  go_simp
                  refine (hcall.out _ _ _ ((hrb.below v1).more v1.size)).mono ?_
                  rintro e w2' ⟨rfl, b2⟩
                  have v2 : Below wr.heap.size wr w2' := v1.trans (b2.mono v1.size)
                  refine hK.out _ _ (hS.out _ v2) (fun hSe2 => ?_)
                  clear hK K
                  try simp only [Act.put, List.getElem_toArray, List.getElem_cons_succ, List.getElem_cons_zero, List.setIfInBounds_toArray, List.set_cons_zero, List.set_cons_succ]
                  refine wpAnyH_take (i := 10) (v := ?_) rfl (by kernel_rfl) (by kernel_rfl) (by kernel_rfl) (fun _ _ _ h => h) (Or.inl ⟨by rfl, ?_⟩) (by assumption) ?_
                  rotate_left 1
                  · intro wS hSw; (try dsimp only at hSw); go_simp
                    all_goals with_reducible rfl
                  try simp only [Act.put, List.getElem_toArray, List.getElem_cons_succ, List.getElem_cons_zero, List.setIfInBounds_toArray, List.set_cons_zero, List.set_cons_succ]
                  refine wpAnyH_take (i := 11) (v := ?_) rfl (by kernel_rfl) (by kernel_rfl) (by kernel_rfl) (fun _ _ _ h => h) (Or.inl ⟨by rfl, ?_⟩) (by assumption) ?_
                  rotate_left 1
                  · intro wS hSw; (try dsimp only at hSw); go_simp
                    all_goals with_reducible rfl
                  try simp only [Act.put, List.getElem_toArray, List.getElem_cons_succ, List.getElem_cons_zero, List.setIfInBounds_toArray, List.set_cons_zero, List.set_cons_succ]
                  refine wpAnyH_take (i := 12) (v := ?_) rfl (by kernel_rfl) (by kernel_rfl) (by kernel_rfl) (fun _ _ _ h => h) (Or.inl ⟨by rfl, ?_⟩) (by assumption) ?_
                  rotate_left 1
                  · intro wS hSw; (try dsimp only at hSw); go_simp
                    all_goals with_reducible rfl
                  try simp only [Act.put, List.getElem_toArray, List.getElem_cons_succ, List.getElem_cons_zero, List.setIfInBounds_toArray, List.set_cons_zero, List.set_cons_succ]
                  refine wpAnyH_take (i := 13) (v := ?_) rfl (by kernel_rfl) (by kernel_rfl) (by kernel_rfl) (fun _ _ _ h => h) (Or.inl ⟨by rfl, ?_⟩) (by assumption) ?_
                  rotate_left 1
                  · intro wS hSw; (try dsimp only at hSw); go_simp
                    all_goals with_reducible rfl
                  try simp only [Act.put, List.getElem_toArray, List.getElem_cons_succ, List.getElem_cons_zero, List.setIfInBounds_toArray, List.set_cons_zero, List.set_cons_succ]
                  refine wpAnyH_take (i := 14) (v := ?_) rfl (by kernel_rfl) (by kernel_rfl) (by kernel_rfl) (fun _ _ _ h => h) (Or.inl ⟨by rfl, ?_⟩) (by assumption) ?_
                  rotate_left 1
                  · intro wS hSw; (try dsimp only at hSw); go_simp
                    all_goals with_reducible rfl
                  try simp only [Act.put, List.getElem_toArray, List.getElem_cons_succ, List.getElem_cons_zero, List.setIfInBounds_toArray, List.set_cons_zero, List.set_cons_succ]
                  refine wpAnyH_take (i := 15) (v := ?_) rfl (by kernel_rfl) (by kernel_rfl) (by kernel_rfl) (fun _ _ _ h => h) (Or.inl ⟨by rfl, ?_⟩) (by assumption) ?_
                  rotate_left 1
                  · intro wS hSw; (try dsimp only at hSw); go_simp
                    all_goals with_reducible rfl
                  try simp only [Act.put, List.getElem_toArray, List.getElem_cons_succ, List.getElem_cons_zero, List.setIfInBounds_toArray, List.set_cons_zero, List.set_cons_succ]
                  refine wpAnyH_take (i := 16) (v := ?_) rfl (by kernel_rfl) (by kernel_rfl) (by kernel_rfl) (fun _ _ _ h => h) (Or.inl ⟨by rfl, ?_⟩) (by assumption) ?_
                  rotate_left 1
                  · intro wS hSw; (try dsimp only at hSw); go_simp
                    all_goals with_reducible rfl
                  try simp only [Act.put, List.getElem_toArray, List.getElem_cons_succ, List.getElem_cons_zero, List.setIfInBounds_toArray, List.set_cons_zero, List.set_cons_succ]
                  refine wpAnyH_take (i := 17) (v := ?_) rfl (by kernel_rfl) (by kernel_rfl) (by kernel_rfl) (fun _ _ _ h => h) (Or.inl ⟨by rfl, ?_⟩) (by assumption) ?_
                  rotate_left 1
                  · intro wS hSw; (try dsimp only at hSw); go_simp
                    all_goals with_reducible rfl
                  try simp only [Act.put, List.getElem_toArray, List.getElem_cons_succ, List.getElem_cons_zero, List.setIfInBounds_toArray, List.set_cons_zero, List.set_cons_succ]
                  refine wpAnyH_take (i := 18) (v := ?_) rfl (by kernel_rfl) (by kernel_rfl) (by kernel_rfl) (fun _ _ _ h => h) (Or.inl ⟨by rfl, ?_⟩) (by assumption) ?_
                  rotate_left 1
                  · intro wS hSw; (try dsimp only at hSw); go_simp
                    all_goals with_reducible rfl
                  try simp only [Act.put, List.getElem_toArray, List.getElem_cons_succ, List.getElem_cons_zero, List.setIfInBounds_toArray, List.set_cons_zero, List.set_cons_succ]
                  refine wpAnyH_take (i := 19) (v := ?_) rfl (by kernel_rfl) (by kernel_rfl) (by kernel_rfl) (fun _ _ _ h => h) (Or.inl ⟨by rfl, ?_⟩) (by assumption) ?_
                  rotate_left 1
                  · intro wS hSw; (try dsimp only at hSw); go_simp
                    all_goals with_reducible rfl
                  try simp only [Act.put, List.getElem_toArray, List.getElem_cons_succ, List.getElem_cons_zero, List.setIfInBounds_toArray, List.set_cons_zero, List.set_cons_succ]
                  refine wpAnyH_take (i := 20) (v := ?_) rfl (by kernel_rfl) (by kernel_rfl) (by kernel_rfl) (fun _ _ _ h => h) (Or.inl ⟨by rfl, ?_⟩) (by assumption) ?_
                  rotate_left 1
                  · intro wS hSw; (try dsimp only at hSw); go_simp
                    all_goals with_reducible rfl
                  try simp only [Act.put, List.getElem_toArray, List.getElem_cons_succ, List.getElem_cons_zero, List.setIfInBounds_toArray, List.set_cons_zero, List.set_cons_succ]
                  refine wpAnyH_take (i := 21) (v := ?_) rfl (by kernel_rfl) (by kernel_rfl) (by kernel_rfl) (fun _ _ _ h => h) (Or.inl ⟨by rfl, ?_⟩) (by assumption) ?_
                  rotate_left 1
                  · intro wS hSw; (try dsimp only at hSw); go_simp
                    all_goals with_reducible rfl
                  try simp only [Act.put, List.getElem_toArray, List.getElem_cons_succ, List.getElem_cons_zero, List.setIfInBounds_toArray, List.set_cons_zero, List.set_cons_succ]
                  refine wpAnyH_take (i := 22) (v := ?_) rfl (by kernel_rfl) (by kernel_rfl) (by kernel_rfl) (fun _ _ _ h => h) (Or.inl ⟨by rfl, ?_⟩) (by assumption) ?_
                  rotate_left 1
                  · intro wS hSw; (try dsimp only at hSw); go_simp
                    all_goals with_reducible rfl
                  try simp only [Act.put, List.getElem_toArray, List.getElem_cons_succ, List.getElem_cons_zero, List.setIfInBounds_toArray, List.set_cons_zero, List.set_cons_succ]
                  refine wpAnyH_take (i := 23) (v := ?_) rfl (by kernel_rfl) (by kernel_rfl) (by kernel_rfl) (fun _ _ _ h => h) (Or.inl ⟨by rfl, ?_⟩) (by assumption) ?_
                  rotate_left 1
                  · intro wS hSw; (try dsimp only at hSw); go_simp
                    all_goals with_reducible rfl
                  try simp only [Act.put, List.getElem_toArray, List.getElem_cons_succ, List.getElem_cons_zero, List.setIfInBounds_toArray, List.set_cons_zero, List.set_cons_succ]
                  refine wpAnyH_take (i := 24) (v := ?_) rfl (by kernel_rfl) (by kernel_rfl) (by kernel_rfl) (fun _ _ _ h => h) (Or.inl ⟨by rfl, ?_⟩) (by assumption) ?_
                  rotate_left 1
                  · intro wS hSw; (try dsimp only at hSw); go_simp
                    all_goals with_reducible rfl
                  try simp only [Act.put, List.getElem_toArray, List.getElem_cons_succ, List.getElem_cons_zero, List.setIfInBounds_toArray, List.set_cons_zero, List.set_cons_succ]
                  refine wpAnyH_take (i := 25) (v := ?_) rfl (by kernel_rfl) (by kernel_rfl) (by kernel_rfl) (fun _ _ _ h => h) (Or.inl ⟨by rfl, ?_⟩) (by assumption) ?_
                  rotate_left 1
                  · intro wS hSw; (try dsimp only at hSw); go_simp
                    all_goals with_reducible rfl
                  try simp only [Act.put, List.getElem_toArray, List.getElem_cons_succ, List.getElem_cons_zero, List.setIfInBounds_toArray, List.set_cons_zero, List.set_cons_succ]
                  refine wpAnyH_take (i := 26) (v := ?_) rfl (by kernel_rfl) (by kernel_rfl) (by kernel_rfl) (fun _ _ _ h => h) (Or.inl ⟨by rfl, ?_⟩) (by assumption) ?_
                  rotate_left 1
                  · intro wS hSw; (try dsimp only at hSw); go_simp
                    all_goals with_reducible rfl
                  try simp only [Act.put, List.getElem_toArray, List.getElem_cons_succ, List.getElem_cons_zero, List.setIfInBounds_toArray, List.set_cons_zero, List.set_cons_succ]
                  refine wpAnyH_take (i := 27) (v := ?_) rfl (by kernel_rfl) (by kernel_rfl) (by kernel_rfl) (fun _ _ _ h => h) (Or.inl ⟨by rfl, ?_⟩) (by assumption) ?_
                  rotate_left 1
                  · intro wS hSw; (try dsimp only at hSw); go_simp
                    all_goals with_reducible rfl
                  try simp only [Act.put, List.getElem_toArray, List.getElem_cons_succ, List.getElem_cons_zero, List.setIfInBounds_toArray, List.set_cons_zero, List.set_cons_succ]
                  refine wpAnyH_take (i := 28) (v := ?_) rfl (by kernel_rfl) (by kernel_rfl) (by kernel_rfl) (fun _ _ _ h => h) (Or.inl ⟨by rfl, ?_⟩) (by assumption) ?_
                  rotate_left 1
                  · intro wS hSw; (try dsimp only at hSw); go_simp
                    all_goals with_reducible rfl
                  try simp only [Act.put, List.getElem_toArray, List.getElem_cons_succ, List.getElem_cons_zero, List.setIfInBounds_toArray, List.set_cons_zero, List.set_cons_succ]
                  refine wpAnyH_take (i := 29) (v := ?_) rfl (by kernel_rfl) (by kernel_rfl) (by kernel_rfl) (fun _ _ _ h => h) (Or.inl ⟨by rfl, ?_⟩) (by assumption) ?_
                  rotate_left 1
                  · intro wS hSw; (try dsimp only at hSw); go_simp
                    all_goals with_reducible rfl
                  try simp only [Act.put, List.getElem_toArray, List.getElem_cons_succ, List.getElem_cons_zero, List.setIfInBounds_toArray, List.set_cons_zero, List.set_cons_succ]
                  refine wpAnyH_take (i := 30) (v := ?_) rfl (by kernel_rfl) (by kernel_rfl) (by kernel_rfl) (fun _ _ _ h => h) (Or.inl ⟨by rfl, ?_⟩) (by assumption) ?_
                  rotate_left 1
                  · intro wS hSw; (try dsimp only at hSw); go_simp
                    all_goals with_reducible rfl
                  try simp only [Act.put, List.getElem_toArray, List.getElem_cons_succ, List.getElem_cons_zero, List.setIfInBounds_toArray, List.set_cons_zero, List.set_cons_succ]
                  refine wpAnyH_take (i := 31) (v := ?_) rfl (by kernel_rfl) (by kernel_rfl) (by kernel_rfl) (fun _ _ _ h => h) (Or.inl ⟨by rfl, ?_⟩) (by assumption) ?_
                  rotate_left 1
                  · intro wS hSw; (try dsimp only at hSw); go_simp
                    all_goals with_reducible rfl
                  try simp only [Act.put, List.getElem_toArray, List.getElem_cons_succ, List.getElem_cons_zero, List.setIfInBounds_toArray, List.set_cons_zero, List.set_cons_succ]
                  refine wpAnyH_take (i := 32) (v := ?_) rfl (by kernel_rfl) (by kernel_rfl) (by kernel_rfl) (fun _ _ _ h => h) (Or.inl ⟨by rfl, ?_⟩) (by assumption) ?_
                  rotate_left 1
                  · intro wS hSw; (try dsimp only at hSw); go_simp
                    all_goals with_reducible rfl
                  try simp only [Act.put, List.getElem_toArray, List.getElem_cons_succ, List.getElem_cons_zero, List.setIfInBounds_toArray, List.set_cons_zero, List.set_cons_succ]
                  refine wpAnyH_take (i := 33) (v := ?_) rfl (by kernel_rfl) (by kernel_rfl) (by kernel_rfl) (fun _ _ _ h => h) (Or.inl ⟨by rfl, ?_⟩) (by assumption) ?_
                  rotate_left 1
                  · intro wS hSw; (try dsimp only at hSw); go_simp
                    all_goals with_reducible rfl
                  try simp only [Act.put, List.getElem_toArray, List.getElem_cons_succ, List.getElem_cons_zero, List.setIfInBounds_toArray, List.set_cons_zero, List.set_cons_succ]
                  refine wpAnyH_take (i := 34) (v := ?_) rfl (by kernel_rfl) (by kernel_rfl) (by kernel_rfl) (fun _ _ _ h => h) (Or.inl ⟨by rfl, ?_⟩) (by assumption) ?_
                  rotate_left 1
                  · intro wS hSw; (try dsimp only at hSw); go_simp
                    all_goals with_reducible rfl
                  try simp only [Act.put, List.getElem_toArray, List.getElem_cons_succ, List.getElem_cons_zero, List.setIfInBounds_toArray, List.set_cons_zero, List.set_cons_succ]
                  refine wpAnyH_take (i := 35) (v := ?_) rfl (by kernel_rfl) (by kernel_rfl) (by kernel_rfl) (fun _ _ _ h => h) (Or.inl ⟨by rfl, ?_⟩) (by assumption) ?_
                  rotate_left 1
                  · intro wS hSw; (try dsimp only at hSw); go_simp
                    all_goals with_reducible rfl
                  try simp only [Act.put, List.getElem_toArray, List.getElem_cons_succ, List.getElem_cons_zero, List.setIfInBounds_toArray, List.set_cons_zero, List.set_cons_succ]
                  refine wpAnyH_take (i := 36) (v := ?_) rfl (by kernel_rfl) (by kernel_rfl) (by kernel_rfl) (fun _ _ _ h => h) (Or.inl ⟨by rfl, ?_⟩) (by assumption) ?_
                  rotate_left 1
                  · intro wS hSw; (try dsimp only at hSw); go_simp
                    all_goals with_reducible rfl
                  try simp only [Act.put, List.getElem_toArray, List.getElem_cons_succ, List.getElem_cons_zero, List.setIfInBounds_toArray, List.set_cons_zero, List.set_cons_succ]
                  refine wpAnyH_take (i := 37) (v := ?_) rfl (by kernel_rfl) (by kernel_rfl) (by kernel_rfl) (fun _ _ _ h => h) (Or.inl ⟨by rfl, ?_⟩) (by assumption) ?_
                  rotate_left 1
                  · intro wS hSw; (try dsimp only at hSw); go_simp
                    all_goals with_reducible rfl
                  try simp only [Act.put, List.getElem_toArray, List.getElem_cons_succ, List.getElem_cons_zero, List.setIfInBounds_toArray, List.set_cons_zero, List.set_cons_succ]
                  refine wpAnyH_take (i := 38) (v := ?_) rfl (by kernel_rfl) (by kernel_rfl) (by kernel_rfl) (fun _ _ _ h => h) (Or.inl ⟨by rfl, ?_⟩) (by assumption) ?_
                  rotate_left 1
                  · intro wS hSw; (try dsimp only at hSw); go_simp
                    all_goals with_reducible rfl
                  try simp only [Act.put, List.getElem_toArray, List.getElem_cons_succ, List.getElem_cons_zero, List.setIfInBounds_toArray, List.set_cons_zero, List.set_cons_succ]
                  refine wpAnyH_take (i := 39) (v := ?_) rfl (by kernel_rfl) (by kernel_rfl) (by kernel_rfl) (fun _ _ _ h => h) (Or.inl ⟨by rfl, ?_⟩) (by assumption) ?_
                  rotate_left 1
                  · intro wS hSw; (try dsimp only at hSw); go_simp
                    all_goals with_reducible rfl
                  try simp only [Act.put, List.getElem_toArray, List.getElem_cons_succ, List.getElem_cons_zero, List.setIfInBounds_toArray, List.set_cons_zero, List.set_cons_succ]
                  refine wpAnyH_take (i := 40) (v := ?_) rfl (by kernel_rfl) (by kernel_rfl) (by kernel_rfl) (fun _ _ _ h => h) (Or.inl ⟨by rfl, ?_⟩) (by assumption) ?_
                  rotate_left 1
                  · intro wS hSw; (try dsimp only at hSw); go_simp
                    all_goals with_reducible rfl
                  try simp only [Act.put, List.getElem_toArray, List.getElem_cons_succ, List.getElem_cons_zero, List.setIfInBounds_toArray, List.set_cons_zero, List.set_cons_succ]
                  refine wpAnyH_take (i := 41) (v := ?_) rfl (by kernel_rfl) (by kernel_rfl) (by kernel_rfl) (fun _ _ _ h => h) (Or.inl ⟨by rfl, ?_⟩) (by assumption) ?_
                  rotate_left 1
                  · intro wS hSw; (try dsimp only at hSw); go_simp
                    all_goals with_reducible rfl
                  try simp only [Act.put, List.getElem_toArray, List.getElem_cons_succ, List.getElem_cons_zero, List.setIfInBounds_toArray, List.set_cons_zero, List.set_cons_succ]
                  refine wpAnyH_take (i := 42) (v := ?_) rfl (by kernel_rfl) (by kernel_rfl) (by kernel_rfl) (fun _ _ _ h => h) (Or.inl ⟨by rfl, ?_⟩) (by assumption) ?_
                  rotate_left 1
                  · intro wS hSw; (try dsimp only at hSw); go_simp
                    all_goals with_reducible rfl
                  try simp only [Act.put, List.getElem_toArray, List.getElem_cons_succ, List.getElem_cons_zero, List.setIfInBounds_toArray, List.set_cons_zero, List.set_cons_succ]
                  refine wpAnyH_take (i := 43) (v := ?_) rfl (by kernel_rfl) (by kernel_rfl) (by kernel_rfl) (fun _ _ _ h => h) (Or.inl ⟨by rfl, ?_⟩) (by assumption) ?_
                  rotate_left 1
                  · intro wS hSw; (try dsimp only at hSw); go_simp
                    all_goals with_reducible rfl
                  try simp only [Act.put, List.getElem_toArray, List.getElem_cons_succ, List.getElem_cons_zero, List.setIfInBounds_toArray, List.set_cons_zero, List.set_cons_succ]
                  refine wpAnyH_take (i := 44) (v := ?_) rfl (by kernel_rfl) (by kernel_rfl) (by kernel_rfl) (fun _ _ _ h => h) (Or.inl ⟨by rfl, ?_⟩) (by assumption) ?_
                  rotate_left 1
                  · intro wS hSw; (try dsimp only at hSw); go_simp
                    all_goals with_reducible rfl
                  try simp only [Act.put, List.getElem_toArray, List.getElem_cons_succ, List.getElem_cons_zero, List.setIfInBounds_toArray, List.set_cons_zero, List.set_cons_succ]
                  refine wpAnyH_take (i := 45) (v := undef) rfl (by kernel_rfl) (by kernel_rfl) (by kernel_rfl) (fun _ _ _ h => h) (Or.inr ⟨by rfl, rfl⟩) (by assumption) ?_
                  try simp only [Act.put, List.getElem_toArray, List.getElem_cons_succ, List.getElem_cons_zero, List.setIfInBounds_toArray, List.set_cons_zero, List.set_cons_succ]
                  refine wpAnyH_take (i := 46) (v := undef) rfl (by kernel_rfl) (by kernel_rfl) (by kernel_rfl) (fun _ _ _ h => h) (Or.inr ⟨by rfl, rfl⟩) (by assumption) ?_
                  try simp only [Act.put, List.getElem_toArray, List.getElem_cons_succ, List.getElem_cons_zero, List.setIfInBounds_toArray, List.set_cons_zero, List.set_cons_succ]
                  refine wpAnyH_take (i := 47) (v := undef) rfl (by kernel_rfl) (by kernel_rfl) (by kernel_rfl) (fun _ _ _ h => h) (Or.inr ⟨by rfl, rfl⟩) (by assumption) ?_
                  try simp only [Act.put, List.getElem_toArray, List.getElem_cons_succ, List.getElem_cons_zero, List.setIfInBounds_toArray, List.set_cons_zero, List.set_cons_succ]
                  refine wpAnyH_take (i := 48) (v := undef) rfl (by kernel_rfl) (by kernel_rfl) (by kernel_rfl) (fun _ _ _ h => h) (Or.inr ⟨by rfl, rfl⟩) (by assumption) ?_
                  try simp only [Act.put, List.getElem_toArray, List.getElem_cons_succ, List.getElem_cons_zero, List.setIfInBounds_toArray, List.set_cons_zero, List.set_cons_succ]
                  refine wpAnyH_take (i := 49) (v := undef) rfl (by kernel_rfl) (by kernel_rfl) (by kernel_rfl) (fun _ _ _ h => h) (Or.inr ⟨by rfl, rfl⟩) (by assumption) ?_
                  try simp only [Act.put, List.getElem_toArray, List.getElem_cons_succ, List.getElem_cons_zero, List.setIfInBounds_toArray, List.set_cons_zero, List.set_cons_succ]
                  refine wpAnyH_take (i := 50) (v := undef) rfl (by kernel_rfl) (by kernel_rfl) (by kernel_rfl) (fun _ _ _ h => h) (Or.inr ⟨by rfl, rfl⟩) (by assumption) ?_
                  try simp only [Act.put, List.getElem_toArray, List.getElem_cons_succ, List.getElem_cons_zero, List.setIfInBounds_toArray, List.set_cons_zero, List.set_cons_succ]
                  refine wpAnyH_take (i := 51) (v := ?_) rfl (by kernel_rfl) (by kernel_rfl) (by kernel_rfl) (fun _ _ _ h => h) (Or.inl ⟨by rfl, ?_⟩) (by assumption) ?_
                  rotate_left 1
                  · intro wS hSw; (try dsimp only at hSw); go_simp
                    all_goals with_reducible rfl
                  try simp only [Act.put, List.getElem_toArray, List.getElem_cons_succ, List.getElem_cons_zero, List.setIfInBounds_toArray, List.set_cons_zero, List.set_cons_succ]
                  refine wpAnyH_take (i := 52) (v := ?_) rfl (by kernel_rfl) (by kernel_rfl) (by kernel_rfl) (fun _ _ _ h => h) (Or.inl ⟨by rfl, ?_⟩) (by assumption) ?_
                  rotate_left 1
                  · intro wS hSw; (try dsimp only at hSw); go_simp
                    all_goals with_reducible rfl
                  try simp only [Act.put, List.getElem_toArray, List.getElem_cons_succ, List.getElem_cons_zero, List.setIfInBounds_toArray, List.set_cons_zero, List.set_cons_succ]
                  refine wpAnyH_done (by kernel_rfl) ?_ _
                  go_wp2_with fail
                  go_meet
                  exact ⟨rfl, v2⟩
              · have hk3b : (t.kind == 3) = false := by simpa using hk3
                clear hk3 htx2
                refine wp_region_held_drew (S := fun v : World => v.cell? ⟨b1, f1 + (p + 1) * 4, none⟩ = some (.int .i64 t.kind) ∧ v.cell? ⟨b1, f1 + (p + 1) * 4 + 1, none⟩ = some (.string t.name) ∧ v.cell? ⟨b1, f1 + (p + 1) * 4 + 2, none⟩ = some (.slice Aa t.attrs.length ca) ∧ v.cell? ⟨b1, f1 + (p + 1) * 4 + 3, none⟩ = some (.string t.text) ∧ v.cell? ⟨b2, f2 + (p + 1) * 4, none⟩ = some (.int .i64 t.kind) ∧ v.cell? ⟨b2, f2 + (p + 1) * 4 + 1, none⟩ = some (.string t.name) ∧ v.cell? ⟨b2, f2 + (p + 1) * 4 + 2, none⟩ = some (.slice Ab t.attrs.length cb) ∧ v.cell? ⟨b2, f2 + (p + 1) * 4 + 3, none⟩ = some (.string t.text) ∧ v.cell? ⟨b1, f1 + p * 4, none⟩ = some (.int .i64 u.kind)) (by kernel_rfl) (hS.out _ (Below.refl _ _).drew) ?_
                intro hSd
                try simp only [List.replicate, Array.replicate]
                refine wpAnyH_take (i := 0) (v := ?_) rfl (by kernel_rfl) (by kernel_rfl) (by kernel_rfl) (fun _ _ _ h => h) (Or.inl ⟨by rfl, ?_⟩) (by assumption) ?_
                rotate_left 1
                · intro wS hSw; (try dsimp only at hSw); go_simp
                  all_goals with_reducible rfl
                try simp only [Act.put, List.getElem_toArray, List.getElem_cons_succ, List.getElem_cons_zero, List.setIfInBounds_toArray, List.set_cons_zero, List.set_cons_succ]
                refine wpAnyH_take (i := 1) (v := ?_) rfl (by kernel_rfl) (by kernel_rfl) (by kernel_rfl) (fun _ _ _ h => h) (Or.inl ⟨by rfl, ?_⟩) (by assumption) ?_
                rotate_left 1
                · intro wS hSw; (try dsimp only at hSw); go_simp
                  all_goals with_reducible rfl
                try simp only [Act.put, List.getElem_toArray, List.getElem_cons_succ, List.getElem_cons_zero, List.setIfInBounds_toArray, List.set_cons_zero, List.set_cons_succ]
                refine wpAnyH_take (i := 2) (v := ?_) rfl (by kernel_rfl) (by kernel_rfl) (by kernel_rfl) (fun _ _ _ h => h) (Or.inl ⟨by rfl, ?_⟩) (by assumption) ?_
                rotate_left 1
                · intro wS hSw; (try dsimp only at hSw); go_simp
                  all_goals with_reducible rfl
                try simp only [Act.put, List.getElem_toArray, List.getElem_cons_succ, List.getElem_cons_zero, List.setIfInBounds_toArray, List.set_cons_zero, List.set_cons_succ]
                refine wpAnyH_take (i := 3) (v := ?_) rfl (by kernel_rfl) (by kernel_rfl) (by kernel_rfl) (fun _ _ _ h => h) (Or.inl ⟨by rfl, ?_⟩) (by assumption) ?_
                rotate_left 1
                · intro wS hSw; (try dsimp only at hSw); go_simp
                  all_goals with_reducible rfl
                try simp only [Act.put, List.getElem_toArray, List.getElem_cons_succ, List.getElem_cons_zero, List.setIfInBounds_toArray, List.set_cons_zero, List.set_cons_succ]
                refine wpAnyH_take (i := 5) (v := ?_) rfl (by kernel_rfl) (by kernel_rfl) (by kernel_rfl) (fun _ _ _ h => h) (Or.inl ⟨by rfl, ?_⟩) (by assumption) ?_
                rotate_left 1
                · intro wS hSw; (try dsimp only at hSw); go_simp
                  all_goals with_reducible rfl
                try simp only [Act.put, List.getElem_toArray, List.getElem_cons_succ, List.getElem_cons_zero, List.setIfInBounds_toArray, List.set_cons_zero, List.set_cons_succ]
                refine wpAnyH_take (i := 6) (v := ?_) rfl (by kernel_rfl) (by kernel_rfl) (by kernel_rfl) (fun _ _ _ h => h) (Or.inl ⟨by rfl, ?_⟩) (by assumption) ?_
                rotate_left 1
                · intro wS hSw; (try dsimp only at hSw); go_simp
                  all_goals with_reducible rfl
                try simp only [Act.put, List.getElem_toArray, List.getElem_cons_succ, List.getElem_cons_zero, List.setIfInBounds_toArray, List.set_cons_zero, List.set_cons_succ]
                refine wpAnyH_take (i := 7) (v := ?_) rfl (by kernel_rfl) (by kernel_rfl) (by kernel_rfl) (fun _ _ _ h => h) (Or.inl ⟨by rfl, ?_⟩) (by assumption) ?_
                rotate_left 1
                · intro wS hSw; (try dsimp only at hSw); go_simp
                  all_goals with_reducible rfl
                try simp only [Act.put, List.getElem_toArray, List.getElem_cons_succ, List.getElem_cons_zero, List.setIfInBounds_toArray, List.set_cons_zero, List.set_cons_succ]
                refine wpAnyH_take (i := 8) (v := ?_) rfl (by kernel_rfl) (by kernel_rfl) (by kernel_rfl) (fun _ _ _ h => h) (Or.inl ⟨by rfl, ?_⟩) (by assumption) ?_
                rotate_left 1
                · intro wS hSw; (try dsimp only at hSw); go_simp
                  all_goals with_reducible rfl
                try simp only [Act.put, List.getElem_toArray, List.getElem_cons_succ, List.getElem_cons_zero, List.setIfInBounds_toArray, List.set_cons_zero, List.set_cons_succ]
                refine wpAnyH_ready (rs := [4]) (by kernel_rfl) (by simp) ?_
                refine AllReadyH.cons rfl (fun K hK => ?_) AllReadyH.nil
                go_simp
                refine (hcall.out _ _ _ (by first | exact hra | exact hra.drew)).mono ?_
                rintro e w1' ⟨rfl, b1⟩
                have v1 : Below wr.heap.size wr w1' := by first | exact (Below.refl _ wr).drew.trans b1 | exact b1
                refine hK.out _ _ (hS.out _ v1) (fun hSe1 => ?_)
                clear hK K
                try simp only [Act.put, List.getElem_toArray, List.getElem_cons_succ, List.getElem_cons_zero, List.setIfInBounds_toArray, List.set_cons_zero, List.set_cons_succ]
                refine wpAnyH_ready (rs := [9]) (by kernel_rfl) (by simp) ?_
                refine AllReadyH.cons rfl (fun K hK => ?_) AllReadyH.nil
                go_simp
                refine (hcall.out _ _ _ ((hrb.below v1).more v1.size)).mono ?_
                rintro e w2' ⟨rfl, b2⟩
                have v2 : Below wr.heap.size wr w2' := v1.trans (b2.mono v1.size)
                refine hK.out _ _ (hS.out _ v2) (fun hSe2 => ?_)
                clear hK K
                try simp only [Act.put, List.getElem_toArray, List.getElem_cons_succ, List.getElem_cons_zero, List.setIfInBounds_toArray, List.set_cons_zero, List.set_cons_succ]
                refine wpAnyH_take (i := 10) (v := ?_) rfl (by kernel_rfl) (by kernel_rfl) (by kernel_rfl) (fun _ _ _ h => h) (Or.inl ⟨by rfl, ?_⟩) (by assumption) ?_
                rotate_left 1
                · intro wS hSw; (try dsimp only at hSw); go_simp
                  all_goals with_reducible rfl
                try simp only [Act.put, List.getElem_toArray, List.getElem_cons_succ, List.getElem_cons_zero, List.setIfInBounds_toArray, List.set_cons_zero, List.set_cons_succ]
                refine wpAnyH_take (i := 11) (v := ?_) rfl (by kernel_rfl) (by kernel_rfl) (by kernel_rfl) (fun _ _ _ h => h) (Or.inl ⟨by rfl, ?_⟩) (by assumption) ?_
                rotate_left 1
                · intro wS hSw; (try dsimp only at hSw); go_simp
                  all_goals with_reducible rfl
                try simp only [Act.put, List.getElem_toArray, List.getElem_cons_succ, List.getElem_cons_zero, List.setIfInBounds_toArray, List.set_cons_zero, List.set_cons_succ]
                refine wpAnyH_take (i := 12) (v := ?_) rfl (by kernel_rfl) (by kernel_rfl) (by kernel_rfl) (fun _ _ _ h => h) (Or.inl ⟨by rfl, ?_⟩) (by assumption) ?_
                rotate_left 1
                · intro wS hSw; (try dsimp only at hSw); go_simp
                  all_goals with_reducible rfl
                try simp only [Act.put, List.getElem_toArray, List.getElem_cons_succ, List.getElem_cons_zero, List.setIfInBounds_toArray, List.set_cons_zero, List.set_cons_succ]
                refine wpAnyH_take (i := 13) (v := ?_) rfl (by kernel_rfl) (by kernel_rfl) (by kernel_rfl) (fun _ _ _ h => h) (Or.inl ⟨by rfl, ?_⟩) (by assumption) ?_
                rotate_left 1
                · intro wS hSw; (try dsimp only at hSw); go_simp
                  all_goals with_reducible rfl
                try simp only [Act.put, List.getElem_toArray, List.getElem_cons_succ, List.getElem_cons_zero, List.setIfInBounds_toArray, List.set_cons_zero, List.set_cons_succ]
                refine wpAnyH_take (i := 14) (v := ?_) rfl (by kernel_rfl) (by kernel_rfl) (by kernel_rfl) (fun _ _ _ h => h) (Or.inl ⟨by rfl, ?_⟩) (by assumption) ?_
                rotate_left 1
                · intro wS hSw; (try dsimp only at hSw); go_simp
                  all_goals with_reducible rfl
                try simp only [Act.put, List.getElem_toArray, List.getElem_cons_succ, List.getElem_cons_zero, List.setIfInBounds_toArray, List.set_cons_zero, List.set_cons_succ]
                refine wpAnyH_take (i := 15) (v := ?_) rfl (by kernel_rfl) (by kernel_rfl) (by kernel_rfl) (fun _ _ _ h => h) (Or.inl ⟨by rfl, ?_⟩) (by assumption) ?_
                rotate_left 1
                · intro wS hSw; (try dsimp only at hSw); go_simp
                  all_goals with_reducible rfl
                try simp only [Act.put, List.getElem_toArray, List.getElem_cons_succ, List.getElem_cons_zero, List.setIfInBounds_toArray, List.set_cons_zero, List.set_cons_succ]
                refine wpAnyH_take (i := 16) (v := ?_) rfl (by kernel_rfl) (by kernel_rfl) (by kernel_rfl) (fun _ _ _ h => h) (Or.inl ⟨by rfl, ?_⟩) (by assumption) ?_
                rotate_left 1
                · intro wS hSw; (try dsimp only at hSw); go_simp
                  all_goals with_reducible rfl
                try simp only [Act.put, List.getElem_toArray, List.getElem_cons_succ, List.getElem_cons_zero, List.setIfInBounds_toArray, List.set_cons_zero, List.set_cons_succ]
                refine wpAnyH_take (i := 17) (v := ?_) rfl (by kernel_rfl) (by kernel_rfl) (by kernel_rfl) (fun _ _ _ h => h) (Or.inl ⟨by rfl, ?_⟩) (by assumption) ?_
                rotate_left 1
                · intro wS hSw; (try dsimp only at hSw); go_simp
                  all_goals with_reducible rfl
                try simp only [Act.put, List.getElem_toArray, List.getElem_cons_succ, List.getElem_cons_zero, List.setIfInBounds_toArray, List.set_cons_zero, List.set_cons_succ]
                refine wpAnyH_take (i := 18) (v := ?_) rfl (by kernel_rfl) (by kernel_rfl) (by kernel_rfl) (fun _ _ _ h => h) (Or.inl ⟨by rfl, ?_⟩) (by assumption) ?_
                rotate_left 1
                · intro wS hSw; (try dsimp only at hSw); go_simp
                  all_goals with_reducible rfl
                try simp only [Act.put, List.getElem_toArray, List.getElem_cons_succ, List.getElem_cons_zero, List.setIfInBounds_toArray, List.set_cons_zero, List.set_cons_succ]
                refine wpAnyH_take (i := 19) (v := ?_) rfl (by kernel_rfl) (by kernel_rfl) (by kernel_rfl) (fun _ _ _ h => h) (Or.inl ⟨by rfl, ?_⟩) (by assumption) ?_
                rotate_left 1
                · intro wS hSw; (try dsimp only at hSw); go_simp
                  all_goals with_reducible rfl
                try simp only [Act.put, List.getElem_toArray, List.getElem_cons_succ, List.getElem_cons_zero, List.setIfInBounds_toArray, List.set_cons_zero, List.set_cons_succ]
                refine wpAnyH_take (i := 20) (v := ?_) rfl (by kernel_rfl) (by kernel_rfl) (by kernel_rfl) (fun _ _ _ h => h) (Or.inl ⟨by rfl, ?_⟩) (by assumption) ?_
                rotate_left 1
                · intro wS hSw; (try dsimp only at hSw); go_simp
                  all_goals with_reducible rfl
                try simp only [Act.put, List.getElem_toArray, List.getElem_cons_succ, List.getElem_cons_zero, List.setIfInBounds_toArray, List.set_cons_zero, List.set_cons_succ]
                refine wpAnyH_take (i := 21) (v := ?_) rfl (by kernel_rfl) (by kernel_rfl) (by kernel_rfl) (fun _ _ _ h => h) (Or.inl ⟨by rfl, ?_⟩) (by assumption) ?_
                rotate_left 1
                · intro wS hSw; (try dsimp only at hSw); go_simp
                  all_goals with_reducible rfl
                try simp only [Act.put, List.getElem_toArray, List.getElem_cons_succ, List.getElem_cons_zero, List.setIfInBounds_toArray, List.set_cons_zero, List.set_cons_succ]
                refine wpAnyH_take (i := 22) (v := ?_) rfl (by kernel_rfl) (by kernel_rfl) (by kernel_rfl) (fun _ _ _ h => h) (Or.inl ⟨by rfl, ?_⟩) (by assumption) ?_
                rotate_left 1
                · intro wS hSw; (try dsimp only at hSw); go_simp
                  all_goals with_reducible rfl
                try simp only [Act.put, List.getElem_toArray, List.getElem_cons_succ, List.getElem_cons_zero, List.setIfInBounds_toArray, List.set_cons_zero, List.set_cons_succ]
                refine wpAnyH_take (i := 23) (v := ?_) rfl (by kernel_rfl) (by kernel_rfl) (by kernel_rfl) (fun _ _ _ h => h) (Or.inl ⟨by rfl, ?_⟩) (by assumption) ?_
                rotate_left 1
                · intro wS hSw; (try dsimp only at hSw); go_simp
                  all_goals with_reducible rfl
                try simp only [Act.put, List.getElem_toArray, List.getElem_cons_succ, List.getElem_cons_zero, List.setIfInBounds_toArray, List.set_cons_zero, List.set_cons_succ]
                refine wpAnyH_take (i := 24) (v := ?_) rfl (by kernel_rfl) (by kernel_rfl) (by kernel_rfl) (fun _ _ _ h => h) (Or.inl ⟨by rfl, ?_⟩) (by assumption) ?_
                rotate_left 1
                · intro wS hSw; (try dsimp only at hSw); go_simp
                  all_goals with_reducible rfl
                try simp only [Act.put, List.getElem_toArray, List.getElem_cons_succ, List.getElem_cons_zero, List.setIfInBounds_toArray, List.set_cons_zero, List.set_cons_succ]
                refine wpAnyH_take (i := 25) (v := ?_) rfl (by kernel_rfl) (by kernel_rfl) (by kernel_rfl) (fun _ _ _ h => h) (Or.inl ⟨by rfl, ?_⟩) (by assumption) ?_
                rotate_left 1
                · intro wS hSw; (try dsimp only at hSw); go_simp
                  all_goals with_reducible rfl
                try simp only [Act.put, List.getElem_toArray, List.getElem_cons_succ, List.getElem_cons_zero, List.setIfInBounds_toArray, List.set_cons_zero, List.set_cons_succ]
                refine wpAnyH_take (i := 26) (v := ?_) rfl (by kernel_rfl) (by kernel_rfl) (by kernel_rfl) (fun _ _ _ h => h) (Or.inl ⟨by rfl, ?_⟩) (by assumption) ?_
                rotate_left 1
                · intro wS hSw; (try dsimp only at hSw); go_simp
                  all_goals with_reducible rfl
                try simp only [Act.put, List.getElem_toArray, List.getElem_cons_succ, List.getElem_cons_zero, List.setIfInBounds_toArray, List.set_cons_zero, List.set_cons_succ]
                refine wpAnyH_take (i := 27) (v := ?_) rfl (by kernel_rfl) (by kernel_rfl) (by kernel_rfl) (fun _ _ _ h => h) (Or.inl ⟨by rfl, ?_⟩) (by assumption) ?_
                rotate_left 1
                · intro wS hSw; (try dsimp only at hSw); go_simp
                  all_goals with_reducible rfl
                try simp only [Act.put, List.getElem_toArray, List.getElem_cons_succ, List.getElem_cons_zero, List.setIfInBounds_toArray, List.set_cons_zero, List.set_cons_succ]
                refine wpAnyH_take (i := 28) (v := ?_) rfl (by kernel_rfl) (by kernel_rfl) (by kernel_rfl) (fun _ _ _ h => h) (Or.inl ⟨by rfl, ?_⟩) (by assumption) ?_
                rotate_left 1
                · intro wS hSw; (try dsimp only at hSw); go_simp
                  all_goals with_reducible rfl
                try simp only [Act.put, List.getElem_toArray, List.getElem_cons_succ, List.getElem_cons_zero, List.setIfInBounds_toArray, List.set_cons_zero, List.set_cons_succ]
                refine wpAnyH_take (i := 29) (v := ?_) rfl (by kernel_rfl) (by kernel_rfl) (by kernel_rfl) (fun _ _ _ h => h) (Or.inl ⟨by rfl, ?_⟩) (by assumption) ?_
                rotate_left 1
                · intro wS hSw; (try dsimp only at hSw); go_simp
                  all_goals with_reducible rfl
                try simp only [Act.put, List.getElem_toArray, List.getElem_cons_succ, List.getElem_cons_zero, List.setIfInBounds_toArray, List.set_cons_zero, List.set_cons_succ]
                refine wpAnyH_take (i := 30) (v := ?_) rfl (by kernel_rfl) (by kernel_rfl) (by kernel_rfl) (fun _ _ _ h => h) (Or.inl ⟨by rfl, ?_⟩) (by assumption) ?_
                rotate_left 1
                · intro wS hSw; (try dsimp only at hSw); go_simp
                  all_goals with_reducible rfl
                try simp only [Act.put, List.getElem_toArray, List.getElem_cons_succ, List.getElem_cons_zero, List.setIfInBounds_toArray, List.set_cons_zero, List.set_cons_succ]
                refine wpAnyH_take (i := 31) (v := ?_) rfl (by kernel_rfl) (by kernel_rfl) (by kernel_rfl) (fun _ _ _ h => h) (Or.inl ⟨by rfl, ?_⟩) (by assumption) ?_
                rotate_left 1
                · intro wS hSw; (try dsimp only at hSw); go_simp
                  all_goals with_reducible rfl
                try simp only [Act.put, List.getElem_toArray, List.getElem_cons_succ, List.getElem_cons_zero, List.setIfInBounds_toArray, List.set_cons_zero, List.set_cons_succ]
                refine wpAnyH_take (i := 32) (v := ?_) rfl (by kernel_rfl) (by kernel_rfl) (by kernel_rfl) (fun _ _ _ h => h) (Or.inl ⟨by rfl, ?_⟩) (by assumption) ?_
                rotate_left 1
                · intro wS hSw; (try dsimp only at hSw); go_simp
                  all_goals with_reducible rfl
                try simp only [Act.put, List.getElem_toArray, List.getElem_cons_succ, List.getElem_cons_zero, List.setIfInBounds_toArray, List.set_cons_zero, List.set_cons_succ]
                refine wpAnyH_take (i := 33) (v := ?_) rfl (by kernel_rfl) (by kernel_rfl) (by kernel_rfl) (fun _ _ _ h => h) (Or.inl ⟨by rfl, ?_⟩) (by assumption) ?_
                rotate_left 1
                · intro wS hSw; (try dsimp only at hSw); go_simp
                  all_goals with_reducible rfl
                try simp only [Act.put, List.getElem_toArray, List.getElem_cons_succ, List.getElem_cons_zero, List.setIfInBounds_toArray, List.set_cons_zero, List.set_cons_succ]
                refine wpAnyH_take (i := 34) (v := ?_) rfl (by kernel_rfl) (by kernel_rfl) (by kernel_rfl) (fun _ _ _ h => h) (Or.inl ⟨by rfl, ?_⟩) (by assumption) ?_
                rotate_left 1
                · intro wS hSw; (try dsimp only at hSw); go_simp
                  all_goals with_reducible rfl
                try simp only [Act.put, List.getElem_toArray, List.getElem_cons_succ, List.getElem_cons_zero, List.setIfInBounds_toArray, List.set_cons_zero, List.set_cons_succ]
                refine wpAnyH_take (i := 35) (v := ?_) rfl (by kernel_rfl) (by kernel_rfl) (by kernel_rfl) (fun _ _ _ h => h) (Or.inl ⟨by rfl, ?_⟩) (by assumption) ?_
                rotate_left 1
                · intro wS hSw; (try dsimp only at hSw); go_simp
                  all_goals with_reducible rfl
                try simp only [Act.put, List.getElem_toArray, List.getElem_cons_succ, List.getElem_cons_zero, List.setIfInBounds_toArray, List.set_cons_zero, List.set_cons_succ]
                refine wpAnyH_take (i := 36) (v := undef) rfl (by kernel_rfl) (by kernel_rfl) (by kernel_rfl) (fun _ _ _ h => h) (Or.inr ⟨by rfl, rfl⟩) (by assumption) ?_
                try simp only [Act.put, List.getElem_toArray, List.getElem_cons_succ, List.getElem_cons_zero, List.setIfInBounds_toArray, List.set_cons_zero, List.set_cons_succ]
                refine wpAnyH_take (i := 37) (v := undef) rfl (by kernel_rfl) (by kernel_rfl) (by kernel_rfl) (fun _ _ _ h => h) (Or.inr ⟨by rfl, rfl⟩) (by assumption) ?_
                try simp only [Act.put, List.getElem_toArray, List.getElem_cons_succ, List.getElem_cons_zero, List.setIfInBounds_toArray, List.set_cons_zero, List.set_cons_succ]
                refine wpAnyH_take (i := 38) (v := undef) rfl (by kernel_rfl) (by kernel_rfl) (by kernel_rfl) (fun _ _ _ h => h) (Or.inr ⟨by rfl, rfl⟩) (by assumption) ?_
                try simp only [Act.put, List.getElem_toArray, List.getElem_cons_succ, List.getElem_cons_zero, List.setIfInBounds_toArray, List.set_cons_zero, List.set_cons_succ]
                refine wpAnyH_take (i := 39) (v := undef) rfl (by kernel_rfl) (by kernel_rfl) (by kernel_rfl) (fun _ _ _ h => h) (Or.inr ⟨by rfl, rfl⟩) (by assumption) ?_
                try simp only [Act.put, List.getElem_toArray, List.getElem_cons_succ, List.getElem_cons_zero, List.setIfInBounds_toArray, List.set_cons_zero, List.set_cons_succ]
                refine wpAnyH_take (i := 40) (v := undef) rfl (by kernel_rfl) (by kernel_rfl) (by kernel_rfl) (fun _ _ _ h => h) (Or.inr ⟨by rfl, rfl⟩) (by assumption) ?_
                try simp only [Act.put, List.getElem_toArray, List.getElem_cons_succ, List.getElem_cons_zero, List.setIfInBounds_toArray, List.set_cons_zero, List.set_cons_succ]
                refine wpAnyH_take (i := 41) (v := undef) rfl (by kernel_rfl) (by kernel_rfl) (by kernel_rfl) (fun _ _ _ h => h) (Or.inr ⟨by rfl, rfl⟩) (by assumption) ?_
                try simp only [Act.put, List.getElem_toArray, List.getElem_cons_succ, List.getElem_cons_zero, List.setIfInBounds_toArray, List.set_cons_zero, List.set_cons_succ]
                refine wpAnyH_take (i := 42) (v := undef) rfl (by kernel_rfl) (by kernel_rfl) (by kernel_rfl) (fun _ _ _ h => h) (Or.inr ⟨by rfl, rfl⟩) (by assumption) ?_
                try simp only [Act.put, List.getElem_toArray, List.getElem_cons_succ, List.getElem_cons_zero, List.setIfInBounds_toArray, List.set_cons_zero, List.set_cons_succ]
                refine wpAnyH_take (i := 43) (v := ?_) rfl (by kernel_rfl) (by kernel_rfl) (by kernel_rfl) (fun _ _ _ h => h) (Or.inl ⟨by rfl, ?_⟩) (by assumption) ?_
                rotate_left 1
                · intro wS hSw; (try dsimp only at hSw); go_simp
                  all_goals with_reducible rfl
                try simp only [Act.put, List.getElem_toArray, List.getElem_cons_succ, List.getElem_cons_zero, List.setIfInBounds_toArray, List.set_cons_zero, List.set_cons_succ]
                refine wpAnyH_take (i := 44) (v := ?_) rfl (by kernel_rfl) (by kernel_rfl) (by kernel_rfl) (fun _ _ _ h => h) (Or.inl ⟨by rfl, ?_⟩) (by assumption) ?_
                rotate_left 1
                · intro wS hSw; (try dsimp only at hSw); go_simp
                  all_goals with_reducible rfl
                try simp only [Act.put, List.getElem_toArray, List.getElem_cons_succ, List.getElem_cons_zero, List.setIfInBounds_toArray, List.set_cons_zero, List.set_cons_succ]
                refine wpAnyH_take (i := 45) (v := undef) rfl (by kernel_rfl) (by kernel_rfl) (by kernel_rfl) (fun _ _ _ h => h) (Or.inr ⟨by rfl, rfl⟩) (by assumption) ?_
                try simp only [Act.put, List.getElem_toArray, List.getElem_cons_succ, List.getElem_cons_zero, List.setIfInBounds_toArray, List.set_cons_zero, List.set_cons_succ]
                refine wpAnyH_take (i := 46) (v := undef) rfl (by kernel_rfl) (by kernel_rfl) (by kernel_rfl) (fun _ _ _ h => h) (Or.inr ⟨by rfl, rfl⟩) (by assumption) ?_
                try simp only [Act.put, List.getElem_toArray, List.getElem_cons_succ, List.getElem_cons_zero, List.setIfInBounds_toArray, List.set_cons_zero, List.set_cons_succ]
                refine wpAnyH_take (i := 47) (v := undef) rfl (by kernel_rfl) (by kernel_rfl) (by kernel_rfl) (fun _ _ _ h => h) (Or.inr ⟨by rfl, rfl⟩) (by assumption) ?_
                try simp only [Act.put, List.getElem_toArray, List.getElem_cons_succ, List.getElem_cons_zero, List.setIfInBounds_toArray, List.set_cons_zero, List.set_cons_succ]
                refine wpAnyH_take (i := 48) (v := undef) rfl (by kernel_rfl) (by kernel_rfl) (by kernel_rfl) (fun _ _ _ h => h) (Or.inr ⟨by rfl, rfl⟩) (by assumption) ?_
                try simp only [Act.put, List.getElem_toArray, List.getElem_cons_succ, List.getElem_cons_zero, List.setIfInBounds_toArray, List.set_cons_zero, List.set_cons_succ]
                refine wpAnyH_take (i := 49) (v := undef) rfl (by kernel_rfl) (by kernel_rfl) (by kernel_rfl) (fun _ _ _ h => h) (Or.inr ⟨by rfl, rfl⟩) (by assumption) ?_
                try simp only [Act.put, List.getElem_toArray, List.getElem_cons_succ, List.getElem_cons_zero, List.setIfInBounds_toArray, List.set_cons_zero, List.set_cons_succ]
                refine wpAnyH_take (i := 50) (v := undef) rfl (by kernel_rfl) (by kernel_rfl) (by kernel_rfl) (fun _ _ _ h => h) (Or.inr ⟨by rfl, rfl⟩) (by assumption) ?_
                try simp only [Act.put, List.getElem_toArray, List.getElem_cons_succ, List.getElem_cons_zero, List.setIfInBounds_toArray, List.set_cons_zero, List.set_cons_succ]
                refine wpAnyH_take (i := 51) (v := ?_) rfl (by kernel_rfl) (by kernel_rfl) (by kernel_rfl) (fun _ _ _ h => h) (Or.inl ⟨by rfl, ?_⟩) (by assumption) ?_
                rotate_left 1
                · intro wS hSw; (try dsimp only at hSw); go_simp
                  all_goals with_reducible rfl
                try simp only [Act.put, List.getElem_toArray, List.getElem_cons_succ, List.getElem_cons_zero, List.setIfInBounds_toArray, List.set_cons_zero, List.set_cons_succ]
                refine wpAnyH_take (i := 52) (v := ?_) rfl (by kernel_rfl) (by kernel_rfl) (by kernel_rfl) (fun _ _ _ h => h) (Or.inl ⟨by rfl, ?_⟩) (by assumption) ?_
                rotate_left 1
                · intro wS hSw; (try dsimp only at hSw); go_simp
                  all_goals with_reducible rfl
                try simp only [Act.put, List.getElem_toArray, List.getElem_cons_succ, List.getElem_cons_zero, List.setIfInBounds_toArray, List.set_cons_zero, List.set_cons_succ]
                refine wpAnyH_done (by kernel_rfl) ?_ _
                go_wp2_with fail
                go_meet
                exact ⟨rfl, v2⟩
            case rest =>
              obtain ⟨rfl, bx⟩ := hcut
              go_wp2
              go_roundw
              case rel => first | exact ⟨k + 1, by omega, by go_num, hbel.trans (bx.mono hbel.size)⟩ | ((repeat apply Exists.intro); exact ⟨⟨k + 1, by omega, by go_num, hbel.trans (bx.mono hbel.size)⟩, rfl⟩)
              case measure => simp [intOf]; omega
          · obtain rfl : k = TT.length := by omega
            go_wp2
            go_ret
            exact ⟨rfl, hb7.trans (hbel.mono hb7.size)⟩
  · go_enter Tryd.func5, Tryd.ntmps5
    go_wp2_with (go_at_call 13; refine (big_yes _ hn hmx).mono ?_; rintro e w0 ⟨rfl, rfl⟩)
    go_ret
    exact ⟨rfl, Below.refl _ _⟩
end Go.Proofs.YtkmechjilekcmaaDoor

namespace Go.Proofs.YtkmechjilekcmaaDoor
open Go.ChangeShapes Go.WideShapes Go.ChangeAt Go.RowKit
open Go.ChangeMaps (open_string shut_string)
set_option linter.unusedVariables false
set_option maxRecDepth 100000

theorem fnPieces_door (os : Os) (args : Array Value) : laidMetH Tryd.prog Rows.fnPiecesRow.laid ((World.laidAll Tryd.prog os Rows.fnPiecesRow.laid).forCall (fun _ _ => 0) ⟨#[], args, []⟩).memory := by
  rw [MakeChecks.laidMetH_plain _ _ _ (by kernel_rfl)]
  exact laidMet_laidAll _ (by kernel_rfl) (by kernel_rfl)
theorem fnPieces_lifted (os : Os) (started : os.Started) (H : Type) (enc : TypeId × Value → H) :
    ReturnsInHanded {} Tryd.checked os 5 .any (fun w args => (Rows.fnPiecesSpec.pre enc Tryd.prog Tryd.f5 Rows.fnPiecesRow.domain false w args ∧ laidMetH Tryd.prog Rows.fnPiecesRow.laid w) ∧ sizedMet enc Tryd.prog Tryd.f5 (OpenSpec.ofChange Rows.fnPiecesSpec) false w args)
      (Rows.fnPiecesSpec.post enc Tryd.prog Tryd.f5 false true false false) := by
  refine handed_shaped_and (C := Tryd.checked) (X := fun w _ => laidMetH Tryd.prog Rows.fnPiecesRow.laid w) (fun _ _ _ hh h => h.of_heap hh) p_own started (by kernel_rfl) Tryd.func5
    (ChangeSpec.witness_shaped (enc := enc) (C := Tryd.checked) (os := os) (X := fun w _ => laidMetH Tryd.prog Rows.fnPiecesRow.laid w) false (World.laidAll Tryd.prog os Rows.fnPiecesRow.laid) #[.slice none 0 0] 8 (World.laidAll_os _ _ _) (World.shaped_of_ZipB (by kernel_rfl) (by kernel_rfl)) (by kernel_rfl) (by kernel_rfl) (by kernel_rfl) (fnPieces_door os _)) ?_
  intro W base args ds gs before hval0 hW hcnd hL hsh
  have hval : ∀ (j : Nat) t v, Tryd.f5.params[j]? = some t → args[j]? = some v → Value.okWide Tryd.prog W .any base t v := hval0
  have hW' := hW
  obtain ⟨p, q, hA0, hV, rfl, hfz, hnd⟩ := hW
  have hA : DataW.TrodAll enc Tryd.prog W 0 (fun _ => true) true Tryd.f5.params.toList args.toList ds p := hA0
  rw [Tryd.params5] at hA hval
  obtain ⟨v0, vs0, d0, ds0, p0, q0, hargs, rfl, rfl, h0, r0⟩ := trodAll_cons hA
  obtain ⟨rfl, rfl, rfl⟩ := trodAll_nil r0
  obtain rfl : args = #[v0] := by cases args; simp_all
  obtain ⟨rfl, rfl⟩ := trodVars_none hV
  have k0 := h0
  have lt0 : ∀ x ∈ p0, x.block < W.heap.size := by obtain ⟨m, hm⟩ := k0; exact DataW.trod_lt m _ _ _ hm
  obtain ⟨a0, n0, c0, z0, rfl, w0⟩ := open_slice_ints Tryd.underlying30 Tryd.underlying5 (by kernel_rfl) (hval 0 30 v0 rfl rfl) k0
  clear hA0 hval0
  refine (pieces_walk W (ldM_of hsh) a0 n0 c0 z0 w0).mono fun e W' ⟨he, bel⟩ => ?_
  subst he
  exact ⟨_, rfl, _, _, _, [], _, [], hW', trodAll_mk1 (shut_bool Tryd.underlying4 _), (trodAll_cons_mk (Below.trod laidOut (by kernel_rfl) (of_decide_eq_true (by kernel_rfl)) k0 bel lt0) trodAll_mk0), rfl, bel.frame _, fun h => by cases h⟩

theorem fnPieces_closed : joinedFacts Tryd.prog 5 Tryd.f5 Rows.fnPiecesSpec Rows.fnPiecesRow = true :=
  joined_mk (by as_aux_lemma => kernel_rfl) p_laidOut p_mapsRowed (by as_aux_lemma => kernel_rfl) (by as_aux_lemma => kernel_rfl) (by as_aux_lemma => kernel_rfl) p_stops (by as_aux_lemma => kernel_rfl) p_stopKnobs (by as_aux_lemma => kernel_rfl) (by as_aux_lemma => kernel_rfl) (by as_aux_lemma => kernel_rfl) (by as_aux_lemma => kernel_rfl) (by as_aux_lemma => kernel_rfl) (by as_aux_lemma => kernel_rfl) (by as_aux_lemma => kernel_rfl) (by as_aux_lemma => kernel_rfl) (by as_aux_lemma => kernel_rfl) (by as_aux_lemma => kernel_rfl) (by as_aux_lemma => kernel_rfl) (by as_aux_lemma => kernel_rfl) (by as_aux_lemma => kernel_rfl) (by rw [p_plainKeys]; kernel_rfl) (by as_aux_lemma => kernel_rfl) p_stopsHeard p_mayEnter (by rw [p_liftsFinal]; kernel_rfl) (by rw [p_make]; kernel_rfl) (by as_aux_lemma => kernel_rfl) (by as_aux_lemma => kernel_rfl) (by as_aux_lemma => kernel_rfl) (by as_aux_lemma => kernel_rfl)

theorem fnPieces_holds : Rows.FnPiecesSaid :=
  OpenClaim.holds_of_wide 5 Tryd.f5 rfl rfl rfl rfl rfl rfl rfl ⟨rfl, rfl, rfl, rfl, rfl⟩ rfl rfl rfl rfl rfl (by kernel_rfl) Tryd.func5 fnPieces_closed
    (of_decide_eq_true (by kernel_rfl)) (by unfold Func.isWrapper; first | (rw [if_pos (by decide +kernel)]; kernel_rfl) | (rw [if_neg (by decide +kernel)]; exact ⟨rfl, rfl⟩))
    (fun os started H enc _ => fnPieces_lifted os started H enc)
theorem fnPieces_card : Rows.FnPiecesCardSaid :=
  Claim7.holds_tied_plain_at .later [] [.data, .pinned] true (true, "1f34153807463cd54c805ff01c0d76877f0f5ba3afab1bfe9faefd3141011480") false
    fnPieces_holds (fun _ h => by cases h) (by kernel_rfl) (fun _ h => by cases h) fnPieces_row_tie rfl ⟨rfl, rfl⟩ (by kernel_rfl) rfl
    (fun f fn hf hfn => by
      obtain rfl : f = 5 := Option.some.inj ((show Tryd.prog.funcNamed Rows.fnPiecesRow.func = some 5 by kernel_rfl).symm.trans hf) |>.symm
      obtain rfl : fn = Tryd.f5 := (Option.some.inj (Tryd.func5.symm.trans hfn)).symm
      exact ⟨by kernel_rfl, fun j t ht => by
        rw [Tryd.params5] at ht
        have hm : t ∈ [30] := by simpa using Array.mem_of_getElem? ht
        have hall : ([30].all fun u => !Tryd.prog.wantsStandIn u) = true := by kernel_rfl
        exact (show Tryd.prog.wantsStandIn t = false by simpa using List.all_eq_true.1 hall t hm)⟩)
    (by kernel_rfl)

end Go.Proofs.YtkmechjilekcmaaDoor
