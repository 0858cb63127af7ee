/-
  Contracts of TokensOf of both, and the walk of its generated law. Conditions: strings of at most 2^29 bytes; the library's MaxLen holds some integer.
  Plain facts on lists and integers: the hash, varints. No program is named. No condition.
  Contracts of the encoding and hashing functions, of the program and of the reference. Conditions: lengths at most 2^40, integers of 64 bits.
  Contracts of the functions that draw: 'some value of its range comes back; of the old blocks the cursor's alone is changed'. Condition: the cursor is a cursor over bytes.
-/
import Derived.Test.YtleopmeaaabejaaP18
import Derived.Laws.BitsAllLaws
import Derived.Laws.BitsLemmas
import Derived.Test.YtleopmeaaabejaaP02
import Derived.Test.YtleopmeaaabejaaP06
import Derived.BigQuiet
import Derived.OneCell
namespace Go.Proofs.Ytleopmeaaabejaa
set_option linter.unusedVariables false
set_option linter.unusedSimpArgs false
set_option maxRecDepth 100000
open Go.ChangeShapes Go.WideShapes Go.ChangeAt Go.RowKit Go.Deep

def toksOf (s : ByteArray) : List Tok := (feed s).1 ++ endToks (feed s).2
theorem run_append_zero {P : Program} (w : World) (base : Nat) (t ty e : TypeId) (i : TypeInfo) (size : Nat) (ht : P.underlying t = some (.slice e)) (hi : P.info? e = some i)
    (v : Value) (n : Nat) (xs : List Value) (hown : w.ownsRow base e size v n xs) (A : Option Addr) (c : Nat) : (Builtin.append_ #[t, t] ty #[v, .slice A 0 c]).run P w = .ok v w := by
  rcases A with _ | ad
  · exact run_append_of_nil w base t ty e i size ht hi v n xs hown c
  · rcases hown.2 with ⟨rfl, rfl⟩ | ⟨g, cap, cur, rfl, _, _, hnc, _⟩
    · simp [Builtin.append_, run_underlying ht, sizeOf, typeInfo, hi, Builtin.lenOf, Builtin.firstCells, loadCells, loadCellsFrom]
    · simp [Builtin.append_, run_underlying ht, sizeOf, typeInfo, hi, Builtin.lenOf, Builtin.firstCells, hnc, storeCells, loadCells, loadCellsFrom]
theorem wpList_append_zero {P : Program} {w : World} {T E size bytes : Nat} (R : RowT P T E size bytes) {ops : Array Oper} {rest : List Oper} {o : Oper} {a : Act} {Q : Exit → Act → World → Prop} (hgd : o.guard = none) (s x : Operand)
    (ho : o.op = .call { callee := .builtin .append, args := #[s, x], argTypes := #[T, T] })
    {lo n : Nat} {v : Value} {xs : List Value} (hown : w.ownsRow lo E size v n xs) (hs : a.eval s = v) (A : Option Addr) (c : Nat) (hx : a.eval x = .slice A 0 c)
    (h : wpList P ops Q rest (a.put o.dst v) w) : wpList P ops Q (o :: rest) a w := by
  obtain ⟨i, z, hi, _⟩ := R.inf
  have hrun := run_append_zero (P := P) w lo T o.type E i size R.und hi v n xs hown A c
  refine wpList_plain hgd fun K hK => ?_
  unfold Oper.wp execOp
  simp only [ho, resolve, invoke, builtin, Sem.run_bind, Sem.run_pure, Result.andThen_ok, List.map_toArray, List.map_cons, List.map_nil, hs, hx, hrun]
  exact hK _ _ h
theorem endToks_cases (s : ByteArray) : endToks s = [] ∨ endToks s = [⟨3, ⟨#[]⟩, [], s⟩] := by
  unfold endToks
  split
  · exact .inl rfl
  · exact .inr rfl
theorem nil_append' (s : ByteArray) : (⟨#[]⟩ : ByteArray) ++ s = s := by
  apply ByteArray.ext
  rw [ByteArray.data_append]
  simp
theorem toksOf_facts (s : ByteArray) : (toksOf s).length ≤ s.size + 1 ∧ (∀ a ∈ toksOf s, a.attrs.length ≤ 1073741824) ∧ totN ((toksOf s).map tokN.num) ≤ 11 * ((toksOf s).length : Int) := by
  obtain ⟨e1, e4, _⟩ := feedN_toks s.size s
  rw [show feedN s.size s = feed s from rfl] at e1 e4
  have h4 : ∀ a ∈ toksOf s, a.attrs.length ≤ 4 := by
    intro a ha
    unfold toksOf at ha
    rcases List.mem_append.1 ha with h | h
    · exact e4 a h
    · rcases endToks_cases (feed s).2 with h2 | h2 <;> rw [h2] at h
      · cases h
      · simp at h; subst h; simp
  refine ⟨?_, fun a ha => by have := h4 a ha; omega, tot_le _ h4⟩
  unfold toksOf
  rw [List.length_append]
  have := endToks_len (feed s).2
  omega
set_option maxHeartbeats 2000000 in
theorem tokensOf_spec (w : World) (s : ByteArray) (hs : s.size ≤ 536870912) : Calls Try.prog 37 #[.string s] w (GotN tokN w 40 104 (toksOf s).length (toksOf s)) := by
  have hF := feedText_spec w ⟨#[]⟩ s (by decide) hs
  rw [nil_append'] at hF
  obtain ⟨e1, -, e5⟩ := feedN_toks s.size s
  rw [show feedN s.size s = feed s from rfl] at e1 e5
  have hTO := Lib.hid (show toksOf s = (feed s).1 ++ endToks (feed s).2 from rfl)
  generalize toksOf s = TT at *
  generalize feed s = F at *
  obtain ⟨F1, F2⟩ := F
  simp only at e1 e5 hTO
  have hE := fun W => endText_spec F2 W (by omega)
  have hEc := endToks_cases F2
  generalize endToks F2 = ET at *
  go_enter Try.func37, Try.ntmps37
  go_wp2_with (fail)
  go_at_call 64
  refine hF.mono ?_
  rintro e w1 ⟨A1, c1, L1, rfl, h1, o1, b1⟩
  simp only at h1 o1
  have y1 := b1.size
  have hX := BoxAt.new (w := w1) rfl [.string F2] 96
  have a1 := (Below.refl w1.heap.size w1).alloc (Nat.le_refl _) (.cells #[.string F2] 96)
  have z1 : (w1.alloc (.cells #[.string F2] 96)).heap.size = w1.heap.size + 1 := by simp
  go_wp2_with (fail)
  go_at_call 65
  refine (hE _).mono ?_
  rintro e w2 ⟨A2, c2, L2, rfl, h2, o2, b2⟩
  have y2 := b2.size
  rw [z1] at y2
  have hb2 : Below w1.heap.size w1 w2 := a1.trans (b2.mono (by rw [z1]; omega))
  have o1' := o1.below hb2
  have cb := b1.trans (hb2.mono b1.size)
  rcases hEc with rfl | rfl
  · have hres := Lib.hid (show TT = F1 by rw [hTO.out, List.append_nil])
    clear hTO
    go_wp2_with (at_builtin
                 refine wpList_append_zero row_Token rfl (.tmp 11) (.tmp 13) rfl o1'.row.1 rfl A2 c2 rfl ?_)
    go_ret
    rw [hres.out]
    exact ⟨A1, c1, L1, rfl, h1, o1'.wide (Nat.le_refl _) (by omega), cb⟩
  · have hL2 : ∃ x : Tok × Hd, L2 = [x] ∧ x.1 = ⟨3, ⟨#[]⟩, [], F2⟩ := by
      rcases L2 with _ | ⟨x, _ | ⟨y, r⟩⟩
      · simp at h2
      · exact ⟨x, rfl, by simpa using h2⟩
      · simp at h2
    obtain ⟨x, rfl, hx1⟩ := hL2
    have hk := o2.kids x (by simp)
    have hr2 : Reads w2 w2.heap.size 4 A2 1 (tokN.cells x) := by
      have h3 := o2.row.reads (Nat.le_refl _)
      rw [Nest.flat_cons, Nest.flat_nil, List.append_nil] at h3
      exact h3
    have hl1 := Lib.hid (show F1.length = L1.length by rw [← h1, List.length_map])
    have hres := Lib.hid (show TT = (L1 ++ [x]).map (·.1) by rw [hTO.out, List.map_append, h1, List.map_cons, List.map_nil, hx1])
    clear hTO
    rw [z1] at hk
    go_wp2_with (at_builtin
                 refine wpList_push (N := tokN) (bytes := 64) row_Token rfl (.tmp 11) (.tmp 13) rfl (lo := w.heap.size) (m := w1.heap.size) (ek := 104) (L := L1) (A := A1) (n := F1.length) (c := c1) o1' (by omega) y1 x (hk.wide (by omega) (Nat.le_refl _)) rfl A2 c2 _ rfl hr2 (by omega) (by omega) ?_
                 intro A8 c8 w8 ho8 hk8)
    go_ret
    rw [hres.out]
    have hge : ∀ k, (Value.slice A1 F1.length c1).ownBlock = some k → w.heap.size ≤ k := fun k hk => o1.row.geb k hk
    exact ⟨A8, c8, L1 ++ [x], by simp [hl1.out], rfl, by simpa [hl1.out] using ho8, cb.trans (hk8.below (by omega) fun k hS => hge k hS)⟩


end Go.Proofs.Ytleopmeaaabejaa

namespace Go.Proofs.Ytleopmeaaabejaa
set_option linter.unusedVariables false

def M31 : Int := 2147483647
def hashStep (acc v : Int) : Int := (acc * 1000003 + modZ v 2147483647 + 13) % 2147483647
def hashZ (l : List Int) : Int := l.foldl hashStep 11
theorem hashStep_bd (acc v : Int) : 0 ≤ hashStep acc v ∧ hashStep acc v < 2147483647 := by unfold hashStep; omega
theorem hashZ_snoc (l : List Int) (x : Int) : hashZ (l ++ [x]) = hashStep (hashZ l) x := by simp [hashZ]
theorem hash_nil : hashZ [] = 11 := rfl
theorem foldl_bd (l : List Int) (a : Int) (h : 0 ≤ a ∧ a < 2147483647) : 0 ≤ l.foldl hashStep a ∧ l.foldl hashStep a < 2147483647 := by
  induction l generalizing a with
  | nil => exact h
  | cons x l ih => exact ih _ (hashStep_bd a x)
theorem hashZ_bd (l : List Int) : 0 ≤ hashZ l ∧ hashZ l < 2147483647 := foldl_bd l 11 (by omega)
theorem hash_take {l : List Int} {k : Nat} (h : k < l.length) : hashZ (l.take (k + 1)) = hashStep (hashZ (l.take k)) l[k] := by
  rw [List.take_succ_eq_append_getElem h, hashZ_snoc]
theorem mod31_bd (v : Int) : 0 ≤ modZ v 2147483647 ∧ modZ v 2147483647 < 2147483647 := by
  have h : modZ v 2147483647 = v % 2147483647 := by simp [modZ, inR]
  rw [h]; omega

/-! ### Varints -/
def uvF : Nat → Int → List Int
  | 0, _ => []
  | f + 1, n => if n < 128 then [n] else (n % 128 + 128) :: uvF f (n / 128)
def uv (n : Int) : List Int := uvF 6 n
theorem uvF_succ (f : Nat) (n : Int) : uvF (f + 1) n = if n < 128 then [n] else (n % 128 + 128) :: uvF f (n / 128) := rfl
theorem uvF_more (f : Nat) : ∀ (n : Int), 0 ≤ n → n < 128 ^ (f + 1) → ∀ g, f ≤ g → uvF (g + 1) n = uvF (f + 1) n := by
  induction f with
  | zero => intro n h0 h g _; simp at h; simp [uvF, h]
  | succ f ih =>
    intro n h0 h g hg
    obtain ⟨g, rfl⟩ : ∃ g', g = g' + 1 := ⟨g - 1, by omega⟩
    rw [uvF_succ (g + 1), uvF_succ (f + 1)]
    split
    · rfl
    · rw [ih (n / 128) (by omega) (by rw [Int.pow_succ] at h; omega) g (by omega)]
theorem uv_small {n : Int} (h : n < 128) : uv n = [n] := by simp [uv, uvF, h]
theorem uv_big {n : Int} (h0 : 128 ≤ n) (h1 : n ≤ 1000000000000) : uv n = (n % 128 + 128) :: uv (n / 128) := by
  unfold uv
  have h2 : n / 128 < 128 ^ (4 + 1) := by simp; omega
  rw [uvF_more 4 (n / 128) (by omega) h2 5 (by omega), uvF, if_neg (by omega)]
theorem uv_len (n : Int) : (uv n).length ≤ 6 := by
  have h : ∀ f n, (uvF f n).length ≤ f := by
    intro f
    induction f with
    | zero => intro n; simp [uvF]
    | succ f ih => intro n; rw [uvF]; split <;> simp; exact ih _
  exact h 6 n
theorem uv_pos (n : Int) : 0 < (uv n).length := by
  unfold uv; rw [uvF]; split <;> simp
theorem uv_bytes (n : Int) (h : 0 ≤ n) : ∀ x ∈ uv n, 0 ≤ x ∧ x < 256 := by
  have h : ∀ f n, 0 ≤ n → ∀ x ∈ uvF f n, 0 ≤ x ∧ x < 256 := by
    intro f
    induction f with
    | zero => intro n _ x hx; simp [uvF] at hx
    | succ f ih =>
      intro n h0 x hx
      rw [uvF] at hx
      split at hx
      · simp at hx; omega
      · rcases List.mem_cons.1 hx with rfl | hx
        · omega
        · exact ih _ (by omega) x hx
  exact h 6 n ‹_›
def appU (b : List Int) (n : Int) : List Int := if inR n 0 1000000000000 then b ++ uv n else b
theorem appU_yes {b : List Int} {n : Int} (h : inR n 0 1000000000000 = true) : appU b n = b ++ uv n := by simp [appU, h]
theorem appU_no {b : List Int} {n : Int} (h : inR n 0 1000000000000 = false) : appU b n = b := by simp [appU, h]
theorem appU_len (b : List Int) (n : Int) : (appU b n).length ≤ b.length + 6 := by
  unfold appU; have := uv_len n; split <;> simp <;> omega
def khZ (key : Int) (xs : List Int) : Int := hashZ ([key] ++ xs ++ [key])
theorem khZ_bd (key : Int) (xs : List Int) : 0 ≤ khZ key xs ∧ khZ key xs < 2147483647 := hashZ_bd _
theorem kh_in {key : Int} {xs : List Int} (h1 : -9223372036854775808 ≤ key) (h2 : key ≤ 9223372036854775807) (hz : ∀ z ∈ xs, -9223372036854775808 ≤ z ∧ z ≤ 9223372036854775807) :
    ∀ z ∈ [key] ++ xs ++ [key], -9223372036854775808 ≤ z ∧ z ≤ 9223372036854775807 := by
  intro z hz'
  simp only [List.mem_append, List.mem_singleton] at hz'
  rcases hz' with (rfl | h) | rfl
  · exact ⟨h1, h2⟩
  · exact hz z h
  · exact ⟨h1, h2⟩
theorem uv_step {cur xs : List Int} {m q : Int} (h : cur ++ uv m = xs ++ uv q) (h0 : 128 ≤ m) (h1 : m ≤ 1000000000000) : (cur ++ [m % 128 + 128]) ++ uv (m / 128) = xs ++ uv q := by
  rw [← h, uv_big h0 h1]; simp
theorem uv_fin {cur xs : List Int} {m q : Int} (h : cur ++ uv m = xs ++ uv q) (h0 : m < 128) : cur ++ [m] = xs ++ uv q := by
  rw [← h, uv_small h0]
theorem uv_room {cur xs : List Int} {m q : Int} (h : cur ++ uv m = xs ++ uv q) : cur.length ≤ xs.length + 6 := by
  have := congrArg List.length h
  simp only [List.length_append] at this
  have := uv_len q
  omega

/-! ### bits at int -/
theorem ofInt_i64 (a : Nat) (ha : a < 9223372036854775808) : (BitVec.ofInt 64 (a : Int)).toNat = a := by
  rw [BitVec.ofInt_natCast, BitVec.toNat_ofNat]; exact Nat.mod_eq_of_lt (by omega)
theorem i64_and_nat (a b : Nat) (ha : a < 9223372036854775808) (hb : b < 9223372036854775808) : bits .and .i64 (a : Int) (b : Int) = ((a &&& b : Nat) : Int) := by
  have hx : a &&& b < 2 ^ 63 := Nat.and_lt_two_pow _ (by omega)
  show IntKind.i64.wrap ((BitVec.ofInt 64 (a : Int) &&& BitVec.ofInt 64 (b : Int)).toNat : Int) = _
  rw [BitVec.toNat_and, ofInt_i64 a ha, ofInt_i64 b hb, IntKind.wrap_i64]
  omega
theorem i64_or_nat (a b : Nat) (ha : a < 9223372036854775808) (hb : b < 9223372036854775808) : bits .or .i64 (a : Int) (b : Int) = ((a ||| b : Nat) : Int) := by
  have hx : a ||| b < 2 ^ 63 := Nat.or_lt_two_pow (by omega) (by omega)
  show IntKind.i64.wrap ((BitVec.ofInt 64 (a : Int) ||| BitVec.ofInt 64 (b : Int)).toNat : Int) = _
  rw [BitVec.toNat_or, ofInt_i64 a ha, ofInt_i64 b hb, IntKind.wrap_i64]
  omega
theorem and127 (m : Int) (h0 : 0 ≤ m) (h1 : m < 9223372036854775808) : bits .and .i64 m 127 = m % 128 := by
  obtain ⟨k, rfl⟩ := Int.eq_ofNat_of_zero_le h0
  have := i64_and_nat k 127 (by omega) (by omega)
  rw [show ((127 : Nat) : Int) = 127 from rfl] at this
  rw [this, show (127 : Nat) = 2 ^ 7 - 1 from rfl, Nat.and_two_pow_sub_one_eq_mod]
  omega
theorem or_add (a y : Int) (s : Nat) (ha : 0 ≤ a) (ha' : a < 2 ^ s) (hy : 0 ≤ y) (hb : y * 2 ^ s + a < 9223372036854775808) : bits .or .i64 a (y * 2 ^ s) = a + y * 2 ^ s := by
  obtain ⟨a, rfl⟩ := Int.eq_ofNat_of_zero_le ha
  obtain ⟨y, rfl⟩ := Int.eq_ofNat_of_zero_le hy
  have e : (y : Int) * 2 ^ s = ((2 ^ s * y : Nat) : Int) := by push_cast; rw [Int.mul_comm]
  have ha2 : a < 2 ^ s := by exact_mod_cast ha'
  rw [e] at hb ⊢
  have h := i64_or_nat a (2 ^ s * y) (by omega) (by omega)
  rw [h, Nat.or_comm, ← Nat.two_pow_add_eq_or_of_lt ha2 y]
  push_cast; rw [Int.add_comm]
theorem or128 (x : Int) (h0 : 0 ≤ x) (h1 : x < 128) : bits .or .i64 x 128 = x + 128 := by
  have := or_add x 1 7 h0 (by simpa using h1) (by omega) (by simp; omega)
  simpa using this

/-! ### Reading a varint -/
def ruF (zs : List Int) : Nat → Nat → Int → Int → Option (Int × Int)
  | 0, _, _, _ => none
  | f + 1, p, pw, acc =>
    match zs[p]? with
    | none => none
    | some x =>
      if x < 128 then (if (1 < pw ∧ x = 0) ∨ 1000000000000 < acc + x % 128 * pw then none else some (acc + x % 128 * pw, (p : Int) + 1))
      else ruF zs f (p + 1) (pw * 128) (acc + x % 128 * pw)
def readU (zs : List Int) (off : Int) : Option (Int × Int) := if off < 0 then none else ruF zs 6 off.toNat 1 0
def ruN (r : Option (Int × Int)) : Int := (r.map (·.1)).getD 0
def ruA (r : Option (Int × Int)) : Int := (r.map (·.2)).getD 0
def ruE (r : Option (Int × Int)) : Ending := .returned (.tuple #[.int .i64 (ruN r), .int .i64 (ruA r), .bool r.isSome])
theorem ruE_none {r : Option (Int × Int)} (h : r = none) : Ending.returned (.tuple #[.int .i64 0, .int .i64 0, .bool false]) = ruE r := by subst h; rfl
theorem ruE_some {r : Option (Int × Int)} {a b a' b' : Int} (h : r = some (a, b)) (ha : a' = a) (hb : b' = b) : Ending.returned (.tuple #[.int .i64 a', .int .i64 b', .bool true]) = ruE r := by subst h ha hb; rfl
theorem ruF_out {zs : List Int} {f p : Nat} {pw acc : Int} (h : zs.length ≤ p) : ruF zs f p pw acc = none := by
  cases f with
  | zero => rfl
  | succ f => simp [ruF, List.getElem?_eq_none h]
theorem ruF_big {zs : List Int} {f p : Nat} {pw acc x : Int} (h : zs[p]? = some x) (hx : 128 ≤ x) : ruF zs (f + 1) p pw acc = ruF zs f (p + 1) (pw * 128) (acc + x % 128 * pw) := by
  rw [ruF, h]; simp only; rw [if_neg (by omega)]
theorem ruF_bad {zs : List Int} {f p : Nat} {pw acc x : Int} (h : zs[p]? = some x) (hx : x < 128) (hb : (1 < pw ∧ x = 0) ∨ 1000000000000 < acc + x % 128 * pw) : ruF zs (f + 1) p pw acc = none := by
  rw [ruF, h]; simp only; rw [if_pos hx, if_pos hb]
theorem ruF_good {zs : List Int} {f p : Nat} {pw acc x : Int} (h : zs[p]? = some x) (hx : x < 128) (hb : ¬ ((1 < pw ∧ x = 0) ∨ 1000000000000 < acc + x % 128 * pw)) :
    ruF zs (f + 1) p pw acc = some (acc + x % 128 * pw, (p : Int) + 1) := by
  rw [ruF, h]; simp only; rw [if_pos hx, if_neg hb]
/-- round k: f rounds to come, the place's weight -/
def P6 (k f : Nat) (pw : Int) : Prop :=
  (k = 0 ∧ f = 5 ∧ pw = 1) ∨ (k = 1 ∧ f = 4 ∧ pw = 128) ∨ (k = 2 ∧ f = 3 ∧ pw = 16384) ∨ (k = 3 ∧ f = 2 ∧ pw = 2097152) ∨ (k = 4 ∧ f = 1 ∧ pw = 268435456) ∨ (k = 5 ∧ f = 0 ∧ pw = 34359738368)
def P7 (k f : Nat) (pw : Int) : Prop := (∃ f', f = f' + 1 ∧ P6 k f' pw) ∨ (k = 6 ∧ f = 0 ∧ pw = 4398046511104)
theorem P6.next {k f : Nat} {pw : Int} (h : P6 k f pw) : P7 (k + 1) f (pw * 128) := by
  rcases h with ⟨rfl, rfl, rfl⟩ | ⟨rfl, rfl, rfl⟩ | ⟨rfl, rfl, rfl⟩ | ⟨rfl, rfl, rfl⟩ | ⟨rfl, rfl, rfl⟩ | ⟨rfl, rfl, rfl⟩
  · exact .inl ⟨4, rfl, by simp [P6]⟩
  · exact .inl ⟨3, rfl, by simp [P6]⟩
  · exact .inl ⟨2, rfl, by simp [P6]⟩
  · exact .inl ⟨1, rfl, by simp [P6]⟩
  · exact .inl ⟨0, rfl, by simp [P6]⟩
  · exact .inr ⟨rfl, rfl, by simp⟩
theorem P6.or_ {k f : Nat} {pw acc x : Int} (h : P6 k f pw) (h0 : 0 ≤ acc) (h1 : acc < pw) (hx : 0 ≤ x) (hx1 : x ≤ 255) : bits .or .i64 acc (x % 128 * pw) = acc + x % 128 * pw := by
  rcases h with ⟨rfl, rfl, rfl⟩ | ⟨rfl, rfl, rfl⟩ | ⟨rfl, rfl, rfl⟩ | ⟨rfl, rfl, rfl⟩ | ⟨rfl, rfl, rfl⟩ | ⟨rfl, rfl, rfl⟩
  · have := or_add acc (x % 128) 0 h0 (by simpa using h1) (by omega) (by simp; omega); simpa using this
  · have := or_add acc (x % 128) 7 h0 (by simpa using h1) (by omega) (by simp; omega); simpa using this
  · have := or_add acc (x % 128) 14 h0 (by simpa using h1) (by omega) (by simp; omega); simpa using this
  · have := or_add acc (x % 128) 21 h0 (by simpa using h1) (by omega) (by simp; omega); simpa using this
  · have := or_add acc (x % 128) 28 h0 (by simpa using h1) (by omega) (by simp; omega); simpa using this
  · have := or_add acc (x % 128) 35 h0 (by simpa using h1) (by omega) (by simp; omega); simpa using this

/-! ### Encodings -/
def appB (xs ds : List Int) (m : Nat) : List Int := appU xs m ++ ds
def bti (n : Nat) (xs : List Int) (k : Nat) : List Int := (n : Int) :: xs.take k
theorem bti_step {n k : Nat} {xs : List Int} (h : k < xs.length) : bti n xs (k + 1) = bti n xs k ++ [xs[k]] := by
  rw [bti, bti, List.take_succ_eq_append_getElem h]; rfl
def encL (l : List Int) : List Int := l.foldl appU []
theorem encL_take {l : List Int} {k : Nat} (h : k < l.length) : encL (l.take (k + 1)) = appU (encL (l.take k)) l[k] := by
  rw [List.take_succ_eq_append_getElem h, encL, List.foldl_append]; rfl
theorem encL_len (l : List Int) : (encL l).length ≤ 6 * l.length := by
  have h : ∀ (l a : List Int), (l.foldl appU a).length ≤ a.length + 6 * l.length := by
    intro l
    induction l with
    | nil => intro a; simp
    | cons x l ih => intro a; have h1 := ih (appU a x); have h2 := appU_len a x; simp only [List.foldl_cons, List.length_cons]; omega
  have := h l []
  simp only [List.length_nil, Nat.zero_add] at this
  exact this

/-! ### The cipher -/
def encZ (key : Int) (zs : List Int) : List Int := zs.mapIdx fun i z => (z + khZ key [(i : Int)]) % 256
def decZ (key : Int) (zs : List Int) : List Int := zs.mapIdx fun i z => (z - khZ key [(i : Int)]) % 256
theorem encZ_length (key : Int) (zs : List Int) : (encZ key zs).length = zs.length := by simp [encZ]
theorem decZ_length (key : Int) (zs : List Int) : (decZ key zs).length = zs.length := by simp [decZ]
theorem encZ_get {key : Int} {zs : List Int} {k : Nat} (h : k < (encZ key zs).length) (h' : k < zs.length) : (encZ key zs)[k] = (zs[k] + khZ key [(k : Int)]) % 256 := by simp [encZ]
theorem decZ_get {key : Int} {zs : List Int} {k : Nat} (h : k < (decZ key zs).length) (h' : k < zs.length) : (decZ key zs)[k] = (zs[k] - khZ key [(k : Int)]) % 256 := by simp [decZ]
theorem tmod256 {x : Int} (h : 0 ≤ x) : x.tmod 256 = x % 256 := Int.tmod_eq_emod_of_nonneg h
theorem u8_wrap (x : Int) : IntKind.u8.wrap x = x % 256 := by simp [IntKind.wrap, IntKind.bits, IntKind.signed]
theorem in_one {k : Nat} (h : k ≤ 1073741824) : ∀ z ∈ [(k : Int)], -9223372036854775808 ≤ z ∧ z ≤ 9223372036854775807 := by
  intro z hz; simp at hz; omega
theorem take_app {α : Type} {xs : List α} {k : Nat} {x : α} (h : k < xs.length) (hx : xs[k] = x) : xs.take k ++ [x] = xs.take (k + 1) := by
  rw [List.take_succ_eq_append_getElem h, hx]
end Go.Proofs.Ytleopmeaaabejaa

namespace Go.Proofs.Ytleopmeaaabejaa
set_option linter.unusedVariables false
set_option maxRecDepth 100000
open Go.ChangeShapes Go.WideShapes Go.ChangeAt Go.RowKit Go.Deep

theorem row_u8 : RowT Try.prog 22 5 1 1 := RowT.mk' Try.underlying22 info_u8 rfl (by omega)
theorem row_i64 : RowT Try.prog 25 3 1 8 := RowT.mk' Try.underlying25 info_i64 rfl (by omega)




end Go.Proofs.Ytleopmeaaabejaa

namespace Go.Proofs.Ytleopmeaaabejaa
set_option linter.unusedVariables false
set_option linter.unusedSimpArgs false
set_option maxRecDepth 100000
open Go.ChangeShapes Go.WideShapes Go.ChangeAt Go.RowKit Go.Deep

/-- a cursor over bytes of older blocks -/
def Cur (w : World) (g : Nat) : Prop := ∃ (A : Option Addr) (n c : Nat) (zs : List Int) (k : Nat) (h : Int),
  w.heap[g]? = some (.cells #[.slice A n c, .int .i64 k, .int .i64 h] 92) ∧ n ≤ maxLen ∧ k ≤ n ∧ Reads w g 1 A n (zs.map (Value.int .u8)) ∧ (∀ z ∈ zs, 0 ≤ z ∧ z ≤ 255) ∧ -9223372036854775808 ≤ h ∧ h ≤ 9223372036854775807
def Draws (g : Nat) (w w' : World) : Prop := Keeps (· = g) w w' ∧ Cur w' g
theorem Cur.lt {w : World} {g : Nat} (h : Cur w g) : g < w.heap.size := by
  obtain ⟨A, n, c, zs, k, h, hg, _⟩ := h
  exact (Array.getElem?_eq_some_iff.1 hg).1
theorem Cur.below {w w' : World} {g B : Nat} (h : Cur w g) (hb : Below B w w') (hB : g < B) : Cur w' g := by
  obtain ⟨A, n, c, zs, k, h, hg, h1, h2, h3, h4⟩ := h
  exact ⟨A, n, c, zs, k, h, (hb.block g hB).trans hg, h1, h2, h3.keep fun p hp => hb.cell (by omega), h4⟩

theorem three_set2 {w : World} {g : Nat} {a b c : Value} {t : TypeId} (h : w.heap[g]? = some (.cells #[a, b, c] t (0, 0))) (u : Value) : (w.setCell ⟨g, 2, none⟩ u).heap[g]? = some (.cells #[a, b, u] t (0, 0)) := by
  have hlt := lt_of_block h
  have h' : w.heap[g] = .cells #[a, b, c] t (0, 0) := by simpa [Array.getElem?_eq_getElem hlt] using h
  show (w.heap.modify g _)[g]? = _
  rw [Array.getElem?_eq_getElem (by simpa using hlt), Array.getElem_modify_self, h']
  rfl
theorem three_set1 {w : World} {g : Nat} {a b c : Value} {t : TypeId} (h : w.heap[g]? = some (.cells #[a, b, c] t (0, 0))) (u : Value) : (w.setCell ⟨g, 1, none⟩ u).heap[g]? = some (.cells #[a, u, c] t (0, 0)) := by
  have hlt := lt_of_block h
  have h' : w.heap[g] = .cells #[a, b, c] t (0, 0) := by simpa [Array.getElem?_eq_getElem hlt] using h
  show (w.heap.modify g _)[g]? = _
  rw [Array.getElem?_eq_getElem (by simpa using hlt), Array.getElem_modify_self, h']
  rfl
theorem wrap64_in (x : Int) : -9223372036854775808 ≤ wrap64 x ∧ wrap64 x ≤ 9223372036854775807 := by
  unfold wrap64
  omega

theorem and_in (X : Int) (m : Nat) (hm : m < 9223372036854775808) : 0 ≤ bits .and .i64 X (m : Int) ∧ bits .and .i64 X (m : Int) ≤ (m : Int) := by
  have e : bits .and .i64 X (m : Int) = IntKind.i64.wrap ((BitVec.ofInt 64 X &&& BitVec.ofInt 64 (m : Int)).toNat : Int) := rfl
  have h : (BitVec.ofInt 64 X &&& BitVec.ofInt 64 (m : Int)).toNat ≤ m := by
    rw [BitVec.toNat_and, ofInt_i64 m hm]
    exact Nat.and_le_right
  rw [e, IntKind.wrap_i64]
  omega
theorem and255 (X : Int) : 0 ≤ bits .and .i64 X 255 ∧ bits .and .i64 X 255 ≤ 255 := and_in X 255 (by omega)

theorem drews3 {w w' : World} {S : Nat → Prop} (h : Keeps S w w') : Keeps S w w'.drew.drew.drew := ⟨h.os, h.tape, h.output, h.size, h.block⟩
theorem drews2 {w w' : World} {S : Nat → Prop} (h : Keeps S w w') : Keeps S w w'.drew.drew := ⟨h.os, h.tape, h.output, h.size, h.block⟩

set_option maxHeartbeats 800000 in
theorem l1Byte_any (w : World) (g : Nat) (hc : Cur w g) : Calls Try.prog 63 #[.pointer (some ⟨g, 0, none⟩)] w fun e w' => ∃ x : Int, 0 ≤ x ∧ x ≤ 255 ∧ e = .returned (.int .i64 x) ∧ Draws g w w' := by
  obtain ⟨A, n, c, zs, k, h, hg, hn, hk, hr, hz, h1, h2⟩ := hc
  have hlt : g < w.heap.size := (Array.getElem?_eq_some_iff.1 hg).1
  have c0 : w.cell? ⟨g, 0, none⟩ = some (.slice A n c) := by simp [World.cell?, hg]
  have c1 : w.cell? ⟨g, 1, none⟩ = some (.int .i64 k) := by simp [World.cell?, hg]
  have c2 : w.cell? ⟨g, 2, none⟩ = some (.int .i64 h) := by simp [World.cell?, hg]
  have f1 : w.frozen? ⟨g, 1, none⟩ = false := by simp [World.frozen?, hg]
  have f2 : w.frozen? ⟨g, 2, none⟩ = false := by simp [World.frozen?, hg]
  have hset : ∀ (h' : Int), (w.setCell ⟨g, 2, none⟩ (.int .i64 h')).heap[g]? = some (.cells #[.slice A n c, .int .i64 k, .int .i64 h'] 92) := fun h' => three_set2 hg _
  have hw64 : ∀ x : Int, -9223372036854775808 ≤ wrap64 x ∧ wrap64 x ≤ 9223372036854775807 := wrap64_in
  clear c0 c1 f1
  go_enter Try.func63, Try.ntmps63
  go_wp2
  have hkp : Keeps (· = g) w (w.setCell ⟨g, 2, none⟩ (.int .i64 (wrap64 (wrap64 (h * 6364136223846793005) + 1442695040888963407)))) := keeps_set w (p := ⟨g, 2, none⟩) _ rfl
  obtain ⟨h3, h4⟩ := hw64 (wrap64 (h * 6364136223846793005) + 1442695040888963407)
  have hg1 := hset (wrap64 (wrap64 (h * 6364136223846793005) + 1442695040888963407))
  generalize wrap64 (wrap64 (h * 6364136223846793005) + 1442695040888963407) = h' at *
  generalize w.setCell ⟨g, 2, none⟩ (.int .i64 h') = w1 at *
  have hr1 : Reads w1 g 1 A n (zs.map (Value.int .u8)) := hr.keep fun p hp => (hkp.below (B := g) (by omega) (fun k hk => by omega)).cell hp
  clear hset hw64 c2 f2 hr
  have c0 : w1.cell? ⟨g, 0, none⟩ = some (.slice A n c) := by simp [World.cell?, hg1]
  have c1 : w1.cell? ⟨g, 1, none⟩ = some (.int .i64 k) := by simp [World.cell?, hg1]
  have c2 : w1.cell? ⟨g, 2, none⟩ = some (.int .i64 h') := by simp [World.cell?, hg1]
  have f1 : w1.frozen? ⟨g, 1, none⟩ = false := by simp [World.frozen?, hg1]
  have hd : ∀ p, w1.drew.cell? p = w1.cell? p := fun _ => rfl
  by_cases hkn : k < n
  · obtain ⟨b0, off0, rfl, hb0, hcx⟩ := hr1.num hkn
    have lz : zs.length = n := by simpa using hr1.1
    replace hcx := hcx (by omega)
    obtain ⟨hv1, hv2⟩ := hz _ (List.getElem_mem (by omega : k < zs.length))
    generalize zs[k]'(by omega) = x at *
    have hset : ∀ (N : Nat) (u : Value), ((w1.drewN N).setCell ⟨g, 1, none⟩ u).heap[g]? = _ := fun N u => three_set1 (w := w1.drewN N) hg1 u
    have hks : ∀ (N : Nat) (u : Value), Keeps (· = g) w ((w1.drewN N).setCell ⟨g, 1, none⟩ u) := fun N u => (Keeps.trans hkp (show Keeps (· = g) w1 (w1.drewN N) from ⟨rfl, rfl, rfl, Nat.le_refl _, fun _ _ _ => rfl⟩)).trans (keeps_set (w1.drewN N) (S := (· = g)) (p := ⟨g, 1, none⟩) u rfl)
    have hrs : ∀ (N : Nat) (u : Value), Reads ((w1.drewN N).setCell ⟨g, 1, none⟩ u) g 1 (some ⟨b0, off0, none⟩) n (zs.map (Value.int .u8)) := fun N u => (hr1.keep (w' := w1.drewN N) fun _ _ => rfl).keep fun p hp => ((keeps_set (w1.drewN N) (S := (· = g)) (p := ⟨g, 1, none⟩) u rfl).below (B := g) (by show g ≤ w1.heap.size; have := hkp.size; omega) (fun k hk => by omega)).cell hp
    clear hg1 hg
    go_region
    obtain ⟨b1, b2⟩ := and255 (bits .xor .i64 (h' / 8589934592) (h' / 140737488355328))
    generalize bits .and .i64 (bits .xor .i64 (h' / 8589934592) (h' / 140737488355328)) 255 = y at *
    go_wp2
    go_region
    go_wp2
    obtain ⟨b3, b4⟩ := and255 (y + x)
    go_quiet (fail)
    generalize bits .and .i64 (y + x) 255 = y2 at *
    have hn63 : n ≤ 9223372036854775807 := hn
    go_wp2
    rw [show ((k : Int) + 1) = ((k + 1 : Nat) : Int) by omega]
    go_ret
    exact ⟨y2, b3, b4, rfl, hks _ _, _, _, _, _, _, _, hset _ _, hn, hkn, hrs _ _, hz, h3, h4⟩
  · go_region
    obtain ⟨b1, b2⟩ := and255 (bits .xor .i64 (h' / 8589934592) (h' / 140737488355328))
    generalize bits .and .i64 (bits .xor .i64 (h' / 8589934592) (h' / 140737488355328)) 255 = y at *
    go_wp2
    go_region
    go_wp2
    go_ret
    exact ⟨y, b1, b2, rfl, drews2 hkp, _, _, _, _, _, _, hg1, hn, hk, hr1.keep fun _ _ => rfl, hz, h3, h4⟩
end Go.Proofs.Ytleopmeaaabejaa
