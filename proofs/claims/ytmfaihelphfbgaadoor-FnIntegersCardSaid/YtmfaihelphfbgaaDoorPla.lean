/-
  Plain facts on lists and integers: the hash, varints. No program is named. No condition.
-/
import Derived.Test.YtmfaihelphfbgaaDoorMem
import Derived.Laws.BitsAllLaws
import Derived.Laws.BitsLemmas
namespace Go.Proofs.YtmfaihelphfbgaaDoor
set_option linter.unusedVariables false

def M31 : Int := 2147483647
def hashStep (acc v : Int) : Int := (acc * 1000003 + modZ v 2147483647 + 13) % 2147483647
def hashZ (l : List Int) : Int := l.foldl hashStep 11
theorem hashStep_bd (acc v : Int) : 0 ≤ hashStep acc v ∧ hashStep acc v < 2147483647 := by unfold hashStep; omega
theorem hashZ_snoc (l : List Int) (x : Int) : hashZ (l ++ [x]) = hashStep (hashZ l) x := by simp [hashZ]
theorem hash_nil : hashZ [] = 11 := rfl
theorem foldl_bd (l : List Int) (a : Int) (h : 0 ≤ a ∧ a < 2147483647) : 0 ≤ l.foldl hashStep a ∧ l.foldl hashStep a < 2147483647 := by
  induction l generalizing a with
  | nil => exact h
  | cons x l ih => exact ih _ (hashStep_bd a x)
theorem hashZ_bd (l : List Int) : 0 ≤ hashZ l ∧ hashZ l < 2147483647 := foldl_bd l 11 (by omega)
theorem hash_take {l : List Int} {k : Nat} (h : k < l.length) : hashZ (l.take (k + 1)) = hashStep (hashZ (l.take k)) l[k] := by
  rw [List.take_succ_eq_append_getElem h, hashZ_snoc]
theorem mod31_bd (v : Int) : 0 ≤ modZ v 2147483647 ∧ modZ v 2147483647 < 2147483647 := by
  have h : modZ v 2147483647 = v % 2147483647 := by simp [modZ, inR]
  rw [h]; omega

/-! ### Varints -/
def uvF : Nat → Int → List Int
  | 0, _ => []
  | f + 1, n => if n < 128 then [n] else (n % 128 + 128) :: uvF f (n / 128)
def uv (n : Int) : List Int := uvF 6 n
theorem uvF_succ (f : Nat) (n : Int) : uvF (f + 1) n = if n < 128 then [n] else (n % 128 + 128) :: uvF f (n / 128) := rfl
theorem uvF_more (f : Nat) : ∀ (n : Int), 0 ≤ n → n < 128 ^ (f + 1) → ∀ g, f ≤ g → uvF (g + 1) n = uvF (f + 1) n := by
  induction f with
  | zero => intro n h0 h g _; simp at h; simp [uvF, h]
  | succ f ih =>
    intro n h0 h g hg
    obtain ⟨g, rfl⟩ : ∃ g', g = g' + 1 := ⟨g - 1, by omega⟩
    rw [uvF_succ (g + 1), uvF_succ (f + 1)]
    split
    · rfl
    · rw [ih (n / 128) (by omega) (by rw [Int.pow_succ] at h; omega) g (by omega)]
theorem uv_small {n : Int} (h : n < 128) : uv n = [n] := by simp [uv, uvF, h]
theorem uv_big {n : Int} (h0 : 128 ≤ n) (h1 : n ≤ 1000000000000) : uv n = (n % 128 + 128) :: uv (n / 128) := by
  unfold uv
  have h2 : n / 128 < 128 ^ (4 + 1) := by simp; omega
  rw [uvF_more 4 (n / 128) (by omega) h2 5 (by omega), uvF, if_neg (by omega)]
theorem uv_len (n : Int) : (uv n).length ≤ 6 := by
  have h : ∀ f n, (uvF f n).length ≤ f := by
    intro f
    induction f with
    | zero => intro n; simp [uvF]
    | succ f ih => intro n; rw [uvF]; split <;> simp; exact ih _
  exact h 6 n
theorem uv_pos (n : Int) : 0 < (uv n).length := by
  unfold uv; rw [uvF]; split <;> simp
theorem uv_bytes (n : Int) (h : 0 ≤ n) : ∀ x ∈ uv n, 0 ≤ x ∧ x < 256 := by
  have h : ∀ f n, 0 ≤ n → ∀ x ∈ uvF f n, 0 ≤ x ∧ x < 256 := by
    intro f
    induction f with
    | zero => intro n _ x hx; simp [uvF] at hx
    | succ f ih =>
      intro n h0 x hx
      rw [uvF] at hx
      split at hx
      · simp at hx; omega
      · rcases List.mem_cons.1 hx with rfl | hx
        · omega
        · exact ih _ (by omega) x hx
  exact h 6 n ‹_›
def appU (b : List Int) (n : Int) : List Int := if inR n 0 1000000000000 then b ++ uv n else b
theorem appU_yes {b : List Int} {n : Int} (h : inR n 0 1000000000000 = true) : appU b n = b ++ uv n := by simp [appU, h]
theorem appU_no {b : List Int} {n : Int} (h : inR n 0 1000000000000 = false) : appU b n = b := by simp [appU, h]
theorem appU_len (b : List Int) (n : Int) : (appU b n).length ≤ b.length + 6 := by
  unfold appU; have := uv_len n; split <;> simp <;> omega
def khZ (key : Int) (xs : List Int) : Int := hashZ ([key] ++ xs ++ [key])
theorem khZ_bd (key : Int) (xs : List Int) : 0 ≤ khZ key xs ∧ khZ key xs < 2147483647 := hashZ_bd _
theorem kh_in {key : Int} {xs : List Int} (h1 : -9223372036854775808 ≤ key) (h2 : key ≤ 9223372036854775807) (hz : ∀ z ∈ xs, -9223372036854775808 ≤ z ∧ z ≤ 9223372036854775807) :
    ∀ z ∈ [key] ++ xs ++ [key], -9223372036854775808 ≤ z ∧ z ≤ 9223372036854775807 := by
  intro z hz'
  simp only [List.mem_append, List.mem_singleton] at hz'
  rcases hz' with (rfl | h) | rfl
  · exact ⟨h1, h2⟩
  · exact hz z h
  · exact ⟨h1, h2⟩
theorem uv_step {cur xs : List Int} {m q : Int} (h : cur ++ uv m = xs ++ uv q) (h0 : 128 ≤ m) (h1 : m ≤ 1000000000000) : (cur ++ [m % 128 + 128]) ++ uv (m / 128) = xs ++ uv q := by
  rw [← h, uv_big h0 h1]; simp
theorem uv_fin {cur xs : List Int} {m q : Int} (h : cur ++ uv m = xs ++ uv q) (h0 : m < 128) : cur ++ [m] = xs ++ uv q := by
  rw [← h, uv_small h0]
theorem uv_room {cur xs : List Int} {m q : Int} (h : cur ++ uv m = xs ++ uv q) : cur.length ≤ xs.length + 6 := by
  have := congrArg List.length h
  simp only [List.length_append] at this
  have := uv_len q
  omega

/-! ### bits at int -/
theorem ofInt_i64 (a : Nat) (ha : a < 9223372036854775808) : (BitVec.ofInt 64 (a : Int)).toNat = a := by
  rw [BitVec.ofInt_natCast, BitVec.toNat_ofNat]; exact Nat.mod_eq_of_lt (by omega)
theorem i64_and_nat (a b : Nat) (ha : a < 9223372036854775808) (hb : b < 9223372036854775808) : bits .and .i64 (a : Int) (b : Int) = ((a &&& b : Nat) : Int) := by
  have hx : a &&& b < 2 ^ 63 := Nat.and_lt_two_pow _ (by omega)
  show IntKind.i64.wrap ((BitVec.ofInt 64 (a : Int) &&& BitVec.ofInt 64 (b : Int)).toNat : Int) = _
  rw [BitVec.toNat_and, ofInt_i64 a ha, ofInt_i64 b hb, IntKind.wrap_i64]
  omega
theorem i64_or_nat (a b : Nat) (ha : a < 9223372036854775808) (hb : b < 9223372036854775808) : bits .or .i64 (a : Int) (b : Int) = ((a ||| b : Nat) : Int) := by
  have hx : a ||| b < 2 ^ 63 := Nat.or_lt_two_pow (by omega) (by omega)
  show IntKind.i64.wrap ((BitVec.ofInt 64 (a : Int) ||| BitVec.ofInt 64 (b : Int)).toNat : Int) = _
  rw [BitVec.toNat_or, ofInt_i64 a ha, ofInt_i64 b hb, IntKind.wrap_i64]
  omega
theorem and127 (m : Int) (h0 : 0 ≤ m) (h1 : m < 9223372036854775808) : bits .and .i64 m 127 = m % 128 := by
  obtain ⟨k, rfl⟩ := Int.eq_ofNat_of_zero_le h0
  have := i64_and_nat k 127 (by omega) (by omega)
  rw [show ((127 : Nat) : Int) = 127 from rfl] at this
  rw [this, show (127 : Nat) = 2 ^ 7 - 1 from rfl, Nat.and_two_pow_sub_one_eq_mod]
  omega
theorem or_add (a y : Int) (s : Nat) (ha : 0 ≤ a) (ha' : a < 2 ^ s) (hy : 0 ≤ y) (hb : y * 2 ^ s + a < 9223372036854775808) : bits .or .i64 a (y * 2 ^ s) = a + y * 2 ^ s := by
  obtain ⟨a, rfl⟩ := Int.eq_ofNat_of_zero_le ha
  obtain ⟨y, rfl⟩ := Int.eq_ofNat_of_zero_le hy
  have e : (y : Int) * 2 ^ s = ((2 ^ s * y : Nat) : Int) := by push_cast; rw [Int.mul_comm]
  have ha2 : a < 2 ^ s := by exact_mod_cast ha'
  rw [e] at hb ⊢
  have h := i64_or_nat a (2 ^ s * y) (by omega) (by omega)
  rw [h, Nat.or_comm, ← Nat.two_pow_add_eq_or_of_lt ha2 y]
  push_cast; rw [Int.add_comm]
theorem or128 (x : Int) (h0 : 0 ≤ x) (h1 : x < 128) : bits .or .i64 x 128 = x + 128 := by
  have := or_add x 1 7 h0 (by simpa using h1) (by omega) (by simp; omega)
  simpa using this

/-! ### Reading a varint -/
def ruF (zs : List Int) : Nat → Nat → Int → Int → Option (Int × Int)
  | 0, _, _, _ => none
  | f + 1, p, pw, acc =>
    match zs[p]? with
    | none => none
    | some x =>
      if x < 128 then (if (1 < pw ∧ x = 0) ∨ 1000000000000 < acc + x % 128 * pw then none else some (acc + x % 128 * pw, (p : Int) + 1))
      else ruF zs f (p + 1) (pw * 128) (acc + x % 128 * pw)
def readU (zs : List Int) (off : Int) : Option (Int × Int) := if off < 0 then none else ruF zs 6 off.toNat 1 0
def ruN (r : Option (Int × Int)) : Int := (r.map (·.1)).getD 0
def ruA (r : Option (Int × Int)) : Int := (r.map (·.2)).getD 0
def ruE (r : Option (Int × Int)) : Ending := .returned (.tuple #[.int .i64 (ruN r), .int .i64 (ruA r), .bool r.isSome])
theorem ruE_none {r : Option (Int × Int)} (h : r = none) : Ending.returned (.tuple #[.int .i64 0, .int .i64 0, .bool false]) = ruE r := by subst h; rfl
theorem ruE_some {r : Option (Int × Int)} {a b a' b' : Int} (h : r = some (a, b)) (ha : a' = a) (hb : b' = b) : Ending.returned (.tuple #[.int .i64 a', .int .i64 b', .bool true]) = ruE r := by subst h ha hb; rfl
theorem ruF_out {zs : List Int} {f p : Nat} {pw acc : Int} (h : zs.length ≤ p) : ruF zs f p pw acc = none := by
  cases f with
  | zero => rfl
  | succ f => simp [ruF, List.getElem?_eq_none h]
theorem ruF_big {zs : List Int} {f p : Nat} {pw acc x : Int} (h : zs[p]? = some x) (hx : 128 ≤ x) : ruF zs (f + 1) p pw acc = ruF zs f (p + 1) (pw * 128) (acc + x % 128 * pw) := by
  rw [ruF, h]; simp only; rw [if_neg (by omega)]
theorem ruF_bad {zs : List Int} {f p : Nat} {pw acc x : Int} (h : zs[p]? = some x) (hx : x < 128) (hb : (1 < pw ∧ x = 0) ∨ 1000000000000 < acc + x % 128 * pw) : ruF zs (f + 1) p pw acc = none := by
  rw [ruF, h]; simp only; rw [if_pos hx, if_pos hb]
theorem ruF_good {zs : List Int} {f p : Nat} {pw acc x : Int} (h : zs[p]? = some x) (hx : x < 128) (hb : ¬ ((1 < pw ∧ x = 0) ∨ 1000000000000 < acc + x % 128 * pw)) :
    ruF zs (f + 1) p pw acc = some (acc + x % 128 * pw, (p : Int) + 1) := by
  rw [ruF, h]; simp only; rw [if_pos hx, if_neg hb]
/-- round k: f rounds to come, the place's weight -/
def P6 (k f : Nat) (pw : Int) : Prop :=
  (k = 0 ∧ f = 5 ∧ pw = 1) ∨ (k = 1 ∧ f = 4 ∧ pw = 128) ∨ (k = 2 ∧ f = 3 ∧ pw = 16384) ∨ (k = 3 ∧ f = 2 ∧ pw = 2097152) ∨ (k = 4 ∧ f = 1 ∧ pw = 268435456) ∨ (k = 5 ∧ f = 0 ∧ pw = 34359738368)
def P7 (k f : Nat) (pw : Int) : Prop := (∃ f', f = f' + 1 ∧ P6 k f' pw) ∨ (k = 6 ∧ f = 0 ∧ pw = 4398046511104)
theorem P6.next {k f : Nat} {pw : Int} (h : P6 k f pw) : P7 (k + 1) f (pw * 128) := by
  rcases h with ⟨rfl, rfl, rfl⟩ | ⟨rfl, rfl, rfl⟩ | ⟨rfl, rfl, rfl⟩ | ⟨rfl, rfl, rfl⟩ | ⟨rfl, rfl, rfl⟩ | ⟨rfl, rfl, rfl⟩
  · exact .inl ⟨4, rfl, by simp [P6]⟩
  · exact .inl ⟨3, rfl, by simp [P6]⟩
  · exact .inl ⟨2, rfl, by simp [P6]⟩
  · exact .inl ⟨1, rfl, by simp [P6]⟩
  · exact .inl ⟨0, rfl, by simp [P6]⟩
  · exact .inr ⟨rfl, rfl, by simp⟩
theorem P6.or_ {k f : Nat} {pw acc x : Int} (h : P6 k f pw) (h0 : 0 ≤ acc) (h1 : acc < pw) (hx : 0 ≤ x) (hx1 : x ≤ 255) : bits .or .i64 acc (x % 128 * pw) = acc + x % 128 * pw := by
  rcases h with ⟨rfl, rfl, rfl⟩ | ⟨rfl, rfl, rfl⟩ | ⟨rfl, rfl, rfl⟩ | ⟨rfl, rfl, rfl⟩ | ⟨rfl, rfl, rfl⟩ | ⟨rfl, rfl, rfl⟩
  · have := or_add acc (x % 128) 0 h0 (by simpa using h1) (by omega) (by simp; omega); simpa using this
  · have := or_add acc (x % 128) 7 h0 (by simpa using h1) (by omega) (by simp; omega); simpa using this
  · have := or_add acc (x % 128) 14 h0 (by simpa using h1) (by omega) (by simp; omega); simpa using this
  · have := or_add acc (x % 128) 21 h0 (by simpa using h1) (by omega) (by simp; omega); simpa using this
  · have := or_add acc (x % 128) 28 h0 (by simpa using h1) (by omega) (by simp; omega); simpa using this
  · have := or_add acc (x % 128) 35 h0 (by simpa using h1) (by omega) (by simp; omega); simpa using this

/-! ### Encodings -/
def appB (xs ds : List Int) (m : Nat) : List Int := appU xs m ++ ds
def bti (n : Nat) (xs : List Int) (k : Nat) : List Int := (n : Int) :: xs.take k
theorem bti_step {n k : Nat} {xs : List Int} (h : k < xs.length) : bti n xs (k + 1) = bti n xs k ++ [xs[k]] := by
  rw [bti, bti, List.take_succ_eq_append_getElem h]; rfl
def encL (l : List Int) : List Int := l.foldl appU []
theorem encL_take {l : List Int} {k : Nat} (h : k < l.length) : encL (l.take (k + 1)) = appU (encL (l.take k)) l[k] := by
  rw [List.take_succ_eq_append_getElem h, encL, List.foldl_append]; rfl
theorem encL_len (l : List Int) : (encL l).length ≤ 6 * l.length := by
  have h : ∀ (l a : List Int), (l.foldl appU a).length ≤ a.length + 6 * l.length := by
    intro l
    induction l with
    | nil => intro a; simp
    | cons x l ih => intro a; have h1 := ih (appU a x); have h2 := appU_len a x; simp only [List.foldl_cons, List.length_cons]; omega
  have := h l []
  simp only [List.length_nil, Nat.zero_add] at this
  exact this

/-! ### The cipher -/
def encZ (key : Int) (zs : List Int) : List Int := zs.mapIdx fun i z => (z + khZ key [(i : Int)]) % 256
def decZ (key : Int) (zs : List Int) : List Int := zs.mapIdx fun i z => (z - khZ key [(i : Int)]) % 256
theorem encZ_length (key : Int) (zs : List Int) : (encZ key zs).length = zs.length := by simp [encZ]
theorem decZ_length (key : Int) (zs : List Int) : (decZ key zs).length = zs.length := by simp [decZ]
theorem encZ_get {key : Int} {zs : List Int} {k : Nat} (h : k < (encZ key zs).length) (h' : k < zs.length) : (encZ key zs)[k] = (zs[k] + khZ key [(k : Int)]) % 256 := by simp [encZ]
theorem decZ_get {key : Int} {zs : List Int} {k : Nat} (h : k < (decZ key zs).length) (h' : k < zs.length) : (decZ key zs)[k] = (zs[k] - khZ key [(k : Int)]) % 256 := by simp [decZ]
theorem tmod256 {x : Int} (h : 0 ≤ x) : x.tmod 256 = x % 256 := Int.tmod_eq_emod_of_nonneg h
theorem u8_wrap (x : Int) : IntKind.u8.wrap x = x % 256 := by simp [IntKind.wrap, IntKind.bits, IntKind.signed]
theorem in_one {k : Nat} (h : k ≤ 1073741824) : ∀ z ∈ [(k : Int)], -9223372036854775808 ≤ z ∧ z ≤ 9223372036854775807 := by
  intro z hz; simp at hz; omega
theorem take_app {α : Type} {xs : List α} {k : Nat} {x : α} (h : k < xs.length) (hx : xs[k] = x) : xs.take k ++ [x] = xs.take (k + 1) := by
  rw [List.take_succ_eq_append_getElem h, hx]
end Go.Proofs.YtmfaihelphfbgaaDoor
