/-
  Contracts of AddToken of the program: the ways that add nothing. Condition: at most 2^30 elements.
-/
import Derived.Deep.QuietTactic
import Derived.BigQuiet
import Derived.Test.YtleopmeaaabejaaP10
import Derived.Test.YtleopmeaaabejaaP09
namespace Go.Proofs.Ytleopmeaaabejaa
set_option linter.unusedVariables false
set_option linter.unusedSimpArgs false
set_option maxRecDepth 100000
open Go.ChangeShapes Go.WideShapes Go.ChangeAt Go.RowKit Go.Deep

set_option maxHeartbeats 1000000 in
theorem addToken_impl_stay_k1a_true {A A' At : Option Addr} {n c n' c' ct : Nat} {b : Bld}  {kind : Int} {name text : ByteArray} {m : Nat} (w : World) (hx : ReadsB w w.heap.size A n A' n' b) (hn : n ≤ 1073741824) (hn' : n' ≤ 1073741824) (hka : ∀ a ∈ b.nodes, a.attrs.length ≤ 1073741824) (hv : voidB name = true) (hf : 40 ≤ n) :
    Calls Try.prog 15 #[.agg #[.slice A n c, .slice A' n' c'], .agg #[.int .i64 1, .string name, .slice At m ct, .string text]] w (GotBI w 33 104 3 (b, -1)) := by
  have hlen := Lib.hid hx.len
  have hb3 : Below w.heap.size w _ := (((Below.refl _ w).alloc (Nat.le_refl _) (.cells #[.slice A n c, .slice A' n' c'] 27)).alloc (by simp) (.cells #[.int .i64 1, .string name, .slice At m ct, .string text] 40)).alloc (by simp; omega) (.cells #[.slice none 0 0, .slice none 0 0] 27)
  have hx3 := hx.next hb3
  have hz2 : decide ((40 : Int) ≤ (n : Int)) = true := by simp; omega
  go_enter Try.func15, Try.ntmps15
  go_wp2_with (first
    | (go_at_call 39
       refine (copyBuilder_impl (b := b) _ hx3 hn hn' hka).mono ?_
       rintro e w4 ⟨A4, c4, A5, c5, L, rfl, o4, b4⟩
       simp only [World.size_alloc] at o4 b4
       obtain ⟨st, ow⟩ := AddAt.of o4 b4
       obtain ⟨⟨f00, f01⟩, ⟨f10, f11, f12, f13⟩, ⟨f20, f21, f22, f23⟩, ⟨f30, f31, f32, f33⟩⟩ := st.facts)
    | (go_at_call 13; refine (isVoid_impl _ _).mono ?_; rintro e w5 ⟨rfl, rfl⟩; simp only [hv]))
  obtain ⟨ob, bl⟩ := st.fin ow (by simp) (.slice A4 n c4) (.slice A5 n' c5)
  exact bodyPost_ret (v := .tuple #[.agg #[.slice A4 n c4, .slice A5 n' c5], .int .i64 (-1)]) (by simp [results, Try.results15, go_sem, f20, f21, f22, f23, f30, f31]) rfl (GotBI.of rfl hlen.out.1 hlen.out.2 ob bl)
set_option maxHeartbeats 1000000 in
theorem addToken_impl_stay_k1b_true {A A' At : Option Addr} {n c c' ct : Nat} {b : Bld}  {kind : Int} {name text : ByteArray} {m : Nat} (w : World) (hx : ReadsB w w.heap.size A n A' 0 b) (hn : n ≤ 1073741824) (hn' : 0 ≤ 1073741824) (hka : ∀ a ∈ b.nodes, a.attrs.length ≤ 1073741824) (hv : voidB name = true) (hf : n < 40) :
    Calls Try.prog 15 #[.agg #[.slice A n c, .slice A' 0 c'], .agg #[.int .i64 1, .string name, .slice At m ct, .string text]] w (GotBI w 33 104 3 (b, -1)) := by
  have hlen := Lib.hid hx.len
  have hb3 : Below w.heap.size w _ := (((Below.refl _ w).alloc (Nat.le_refl _) (.cells #[.slice A n c, .slice A' 0 c'] 27)).alloc (by simp) (.cells #[.int .i64 1, .string name, .slice At m ct, .string text] 40)).alloc (by simp; omega) (.cells #[.slice none 0 0, .slice none 0 0] 27)
  have hx3 := hx.next hb3
  have hz2 : decide ((40 : Int) ≤ (n : Int)) = false := by simp; omega
  go_enter Try.func15, Try.ntmps15
  go_wp2_with (first
    | (go_at_call 39
       refine (copyBuilder_impl (b := b) _ hx3 hn hn' hka).mono ?_
       rintro e w4 ⟨A4, c4, A5, c5, L, rfl, o4, b4⟩
       simp only [World.size_alloc] at o4 b4
       obtain ⟨st, ow⟩ := AddAt.of o4 b4
       obtain ⟨⟨f00, f01⟩, ⟨f10, f11, f12, f13⟩, ⟨f20, f21, f22, f23⟩, ⟨f30, f31, f32, f33⟩⟩ := st.facts)
    | (go_at_call 13; refine (isVoid_impl _ _).mono ?_; rintro e w5 ⟨rfl, rfl⟩; simp only [hv]))
  obtain ⟨ob, bl⟩ := st.fin ow (by simp) (.slice A4 n c4) (.slice A5 0 c5)
  exact bodyPost_ret (v := .tuple #[.agg #[.slice A4 n c4, .slice A5 0 c5], .int .i64 (-1)]) (by simp [results, Try.results15, go_sem, f20, f21, f22, f23, f30, f31]) rfl (GotBI.of rfl hlen.out.1 hlen.out.2 ob bl)
set_option maxHeartbeats 1000000 in
theorem addToken_impl_stay_k1a_false {A A' At : Option Addr} {n c n' c' ct : Nat} {b : Bld}  {kind : Int} {name text : ByteArray} {m : Nat} (w : World) (hx : ReadsB w w.heap.size A n A' n' b) (hn : n ≤ 1073741824) (hn' : n' ≤ 1073741824) (hka : ∀ a ∈ b.nodes, a.attrs.length ≤ 1073741824) (hv : voidB name = false) (hf : 40 ≤ n) :
    Calls Try.prog 15 #[.agg #[.slice A n c, .slice A' n' c'], .agg #[.int .i64 1, .string name, .slice At m ct, .string text]] w (GotBI w 33 104 3 (b, -1)) := by
  have hlen := Lib.hid hx.len
  have hb3 : Below w.heap.size w _ := (((Below.refl _ w).alloc (Nat.le_refl _) (.cells #[.slice A n c, .slice A' n' c'] 27)).alloc (by simp) (.cells #[.int .i64 1, .string name, .slice At m ct, .string text] 40)).alloc (by simp; omega) (.cells #[.slice none 0 0, .slice none 0 0] 27)
  have hx3 := hx.next hb3
  have hz2 : decide ((40 : Int) ≤ (n : Int)) = true := by simp; omega
  go_enter Try.func15, Try.ntmps15
  go_wp2_with (first
    | (go_at_call 39
       refine (copyBuilder_impl (b := b) _ hx3 hn hn' hka).mono ?_
       rintro e w4 ⟨A4, c4, A5, c5, L, rfl, o4, b4⟩
       simp only [World.size_alloc] at o4 b4
       obtain ⟨st, ow⟩ := AddAt.of o4 b4
       obtain ⟨⟨f00, f01⟩, ⟨f10, f11, f12, f13⟩, ⟨f20, f21, f22, f23⟩, ⟨f30, f31, f32, f33⟩⟩ := st.facts)
    | (go_at_call 13; refine (isVoid_impl _ _).mono ?_; rintro e w5 ⟨rfl, rfl⟩; simp only [hv]))
  obtain ⟨ob, bl⟩ := st.fin ow (by simp) (.slice A4 n c4) (.slice A5 n' c5)
  exact bodyPost_ret (v := .tuple #[.agg #[.slice A4 n c4, .slice A5 n' c5], .int .i64 (-1)]) (by simp [results, Try.results15, go_sem, f20, f21, f22, f23, f30, f31]) rfl (GotBI.of rfl hlen.out.1 hlen.out.2 ob bl)
set_option maxHeartbeats 1000000 in
theorem addToken_impl_stay_k1b_false {A A' At : Option Addr} {n c c' ct : Nat} {b : Bld}  {kind : Int} {name text : ByteArray} {m : Nat} (w : World) (hx : ReadsB w w.heap.size A n A' 0 b) (hn : n ≤ 1073741824) (hn' : 0 ≤ 1073741824) (hka : ∀ a ∈ b.nodes, a.attrs.length ≤ 1073741824) (hv : voidB name = false) (hf : n < 40) :
    Calls Try.prog 15 #[.agg #[.slice A n c, .slice A' 0 c'], .agg #[.int .i64 1, .string name, .slice At m ct, .string text]] w (GotBI w 33 104 3 (b, -1)) := by
  have hlen := Lib.hid hx.len
  have hb3 : Below w.heap.size w _ := (((Below.refl _ w).alloc (Nat.le_refl _) (.cells #[.slice A n c, .slice A' 0 c'] 27)).alloc (by simp) (.cells #[.int .i64 1, .string name, .slice At m ct, .string text] 40)).alloc (by simp; omega) (.cells #[.slice none 0 0, .slice none 0 0] 27)
  have hx3 := hx.next hb3
  have hz2 : decide ((40 : Int) ≤ (n : Int)) = false := by simp; omega
  go_enter Try.func15, Try.ntmps15
  go_wp2_with (first
    | (go_at_call 39
       refine (copyBuilder_impl (b := b) _ hx3 hn hn' hka).mono ?_
       rintro e w4 ⟨A4, c4, A5, c5, L, rfl, o4, b4⟩
       simp only [World.size_alloc] at o4 b4
       obtain ⟨st, ow⟩ := AddAt.of o4 b4
       obtain ⟨⟨f00, f01⟩, ⟨f10, f11, f12, f13⟩, ⟨f20, f21, f22, f23⟩, ⟨f30, f31, f32, f33⟩⟩ := st.facts)
    | (go_at_call 13; refine (isVoid_impl _ _).mono ?_; rintro e w5 ⟨rfl, rfl⟩; simp only [hv]))
  obtain ⟨ob, bl⟩ := st.fin ow (by simp) (.slice A4 n c4) (.slice A5 0 c5)
  exact bodyPost_ret (v := .tuple #[.agg #[.slice A4 n c4, .slice A5 0 c5], .int .i64 (-1)]) (by simp [results, Try.results15, go_sem, f20, f21, f22, f23, f30, f31]) rfl (GotBI.of rfl hlen.out.1 hlen.out.2 ob bl)
set_option maxHeartbeats 1000000 in
theorem addToken_impl_stay_k1c {A A' At : Option Addr} {n c n' c' ct : Nat} {b : Bld}  {kind : Int} {name text : ByteArray} {m : Nat} (w : World) (hx : ReadsB w w.heap.size A n A' n' b) (hn : n ≤ 1073741824) (hn' : n' ≤ 1073741824) (hka : ∀ a ∈ b.nodes, a.attrs.length ≤ 1073741824) (hv : voidB name = false) (hf : n < 40) (hf2 : 0 < n') (hf3 : 8 ≤ n') :
    Calls Try.prog 15 #[.agg #[.slice A n c, .slice A' n' c'], .agg #[.int .i64 1, .string name, .slice At m ct, .string text]] w (GotBI w 33 104 3 (b, -1)) := by
  have hlen := Lib.hid hx.len
  have hb3 : Below w.heap.size w _ := (((Below.refl _ w).alloc (Nat.le_refl _) (.cells #[.slice A n c, .slice A' n' c'] 27)).alloc (by simp) (.cells #[.int .i64 1, .string name, .slice At m ct, .string text] 40)).alloc (by simp; omega) (.cells #[.slice none 0 0, .slice none 0 0] 27)
  have hx3 := hx.next hb3
  have hz : ((n' : Int) == 0) = false := by simp; omega
  have hz2 : decide ((40 : Int) ≤ (n : Int)) = false := by simp; omega
  have hz3 : decide ((8 : Int) ≤ (n' : Int)) = true := by simp; omega
  go_enter Try.func15, Try.ntmps15
  go_wp2_with (first
    | (go_at_call 39
       refine (copyBuilder_impl (b := b) _ hx3 hn hn' hka).mono ?_
       rintro e w4 ⟨A4, c4, A5, c5, L, rfl, o4, b4⟩
       simp only [World.size_alloc] at o4 b4
       obtain ⟨st, ow⟩ := AddAt.of o4 b4
       obtain ⟨⟨f00, f01⟩, ⟨f10, f11, f12, f13⟩, ⟨f20, f21, f22, f23⟩, ⟨f30, f31, f32, f33⟩⟩ := st.facts)
    | (go_at_call 13; refine (isVoid_impl _ _).mono ?_; rintro e w5 ⟨rfl, rfl⟩; simp only [hv]))
  obtain ⟨ob, bl⟩ := st.fin ow (by simp) (.slice A4 n c4) (.slice A5 n' c5)
  exact bodyPost_ret (v := .tuple #[.agg #[.slice A4 n c4, .slice A5 n' c5], .int .i64 (-1)]) (by simp [results, Try.results15, go_sem, f20, f21, f22, f23, f30, f31]) rfl (GotBI.of rfl hlen.out.1 hlen.out.2 ob bl)
set_option maxHeartbeats 1000000 in
theorem addToken_impl_stay_k3a {A A' At : Option Addr} {n c n' c' ct : Nat} {b : Bld}  {kind : Int} {name text : ByteArray} {m : Nat} (w : World) (hx : ReadsB w w.heap.size A n A' n' b) (hn : n ≤ 1073741824) (hn' : n' ≤ 1073741824) (hka : ∀ a ∈ b.nodes, a.attrs.length ≤ 1073741824) (ht : 0 < text.size) (hf : 40 ≤ n) :
    Calls Try.prog 15 #[.agg #[.slice A n c, .slice A' n' c'], .agg #[.int .i64 3, .string name, .slice At m ct, .string text]] w (GotBI w 33 104 3 (b, -1)) := by
  have hlen := Lib.hid hx.len
  have hb3 : Below w.heap.size w _ := (((Below.refl _ w).alloc (Nat.le_refl _) (.cells #[.slice A n c, .slice A' n' c'] 27)).alloc (by simp) (.cells #[.int .i64 3, .string name, .slice At m ct, .string text] 40)).alloc (by simp; omega) (.cells #[.slice none 0 0, .slice none 0 0] 27)
  have hx3 := hx.next hb3
  have hne := toList_ne (s := text) (by omega)
  have hz2 : decide ((40 : Int) ≤ (n : Int)) = true := by simp; omega
  go_enter Try.func15, Try.ntmps15
  go_wp2_with (first
    | (go_at_call 39
       refine (copyBuilder_impl (b := b) _ hx3 hn hn' hka).mono ?_
       rintro e w4 ⟨A4, c4, A5, c5, L, rfl, o4, b4⟩
       simp only [World.size_alloc] at o4 b4
       obtain ⟨st, ow⟩ := AddAt.of o4 b4
       obtain ⟨⟨f00, f01⟩, ⟨f10, f11, f12, f13⟩, ⟨f20, f21, f22, f23⟩, ⟨f30, f31, f32, f33⟩⟩ := st.facts)
    | fail)
  obtain ⟨ob, bl⟩ := st.fin ow (by simp) (.slice A4 n c4) (.slice A5 n' c5)
  exact bodyPost_ret (v := .tuple #[.agg #[.slice A4 n c4, .slice A5 n' c5], .int .i64 (-1)]) (by simp [results, Try.results15, go_sem, f20, f21, f22, f23, f30, f31]) rfl (GotBI.of rfl hlen.out.1 hlen.out.2 ob bl)
set_option maxHeartbeats 1000000 in
theorem addToken_impl_stay_k3b {A A' At : Option Addr} {n c c' ct : Nat} {b : Bld}  {kind : Int} {name text : ByteArray} {m : Nat} (w : World) (hx : ReadsB w w.heap.size A n A' 0 b) (hn : n ≤ 1073741824) (hn' : 0 ≤ 1073741824) (hka : ∀ a ∈ b.nodes, a.attrs.length ≤ 1073741824) (ht : 0 < text.size) (hf : n < 40) :
    Calls Try.prog 15 #[.agg #[.slice A n c, .slice A' 0 c'], .agg #[.int .i64 3, .string name, .slice At m ct, .string text]] w (GotBI w 33 104 3 (b, -1)) := by
  have hlen := Lib.hid hx.len
  have hb3 : Below w.heap.size w _ := (((Below.refl _ w).alloc (Nat.le_refl _) (.cells #[.slice A n c, .slice A' 0 c'] 27)).alloc (by simp) (.cells #[.int .i64 3, .string name, .slice At m ct, .string text] 40)).alloc (by simp; omega) (.cells #[.slice none 0 0, .slice none 0 0] 27)
  have hx3 := hx.next hb3
  have hne := toList_ne (s := text) (by omega)
  have hz2 : decide ((40 : Int) ≤ (n : Int)) = false := by simp; omega
  go_enter Try.func15, Try.ntmps15
  go_wp2_with (first
    | (go_at_call 39
       refine (copyBuilder_impl (b := b) _ hx3 hn hn' hka).mono ?_
       rintro e w4 ⟨A4, c4, A5, c5, L, rfl, o4, b4⟩
       simp only [World.size_alloc] at o4 b4
       obtain ⟨st, ow⟩ := AddAt.of o4 b4
       obtain ⟨⟨f00, f01⟩, ⟨f10, f11, f12, f13⟩, ⟨f20, f21, f22, f23⟩, ⟨f30, f31, f32, f33⟩⟩ := st.facts)
    | fail)
  obtain ⟨ob, bl⟩ := st.fin ow (by simp) (.slice A4 n c4) (.slice A5 0 c5)
  exact bodyPost_ret (v := .tuple #[.agg #[.slice A4 n c4, .slice A5 0 c5], .int .i64 (-1)]) (by simp [results, Try.results15, go_sem, f20, f21, f22, f23, f30, f31]) rfl (GotBI.of rfl hlen.out.1 hlen.out.2 ob bl)
set_option maxHeartbeats 1000000 in
theorem addToken_impl_stay_k3e {A A' At : Option Addr} {n c n' c' ct : Nat} {b : Bld}  {kind : Int} {name text : ByteArray} {m : Nat} (w : World) (hx : ReadsB w w.heap.size A n A' n' b) (hn : n ≤ 1073741824) (hn' : n' ≤ 1073741824) (hka : ∀ a ∈ b.nodes, a.attrs.length ≤ 1073741824)  :
    Calls Try.prog 15 #[.agg #[.slice A n c, .slice A' n' c'], .agg #[.int .i64 3, .string name, .slice At m ct, .string ⟨#[]⟩]] w (GotBI w 33 104 3 (b, -1)) := by
  have hlen := Lib.hid hx.len
  have hb3 : Below w.heap.size w _ := (((Below.refl _ w).alloc (Nat.le_refl _) (.cells #[.slice A n c, .slice A' n' c'] 27)).alloc (by simp) (.cells #[.int .i64 3, .string name, .slice At m ct, .string ⟨#[]⟩] 40)).alloc (by simp; omega) (.cells #[.slice none 0 0, .slice none 0 0] 27)
  have hx3 := hx.next hb3
  have hemp : (⟨#[]⟩ : ByteArray).toList.isEmpty = true := by rw [Lib.toList_data]; rfl
  go_enter Try.func15, Try.ntmps15
  go_wp2_with (first
    | (go_at_call 39
       refine (copyBuilder_impl (b := b) _ hx3 hn hn' hka).mono ?_
       rintro e w4 ⟨A4, c4, A5, c5, L, rfl, o4, b4⟩
       simp only [World.size_alloc] at o4 b4
       obtain ⟨st, ow⟩ := AddAt.of o4 b4
       obtain ⟨⟨f00, f01⟩, ⟨f10, f11, f12, f13⟩, ⟨f20, f21, f22, f23⟩, ⟨f30, f31, f32, f33⟩⟩ := st.facts)
    | fail)
  obtain ⟨ob, bl⟩ := st.fin ow (by simp) (.slice A4 n c4) (.slice A5 n' c5)
  exact bodyPost_ret (v := .tuple #[.agg #[.slice A4 n c4, .slice A5 n' c5], .int .i64 (-1)]) (by simp [results, Try.results15, go_sem, f20, f21, f22, f23, f30, f31]) rfl (GotBI.of rfl hlen.out.1 hlen.out.2 ob bl)
set_option maxHeartbeats 1000000 in
theorem addToken_impl_stay_ko {A A' At : Option Addr} {n c n' c' ct : Nat} {b : Bld}  {kind : Int} {name text : ByteArray} {m : Nat} (w : World) (hx : ReadsB w w.heap.size A n A' n' b) (hn : n ≤ 1073741824) (hn' : n' ≤ 1073741824) (hka : ∀ a ∈ b.nodes, a.attrs.length ≤ 1073741824) (h1 : kind ≠ 1) (h2 : kind ≠ 2) (h3 : kind ≠ 3) :
    Calls Try.prog 15 #[.agg #[.slice A n c, .slice A' n' c'], .agg #[.int .i64 kind, .string name, .slice At m ct, .string text]] w (GotBI w 33 104 3 (b, -1)) := by
  have hlen := Lib.hid hx.len
  have hb3 : Below w.heap.size w _ := (((Below.refl _ w).alloc (Nat.le_refl _) (.cells #[.slice A n c, .slice A' n' c'] 27)).alloc (by simp) (.cells #[.int .i64 kind, .string name, .slice At m ct, .string text] 40)).alloc (by simp; omega) (.cells #[.slice none 0 0, .slice none 0 0] 27)
  have hx3 := hx.next hb3
  have q1 : (kind == 1) = false := by simpa using h1
  have q2 : (kind == 2) = false := by simpa using h2
  have q3 : (kind == 3) = false := by simpa using h3
  go_enter Try.func15, Try.ntmps15
  go_wp2_with (first
    | (go_at_call 39
       refine (copyBuilder_impl (b := b) _ hx3 hn hn' hka).mono ?_
       rintro e w4 ⟨A4, c4, A5, c5, L, rfl, o4, b4⟩
       simp only [World.size_alloc] at o4 b4
       obtain ⟨st, ow⟩ := AddAt.of o4 b4
       obtain ⟨⟨f00, f01⟩, ⟨f10, f11, f12, f13⟩, ⟨f20, f21, f22, f23⟩, ⟨f30, f31, f32, f33⟩⟩ := st.facts)
    | fail)
  obtain ⟨ob, bl⟩ := st.fin ow (by simp) (.slice A4 n c4) (.slice A5 n' c5)
  exact bodyPost_ret (v := .tuple #[.agg #[.slice A4 n c4, .slice A5 n' c5], .int .i64 (-1)]) (by simp [results, Try.results15, go_sem, f20, f21, f22, f23, f30, f31]) rfl (GotBI.of rfl hlen.out.1 hlen.out.2 ob bl)
end Go.Proofs.Ytleopmeaaabejaa
