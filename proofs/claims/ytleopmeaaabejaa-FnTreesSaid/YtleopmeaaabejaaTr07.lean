/-
  The law FnTrees: its walk. No condition.
-/
import Derived.Deep.Cut
import Derived.Deep.CutRange
import Derived.Test.YtleopmeaaabejaaTr02
import Derived.Test.YtleopmeaaabejaaTr04
import Derived.Test.YtleopmeaaabejaaTr05
import Derived.Test.YtleopmeaaabejaaP09
import Derived.Test.YtleopmeaaabejaaTr06
namespace Go.Proofs.Ytleopmeaaabejaa
set_option linter.unusedVariables false
set_option linter.unusedSimpArgs false
set_option maxRecDepth 100000
open Go.ChangeShapes Go.WideShapes Go.ChangeAt Go.RowKit Go.Deep

theorem eqBld_self (b : Bld) : eqBld b b = true := by simp [eqBld, eqL_self]
/-- what addB leaves -/
theorem addB_len (b : Bld) (t : Tok) : ((addB b t).2 = (b.nodes.length : Int) ∧ (addB b t).1.nodes.length = b.nodes.length + 1) ∨ ((addB b t).2 = -1 ∧ (addB b t).1.nodes.length = b.nodes.length) := by
  by_cases k2 : t.kind = 2
  · rw [addB_close k2]; exact .inr ⟨rfl, rfl⟩
  · cases ha : addsB t
    · rw [addB_stay k2 (.inl ha)]; exact .inr ⟨rfl, rfl⟩
    · cases hf : fullB b t
      · rw [addB_add k2 ha hf]; exact .inl ⟨rfl, by simp⟩
      · rw [addB_stay k2 (.inr hf)]; exact .inr ⟨rfl, rfl⟩
theorem addB_names {b : Bld} (h : SmallB b) {t : Tok} (ht : tokSz t ≤ 45000) : ∀ a ∈ (addB b t).1.nodes, a.name.size ≤ 9223372036854775807 := by
  have hn : (t.name.size : Int) ≤ tokSz t := by have := s2sz_nonneg t.attrs; unfold tokSz; omega
  by_cases k2 : t.kind = 2
  · rw [addB_close k2]; exact h.names
  · cases ha : addsB t
    · rw [addB_stay k2 (.inl ha)]; exact h.names
    · cases hf : fullB b t
      · rw [addB_add k2 ha hf]
        intro a hm
        rcases List.mem_append.1 hm with hm | hm
        · exact h.names a hm
        · simp only [List.mem_singleton] at hm
          subst hm
          unfold newNode
          split
          · show t.name.size ≤ _; omega
          · show (⟨#[]⟩ : ByteArray).size ≤ _
            have : (⟨#[]⟩ : ByteArray).size = 0 := rfl
            omega
      · rw [addB_stay k2 (.inr hf)]; exact h.names
theorem addB_opens (b : Bld) (t : Tok) : (addB b t).1.opens.length ≤ b.opens.length + 1 := by
  by_cases k2 : t.kind = 2
  · rw [addB_close k2]
    show (b.opens.take _).length ≤ _
    rw [List.length_take]; omega
  · cases ha : addsB t
    · rw [addB_stay k2 (.inl ha)]; show b.opens.length ≤ _; omega
    · cases hf : fullB b t
      · rw [addB_add k2 ha hf]
        show (addOpens b t).length ≤ _
        unfold addOpens
        split
        · simp
        · omega
      · rw [addB_stay k2 (.inr hf)]; show b.opens.length ≤ _; omega
theorem addsL_len : ∀ (l : List Tok) (b : Bld), (addsL b l).nodes.length ≤ b.nodes.length + l.length ∧ (addsL b l).opens.length ≤ b.opens.length + l.length
  | [], b => ⟨Nat.le_refl _, Nat.le_refl _⟩
  | t :: l, b => by
    have h := addsL_len l (addB b t).1
    have h1 := addB_len b t
    have h2 := addB_opens b t
    have e : addsL b (t :: l) = addsL (addB b t).1 l := rfl
    rw [e]
    simp only [List.length_cons]
    omega
theorem wp_region_heldR {P : Program} {ops : Array Oper} {Q : Exit → Act → World → Prop} {id : Nat} {a : Act} {w : World} (S R : World → Prop) (hm : P.follows .mixedOrders = true) (hR : R w.drew)
    (h : ∀ w1, R w1 → wpAnyH P .any ops Q S ops.size (Array.replicate ops.size false) a w1) : (Code.region id ops true).wp P Q a w := wp_region_held hm (h _ hR)
/-- the state of the law: the builder's box, the token's box, the code -/
structure TrS (w : World) (AA : Option Addr) (nn : Nat) (xs : List Value) (g3 g4 : Nat) (T T4 : TypeId) (A : Option Addr) (c : Nat) (A' : Option Addr) (c' : Nat) (b : Bld) (t : Tok) (At : Option Addr) (ct : Nat) (W : World) : Prop where
  hx : Reads W W.heap.size 1 AA nn xs
  b3 : BoxB g3 T A c A' c' b W
  b4 : BoxAt W g4 [.int .i64 t.kind, .string t.name, .slice At t.attrs.length ct, .string t.text] T4
  ht : Reads W W.heap.size 2 At t.attrs.length (s2V t.attrs)
  hb : Below w.heap.size w W
section
variable {w : World} {AA : Option Addr} {nn : Nat} {xs : List Value} {g3 g4 g5 g7 : Nat} {T T4 e ek ei : TypeId} {A : Option Addr} {c : Nat} {A' : Option Addr} {c' : Nat} {b : Bld} {t : Tok} {At : Option Addr} {ct : Nat} {W W' w1 : World} {L : List (Nod × Hd)}
  {A5 : Option Addr} {c5 : Nat} {A5' : Option Addr} {c5' : Nat} {A7 : Option Addr} {c7 : Nat} {A7' : Option Addr} {c7' : Nat} {x y : Bld}
theorem TrS.next (h : TrS w AA nn xs g3 g4 T T4 A c A' c' b t At ct W) (hb : Below W.heap.size W W') : TrS w AA nn xs g3 g4 T T4 A c A' c' b t At ct W' :=
  ⟨h.hx.next hb, h.b3.next hb, h.b4.next hb, h.ht.next hb, h.hb.trans (hb.mono h.hb.size)⟩
theorem TrS.start {lo : Nat} (hx : Reads w1 w1.heap.size 1 AA nn xs) (o : OwnB w1 lo w1.heap.size e ek ei A b.nodes.length c A' b.opens.length c' b L) (ht : Reads w1 w1.heap.size 2 At t.attrs.length (s2V t.attrs)) (hb : Below w.heap.size w w1) :
    TrS w AA nn xs w1.heap.size (w1.heap.size + 1) T T4 A c A' c' b t At ct ((w1.alloc (.cells #[.slice A b.nodes.length c, .slice A' b.opens.length c'] T)).alloc (.cells #[.int .i64 t.kind, .string t.name, .slice At t.attrs.length ct, .string t.text] T4)) := by
  have a1 : Below w1.heap.size w1 (w1.alloc (.cells #[.slice A b.nodes.length c, .slice A' b.opens.length c'] T)) := (Below.refl _ _).alloc (Nat.le_refl _) _
  have a2 : Below (w1.alloc (.cells #[.slice A b.nodes.length c, .slice A' b.opens.length c'] T)).heap.size (w1.alloc (.cells #[.slice A b.nodes.length c, .slice A' b.opens.length c'] T)) ((w1.alloc (.cells #[.slice A b.nodes.length c, .slice A' b.opens.length c'] T)).alloc (.cells #[.int .i64 t.kind, .string t.name, .slice At t.attrs.length ct, .string t.text] T4)) := (Below.refl _ _).alloc (Nat.le_refl _) _
  have h1 := a1.size
  exact ⟨(hx.next a1).next a2, (BoxB.new o).next a2, BoxAt.new (by simp) _ _, (ht.next a1).next a2, (hb.trans (a1.mono hb.size)).trans (a2.mono (by have := hb.size; omega))⟩
/-- with the two results -/
structure TrU (w : World) (AA : Option Addr) (nn : Nat) (xs : List Value) (g3 g4 g5 g7 : Nat) (T T4 : TypeId) (A : Option Addr) (c : Nat) (A' : Option Addr) (c' : Nat) (b : Bld) (t : Tok) (At : Option Addr) (ct : Nat)
    (A5 : Option Addr) (c5 : Nat) (A5' : Option Addr) (c5' : Nat) (A7 : Option Addr) (c7 : Nat) (A7' : Option Addr) (c7' : Nat) (x y : Bld) (W : World) : Prop where
  s : TrS w AA nn xs g3 g4 T T4 A c A' c' b t At ct W
  b5 : BoxB g5 T A5 c5 A5' c5' x W
  b7 : BoxB g7 T A7 c7 A7' c7' y W
theorem TrU.next (h : TrU w AA nn xs g3 g4 g5 g7 T T4 A c A' c' b t At ct A5 c5 A5' c5' A7 c7 A7' c7' x y W) (hb : Below W.heap.size W W') : TrU w AA nn xs g3 g4 g5 g7 T T4 A c A' c' b t At ct A5 c5 A5' c5' A7 c7 A7' c7' x y W' :=
  ⟨h.s.next hb, h.b5.next hb, h.b7.next hb⟩
theorem TrU.S (h : TrU w AA nn xs g3 g4 g5 g7 T T4 A c A' c' b t At ct A5 c5 A5' c5' A7 c7 A7' c7' x y W) :
    W.cell? ⟨g3, 0, none⟩ = some (.slice A b.nodes.length c) ∧ W.cell? ⟨g3, 1, none⟩ = some (.slice A' b.opens.length c') ∧ W.cell? ⟨g5, 0, none⟩ = some (.slice A5 x.nodes.length c5) ∧ W.cell? ⟨g5, 1, none⟩ = some (.slice A5' x.opens.length c5') ∧
    W.cell? ⟨g7, 0, none⟩ = some (.slice A7 y.nodes.length c7) ∧ W.cell? ⟨g7, 1, none⟩ = some (.slice A7' y.opens.length c7') :=
  ⟨h.s.b3.cells.1, h.s.b3.cells.2, h.b5.cells.1, h.b5.cells.2, h.b7.cells.1, h.b7.cells.2⟩
theorem TrU.drew (h : TrU w AA nn xs g3 g4 g5 g7 T T4 A c A' c' b t At ct A5 c5 A5' c5' A7 c7 A7' c7' x y W) : TrU w AA nn xs g3 g4 g5 g7 T T4 A c A' c' b t At ct A5 c5 A5' c5' A7 c7 A7' c7' x y W.drew :=
  h.next ⟨rfl, rfl, rfl, Nat.le_refl _, fun _ _ => rfl⟩
/-- two boxes of builders, the second part -/
structure TrV (w : World) (g10 g12 : Nat) (T : TypeId) (A : Option Addr) (c : Nat) (A' : Option Addr) (c' : Nat) (b : Bld) (A5 : Option Addr) (c5 : Nat) (A5' : Option Addr) (c5' : Nat) (x : Bld) (Bl : Option Addr) (l : List Tok) (W : World) : Prop where
  b10 : BoxB g10 T A c A' c' b W
  b12 : BoxB g12 T A5 c5 A5' c5' x W
  hl : ReadsN tokN W W.heap.size Bl l.length l
  hb : Below w.heap.size w W
theorem TrV.next {Bl : Option Addr} {l : List Tok} (h : TrV w g3 g5 T A c A' c' b A5 c5 A5' c5' x Bl l W) (hb : Below W.heap.size W W') : TrV w g3 g5 T A c A' c' b A5 c5 A5' c5' x Bl l W' := ⟨h.b10.next hb, h.b12.next hb, h.hl.next hb, h.hb.trans (hb.mono h.hb.size)⟩
theorem TrV.drew {Bl : Option Addr} {l : List Tok} (h : TrV w g3 g5 T A c A' c' b A5 c5 A5' c5' x Bl l W) : TrV w g3 g5 T A c A' c' b A5 c5 A5' c5' x Bl l W.drew := h.next ⟨rfl, rfl, rfl, Nat.le_refl _, fun _ _ => rfl⟩
theorem TrV.S {Bl : Option Addr} {l : List Tok} (h : TrV w g3 g5 T A c A' c' b A5 c5 A5' c5' x Bl l W) :
    W.cell? ⟨g3, 0, none⟩ = some (.slice A b.nodes.length c) ∧ W.cell? ⟨g3, 1, none⟩ = some (.slice A' b.opens.length c') ∧ W.cell? ⟨g5, 0, none⟩ = some (.slice A5 x.nodes.length c5) ∧ W.cell? ⟨g5, 1, none⟩ = some (.slice A5' x.opens.length c5') :=
  ⟨h.b10.cells.1, h.b10.cells.2, h.b12.cells.1, h.b12.cells.2⟩
end
set_option maxHeartbeats 8000000 in
theorem trees_walk (w : World) (A : Option Addr) (n c : Nat) (zs : List Int) (ha : ArgInts .u8 w A n zs) : Calls Try.prog 4 #[.slice A n c] w fun e w' => e = .returned (.bool true) ∧ Below w.heap.size w w' := by
  obtain ⟨hl, hmx, hx, hwf⟩ := ha
  have hz : ∀ z ∈ zs, 0 ≤ z ∧ z ≤ 255 := u8_all hwf
  clear hwf hl
  by_cases hn : n ≤ 1048576
  · go_enter Try.func4, Try.ntmps4
    go_wp2_with (fail)
    go_at_call 6
    refine (big_no _ hn).mono ?_
    rintro e w0 ⟨rfl, rfl⟩
    go_wp2_with (fail)
    go_at_call 14
    refine (drawAddToken_any _ hx hn hz).mono ?_
    rintro e w1 ⟨b, A1, c1, A1', c1', L1, x, hs, ⟨t, At, ct, rfl, hta, htz⟩, rfl, o1, hb⟩
    replace hx := hx.next hb
    have s2 : TrS w A n (zs.map (Value.int .u8)) w1.heap.size (w1.heap.size + 1) 27 40 A1 c1 A1' c1' b t At ct ((w1.alloc (.cells #[.slice A1 b.nodes.length c1, .slice A1' b.opens.length c1'] 27)).alloc (.cells #[.int .i64 t.kind, .string t.name, .slice At t.attrs.length ct, .string t.text] 40)) := TrS.start hx o1 hta hb
    have hno := hs.nodes
    have hop := hs.opens
    have hat := hs.attrs
    have hta1 : t.attrs.length ≤ 1073741824 := by have h1 := s2sz_nonneg t.attrs; unfold tokSz at htz; omega
    have htn1 : t.name.size ≤ 9223372036854775807 := by have h1 := s2sz_nonneg t.attrs; unfold tokSz at htz; omega
    have hI := fun (W : World) (h1 : ReadsB W W.heap.size A1 b.nodes.length A1' b.opens.length b) (h2 : Reads W W.heap.size 2 At t.attrs.length (s2V t.attrs)) => addToken_impl (c := c1) (c' := c1') (ct := ct) (t := t) W h1 (by omega) (by omega) hat hs.ints h2 hta1
    have hS := fun (W : World) (h1 : ReadsB W W.heap.size A1 b.nodes.length A1' b.opens.length b) (h2 : Reads W W.heap.size 2 At t.attrs.length (s2V t.attrs)) => addToken_spec (c := c1) (c' := c1') (ct := ct) (t := t) W h1 (by omega) (by omega) hat h2 hta1
    have hRl := addB_len b t
    have hRo := addB_opens b t
    have hRn := addB_names hs htz
    have hRk := (hs.okB.add hta1).attrs
    have hRi := fun (h : IsB b) => IsB.add (t := t) h
    generalize addB b t = R at *
    obtain ⟨R1, R2⟩ := R
    simp only at hRl hRo hRn hRk hRi
    clear hta htz o1 hx hb
    obtain ⟨K0, K1⟩ := s2.b3.cells
    obtain ⟨⟨k0, k1, k2, k3⟩, -⟩ := s2.b4.four
    go_wp2_with (fail)
    generalize (w1.alloc (.cells #[.slice A1 b.nodes.length c1, .slice A1' b.opens.length c1'] 27)).alloc (.cells #[.int .i64 t.kind, .string t.name, .slice At t.attrs.length ct, .string t.text] 40) = W2 at *
    go_at_call 15
    refine (hI _ s2.b3.rd s2.ht).mono ?_
    rintro e w3 ⟨A5, c5, A5', c5', L5, rfl, o5, b5⟩
    simp only at o5 ⊢
    have s3 := s2.next b5
    have q5 := BoxB.new (T := 27) o5
    have al5 : Below w3.heap.size w3 (w3.alloc (.cells #[.slice A5 R1.nodes.length c5, .slice A5' R1.opens.length c5'] 27)) := (Below.refl _ _).alloc (Nat.le_refl _) _
    have s4 := s3.next al5
    clear K0 K1 k0 k1 k2 k3 s2 s3 o5 b5 al5 hI
    obtain ⟨K0, K1⟩ := s4.b3.cells
    obtain ⟨⟨k0, k1, k2, k3⟩, -⟩ := s4.b4.four
    go_wp2_with (fail)
    generalize w3.alloc (.cells #[.slice A5 R1.nodes.length c5, .slice A5' R1.opens.length c5'] 27) = W4 at *
    go_at_call 16
    refine (hS _ s4.b3.rd s4.ht).mono ?_
    rintro e w5 ⟨A7, c7, A7', c7', L7, rfl, o7, b7⟩
    simp only at o7 ⊢
    have s5 := s4.next b7
    have q6 := q5.next b7
    have q7 := BoxB.new (T := 27) o7
    have al7 : Below w5.heap.size w5 (w5.alloc (.cells #[.slice A7 R1.nodes.length c7, .slice A7' R1.opens.length c7'] 27)) := (Below.refl _ _).alloc (Nat.le_refl _) _
    have sU : TrU w A n (zs.map (Value.int .u8)) w1.heap.size (w1.heap.size + 1) w3.heap.size w5.heap.size 27 40 A1 c1 A1' c1' b t At ct A5 c5 A5' c5' A7 c7 A7' c7' R1 R1 (w5.alloc (.cells #[.slice A7 R1.nodes.length c7, .slice A7' R1.opens.length c7'] 27)) := ⟨s5.next al7, q6.next al7, q7⟩
    clear K0 K1 k0 k1 k2 k3 s4 s5 q5 q6 q7 o7 b7 al7 hS
    have hE := fun (W : World) (h1 : ReadsB W W.heap.size A5 R1.nodes.length A5' R1.opens.length R1) (h2 : ReadsB W W.heap.size A7 R1.nodes.length A7' R1.opens.length R1) => equalBuilders_impl (c := c5) (c' := c5') (d := c7) (d' := c7') R1 R1 W h1 h2 (by omega) (by omega) hRk hRk
    simp only [eqBld_self] at hE
    obtain ⟨V, hV⟩ : ∃ V : Bool, V = true ↔ IsB b := by
      by_cases h : IsB b
      · exact ⟨true, by simp [h]⟩
      · exact ⟨false, by simp [h]⟩
    have hBi : ∀ (W : World), ReadsB W W.heap.size A1 b.nodes.length A1' b.opens.length b → Calls Try.prog 18 #[.agg #[.slice A1 b.nodes.length c1, .slice A1' b.opens.length c1']] W fun e w' => e = .returned (.bool V) ∧ Below W.heap.size W w' := fun W h =>
      (isBuilder_impl W h (by omega) (by omega) hs.names).mono fun e w' ⟨v, h1, h2, h3⟩ => by
        have e2 : v = V := by cases v <;> cases V <;> simp_all
        exact ⟨by rw [h1, e2], h3⟩
    have hBs : ∀ (W : World), ReadsB W W.heap.size A1 b.nodes.length A1' b.opens.length b → Calls Try.prog 19 #[.agg #[.slice A1 b.nodes.length c1, .slice A1' b.opens.length c1']] W fun e w' => e = .returned (.bool V) ∧ Below W.heap.size W w' := fun W h =>
      (isBuilder_spec W h (by omega) (by omega) hs.names).mono fun e w' ⟨v, h1, h2, h3⟩ => by
        have e2 : v = V := by cases v <;> cases V <;> simp_all
        exact ⟨by rw [h1, e2], h3⟩
    have hBx : V = true → (t.kind = 1 → nameB t.name = true) → ∀ (W : World), ReadsB W W.heap.size A5 R1.nodes.length A5' R1.opens.length R1 → Calls Try.prog 18 #[.agg #[.slice A5 R1.nodes.length c5, .slice A5' R1.opens.length c5']] W fun e w' => e = .returned (.bool true) ∧ Below W.heap.size W w' := fun hv ht W h =>
      (isBuilder_impl W h (by omega) (by omega) hRn).mono fun e w' ⟨v, h1, h2, h3⟩ => ⟨by rw [h1, h2.2 (hRi (hV.1 hv) ht)], h3⟩
    have HE := Lib.hid hE
    have HBi := Lib.hid hBi
    have HBs := Lib.hid hBs
    have HBx := Lib.hid hBx
    have HRl := Lib.hid hRl
    clear hE hBi hBs hBx hV hRi hRl hRk hRn
    obtain ⟨K0, K1, K2, K3, K4, K5⟩ := sU.S
    go_upto_region 6 with fail
    generalize w5.alloc (.cells #[.slice A7 R1.nodes.length c7, .slice A7' R1.opens.length c7'] 27) = W6 at *
    clear K0 K1 K2 K3 K4 K5
    go_cut [79] from 32 to 79 (fun cv wx => cv = .bool false ∧ Below W6.heap.size W6 wx)
    case first =>
      clear HBx hn hmx hz
      rcases HRl.out with ⟨rfl, hRl⟩ | ⟨rfl, hRl⟩
      · have hA0 : (0 : Int) ≤ (b.nodes.length : Int) := by omega
        have hA1 : decide ((0 : Int) ≤ (b.nodes.length : Int)) = true := by simp
        have hA2 : decide ((b.nodes.length : Int) < 0) = false := by simp
        have hA3 : (R1.nodes.length : Int) = (b.nodes.length : Int) + 1 := by omega
        have hA4 : IntKind.i64.wrap ((b.nodes.length : Int) + 1) = (b.nodes.length : Int) + 1 := by rw [IntKind.wrap_i64]; omega
        clear HRl hRl
        refine wp_region_heldR (fun v : World => v.cell? ⟨w1.heap.size, 0, none⟩ = some (.slice A1 b.nodes.length c1) ∧ v.cell? ⟨w1.heap.size, 1, none⟩ = some (.slice A1' b.opens.length c1') ∧ v.cell? ⟨w3.heap.size, 0, none⟩ = some (.slice A5 R1.nodes.length c5) ∧ v.cell? ⟨w3.heap.size, 1, none⟩ = some (.slice A5' R1.opens.length c5') ∧ v.cell? ⟨w5.heap.size, 0, none⟩ = some (.slice A7 R1.nodes.length c7) ∧ v.cell? ⟨w5.heap.size, 1, none⟩ = some (.slice A7' R1.opens.length c7')) (fun X => TrU w A n (zs.map (Value.int .u8)) w1.heap.size (w1.heap.size + 1) w3.heap.size w5.heap.size 27 40 A1 c1 A1' c1' b t At ct A5 c5 A5' c5' A7 c7 A7' c7' R1 R1 X ∧ Below W6.heap.size W6 X) (by kernel_rfl) ⟨sU.drew, (Below.refl _ _).drew⟩ ?_
        rintro V0 ⟨s0, v0⟩
        try simp only [List.replicate, Array.replicate]
        clear sU
        refine wpAnyH_take (i := 0) (v := ?_) rfl (by kernel_rfl) (by kernel_rfl) (by kernel_rfl) (fun _ _ _ h => h) (Or.inl ⟨by rfl, ?_⟩) (s0.S) ?_
        rotate_left 1
        · intro wS hSw; (try dsimp only at hSw); go_simp
          all_goals with_reducible rfl
        try simp only [Act.put, List.getElem_toArray, List.getElem_cons_succ, List.getElem_cons_zero, List.setIfInBounds_toArray, List.set_cons_zero, List.set_cons_succ]
        refine wpAnyH_take (i := 1) (v := ?_) rfl (by kernel_rfl) (by kernel_rfl) (by kernel_rfl) (fun _ _ _ h => h) (Or.inl ⟨by rfl, ?_⟩) (s0.S) ?_
        rotate_left 1
        · intro wS hSw; (try dsimp only at hSw); go_simp
          all_goals with_reducible rfl
        try simp only [Act.put, List.getElem_toArray, List.getElem_cons_succ, List.getElem_cons_zero, List.setIfInBounds_toArray, List.set_cons_zero, List.set_cons_succ]
        refine wpAnyH_take (i := 2) (v := ?_) rfl (by kernel_rfl) (by kernel_rfl) (by kernel_rfl) (fun _ _ _ h => h) (Or.inl ⟨by rfl, ?_⟩) (s0.S) ?_
        rotate_left 1
        · intro wS hSw; (try dsimp only at hSw); go_simp
          all_goals with_reducible rfl
        try simp only [Act.put, List.getElem_toArray, List.getElem_cons_succ, List.getElem_cons_zero, List.setIfInBounds_toArray, List.set_cons_zero, List.set_cons_succ]
        refine wpAnyH_take (i := 3) (v := ?_) rfl (by kernel_rfl) (by kernel_rfl) (by kernel_rfl) (fun _ _ _ h => h) (Or.inl ⟨by rfl, ?_⟩) (s0.S) ?_
        rotate_left 1
        · intro wS hSw; (try dsimp only at hSw); go_simp
          all_goals with_reducible rfl
        try simp only [Act.put, List.getElem_toArray, List.getElem_cons_succ, List.getElem_cons_zero, List.setIfInBounds_toArray, List.set_cons_zero, List.set_cons_succ]
        refine wpAnyH_take (i := 4) (v := ?_) rfl (by kernel_rfl) (by kernel_rfl) (by kernel_rfl) (fun _ _ _ h => h) (Or.inl ⟨by rfl, ?_⟩) (s0.S) ?_
        rotate_left 1
        · intro wS hSw; (try dsimp only at hSw); go_simp
          all_goals with_reducible rfl
        try simp only [Act.put, List.getElem_toArray, List.getElem_cons_succ, List.getElem_cons_zero, List.setIfInBounds_toArray, List.set_cons_zero, List.set_cons_succ]
        refine wpAnyH_take (i := 5) (v := ?_) rfl (by kernel_rfl) (by kernel_rfl) (by kernel_rfl) (fun _ _ _ h => h) (Or.inl ⟨by rfl, ?_⟩) (s0.S) ?_
        rotate_left 1
        · intro wS hSw; (try dsimp only at hSw); go_simp
          all_goals with_reducible rfl
        try simp only [Act.put, List.getElem_toArray, List.getElem_cons_succ, List.getElem_cons_zero, List.setIfInBounds_toArray, List.set_cons_zero, List.set_cons_succ]
        refine wpAnyH_ready (rs := [6]) (by kernel_rfl) (by simp) ?_
        refine AllReadyH.cons rfl (fun K hK => ?_) AllReadyH.nil
        go_simp
        refine (HE.out V0 s0.b5.rd s0.b7.rd).mono ?_
        rintro e V1 ⟨rfl, bc⟩
        have s1 := s0.next bc
        have v1 := v0.trans (bc.mono v0.size)
        refine hK.out _ _ (s1.S) (fun _ => ?_)
        clear hK K
        clear bc
        try simp only [Act.put, List.getElem_toArray, List.getElem_cons_succ, List.getElem_cons_zero, List.setIfInBounds_toArray, List.set_cons_zero, List.set_cons_succ]
        refine wpAnyH_take (i := 7) (v := ?_) rfl (by kernel_rfl) (by kernel_rfl) (by kernel_rfl) (fun _ _ _ h => h) (Or.inl ⟨by rfl, ?_⟩) (s1.S) ?_
        rotate_left 1
        · intro wS hSw; (try dsimp only at hSw); go_simp
          all_goals with_reducible rfl
        try simp only [Act.put, List.getElem_toArray, List.getElem_cons_succ, List.getElem_cons_zero, List.setIfInBounds_toArray, List.set_cons_zero, List.set_cons_succ]
        refine wpAnyH_take (i := 8) (v := ?_) rfl (by kernel_rfl) (by kernel_rfl) (by kernel_rfl) (fun _ _ _ h => h) (Or.inl ⟨by rfl, ?_⟩) (s1.S) ?_
        rotate_left 1
        · intro wS hSw; (try dsimp only at hSw); go_simp
          all_goals with_reducible rfl
        try simp only [Act.put, List.getElem_toArray, List.getElem_cons_succ, List.getElem_cons_zero, List.setIfInBounds_toArray, List.set_cons_zero, List.set_cons_succ]
        refine wpAnyH_take (i := 9) (v := ?_) rfl (by kernel_rfl) (by kernel_rfl) (by kernel_rfl) (fun _ _ _ h => h) (Or.inl ⟨by rfl, ?_⟩) (s1.S) ?_
        rotate_left 1
        · intro wS hSw; (try dsimp only at hSw); go_simp
          all_goals with_reducible rfl
        try simp only [Act.put, List.getElem_toArray, List.getElem_cons_succ, List.getElem_cons_zero, List.setIfInBounds_toArray, List.set_cons_zero, List.set_cons_succ]
        refine wpAnyH_take (i := 10) (v := ?_) rfl (by kernel_rfl) (by kernel_rfl) (by kernel_rfl) (fun _ _ _ h => h) (Or.inl ⟨by rfl, ?_⟩) (s1.S) ?_
        rotate_left 1
        · intro wS hSw; (try dsimp only at hSw); go_simp
          all_goals with_reducible rfl
        try simp only [Act.put, List.getElem_toArray, List.getElem_cons_succ, List.getElem_cons_zero, List.setIfInBounds_toArray, List.set_cons_zero, List.set_cons_succ]
        refine wpAnyH_take (i := 12) (v := ?_) rfl (by kernel_rfl) (by kernel_rfl) (by kernel_rfl) (fun _ _ _ h => h) (Or.inl ⟨by rfl, ?_⟩) (s1.S) ?_
        rotate_left 1
        · intro wS hSw; (try dsimp only at hSw); go_simp
          all_goals with_reducible rfl
        try simp only [Act.put, List.getElem_toArray, List.getElem_cons_succ, List.getElem_cons_zero, List.setIfInBounds_toArray, List.set_cons_zero, List.set_cons_succ]
        refine wpAnyH_ready (rs := [11]) (by kernel_rfl) (by simp) ?_
        refine AllReadyH.cons rfl (fun K hK => ?_) AllReadyH.nil
        go_simp
        refine (HBi.out V1 s1.s.b3.rd).mono ?_
        rintro e V2 ⟨rfl, bc⟩
        have s2 := s1.next bc
        have v2 := v1.trans (bc.mono v1.size)
        refine hK.out _ _ (s2.S) (fun _ => ?_)
        clear hK K
        clear bc
        try simp only [Act.put, List.getElem_toArray, List.getElem_cons_succ, List.getElem_cons_zero, List.setIfInBounds_toArray, List.set_cons_zero, List.set_cons_succ]
        refine wpAnyH_ready (rs := [13]) (by kernel_rfl) (by simp) ?_
        refine AllReadyH.cons rfl (fun K hK => ?_) AllReadyH.nil
        go_simp
        refine (HBs.out V2 s2.s.b3.rd).mono ?_
        rintro e V3 ⟨rfl, bc⟩
        have s3 := s2.next bc
        have v3 := v2.trans (bc.mono v2.size)
        refine hK.out _ _ (s3.S) (fun _ => ?_)
        clear hK K
        clear bc
        try simp only [Act.put, List.getElem_toArray, List.getElem_cons_succ, List.getElem_cons_zero, List.setIfInBounds_toArray, List.set_cons_zero, List.set_cons_succ]
        refine wpAnyH_take (i := 14) (v := ?_) rfl (by kernel_rfl) (by kernel_rfl) (by kernel_rfl) (fun _ _ _ h => h) (Or.inl ⟨by rfl, ?_⟩) (s3.S) ?_
        rotate_left 1
        · intro wS hSw; (try dsimp only at hSw); go_simp
          all_goals with_reducible rfl
        try simp only [Act.put, List.getElem_toArray, List.getElem_cons_succ, List.getElem_cons_zero, List.setIfInBounds_toArray, List.set_cons_zero, List.set_cons_succ]
        refine wpAnyH_take (i := 15) (v := ?_) rfl (by kernel_rfl) (by kernel_rfl) (by kernel_rfl) (fun _ _ _ h => h) (Or.inl ⟨by rfl, ?_⟩) (s3.S) ?_
        rotate_left 1
        · intro wS hSw; (try dsimp only at hSw); go_simp
          all_goals with_reducible rfl
        try simp only [Act.put, List.getElem_toArray, List.getElem_cons_succ, List.getElem_cons_zero, List.setIfInBounds_toArray, List.set_cons_zero, List.set_cons_succ]
        refine wpAnyH_take (i := 16) (v := ?_) rfl (by kernel_rfl) (by kernel_rfl) (by kernel_rfl) (fun _ _ _ h => h) (Or.inl ⟨by rfl, ?_⟩) (s3.S) ?_
        rotate_left 1
        · intro wS hSw; (try dsimp only at hSw); go_simp
          all_goals with_reducible rfl
        try simp only [Act.put, List.getElem_toArray, List.getElem_cons_succ, List.getElem_cons_zero, List.setIfInBounds_toArray, List.set_cons_zero, List.set_cons_succ]
        refine wpAnyH_take (i := 17) (v := ?_) rfl (by kernel_rfl) (by kernel_rfl) (by kernel_rfl) (fun _ _ _ h => h) (Or.inl ⟨by rfl, ?_⟩) (s3.S) ?_
        rotate_left 1
        · intro wS hSw; (try dsimp only at hSw); go_simp
          all_goals with_reducible rfl
        try simp only [Act.put, List.getElem_toArray, List.getElem_cons_succ, List.getElem_cons_zero, List.setIfInBounds_toArray, List.set_cons_zero, List.set_cons_succ]
        refine wpAnyH_take (i := 18) (v := ?_) rfl (by kernel_rfl) (by kernel_rfl) (by kernel_rfl) (fun _ _ _ h => h) (Or.inl ⟨by rfl, ?_⟩) (s3.S) ?_
        rotate_left 1
        · intro wS hSw; (try dsimp only at hSw); go_simp
          all_goals with_reducible rfl
        try simp only [Act.put, List.getElem_toArray, List.getElem_cons_succ, List.getElem_cons_zero, List.setIfInBounds_toArray, List.set_cons_zero, List.set_cons_succ]
        refine wpAnyH_take (i := 19) (v := ?_) rfl (by kernel_rfl) (by kernel_rfl) (by kernel_rfl) (fun _ _ _ h => h) (Or.inl ⟨by rfl, ?_⟩) (s3.S) ?_
        rotate_left 1
        · intro wS hSw; (try dsimp only at hSw); go_simp
          all_goals with_reducible rfl
        try simp only [Act.put, List.getElem_toArray, List.getElem_cons_succ, List.getElem_cons_zero, List.setIfInBounds_toArray, List.set_cons_zero, List.set_cons_succ]
        refine wpAnyH_take (i := 20) (v := ?_) rfl (by kernel_rfl) (by kernel_rfl) (by kernel_rfl) (fun _ _ _ h => h) (Or.inl ⟨by rfl, ?_⟩) (s3.S) ?_
        rotate_left 1
        · intro wS hSw; (try dsimp only at hSw); go_simp
          all_goals with_reducible rfl
        try simp only [Act.put, List.getElem_toArray, List.getElem_cons_succ, List.getElem_cons_zero, List.setIfInBounds_toArray, List.set_cons_zero, List.set_cons_succ]
        refine wpAnyH_take (i := 21) (v := ?_) rfl (by kernel_rfl) (by kernel_rfl) (by kernel_rfl) (fun _ _ _ h => h) (Or.inl ⟨by rfl, ?_⟩) (s3.S) ?_
        rotate_left 1
        · intro wS hSw; (try dsimp only at hSw); go_simp
          all_goals with_reducible rfl
        try simp only [Act.put, List.getElem_toArray, List.getElem_cons_succ, List.getElem_cons_zero, List.setIfInBounds_toArray, List.set_cons_zero, List.set_cons_succ]
        refine wpAnyH_take (i := 22) (v := ?_) rfl (by kernel_rfl) (by kernel_rfl) (by kernel_rfl) (fun _ _ _ h => h) (Or.inl ⟨by rfl, ?_⟩) (s3.S) ?_
        rotate_left 1
        · intro wS hSw; (try dsimp only at hSw); go_simp
          all_goals with_reducible rfl
        try simp only [Act.put, List.getElem_toArray, List.getElem_cons_succ, List.getElem_cons_zero, List.setIfInBounds_toArray, List.set_cons_zero, List.set_cons_succ]
        refine wpAnyH_take (i := 23) (v := ?_) rfl (by kernel_rfl) (by kernel_rfl) (by kernel_rfl) (fun _ _ _ h => h) (Or.inl ⟨by rfl, ?_⟩) (s3.S) ?_
        rotate_left 1
        · intro wS hSw; (try dsimp only at hSw); go_simp
          all_goals with_reducible rfl
        try simp only [Act.put, List.getElem_toArray, List.getElem_cons_succ, List.getElem_cons_zero, List.setIfInBounds_toArray, List.set_cons_zero, List.set_cons_succ]
        refine wpAnyH_take (i := 24) (v := ?_) rfl (by kernel_rfl) (by kernel_rfl) (by kernel_rfl) (fun _ _ _ h => h) (Or.inl ⟨by rfl, ?_⟩) (s3.S) ?_
        rotate_left 1
        · intro wS hSw; (try dsimp only at hSw); go_simp
          all_goals with_reducible rfl
        try simp only [Act.put, List.getElem_toArray, List.getElem_cons_succ, List.getElem_cons_zero, List.setIfInBounds_toArray, List.set_cons_zero, List.set_cons_succ]
        refine wpAnyH_take (i := 25) (v := ?_) rfl (by kernel_rfl) (by kernel_rfl) (by kernel_rfl) (fun _ _ _ h => h) (Or.inl ⟨by rfl, ?_⟩) (s3.S) ?_
        rotate_left 1
        · intro wS hSw; (try dsimp only at hSw); go_simp
          all_goals with_reducible rfl
        try simp only [Act.put, List.getElem_toArray, List.getElem_cons_succ, List.getElem_cons_zero, List.setIfInBounds_toArray, List.set_cons_zero, List.set_cons_succ]
        refine wpAnyH_take (i := 26) (v := ?_) rfl (by kernel_rfl) (by kernel_rfl) (by kernel_rfl) (fun _ _ _ h => h) (Or.inl ⟨by rfl, ?_⟩) (s3.S) ?_
        rotate_left 1
        · intro wS hSw; (try dsimp only at hSw); go_simp
          all_goals with_reducible rfl
        try simp only [Act.put, List.getElem_toArray, List.getElem_cons_succ, List.getElem_cons_zero, List.setIfInBounds_toArray, List.set_cons_zero, List.set_cons_succ]
        refine wpAnyH_take (i := 27) (v := ?_) rfl (by kernel_rfl) (by kernel_rfl) (by kernel_rfl) (fun _ _ _ h => h) (Or.inl ⟨by rfl, ?_⟩) (s3.S) ?_
        rotate_left 1
        · intro wS hSw; (try dsimp only at hSw); go_simp
          all_goals with_reducible rfl
        try simp only [Act.put, List.getElem_toArray, List.getElem_cons_succ, List.getElem_cons_zero, List.setIfInBounds_toArray, List.set_cons_zero, List.set_cons_succ]
        refine wpAnyH_take (i := 28) (v := ?_) rfl (by kernel_rfl) (by kernel_rfl) (by kernel_rfl) (fun _ _ _ h => h) (Or.inl ⟨by rfl, ?_⟩) (s3.S) ?_
        rotate_left 1
        · intro wS hSw; (try dsimp only at hSw); go_simp
          all_goals with_reducible rfl
        try simp only [Act.put, List.getElem_toArray, List.getElem_cons_succ, List.getElem_cons_zero, List.setIfInBounds_toArray, List.set_cons_zero, List.set_cons_succ]
        refine wpAnyH_take (i := 29) (v := ?_) rfl (by kernel_rfl) (by kernel_rfl) (by kernel_rfl) (fun _ _ _ h => h) (Or.inl ⟨by rfl, ?_⟩) (s3.S) ?_
        rotate_left 1
        · intro wS hSw; (try dsimp only at hSw); go_simp
          all_goals with_reducible rfl
        try simp only [Act.put, List.getElem_toArray, List.getElem_cons_succ, List.getElem_cons_zero, List.setIfInBounds_toArray, List.set_cons_zero, List.set_cons_succ]
        refine wpAnyH_take (i := 30) (v := ?_) rfl (by kernel_rfl) (by kernel_rfl) (by kernel_rfl) (fun _ _ _ h => h) (Or.inl ⟨by rfl, ?_⟩) (s3.S) ?_
        rotate_left 1
        · intro wS hSw; (try dsimp only at hSw); go_simp
          all_goals with_reducible rfl
        try simp only [Act.put, List.getElem_toArray, List.getElem_cons_succ, List.getElem_cons_zero, List.setIfInBounds_toArray, List.set_cons_zero, List.set_cons_succ]
        refine wpAnyH_take (i := 31) (v := ?_) rfl (by kernel_rfl) (by kernel_rfl) (by kernel_rfl) (fun _ _ _ h => h) (Or.inl ⟨by rfl, ?_⟩) (s3.S) ?_
        rotate_left 1
        · intro wS hSw; (try dsimp only at hSw); go_simp
          all_goals with_reducible rfl
        try simp only [Act.put, List.getElem_toArray, List.getElem_cons_succ, List.getElem_cons_zero, List.setIfInBounds_toArray, List.set_cons_zero, List.set_cons_succ]
        refine wpAnyH_take (i := 32) (v := ?_) rfl (by kernel_rfl) (by kernel_rfl) (by kernel_rfl) (fun _ _ _ h => h) (Or.inl ⟨by rfl, ?_⟩) (s3.S) ?_
        rotate_left 1
        · intro wS hSw; (try dsimp only at hSw); go_simp
          all_goals with_reducible rfl
        try simp only [Act.put, List.getElem_toArray, List.getElem_cons_succ, List.getElem_cons_zero, List.setIfInBounds_toArray, List.set_cons_zero, List.set_cons_succ]
        refine wpAnyH_take (i := 33) (v := ?_) rfl (by kernel_rfl) (by kernel_rfl) (by kernel_rfl) (fun _ _ _ h => h) (Or.inl ⟨by rfl, ?_⟩) (s3.S) ?_
        rotate_left 1
        · intro wS hSw; (try dsimp only at hSw); go_simp
          all_goals with_reducible rfl
        try simp only [Act.put, List.getElem_toArray, List.getElem_cons_succ, List.getElem_cons_zero, List.setIfInBounds_toArray, List.set_cons_zero, List.set_cons_succ]
        refine wpAnyH_take (i := 34) (v := ?_) rfl (by kernel_rfl) (by kernel_rfl) (by kernel_rfl) (fun _ _ _ h => h) (Or.inl ⟨by rfl, ?_⟩) (s3.S) ?_
        rotate_left 1
        · intro wS hSw; (try dsimp only at hSw); go_simp
          all_goals with_reducible rfl
        try simp only [Act.put, List.getElem_toArray, List.getElem_cons_succ, List.getElem_cons_zero, List.setIfInBounds_toArray, List.set_cons_zero, List.set_cons_succ]
        refine wpAnyH_take (i := 35) (v := ?_) rfl (by kernel_rfl) (by kernel_rfl) (by kernel_rfl) (fun _ _ _ h => h) (Or.inl ⟨by rfl, ?_⟩) (s3.S) ?_
        rotate_left 1
        · intro wS hSw; (try dsimp only at hSw); go_simp
          all_goals with_reducible rfl
        try simp only [Act.put, List.getElem_toArray, List.getElem_cons_succ, List.getElem_cons_zero, List.setIfInBounds_toArray, List.set_cons_zero, List.set_cons_succ]
        refine wpAnyH_take (i := 36) (v := ?_) rfl (by kernel_rfl) (by kernel_rfl) (by kernel_rfl) (fun _ _ _ h => h) (Or.inl ⟨by rfl, ?_⟩) (s3.S) ?_
        rotate_left 1
        · intro wS hSw; (try dsimp only at hSw); go_simp
          all_goals with_reducible rfl
        try simp only [Act.put, List.getElem_toArray, List.getElem_cons_succ, List.getElem_cons_zero, List.setIfInBounds_toArray, List.set_cons_zero, List.set_cons_succ]
        refine wpAnyH_take (i := 37) (v := ?_) rfl (by kernel_rfl) (by kernel_rfl) (by kernel_rfl) (fun _ _ _ h => h) (Or.inl ⟨by rfl, ?_⟩) (s3.S) ?_
        rotate_left 1
        · intro wS hSw; (try dsimp only at hSw); go_simp
          all_goals with_reducible rfl
        try simp only [Act.put, List.getElem_toArray, List.getElem_cons_succ, List.getElem_cons_zero, List.setIfInBounds_toArray, List.set_cons_zero, List.set_cons_succ]
        refine wpAnyH_take (i := 38) (v := ?_) rfl (by kernel_rfl) (by kernel_rfl) (by kernel_rfl) (fun _ _ _ h => h) (Or.inl ⟨by rfl, ?_⟩) (s3.S) ?_
        rotate_left 1
        · intro wS hSw; (try dsimp only at hSw); go_simp
          all_goals with_reducible rfl
        try simp only [Act.put, List.getElem_toArray, List.getElem_cons_succ, List.getElem_cons_zero, List.setIfInBounds_toArray, List.set_cons_zero, List.set_cons_succ]
        refine wpAnyH_take (i := 39) (v := undef) rfl (by kernel_rfl) (by kernel_rfl) (by kernel_rfl) (fun _ _ _ h => h) (Or.inr ⟨by rfl, rfl⟩) (s3.S) ?_
        try simp only [Act.put, List.getElem_toArray, List.getElem_cons_succ, List.getElem_cons_zero, List.setIfInBounds_toArray, List.set_cons_zero, List.set_cons_succ]
        refine wpAnyH_take (i := 40) (v := undef) rfl (by kernel_rfl) (by kernel_rfl) (by kernel_rfl) (fun _ _ _ h => h) (Or.inr ⟨by rfl, rfl⟩) (s3.S) ?_
        try simp only [Act.put, List.getElem_toArray, List.getElem_cons_succ, List.getElem_cons_zero, List.setIfInBounds_toArray, List.set_cons_zero, List.set_cons_succ]
        refine wpAnyH_take (i := 41) (v := undef) rfl (by kernel_rfl) (by kernel_rfl) (by kernel_rfl) (fun _ _ _ h => h) (Or.inr ⟨by rfl, rfl⟩) (s3.S) ?_
        try simp only [Act.put, List.getElem_toArray, List.getElem_cons_succ, List.getElem_cons_zero, List.setIfInBounds_toArray, List.set_cons_zero, List.set_cons_succ]
        refine wpAnyH_take (i := 42) (v := undef) rfl (by kernel_rfl) (by kernel_rfl) (by kernel_rfl) (fun _ _ _ h => h) (Or.inr ⟨by rfl, rfl⟩) (s3.S) ?_
        try simp only [Act.put, List.getElem_toArray, List.getElem_cons_succ, List.getElem_cons_zero, List.setIfInBounds_toArray, List.set_cons_zero, List.set_cons_succ]
        refine wpAnyH_take (i := 43) (v := undef) rfl (by kernel_rfl) (by kernel_rfl) (by kernel_rfl) (fun _ _ _ h => h) (Or.inr ⟨by rfl, rfl⟩) (s3.S) ?_
        try simp only [Act.put, List.getElem_toArray, List.getElem_cons_succ, List.getElem_cons_zero, List.setIfInBounds_toArray, List.set_cons_zero, List.set_cons_succ]
        refine wpAnyH_take (i := 44) (v := undef) rfl (by kernel_rfl) (by kernel_rfl) (by kernel_rfl) (fun _ _ _ h => h) (Or.inr ⟨by rfl, rfl⟩) (s3.S) ?_
        try simp only [Act.put, List.getElem_toArray, List.getElem_cons_succ, List.getElem_cons_zero, List.setIfInBounds_toArray, List.set_cons_zero, List.set_cons_succ]
        refine wpAnyH_take (i := 45) (v := undef) rfl (by kernel_rfl) (by kernel_rfl) (by kernel_rfl) (fun _ _ _ h => h) (Or.inr ⟨by rfl, rfl⟩) (s3.S) ?_
        try simp only [Act.put, List.getElem_toArray, List.getElem_cons_succ, List.getElem_cons_zero, List.setIfInBounds_toArray, List.set_cons_zero, List.set_cons_succ]
        refine wpAnyH_take (i := 46) (v := ?_) rfl (by kernel_rfl) (by kernel_rfl) (by kernel_rfl) (fun _ _ _ h => h) (Or.inl ⟨by rfl, ?_⟩) (s3.S) ?_
        rotate_left 1
        · intro wS hSw; (try dsimp only at hSw); go_simp
          all_goals with_reducible rfl
        try simp only [Act.put, List.getElem_toArray, List.getElem_cons_succ, List.getElem_cons_zero, List.setIfInBounds_toArray, List.set_cons_zero, List.set_cons_succ]
        refine wpAnyH_take (i := 47) (v := ?_) rfl (by kernel_rfl) (by kernel_rfl) (by kernel_rfl) (fun _ _ _ h => h) (Or.inl ⟨by rfl, ?_⟩) (s3.S) ?_
        rotate_left 1
        · intro wS hSw; (try dsimp only at hSw); go_simp
          all_goals with_reducible rfl
        try simp only [Act.put, List.getElem_toArray, List.getElem_cons_succ, List.getElem_cons_zero, List.setIfInBounds_toArray, List.set_cons_zero, List.set_cons_succ]
        refine wpAnyH_done (by kernel_rfl) ?_ _
        go_wp2_with fail
        go_meet
        exact ⟨rfl, v3⟩
      · have hA3 : (R1.nodes.length : Int) = (b.nodes.length : Int) := by omega
        clear HRl hRl
        refine wp_region_heldR (fun v : World => v.cell? ⟨w1.heap.size, 0, none⟩ = some (.slice A1 b.nodes.length c1) ∧ v.cell? ⟨w1.heap.size, 1, none⟩ = some (.slice A1' b.opens.length c1') ∧ v.cell? ⟨w3.heap.size, 0, none⟩ = some (.slice A5 R1.nodes.length c5) ∧ v.cell? ⟨w3.heap.size, 1, none⟩ = some (.slice A5' R1.opens.length c5') ∧ v.cell? ⟨w5.heap.size, 0, none⟩ = some (.slice A7 R1.nodes.length c7) ∧ v.cell? ⟨w5.heap.size, 1, none⟩ = some (.slice A7' R1.opens.length c7')) (fun X => TrU w A n (zs.map (Value.int .u8)) w1.heap.size (w1.heap.size + 1) w3.heap.size w5.heap.size 27 40 A1 c1 A1' c1' b t At ct A5 c5 A5' c5' A7 c7 A7' c7' R1 R1 X ∧ Below W6.heap.size W6 X) (by kernel_rfl) ⟨sU.drew, (Below.refl _ _).drew⟩ ?_
        rintro V0 ⟨s0, v0⟩
        try simp only [List.replicate, Array.replicate]
        clear sU
        refine wpAnyH_take (i := 0) (v := ?_) rfl (by kernel_rfl) (by kernel_rfl) (by kernel_rfl) (fun _ _ _ h => h) (Or.inl ⟨by rfl, ?_⟩) (s0.S) ?_
        rotate_left 1
        · intro wS hSw; (try dsimp only at hSw); go_simp
          all_goals with_reducible rfl
        try simp only [Act.put, List.getElem_toArray, List.getElem_cons_succ, List.getElem_cons_zero, List.setIfInBounds_toArray, List.set_cons_zero, List.set_cons_succ]
        refine wpAnyH_take (i := 1) (v := ?_) rfl (by kernel_rfl) (by kernel_rfl) (by kernel_rfl) (fun _ _ _ h => h) (Or.inl ⟨by rfl, ?_⟩) (s0.S) ?_
        rotate_left 1
        · intro wS hSw; (try dsimp only at hSw); go_simp
          all_goals with_reducible rfl
        try simp only [Act.put, List.getElem_toArray, List.getElem_cons_succ, List.getElem_cons_zero, List.setIfInBounds_toArray, List.set_cons_zero, List.set_cons_succ]
        refine wpAnyH_take (i := 2) (v := ?_) rfl (by kernel_rfl) (by kernel_rfl) (by kernel_rfl) (fun _ _ _ h => h) (Or.inl ⟨by rfl, ?_⟩) (s0.S) ?_
        rotate_left 1
        · intro wS hSw; (try dsimp only at hSw); go_simp
          all_goals with_reducible rfl
        try simp only [Act.put, List.getElem_toArray, List.getElem_cons_succ, List.getElem_cons_zero, List.setIfInBounds_toArray, List.set_cons_zero, List.set_cons_succ]
        refine wpAnyH_take (i := 3) (v := ?_) rfl (by kernel_rfl) (by kernel_rfl) (by kernel_rfl) (fun _ _ _ h => h) (Or.inl ⟨by rfl, ?_⟩) (s0.S) ?_
        rotate_left 1
        · intro wS hSw; (try dsimp only at hSw); go_simp
          all_goals with_reducible rfl
        try simp only [Act.put, List.getElem_toArray, List.getElem_cons_succ, List.getElem_cons_zero, List.setIfInBounds_toArray, List.set_cons_zero, List.set_cons_succ]
        refine wpAnyH_take (i := 4) (v := ?_) rfl (by kernel_rfl) (by kernel_rfl) (by kernel_rfl) (fun _ _ _ h => h) (Or.inl ⟨by rfl, ?_⟩) (s0.S) ?_
        rotate_left 1
        · intro wS hSw; (try dsimp only at hSw); go_simp
          all_goals with_reducible rfl
        try simp only [Act.put, List.getElem_toArray, List.getElem_cons_succ, List.getElem_cons_zero, List.setIfInBounds_toArray, List.set_cons_zero, List.set_cons_succ]
        refine wpAnyH_take (i := 5) (v := ?_) rfl (by kernel_rfl) (by kernel_rfl) (by kernel_rfl) (fun _ _ _ h => h) (Or.inl ⟨by rfl, ?_⟩) (s0.S) ?_
        rotate_left 1
        · intro wS hSw; (try dsimp only at hSw); go_simp
          all_goals with_reducible rfl
        try simp only [Act.put, List.getElem_toArray, List.getElem_cons_succ, List.getElem_cons_zero, List.setIfInBounds_toArray, List.set_cons_zero, List.set_cons_succ]
        refine wpAnyH_ready (rs := [6]) (by kernel_rfl) (by simp) ?_
        refine AllReadyH.cons rfl (fun K hK => ?_) AllReadyH.nil
        go_simp
        refine (HE.out V0 s0.b5.rd s0.b7.rd).mono ?_
        rintro e V1 ⟨rfl, bc⟩
        have s1 := s0.next bc
        have v1 := v0.trans (bc.mono v0.size)
        refine hK.out _ _ (s1.S) (fun _ => ?_)
        clear hK K
        clear bc
        try simp only [Act.put, List.getElem_toArray, List.getElem_cons_succ, List.getElem_cons_zero, List.setIfInBounds_toArray, List.set_cons_zero, List.set_cons_succ]
        refine wpAnyH_take (i := 7) (v := ?_) rfl (by kernel_rfl) (by kernel_rfl) (by kernel_rfl) (fun _ _ _ h => h) (Or.inl ⟨by rfl, ?_⟩) (s1.S) ?_
        rotate_left 1
        · intro wS hSw; (try dsimp only at hSw); go_simp
          all_goals with_reducible rfl
        try simp only [Act.put, List.getElem_toArray, List.getElem_cons_succ, List.getElem_cons_zero, List.setIfInBounds_toArray, List.set_cons_zero, List.set_cons_succ]
        refine wpAnyH_take (i := 8) (v := ?_) rfl (by kernel_rfl) (by kernel_rfl) (by kernel_rfl) (fun _ _ _ h => h) (Or.inl ⟨by rfl, ?_⟩) (s1.S) ?_
        rotate_left 1
        · intro wS hSw; (try dsimp only at hSw); go_simp
          all_goals with_reducible rfl
        try simp only [Act.put, List.getElem_toArray, List.getElem_cons_succ, List.getElem_cons_zero, List.setIfInBounds_toArray, List.set_cons_zero, List.set_cons_succ]
        refine wpAnyH_take (i := 9) (v := ?_) rfl (by kernel_rfl) (by kernel_rfl) (by kernel_rfl) (fun _ _ _ h => h) (Or.inl ⟨by rfl, ?_⟩) (s1.S) ?_
        rotate_left 1
        · intro wS hSw; (try dsimp only at hSw); go_simp
          all_goals with_reducible rfl
        try simp only [Act.put, List.getElem_toArray, List.getElem_cons_succ, List.getElem_cons_zero, List.setIfInBounds_toArray, List.set_cons_zero, List.set_cons_succ]
        refine wpAnyH_take (i := 10) (v := ?_) rfl (by kernel_rfl) (by kernel_rfl) (by kernel_rfl) (fun _ _ _ h => h) (Or.inl ⟨by rfl, ?_⟩) (s1.S) ?_
        rotate_left 1
        · intro wS hSw; (try dsimp only at hSw); go_simp
          all_goals with_reducible rfl
        try simp only [Act.put, List.getElem_toArray, List.getElem_cons_succ, List.getElem_cons_zero, List.setIfInBounds_toArray, List.set_cons_zero, List.set_cons_succ]
        refine wpAnyH_take (i := 12) (v := ?_) rfl (by kernel_rfl) (by kernel_rfl) (by kernel_rfl) (fun _ _ _ h => h) (Or.inl ⟨by rfl, ?_⟩) (s1.S) ?_
        rotate_left 1
        · intro wS hSw; (try dsimp only at hSw); go_simp
          all_goals with_reducible rfl
        try simp only [Act.put, List.getElem_toArray, List.getElem_cons_succ, List.getElem_cons_zero, List.setIfInBounds_toArray, List.set_cons_zero, List.set_cons_succ]
        refine wpAnyH_ready (rs := [11]) (by kernel_rfl) (by simp) ?_
        refine AllReadyH.cons rfl (fun K hK => ?_) AllReadyH.nil
        go_simp
        refine (HBi.out V1 s1.s.b3.rd).mono ?_
        rintro e V2 ⟨rfl, bc⟩
        have s2 := s1.next bc
        have v2 := v1.trans (bc.mono v1.size)
        refine hK.out _ _ (s2.S) (fun _ => ?_)
        clear hK K
        clear bc
        try simp only [Act.put, List.getElem_toArray, List.getElem_cons_succ, List.getElem_cons_zero, List.setIfInBounds_toArray, List.set_cons_zero, List.set_cons_succ]
        refine wpAnyH_ready (rs := [13]) (by kernel_rfl) (by simp) ?_
        refine AllReadyH.cons rfl (fun K hK => ?_) AllReadyH.nil
        go_simp
        refine (HBs.out V2 s2.s.b3.rd).mono ?_
        rintro e V3 ⟨rfl, bc⟩
        have s3 := s2.next bc
        have v3 := v2.trans (bc.mono v2.size)
        refine hK.out _ _ (s3.S) (fun _ => ?_)
        clear hK K
        clear bc
        try simp only [Act.put, List.getElem_toArray, List.getElem_cons_succ, List.getElem_cons_zero, List.setIfInBounds_toArray, List.set_cons_zero, List.set_cons_succ]
        refine wpAnyH_take (i := 14) (v := ?_) rfl (by kernel_rfl) (by kernel_rfl) (by kernel_rfl) (fun _ _ _ h => h) (Or.inl ⟨by rfl, ?_⟩) (s3.S) ?_
        rotate_left 1
        · intro wS hSw; (try dsimp only at hSw); go_simp
          all_goals with_reducible rfl
        try simp only [Act.put, List.getElem_toArray, List.getElem_cons_succ, List.getElem_cons_zero, List.setIfInBounds_toArray, List.set_cons_zero, List.set_cons_succ]
        refine wpAnyH_take (i := 15) (v := ?_) rfl (by kernel_rfl) (by kernel_rfl) (by kernel_rfl) (fun _ _ _ h => h) (Or.inl ⟨by rfl, ?_⟩) (s3.S) ?_
        rotate_left 1
        · intro wS hSw; (try dsimp only at hSw); go_simp
          all_goals with_reducible rfl
        try simp only [Act.put, List.getElem_toArray, List.getElem_cons_succ, List.getElem_cons_zero, List.setIfInBounds_toArray, List.set_cons_zero, List.set_cons_succ]
        refine wpAnyH_take (i := 16) (v := ?_) rfl (by kernel_rfl) (by kernel_rfl) (by kernel_rfl) (fun _ _ _ h => h) (Or.inl ⟨by rfl, ?_⟩) (s3.S) ?_
        rotate_left 1
        · intro wS hSw; (try dsimp only at hSw); go_simp
          all_goals with_reducible rfl
        try simp only [Act.put, List.getElem_toArray, List.getElem_cons_succ, List.getElem_cons_zero, List.setIfInBounds_toArray, List.set_cons_zero, List.set_cons_succ]
        refine wpAnyH_take (i := 17) (v := ?_) rfl (by kernel_rfl) (by kernel_rfl) (by kernel_rfl) (fun _ _ _ h => h) (Or.inl ⟨by rfl, ?_⟩) (s3.S) ?_
        rotate_left 1
        · intro wS hSw; (try dsimp only at hSw); go_simp
          all_goals with_reducible rfl
        try simp only [Act.put, List.getElem_toArray, List.getElem_cons_succ, List.getElem_cons_zero, List.setIfInBounds_toArray, List.set_cons_zero, List.set_cons_succ]
        refine wpAnyH_take (i := 18) (v := ?_) rfl (by kernel_rfl) (by kernel_rfl) (by kernel_rfl) (fun _ _ _ h => h) (Or.inl ⟨by rfl, ?_⟩) (s3.S) ?_
        rotate_left 1
        · intro wS hSw; (try dsimp only at hSw); go_simp
          all_goals with_reducible rfl
        try simp only [Act.put, List.getElem_toArray, List.getElem_cons_succ, List.getElem_cons_zero, List.setIfInBounds_toArray, List.set_cons_zero, List.set_cons_succ]
        refine wpAnyH_take (i := 19) (v := ?_) rfl (by kernel_rfl) (by kernel_rfl) (by kernel_rfl) (fun _ _ _ h => h) (Or.inl ⟨by rfl, ?_⟩) (s3.S) ?_
        rotate_left 1
        · intro wS hSw; (try dsimp only at hSw); go_simp
          all_goals with_reducible rfl
        try simp only [Act.put, List.getElem_toArray, List.getElem_cons_succ, List.getElem_cons_zero, List.setIfInBounds_toArray, List.set_cons_zero, List.set_cons_succ]
        refine wpAnyH_take (i := 20) (v := undef) rfl (by kernel_rfl) (by kernel_rfl) (by kernel_rfl) (fun _ _ _ h => h) (Or.inr ⟨by rfl, rfl⟩) (s3.S) ?_
        try simp only [Act.put, List.getElem_toArray, List.getElem_cons_succ, List.getElem_cons_zero, List.setIfInBounds_toArray, List.set_cons_zero, List.set_cons_succ]
        refine wpAnyH_take (i := 21) (v := undef) rfl (by kernel_rfl) (by kernel_rfl) (by kernel_rfl) (fun _ _ _ h => h) (Or.inr ⟨by rfl, rfl⟩) (s3.S) ?_
        try simp only [Act.put, List.getElem_toArray, List.getElem_cons_succ, List.getElem_cons_zero, List.setIfInBounds_toArray, List.set_cons_zero, List.set_cons_succ]
        refine wpAnyH_take (i := 22) (v := undef) rfl (by kernel_rfl) (by kernel_rfl) (by kernel_rfl) (fun _ _ _ h => h) (Or.inr ⟨by rfl, rfl⟩) (s3.S) ?_
        try simp only [Act.put, List.getElem_toArray, List.getElem_cons_succ, List.getElem_cons_zero, List.setIfInBounds_toArray, List.set_cons_zero, List.set_cons_succ]
        refine wpAnyH_take (i := 23) (v := undef) rfl (by kernel_rfl) (by kernel_rfl) (by kernel_rfl) (fun _ _ _ h => h) (Or.inr ⟨by rfl, rfl⟩) (s3.S) ?_
        try simp only [Act.put, List.getElem_toArray, List.getElem_cons_succ, List.getElem_cons_zero, List.setIfInBounds_toArray, List.set_cons_zero, List.set_cons_succ]
        refine wpAnyH_take (i := 24) (v := undef) rfl (by kernel_rfl) (by kernel_rfl) (by kernel_rfl) (fun _ _ _ h => h) (Or.inr ⟨by rfl, rfl⟩) (s3.S) ?_
        try simp only [Act.put, List.getElem_toArray, List.getElem_cons_succ, List.getElem_cons_zero, List.setIfInBounds_toArray, List.set_cons_zero, List.set_cons_succ]
        refine wpAnyH_take (i := 25) (v := undef) rfl (by kernel_rfl) (by kernel_rfl) (by kernel_rfl) (fun _ _ _ h => h) (Or.inr ⟨by rfl, rfl⟩) (s3.S) ?_
        try simp only [Act.put, List.getElem_toArray, List.getElem_cons_succ, List.getElem_cons_zero, List.setIfInBounds_toArray, List.set_cons_zero, List.set_cons_succ]
        refine wpAnyH_take (i := 26) (v := undef) rfl (by kernel_rfl) (by kernel_rfl) (by kernel_rfl) (fun _ _ _ h => h) (Or.inr ⟨by rfl, rfl⟩) (s3.S) ?_
        try simp only [Act.put, List.getElem_toArray, List.getElem_cons_succ, List.getElem_cons_zero, List.setIfInBounds_toArray, List.set_cons_zero, List.set_cons_succ]
        refine wpAnyH_take (i := 27) (v := undef) rfl (by kernel_rfl) (by kernel_rfl) (by kernel_rfl) (fun _ _ _ h => h) (Or.inr ⟨by rfl, rfl⟩) (s3.S) ?_
        try simp only [Act.put, List.getElem_toArray, List.getElem_cons_succ, List.getElem_cons_zero, List.setIfInBounds_toArray, List.set_cons_zero, List.set_cons_succ]
        refine wpAnyH_take (i := 28) (v := undef) rfl (by kernel_rfl) (by kernel_rfl) (by kernel_rfl) (fun _ _ _ h => h) (Or.inr ⟨by rfl, rfl⟩) (s3.S) ?_
        try simp only [Act.put, List.getElem_toArray, List.getElem_cons_succ, List.getElem_cons_zero, List.setIfInBounds_toArray, List.set_cons_zero, List.set_cons_succ]
        refine wpAnyH_take (i := 29) (v := undef) rfl (by kernel_rfl) (by kernel_rfl) (by kernel_rfl) (fun _ _ _ h => h) (Or.inr ⟨by rfl, rfl⟩) (s3.S) ?_
        try simp only [Act.put, List.getElem_toArray, List.getElem_cons_succ, List.getElem_cons_zero, List.setIfInBounds_toArray, List.set_cons_zero, List.set_cons_succ]
        refine wpAnyH_take (i := 30) (v := undef) rfl (by kernel_rfl) (by kernel_rfl) (by kernel_rfl) (fun _ _ _ h => h) (Or.inr ⟨by rfl, rfl⟩) (s3.S) ?_
        try simp only [Act.put, List.getElem_toArray, List.getElem_cons_succ, List.getElem_cons_zero, List.setIfInBounds_toArray, List.set_cons_zero, List.set_cons_succ]
        refine wpAnyH_take (i := 31) (v := undef) rfl (by kernel_rfl) (by kernel_rfl) (by kernel_rfl) (fun _ _ _ h => h) (Or.inr ⟨by rfl, rfl⟩) (s3.S) ?_
        try simp only [Act.put, List.getElem_toArray, List.getElem_cons_succ, List.getElem_cons_zero, List.setIfInBounds_toArray, List.set_cons_zero, List.set_cons_succ]
        refine wpAnyH_take (i := 32) (v := undef) rfl (by kernel_rfl) (by kernel_rfl) (by kernel_rfl) (fun _ _ _ h => h) (Or.inr ⟨by rfl, rfl⟩) (s3.S) ?_
        try simp only [Act.put, List.getElem_toArray, List.getElem_cons_succ, List.getElem_cons_zero, List.setIfInBounds_toArray, List.set_cons_zero, List.set_cons_succ]
        refine wpAnyH_take (i := 33) (v := ?_) rfl (by kernel_rfl) (by kernel_rfl) (by kernel_rfl) (fun _ _ _ h => h) (Or.inl ⟨by rfl, ?_⟩) (s3.S) ?_
        rotate_left 1
        · intro wS hSw; (try dsimp only at hSw); go_simp
          all_goals with_reducible rfl
        try simp only [Act.put, List.getElem_toArray, List.getElem_cons_succ, List.getElem_cons_zero, List.setIfInBounds_toArray, List.set_cons_zero, List.set_cons_succ]
        refine wpAnyH_take (i := 34) (v := ?_) rfl (by kernel_rfl) (by kernel_rfl) (by kernel_rfl) (fun _ _ _ h => h) (Or.inl ⟨by rfl, ?_⟩) (s3.S) ?_
        rotate_left 1
        · intro wS hSw; (try dsimp only at hSw); go_simp
          all_goals with_reducible rfl
        try simp only [Act.put, List.getElem_toArray, List.getElem_cons_succ, List.getElem_cons_zero, List.setIfInBounds_toArray, List.set_cons_zero, List.set_cons_succ]
        refine wpAnyH_take (i := 35) (v := ?_) rfl (by kernel_rfl) (by kernel_rfl) (by kernel_rfl) (fun _ _ _ h => h) (Or.inl ⟨by rfl, ?_⟩) (s3.S) ?_
        rotate_left 1
        · intro wS hSw; (try dsimp only at hSw); go_simp
          all_goals with_reducible rfl
        try simp only [Act.put, List.getElem_toArray, List.getElem_cons_succ, List.getElem_cons_zero, List.setIfInBounds_toArray, List.set_cons_zero, List.set_cons_succ]
        refine wpAnyH_take (i := 36) (v := ?_) rfl (by kernel_rfl) (by kernel_rfl) (by kernel_rfl) (fun _ _ _ h => h) (Or.inl ⟨by rfl, ?_⟩) (s3.S) ?_
        rotate_left 1
        · intro wS hSw; (try dsimp only at hSw); go_simp
          all_goals with_reducible rfl
        try simp only [Act.put, List.getElem_toArray, List.getElem_cons_succ, List.getElem_cons_zero, List.setIfInBounds_toArray, List.set_cons_zero, List.set_cons_succ]
        refine wpAnyH_take (i := 37) (v := ?_) rfl (by kernel_rfl) (by kernel_rfl) (by kernel_rfl) (fun _ _ _ h => h) (Or.inl ⟨by rfl, ?_⟩) (s3.S) ?_
        rotate_left 1
        · intro wS hSw; (try dsimp only at hSw); go_simp
          all_goals with_reducible rfl
        try simp only [Act.put, List.getElem_toArray, List.getElem_cons_succ, List.getElem_cons_zero, List.setIfInBounds_toArray, List.set_cons_zero, List.set_cons_succ]
        refine wpAnyH_take (i := 38) (v := ?_) rfl (by kernel_rfl) (by kernel_rfl) (by kernel_rfl) (fun _ _ _ h => h) (Or.inl ⟨by rfl, ?_⟩) (s3.S) ?_
        rotate_left 1
        · intro wS hSw; (try dsimp only at hSw); go_simp
          all_goals with_reducible rfl
        try simp only [Act.put, List.getElem_toArray, List.getElem_cons_succ, List.getElem_cons_zero, List.setIfInBounds_toArray, List.set_cons_zero, List.set_cons_succ]
        refine wpAnyH_take (i := 39) (v := ?_) rfl (by kernel_rfl) (by kernel_rfl) (by kernel_rfl) (fun _ _ _ h => h) (Or.inl ⟨by rfl, ?_⟩) (s3.S) ?_
        rotate_left 1
        · intro wS hSw; (try dsimp only at hSw); go_simp
          all_goals with_reducible rfl
        try simp only [Act.put, List.getElem_toArray, List.getElem_cons_succ, List.getElem_cons_zero, List.setIfInBounds_toArray, List.set_cons_zero, List.set_cons_succ]
        refine wpAnyH_take (i := 40) (v := ?_) rfl (by kernel_rfl) (by kernel_rfl) (by kernel_rfl) (fun _ _ _ h => h) (Or.inl ⟨by rfl, ?_⟩) (s3.S) ?_
        rotate_left 1
        · intro wS hSw; (try dsimp only at hSw); go_simp
          all_goals with_reducible rfl
        try simp only [Act.put, List.getElem_toArray, List.getElem_cons_succ, List.getElem_cons_zero, List.setIfInBounds_toArray, List.set_cons_zero, List.set_cons_succ]
        refine wpAnyH_take (i := 41) (v := ?_) rfl (by kernel_rfl) (by kernel_rfl) (by kernel_rfl) (fun _ _ _ h => h) (Or.inl ⟨by rfl, ?_⟩) (s3.S) ?_
        rotate_left 1
        · intro wS hSw; (try dsimp only at hSw); go_simp
          all_goals with_reducible rfl
        try simp only [Act.put, List.getElem_toArray, List.getElem_cons_succ, List.getElem_cons_zero, List.setIfInBounds_toArray, List.set_cons_zero, List.set_cons_succ]
        refine wpAnyH_take (i := 42) (v := ?_) rfl (by kernel_rfl) (by kernel_rfl) (by kernel_rfl) (fun _ _ _ h => h) (Or.inl ⟨by rfl, ?_⟩) (s3.S) ?_
        rotate_left 1
        · intro wS hSw; (try dsimp only at hSw); go_simp
          all_goals with_reducible rfl
        try simp only [Act.put, List.getElem_toArray, List.getElem_cons_succ, List.getElem_cons_zero, List.setIfInBounds_toArray, List.set_cons_zero, List.set_cons_succ]
        refine wpAnyH_take (i := 43) (v := ?_) rfl (by kernel_rfl) (by kernel_rfl) (by kernel_rfl) (fun _ _ _ h => h) (Or.inl ⟨by rfl, ?_⟩) (s3.S) ?_
        rotate_left 1
        · intro wS hSw; (try dsimp only at hSw); go_simp
          all_goals with_reducible rfl
        try simp only [Act.put, List.getElem_toArray, List.getElem_cons_succ, List.getElem_cons_zero, List.setIfInBounds_toArray, List.set_cons_zero, List.set_cons_succ]
        refine wpAnyH_take (i := 44) (v := ?_) rfl (by kernel_rfl) (by kernel_rfl) (by kernel_rfl) (fun _ _ _ h => h) (Or.inl ⟨by rfl, ?_⟩) (s3.S) ?_
        rotate_left 1
        · intro wS hSw; (try dsimp only at hSw); go_simp
          all_goals with_reducible rfl
        try simp only [Act.put, List.getElem_toArray, List.getElem_cons_succ, List.getElem_cons_zero, List.setIfInBounds_toArray, List.set_cons_zero, List.set_cons_succ]
        refine wpAnyH_take (i := 45) (v := ?_) rfl (by kernel_rfl) (by kernel_rfl) (by kernel_rfl) (fun _ _ _ h => h) (Or.inl ⟨by rfl, ?_⟩) (s3.S) ?_
        rotate_left 1
        · intro wS hSw; (try dsimp only at hSw); go_simp
          all_goals with_reducible rfl
        try simp only [Act.put, List.getElem_toArray, List.getElem_cons_succ, List.getElem_cons_zero, List.setIfInBounds_toArray, List.set_cons_zero, List.set_cons_succ]
        refine wpAnyH_take (i := 46) (v := ?_) rfl (by kernel_rfl) (by kernel_rfl) (by kernel_rfl) (fun _ _ _ h => h) (Or.inl ⟨by rfl, ?_⟩) (s3.S) ?_
        rotate_left 1
        · intro wS hSw; (try dsimp only at hSw); go_simp
          all_goals with_reducible rfl
        try simp only [Act.put, List.getElem_toArray, List.getElem_cons_succ, List.getElem_cons_zero, List.setIfInBounds_toArray, List.set_cons_zero, List.set_cons_succ]
        refine wpAnyH_take (i := 47) (v := ?_) rfl (by kernel_rfl) (by kernel_rfl) (by kernel_rfl) (fun _ _ _ h => h) (Or.inl ⟨by rfl, ?_⟩) (s3.S) ?_
        rotate_left 1
        · intro wS hSw; (try dsimp only at hSw); go_simp
          all_goals with_reducible rfl
        try simp only [Act.put, List.getElem_toArray, List.getElem_cons_succ, List.getElem_cons_zero, List.setIfInBounds_toArray, List.set_cons_zero, List.set_cons_succ]
        refine wpAnyH_done (by kernel_rfl) ?_ _
        go_wp2_with fail
        go_meet
        exact ⟨rfl, v3⟩
    case rest =>
      obtain ⟨rfl, bx⟩ := hcut
      have sW := sU.next bx
      clear sU bx HE HBi
      obtain ⟨⟨k0, k1, k2, k3⟩, -⟩ := sW.s.b4.four
      go_upto_region 8 with fail
      obtain ⟨VB, hVB⟩ : ∃ VB : Bool, VB = true ↔ (t.kind = 1 → nameB t.name = true) := by
        by_cases h : (t.kind = 1 → nameB t.name = true)
        · exact ⟨true, by simp only [h, true_iff]; exact h⟩
        · exact ⟨false, by simp only [h]; simp⟩
      have HVB := Lib.hid hVB
      clear hVB
      go_cut [9] from 80 to 87 (fun v9 wx => v9 = .bool VB ∧ Below wc.heap.size wc wx)
      case first =>
        have hN := isName_spec t.name htn1
        clear HBx HBs
        by_cases h1 : t.kind = 1
        · have e1 : (t.kind == 1) = true := by simpa using h1
          have e1' : (t.kind != 1) = false := by simpa using h1
          cases hnb : nameB t.name
          · rw [hnb] at hN
            have hv : VB = false := by
              have := HVB.out
              rw [hnb] at this
              cases VB
              · rfl
              · exact absurd (this.1 rfl h1) (by simp)
            subst hv
            clear h1 HVB
            go_wp2_with (fail)
            go_at_call 20
            refine (hN _).mono ?_
            rintro e wN ⟨rfl, rfl⟩
            go_wp2_with fail
            go_meet
            exact ⟨rfl, Below.refl _ _⟩
          · rw [hnb] at hN
            have hv : VB = true := HVB.out.2 fun _ => hnb
            subst hv
            clear h1 HVB
            go_wp2_with (fail)
            go_at_call 20
            refine (hN _).mono ?_
            rintro e wN ⟨rfl, rfl⟩
            go_wp2_with fail
            go_meet
            exact ⟨rfl, Below.refl _ _⟩
        · have e1 : (t.kind == 1) = false := by simpa using h1
          have e1' : (t.kind != 1) = true := by simpa using h1
          have hv : VB = true := HVB.out.2 fun h => absurd h h1
          subst hv
          clear h1 HVB
          go_wp2_with fail
          go_meet
          exact ⟨rfl, Below.refl _ _⟩
      case rest =>
        obtain ⟨rfl, bx⟩ := hcut
        have sX := sW.next bx
        clear sW bx k0 k1 k2 k3
        go_upto_region 9 with fail
        go_cut [97] from 88 to 97 (fun cv wx => cv = .bool false ∧ Below wc.heap.size wc wx)
        case first =>
          obtain ⟨J0, J1, J2, J3, J4, J5⟩ := sX.S
          go_wp2_with (fail)
          go_at_call 19
          refine (HBs.out _ sX.s.b3.rd).mono ?_
          rintro e wS ⟨rfl, bS⟩
          cases V
          · go_wp2_with fail
            go_meet
            exact ⟨rfl, bS⟩
          · cases VB
            · go_wp2_with fail
              go_meet
              exact ⟨rfl, bS⟩
            · have sS := sX.next bS
              have HB' := HBx.out rfl (HVB.out.1 rfl)
              clear J0 J1 J2 J3 J4 J5
              obtain ⟨J0, J1, J2, J3, J4, J5⟩ := sS.S
              go_wp2_with (fail)
              go_at_call 18
              refine (HB' _ sS.b5.rd).mono ?_
              rintro e wR ⟨rfl, bR⟩
              go_wp2_with fail
              go_meet
              exact ⟨rfl, bS.trans (bR.mono bS.size)⟩
        case rest =>
          obtain ⟨rfl, bx⟩ := hcut
          have sY := sX.next bx
          clear sX bx HBs HBx HVB
          go_wp2_with (fail)
          go_at_call 21
          refine (drawAddTokens_any _ sY.s.hx hn hz).mono ?_
          rintro e w9 ⟨b', A9, c9, A9', c9', L9, x, hs', ⟨l, Bl, dl, rfl, hl, hl1, hl2⟩, rfl, o9, b9⟩
          have hb9 := sY.s.hb.trans (b9.mono sY.s.hb.size)
          clear sY b9
          have q10 := BoxB.new (T := 27) o9
          have al9 : Below w9.heap.size w9 (w9.alloc (.cells #[.slice A9 b'.nodes.length c9, .slice A9' b'.opens.length c9'] 27)) := (Below.refl _ _).alloc (Nat.le_refl _) _
          replace hl := hl.next al9
          replace hb9 := hb9.trans (al9.mono hb9.size)
          have hno' := hs'.nodes
          have hop' := hs'.opens
          have hla : ∀ t ∈ l, t.attrs.length ≤ 1073741824 := fun t ht => by have h0 := hl2 t ht; have h1 := s2sz_nonneg t.attrs; unfold tokSz at h0; omega
          have hAi := fun (W : World) (h1 : ReadsB W W.heap.size A9 b'.nodes.length A9' b'.opens.length b') (h2 : ReadsN tokN W W.heap.size Bl l.length l) => addTokens_impl (c := c9) (c' := c9') (d := dl) W h1 hs'.okB h2 (by omega) hla
          have hAs := fun (W : World) (h1 : ReadsB W W.heap.size A9 b'.nodes.length A9' b'.opens.length b') (h2 : ReadsN tokN W W.heap.size Bl l.length l) => addTokens_spec (c := c9) (c' := c9') (d := dl) W h1 hs'.okB h2 (by omega) hla
          have hAe := fun (W : World) (B : Option Addr) (d : Nat) (h1 : ReadsB W W.heap.size A9 b'.nodes.length A9' b'.opens.length b') => addTokens_impl (c := c9) (c' := c9') (d := d) (B := B) (l := []) (m := 0) W h1 hs'.okB ReadsN.nil (by omega) (fun t ht => by cases ht)
          simp only [show addsL b' [] = b' from rfl] at hAe
          obtain ⟨hZ1, hZ2⟩ := addsL_len l b'
          have hZk := (hs'.okB.adds l hla).attrs
          generalize addsL b' l = Z at *
          have hbk := hs'.attrs
          obtain ⟨K0, K1⟩ := q10.cells
          go_wp2_with (fail)
          generalize w9.alloc (.cells #[.slice A9 b'.nodes.length c9, .slice A9' b'.opens.length c9'] 27) = W10 at *
          go_at_call 22
          refine (hAi _ q10.rd hl).mono ?_
          rintro e w11 ⟨A11, c11, A11', c11', L11, rfl, o11, b11⟩
          have q12 := BoxB.new (T := 27) o11
          have al11 : Below w11.heap.size w11 (w11.alloc (.cells #[.slice A11 Z.nodes.length c11, .slice A11' Z.opens.length c11'] 27)) := (Below.refl _ _).alloc (Nat.le_refl _) _
          have sV : TrV w w9.heap.size w11.heap.size 27 A9 c9 A9' c9' b' A11 c11 A11' c11' Z Bl l (w11.alloc (.cells #[.slice A11 Z.nodes.length c11, .slice A11' Z.opens.length c11'] 27)) := ⟨(q10.next b11).next al11, q12, (hl.next b11).next al11, (hb9.trans (b11.mono hb9.size)).trans (al11.mono (by have h1 := b11.size; have h2 := hb9.size; omega))⟩
          clear K0 K1 q10 q12 o11 b11 al11 hb9 hl al9 o9 hAi
          have HAs := Lib.hid hAs
          have HAe := Lib.hid hAe
          clear hAs hAe
          have HEz : Hid (∀ (W : World) (D : Option Addr) (d : Nat) (D' : Option Addr) (d' : Nat), ReadsB W W.heap.size A11 Z.nodes.length A11' Z.opens.length Z → ReadsB W W.heap.size D Z.nodes.length D' Z.opens.length Z → Calls Try.prog 17 #[.agg #[.slice A11 Z.nodes.length c11, .slice A11' Z.opens.length c11'], .agg #[.slice D Z.nodes.length d, .slice D' Z.opens.length d']] W fun e w' => e = .returned (.bool true) ∧ Below W.heap.size W w') := Lib.hid fun W D d D' d' h1 h2 => by
            have h := equalBuilders_impl (c := c11) (c' := c11') (d := d) (d' := d') Z Z W h1 h2 (by omega) (by omega) hZk hZk
            rw [eqBld_self] at h
            exact h
          have HEc : Hid (∀ (W : World) (D : Option Addr) (d : Nat) (D' : Option Addr) (d' : Nat), ReadsB W W.heap.size D b'.nodes.length D' b'.opens.length b' → ReadsB W W.heap.size A9 b'.nodes.length A9' b'.opens.length b' → Calls Try.prog 17 #[.agg #[.slice D b'.nodes.length d, .slice D' b'.opens.length d'], .agg #[.slice A9 b'.nodes.length c9, .slice A9' b'.opens.length c9']] W fun e w' => e = .returned (.bool true) ∧ Below W.heap.size W w') := Lib.hid fun W D d D' d' h1 h2 => by
            have h := equalBuilders_impl (c := d) (c' := d') (d := c9) (d' := c9') b' b' W h1 h2 (by omega) (by omega) hbk hbk
            rw [eqBld_self] at h
            exact h
          have hw1 : IntKind.i64.wrap ((b'.nodes.length : Int) + (l.length : Int)) = (b'.nodes.length : Int) + (l.length : Int) := by rw [IntKind.wrap_i64]; omega
          have hd1 : decide ((Z.nodes.length : Int) ≤ (b'.nodes.length : Int) + (l.length : Int)) = true := by simp; omega
          have hd2 : (Z.nodes.length : Int) ≤ (b'.nodes.length : Int) + (l.length : Int) := by omega
          clear hZk hbk hla hl2 hn hz hmx
          obtain ⟨K0, K1, K2, K3⟩ := sV.S
          go_upto_region 13 with fail
          generalize w11.alloc (.cells #[.slice A11 Z.nodes.length c11, .slice A11' Z.opens.length c11'] 27) = W12 at *
          clear K0 K1 K2 K3
          refine wp_region_heldR (fun v : World => v.cell? ⟨w9.heap.size, 0, none⟩ = some (.slice A9 b'.nodes.length c9) ∧ v.cell? ⟨w9.heap.size, 1, none⟩ = some (.slice A9' b'.opens.length c9') ∧ v.cell? ⟨w11.heap.size, 0, none⟩ = some (.slice A11 Z.nodes.length c11) ∧ v.cell? ⟨w11.heap.size, 1, none⟩ = some (.slice A11' Z.opens.length c11')) (TrV w w9.heap.size w11.heap.size 27 A9 c9 A9' c9' b' A11 c11 A11' c11' Z Bl l) (by kernel_rfl) sV.drew ?_
          intro V0 s0
          try simp only [List.replicate, Array.replicate]
          clear sV
          refine wpAnyH_take (i := 0) (v := ?_) rfl (by kernel_rfl) (by kernel_rfl) (by kernel_rfl) (fun _ _ _ h => h) (Or.inl ⟨by rfl, ?_⟩) (s0.S) ?_
          rotate_left 1
          · intro wS hSw; (try dsimp only at hSw); go_simp
            all_goals with_reducible rfl
          try simp only [Act.put, List.getElem_toArray, List.getElem_cons_succ, List.getElem_cons_zero, List.setIfInBounds_toArray, List.set_cons_zero, List.set_cons_succ]
          refine wpAnyH_take (i := 1) (v := ?_) rfl (by kernel_rfl) (by kernel_rfl) (by kernel_rfl) (fun _ _ _ h => h) (Or.inl ⟨by rfl, ?_⟩) (s0.S) ?_
          rotate_left 1
          · intro wS hSw; (try dsimp only at hSw); go_simp
            all_goals with_reducible rfl
          try simp only [Act.put, List.getElem_toArray, List.getElem_cons_succ, List.getElem_cons_zero, List.setIfInBounds_toArray, List.set_cons_zero, List.set_cons_succ]
          refine wpAnyH_take (i := 2) (v := ?_) rfl (by kernel_rfl) (by kernel_rfl) (by kernel_rfl) (fun _ _ _ h => h) (Or.inl ⟨by rfl, ?_⟩) (s0.S) ?_
          rotate_left 1
          · intro wS hSw; (try dsimp only at hSw); go_simp
            all_goals with_reducible rfl
          try simp only [Act.put, List.getElem_toArray, List.getElem_cons_succ, List.getElem_cons_zero, List.setIfInBounds_toArray, List.set_cons_zero, List.set_cons_succ]
          refine wpAnyH_ready (rs := [3]) (by kernel_rfl) (by simp) ?_
          refine AllReadyH.cons rfl (fun K hK => ?_) AllReadyH.nil
          go_simp
          refine (HAs.out V0 s0.b10.rd s0.hl).mono ?_
          rintro e V1 ⟨Ap, cp, Ap', cp', Lp, rfl, op, bc⟩
          have s1 := s0.next bc
          refine hK.out _ _ (s1.S) (fun _ => ?_)
          clear hK K
          clear bc
          try simp only [Act.put, List.getElem_toArray, List.getElem_cons_succ, List.getElem_cons_zero, List.setIfInBounds_toArray, List.set_cons_zero, List.set_cons_succ]
          refine wpAnyH_ready (rs := [4]) (by kernel_rfl) (by simp) ?_
          refine AllReadyH.cons rfl (fun K hK => ?_) AllReadyH.nil
          go_simp
          refine (HEz.out V1 _ _ _ _ s1.b12.rd (op.rd (Nat.le_refl _))).mono ?_
          rintro e V2 ⟨rfl, bc⟩
          have s2 := s1.next bc
          refine hK.out _ _ (s2.S) (fun _ => ?_)
          clear hK K
          clear bc op
          try simp only [Act.put, List.getElem_toArray, List.getElem_cons_succ, List.getElem_cons_zero, List.setIfInBounds_toArray, List.set_cons_zero, List.set_cons_succ]
          refine wpAnyH_take (i := 5) (v := ?_) rfl (by kernel_rfl) (by kernel_rfl) (by kernel_rfl) (fun _ _ _ h => h) (Or.inl ⟨by rfl, ?_⟩) (s2.S) ?_
          rotate_left 1
          · intro wS hSw; (try dsimp only at hSw); go_simp
            all_goals with_reducible rfl
          try simp only [Act.put, List.getElem_toArray, List.getElem_cons_succ, List.getElem_cons_zero, List.setIfInBounds_toArray, List.set_cons_zero, List.set_cons_succ]
          refine wpAnyH_take (i := 6) (v := ?_) rfl (by kernel_rfl) (by kernel_rfl) (by kernel_rfl) (fun _ _ _ h => h) (Or.inl ⟨by rfl, ?_⟩) (s2.S) ?_
          rotate_left 1
          · intro wS hSw; (try dsimp only at hSw); go_simp
            all_goals with_reducible rfl
          try simp only [Act.put, List.getElem_toArray, List.getElem_cons_succ, List.getElem_cons_zero, List.setIfInBounds_toArray, List.set_cons_zero, List.set_cons_succ]
          refine wpAnyH_take (i := 7) (v := ?_) rfl (by kernel_rfl) (by kernel_rfl) (by kernel_rfl) (fun _ _ _ h => h) (Or.inl ⟨by rfl, ?_⟩) (s2.S) ?_
          rotate_left 1
          · intro wS hSw; (try dsimp only at hSw); go_simp
            all_goals with_reducible rfl
          try simp only [Act.put, List.getElem_toArray, List.getElem_cons_succ, List.getElem_cons_zero, List.setIfInBounds_toArray, List.set_cons_zero, List.set_cons_succ]
          refine wpAnyH_take (i := 8) (v := ?_) rfl (by kernel_rfl) (by kernel_rfl) (by kernel_rfl) (fun _ _ _ h => h) (Or.inl ⟨by rfl, ?_⟩) (s2.S) ?_
          rotate_left 1
          · intro wS hSw; (try dsimp only at hSw); go_simp
            all_goals with_reducible rfl
          try simp only [Act.put, List.getElem_toArray, List.getElem_cons_succ, List.getElem_cons_zero, List.setIfInBounds_toArray, List.set_cons_zero, List.set_cons_succ]
          refine wpAnyH_take (i := 9) (v := ?_) rfl (by kernel_rfl) (by kernel_rfl) (by kernel_rfl) (fun _ _ _ h => h) (Or.inl ⟨by rfl, ?_⟩) (s2.S) ?_
          rotate_left 1
          · intro wS hSw; (try dsimp only at hSw); go_simp
            all_goals with_reducible rfl
          try simp only [Act.put, List.getElem_toArray, List.getElem_cons_succ, List.getElem_cons_zero, List.setIfInBounds_toArray, List.set_cons_zero, List.set_cons_succ]
          refine wpAnyH_take (i := 10) (v := ?_) rfl (by kernel_rfl) (by kernel_rfl) (by kernel_rfl) (fun _ _ _ h => h) (Or.inl ⟨by rfl, ?_⟩) (s2.S) ?_
          rotate_left 1
          · intro wS hSw; (try dsimp only at hSw); go_simp
            all_goals with_reducible rfl
          try simp only [Act.put, List.getElem_toArray, List.getElem_cons_succ, List.getElem_cons_zero, List.setIfInBounds_toArray, List.set_cons_zero, List.set_cons_succ]
          refine wpAnyH_take (i := 11) (v := ?_) rfl (by kernel_rfl) (by kernel_rfl) (by kernel_rfl) (fun _ _ _ h => h) (Or.inl ⟨by rfl, ?_⟩) (s2.S) ?_
          rotate_left 1
          · intro wS hSw; (try dsimp only at hSw); go_simp
            all_goals with_reducible rfl
          try simp only [Act.put, List.getElem_toArray, List.getElem_cons_succ, List.getElem_cons_zero, List.setIfInBounds_toArray, List.set_cons_zero, List.set_cons_succ]
          refine wpAnyH_take (i := 12) (v := ?_) rfl (by kernel_rfl) (by kernel_rfl) (by kernel_rfl) (fun _ _ _ h => h) (Or.inl ⟨by rfl, ?_⟩) (s2.S) ?_
          rotate_left 1
          · intro wS hSw; (try dsimp only at hSw); go_simp
            all_goals with_reducible rfl
          try simp only [Act.put, List.getElem_toArray, List.getElem_cons_succ, List.getElem_cons_zero, List.setIfInBounds_toArray, List.set_cons_zero, List.set_cons_succ]
          refine wpAnyH_take (i := 13) (v := ?_) rfl (by kernel_rfl) (by kernel_rfl) (by kernel_rfl) (fun _ _ _ h => h) (Or.inl ⟨by rfl, ?_⟩) (s2.S) ?_
          rotate_left 1
          · intro wS hSw; (try dsimp only at hSw); go_simp
            all_goals with_reducible rfl
          try simp only [Act.put, List.getElem_toArray, List.getElem_cons_succ, List.getElem_cons_zero, List.setIfInBounds_toArray, List.set_cons_zero, List.set_cons_succ]
          refine wpAnyH_take (i := 14) (v := ?_) rfl (by kernel_rfl) (by kernel_rfl) (by kernel_rfl) (fun _ _ _ h => h) (Or.inl ⟨by rfl, ?_⟩) (s2.S) ?_
          rotate_left 1
          · intro wS hSw; (try dsimp only at hSw); go_simp
            all_goals with_reducible rfl
          try simp only [Act.put, List.getElem_toArray, List.getElem_cons_succ, List.getElem_cons_zero, List.setIfInBounds_toArray, List.set_cons_zero, List.set_cons_succ]
          refine wpAnyH_take (i := 15) (v := ?_) rfl (by kernel_rfl) (by kernel_rfl) (by kernel_rfl) (fun _ _ _ h => h) (Or.inl ⟨by rfl, ?_⟩) (s2.S) ?_
          rotate_left 1
          · intro wS hSw; (try dsimp only at hSw); go_simp
            all_goals with_reducible rfl
          try simp only [Act.put, List.getElem_toArray, List.getElem_cons_succ, List.getElem_cons_zero, List.setIfInBounds_toArray, List.set_cons_zero, List.set_cons_succ]
          refine wpAnyH_take (i := 16) (v := ?_) rfl (by kernel_rfl) (by kernel_rfl) (by kernel_rfl) (fun _ _ _ h => h) (Or.inl ⟨by rfl, ?_⟩) (s2.S) ?_
          rotate_left 1
          · intro wS hSw; (try dsimp only at hSw); go_simp
            all_goals with_reducible rfl
          try simp only [Act.put, List.getElem_toArray, List.getElem_cons_succ, List.getElem_cons_zero, List.setIfInBounds_toArray, List.set_cons_zero, List.set_cons_succ]
          refine wpAnyH_take (i := 17) (v := ?_) rfl (by kernel_rfl) (by kernel_rfl) (by kernel_rfl) (fun _ _ _ h => h) (Or.inl ⟨by rfl, ?_⟩) (s2.S) ?_
          rotate_left 1
          · intro wS hSw; (try dsimp only at hSw); go_simp
            all_goals with_reducible rfl
          try simp only [Act.put, List.getElem_toArray, List.getElem_cons_succ, List.getElem_cons_zero, List.setIfInBounds_toArray, List.set_cons_zero, List.set_cons_succ]
          refine wpAnyH_take (i := 18) (v := ?_) rfl (by kernel_rfl) (by kernel_rfl) (by kernel_rfl) (fun _ _ _ h => h) (Or.inl ⟨by rfl, ?_⟩) (s2.S) ?_
          rotate_left 1
          · intro wS hSw; (try dsimp only at hSw); go_simp
            all_goals with_reducible rfl
          try simp only [Act.put, List.getElem_toArray, List.getElem_cons_succ, List.getElem_cons_zero, List.setIfInBounds_toArray, List.set_cons_zero, List.set_cons_succ]
          refine wpAnyH_take (i := 21) (v := ?_) rfl (by kernel_rfl) (by kernel_rfl) (by kernel_rfl) (fun _ _ _ h => h) (Or.inl ⟨by rfl, ?_⟩) (s2.S) ?_
          rotate_left 1
          · intro wS hSw; (try dsimp only at hSw); go_simp
            all_goals with_reducible rfl
          try simp only [Act.put, List.getElem_toArray, List.getElem_cons_succ, List.getElem_cons_zero, List.setIfInBounds_toArray, List.set_cons_zero, List.set_cons_succ]
          refine wpAnyH_ready (rs := [19]) (by kernel_rfl) (by simp) ?_
          refine AllReadyH.cons rfl (fun K hK => ?_) AllReadyH.nil
          go_simp
          have s3 := s2.next ((Below.refl _ _).alloc (Nat.le_refl _) (.cells #[] 40))
          refine hK.out _ _ (s3.S) (fun _ => ?_)
          clear hK K
          generalize V2.alloc (.cells #[] 40) = V3 at *
          try simp only [Act.put, List.getElem_toArray, List.getElem_cons_succ, List.getElem_cons_zero, List.setIfInBounds_toArray, List.set_cons_zero, List.set_cons_succ]
          refine wpAnyH_ready (rs := [20]) (by kernel_rfl) (by simp) ?_
          refine AllReadyH.cons rfl (fun K hK => ?_) AllReadyH.nil
          go_simp
          refine (HAe.out V3 _ _ s3.b10.rd).mono ?_
          rintro e V4 ⟨Aq, cq, Aq', cq', Lq, rfl, oq, bc⟩
          have s4 := s3.next bc
          refine hK.out _ _ (s4.S) (fun _ => ?_)
          clear hK K
          clear bc
          try simp only [Act.put, List.getElem_toArray, List.getElem_cons_succ, List.getElem_cons_zero, List.setIfInBounds_toArray, List.set_cons_zero, List.set_cons_succ]
          refine wpAnyH_ready (rs := [22]) (by kernel_rfl) (by simp) ?_
          refine AllReadyH.cons rfl (fun K hK => ?_) AllReadyH.nil
          go_simp
          refine (HEc.out V4 _ _ _ _ (oq.rd (Nat.le_refl _)) s4.b10.rd).mono ?_
          rintro e V5 ⟨rfl, bc⟩
          have s5 := s4.next bc
          refine hK.out _ _ (s5.S) (fun _ => ?_)
          clear hK K
          clear bc oq
          try simp only [Act.put, List.getElem_toArray, List.getElem_cons_succ, List.getElem_cons_zero, List.setIfInBounds_toArray, List.set_cons_zero, List.set_cons_succ]
          refine wpAnyH_take (i := 23) (v := ?_) rfl (by kernel_rfl) (by kernel_rfl) (by kernel_rfl) (fun _ _ _ h => h) (Or.inl ⟨by rfl, ?_⟩) (s5.S) ?_
          rotate_left 1
          · intro wS hSw; (try dsimp only at hSw); go_simp
            all_goals with_reducible rfl
          try simp only [Act.put, List.getElem_toArray, List.getElem_cons_succ, List.getElem_cons_zero, List.setIfInBounds_toArray, List.set_cons_zero, List.set_cons_succ]
          refine wpAnyH_take (i := 24) (v := ?_) rfl (by kernel_rfl) (by kernel_rfl) (by kernel_rfl) (fun _ _ _ h => h) (Or.inl ⟨by rfl, ?_⟩) (s5.S) ?_
          rotate_left 1
          · intro wS hSw; (try dsimp only at hSw); go_simp
            all_goals with_reducible rfl
          try simp only [Act.put, List.getElem_toArray, List.getElem_cons_succ, List.getElem_cons_zero, List.setIfInBounds_toArray, List.set_cons_zero, List.set_cons_succ]
          refine wpAnyH_done (by kernel_rfl) ?_ _
          go_wp2
          go_ret
          exact ⟨rfl, s5.hb⟩
  · go_enter Try.func4, Try.ntmps4
    go_wp2_with (go_at_call 6; refine (big_yes _ hn hmx).mono ?_; rintro e w0 ⟨rfl, rfl⟩)
    go_ret
    exact ⟨rfl, Below.refl _ _⟩
end Go.Proofs.Ytleopmeaaabejaa
