/-
  Contracts of AddToken of the program: the ways that add a node. Condition: at most 2^30 elements.
-/
import Derived.Test.YtleopmeaaabejaaP12
namespace Go.Proofs.Ytleopmeaaabejaa
set_option linter.unusedVariables false
set_option linter.unusedSimpArgs false
set_option maxRecDepth 100000
open Go.ChangeShapes Go.WideShapes Go.ChangeAt Go.RowKit Go.Deep

set_option maxHeartbeats 1000000 in
theorem addToken_impl_add_k1f {A A' At : Option Addr} {n c p c' ct : Nat} {b : Bld} {name text : ByteArray} {attrs : List S2} {par : Int} (w : World) (hx : ReadsB w w.heap.size A n A' (p + 1) b) (hn : n ≤ 1073741824) (hn' : p + 1 ≤ 1073741824) (hka : ∀ a ∈ b.nodes, a.attrs.length ≤ 1073741824)
    (ht : Reads w w.heap.size 2 At attrs.length (s2V attrs)) (hm : attrs.length ≤ 1073741824) (hp : b.opens[p]? = some par) (hv : voidB name = false) (hf : n < 40) (hf2 : p + 1 < 8) :
    Calls Try.prog 15 #[.agg #[.slice A n c, .slice A' (p + 1) c'], .agg #[.int .i64 1, .string name, .slice At attrs.length ct, .string text]] w (GotBI w 33 104 3 (⟨b.nodes ++ [⟨name, ⟨#[]⟩, par, attrs⟩], b.opens ++ [(n : Int)]⟩, (n : Int))) := by
  have hlen := Lib.hid hx.len
  have hb3 : Below w.heap.size w _ := (((Below.refl _ w).alloc (Nat.le_refl _) (.cells #[.slice A n c, .slice A' (p + 1) c'] 27)).alloc (by simp) (.cells #[.int .i64 1, .string name, .slice At attrs.length ct, .string text] 40)).alloc (by simp; omega) (.cells #[.slice none 0 0, .slice none 0 0] 27)
  have hx3 := hx.next hb3
  have hz : ((p : Int) + 1 == 0) = false := by simp; omega
  have hz2 : decide ((40 : Int) ≤ (n : Int)) = false := by simp; omega
  have hz3 : decide ((8 : Int) ≤ (p : Int) + 1) = false := by simp; omega
  obtain ⟨b0, off0, rfl, hb0, hcx⟩ := hx.2.num (k := p) (by omega)
  have g1 : w.cell? ⟨b0, off0 + p, none⟩ = some (.int .i64 par) := by
    obtain ⟨hl, rfl⟩ := List.getElem?_eq_some_iff.1 hp
    exact hcx hl
  clear hcx
  go_enter Try.func15, Try.ntmps15
  go_wp2_with (first
    | (go_at_call 39
       refine (copyBuilder_impl (b := b) _ hx3 hn hn' hka).mono ?_
       rintro e w4 ⟨A4, c4, A5, c5, L, rfl, o4, b4⟩
       simp only [World.size_alloc] at o4 b4
       have z4 := b4.size
       simp only [World.size_alloc] at z4
       obtain ⟨st, ow⟩ := AddAt.of o4 b4
       obtain ⟨⟨f00, f01⟩, ⟨f10, f11, f12, f13⟩, ⟨f20, f21, f22, f23⟩, ⟨f30, f31, f32, f33⟩⟩ := st.facts
       have g2 := (st.below.cell (p := ⟨b0, off0 + p, none⟩) hb0).trans g1
       have q6 := (Below.refl (w4.alloc (.cells #[.slice A4 n c4, .slice A5 (p + 1) c5] 27)).heap.size (w4.alloc (.cells #[.slice A4 n c4, .slice A5 (p + 1) c5] 27))).alloc (Nat.le_refl _) (.cells #[.string ⟨#[]⟩, .string ⟨#[]⟩, .int .i64 par, .slice none 0 0] 33)
       have st6 := st.next q6
       obtain ⟨⟨h00, h01⟩, ⟨h10, h11, h12, h13⟩, ⟨h20, h21, h22, h23⟩, ⟨h30, h31, h32, h33⟩⟩ := st6.facts
       have q6' := (Below.refl (w4.alloc (.cells #[.slice A4 n c4, .slice A5 (p + 1) c5] 27)).heap.size (w4.alloc (.cells #[.slice A4 n c4, .slice A5 (p + 1) c5] 27))).alloc (Nat.le_refl _) (.cells #[.string name, .string ⟨#[]⟩, .int .i64 par, .slice none 0 0] 33)
       have st6' := st.next q6'
       obtain ⟨⟨k00, k01⟩, ⟨k10, k11, k12, k13⟩, ⟨k20, k21, k22, k23⟩, ⟨k30, k31, k32, k33⟩⟩ := st6'.facts
       have q7 := q6'.alloc (by simp) (.cells #[] 104)
       have st7 := st.next q7
       obtain ⟨⟨i00, i01⟩, ⟨i10, i11, i12, i13⟩, ⟨i20, i21, i22, i23⟩, ⟨i30, i31, i32, i33⟩⟩ := st7.facts
       have ho7 := own_empty2 w4 (.cells #[.slice A4 n c4, .slice A5 (p + 1) c5] 27) (.cells #[.string name, .string ⟨#[]⟩, .int .i64 par, .slice none 0 0] 33) 104 2
       have ht7 := ht.below st7.below)
    | (go_at_call 13
       refine (isVoid_impl _ _).mono ?_
       rintro e w5 ⟨rfl, rfl⟩
       simp only [hv])
    | (at_builtin
       refine wpList_app row_Attr rfl (.tmp 120) (.tmp 122) rfl (w4.heap.size + 1 + 1) _ 0 0 [] rfl ho7 w.heap.size At attrs.length ct (s2V attrs) rfl ht7 (s2_one _) attrs.length (s2V attrs) (by omega) rfl ⟨by omega, by omega⟩ (by simp) ?_
       intro A7 c7 w7 o7' b7
       have o7 := Own.of_row o7'
       have z7 := b7.size
       simp only [World.size_alloc] at z7
       have q8 := q7.trans (b7.mono (by simp))
       have X7 := ((HasBox.new' (w := (w4.alloc (.cells #[.slice A4 n c4, .slice A5 (p + 1) c5] 27))) (g := w4.heap.size + 1) (by simp) [.string name, .string ⟨#[]⟩, .int .i64 par, .slice none 0 0] 33).alloc (.cells #[] 104)).below b7 (by omega)
       have q8' := q8.setCell (p := ⟨w4.heap.size + 1, 3, none⟩) (by simp) (.slice A7 attrs.length c7)
       have x0 := X7.cell 3 _ rfl
       have x1 := X7.open_ 3
       have st8 := st.next q8'
       obtain ⟨⟨r00, r01⟩, ⟨r10, r11, r12, r13⟩, ⟨r20, r21, r22, r23⟩, ⟨r30, r31, r32, r33⟩⟩ := st8.facts
       have X8 := X7.put (j := 3) (.slice A7 attrs.length c7)
       have y0 := X8.cell 0 _ rfl
       have y1 := X8.cell 1 _ rfl
       have y2 := X8.cell 2 _ rfl
       have y3 := X8.cell 3 _ rfl)
    | (at_builtin
       have q9 := q8'.alloc (by simp [World.setCell]; omega) (.cells #[.string name, .string ⟨#[]⟩, .int .i64 par, .slice A7 attrs.length c7] 33)
       have hr9 := Reads.four (w7.setCell ⟨w4.heap.size + 1, 3, none⟩ (.slice A7 attrs.length c7)) (.string name) (.string ⟨#[]⟩) (.int .i64 par) (.slice A7 attrs.length c7) 33
       rw [show (w7.setCell ⟨w4.heap.size + 1, 3, none⟩ (.slice A7 attrs.length c7)).heap.size = w7.heap.size by simp [World.setCell]] at hr9
       refine wpList_pushX (X := AddX w.heap.size w4.heap.size) (bytes := 64) row_Node rfl (.tmp 129) (.tmp 131) rfl (ow.below q9) (by simp [World.setCell]; omega) (by omega) ?_ (⟨name, ⟨#[]⟩, par, attrs⟩, (A7, c7)) ?_ ?_ rfl (some ⟨w7.heap.size, 0, none⟩) 1 _ rfl hr9 (by omega) (by omega) ?_
       · intro k hk; unfold AddX at hk; simp [World.setCell]; omega
       · exact (((o7.set (p := ⟨w4.heap.size + 1, 3, none⟩) (by show w4.heap.size + 1 < _; omega) _).below ((Below.refl _ _).alloc (Nat.le_refl _) _)).wide (by omega) (by simp [World.setCell]))
       · exact fun k hk h => by have := o7.ge k (by rw [hdBlock_eq (c' := c7)]; exact h); unfold AddX at hk; omega
       intro A9 c9 w9 ow9 k9
       have s9 := (st.next q9).keep k9
       have z9 := k9.size
       simp [World.setCell] at z9
       obtain ⟨⟨m00, m01⟩, ⟨m10, m11, m12, m13⟩, ⟨m20, m21, m22, m23⟩, ⟨m30, m31, m32, m33⟩⟩ := s9.facts
       have s10 := s9.put0 (.slice A9 (n + 1) c9)
       obtain ⟨⟨n00, n01⟩, ⟨n10, n11, n12, n13⟩, ⟨n20, n21, n22, n23⟩, ⟨n30, n31, n32, n33⟩⟩ := s10.facts
       have ow10 := ow9.set (p := ⟨w4.heap.size, 0, none⟩) (.inr rfl) (.slice A9 (n + 1) c9))
    | (at_builtin
       have hr11 := Reads.one (w9.setCell ⟨w4.heap.size, 0, none⟩ (.slice A9 (n + 1) c9)) (.int .i64 (n : Int)) 3
       rw [show (w9.setCell ⟨w4.heap.size, 0, none⟩ (.slice A9 (n + 1) c9)).heap.size = w9.heap.size by simp [World.setCell]] at hr11
       refine wpList_opnX (X := AddX w.heap.size w4.heap.size) (bytes := 8) row_ops rfl (.tmp 136) (.tmp 138) rfl (ow10.alloc (.cells #[.int .i64 (n : Int)] 3)) (by simp [World.setCell]) (by omega) ?_ (n : Int) rfl (some ⟨w9.heap.size, 0, none⟩) 1 _ rfl hr11 (by omega) (by omega) ?_
       · intro k hk; unfold AddX at hk; simp [World.setCell]; omega
       intro A11 c11 w11 ow11 k11
       have s11 := (s10.next ((Below.refl _ _).alloc (Nat.le_refl _) (.cells #[.int .i64 (n : Int)] 3))).keep k11
       obtain ⟨⟨a00, a01⟩, ⟨a10, a11, a12, a13⟩, ⟨a20, a21, a22, a23⟩, ⟨a30, a31, a32, a33⟩⟩ := s11.facts
       have s12 := s11.put1 (.slice A11 (p + 1 + 1) c11)
       obtain ⟨⟨d00, d01⟩, ⟨d10, d11, d12, d13⟩, ⟨d20, d21, d22, d23⟩, ⟨d30, d31, d32, d33⟩⟩ := s12.facts
       have ow12 := ow11.set (p := ⟨w4.heap.size, 1, none⟩) (.inr rfl) (.slice A11 (p + 1 + 1) c11)))
  obtain ⟨ob, bl⟩ := s12.fin ow12 (by simp [World.setCell]) (.slice A9 (n + 1) c9) (.slice A11 (p + 1 + 1) c11)
  exact bodyPost_ret (v := .tuple #[.agg #[.slice A9 (n + 1) c9, .slice A11 (p + 1 + 1) c11], .int .i64 (n : Int)]) (by simp [results, Try.results15, go_sem, d20, d21, d22, d23, d30, d31]) rfl (GotBI.of rfl (by simp [hlen.out.1]) (by simp [hlen.out.2]) ob bl)
set_option maxHeartbeats 1000000 in
theorem addToken_impl_add_k1t {A A' At : Option Addr} {n c p c' ct : Nat} {b : Bld} {name text : ByteArray} {attrs : List S2} {par : Int} (w : World) (hx : ReadsB w w.heap.size A n A' (p + 1) b) (hn : n ≤ 1073741824) (hn' : p + 1 ≤ 1073741824) (hka : ∀ a ∈ b.nodes, a.attrs.length ≤ 1073741824)
    (ht : Reads w w.heap.size 2 At attrs.length (s2V attrs)) (hm : attrs.length ≤ 1073741824) (hp : b.opens[p]? = some par) (hv : voidB name = true) (hf : n < 40) :
    Calls Try.prog 15 #[.agg #[.slice A n c, .slice A' (p + 1) c'], .agg #[.int .i64 1, .string name, .slice At attrs.length ct, .string text]] w (GotBI w 33 104 3 (⟨b.nodes ++ [⟨name, ⟨#[]⟩, par, attrs⟩], b.opens⟩, (n : Int))) := by
  have hlen := Lib.hid hx.len
  have hb3 : Below w.heap.size w _ := (((Below.refl _ w).alloc (Nat.le_refl _) (.cells #[.slice A n c, .slice A' (p + 1) c'] 27)).alloc (by simp) (.cells #[.int .i64 1, .string name, .slice At attrs.length ct, .string text] 40)).alloc (by simp; omega) (.cells #[.slice none 0 0, .slice none 0 0] 27)
  have hx3 := hx.next hb3
  have hz : ((p : Int) + 1 == 0) = false := by simp; omega
  have hz2 : decide ((40 : Int) ≤ (n : Int)) = false := by simp; omega
  obtain ⟨b0, off0, rfl, hb0, hcx⟩ := hx.2.num (k := p) (by omega)
  have g1 : w.cell? ⟨b0, off0 + p, none⟩ = some (.int .i64 par) := by
    obtain ⟨hl, rfl⟩ := List.getElem?_eq_some_iff.1 hp
    exact hcx hl
  clear hcx
  go_enter Try.func15, Try.ntmps15
  go_wp2_with (first
    | (go_at_call 39
       refine (copyBuilder_impl (b := b) _ hx3 hn hn' hka).mono ?_
       rintro e w4 ⟨A4, c4, A5, c5, L, rfl, o4, b4⟩
       simp only [World.size_alloc] at o4 b4
       have z4 := b4.size
       simp only [World.size_alloc] at z4
       obtain ⟨st, ow⟩ := AddAt.of o4 b4
       obtain ⟨⟨f00, f01⟩, ⟨f10, f11, f12, f13⟩, ⟨f20, f21, f22, f23⟩, ⟨f30, f31, f32, f33⟩⟩ := st.facts
       have g2 := (st.below.cell (p := ⟨b0, off0 + p, none⟩) hb0).trans g1
       have q6 := (Below.refl (w4.alloc (.cells #[.slice A4 n c4, .slice A5 (p + 1) c5] 27)).heap.size (w4.alloc (.cells #[.slice A4 n c4, .slice A5 (p + 1) c5] 27))).alloc (Nat.le_refl _) (.cells #[.string ⟨#[]⟩, .string ⟨#[]⟩, .int .i64 par, .slice none 0 0] 33)
       have st6 := st.next q6
       obtain ⟨⟨h00, h01⟩, ⟨h10, h11, h12, h13⟩, ⟨h20, h21, h22, h23⟩, ⟨h30, h31, h32, h33⟩⟩ := st6.facts
       have q6' := (Below.refl (w4.alloc (.cells #[.slice A4 n c4, .slice A5 (p + 1) c5] 27)).heap.size (w4.alloc (.cells #[.slice A4 n c4, .slice A5 (p + 1) c5] 27))).alloc (Nat.le_refl _) (.cells #[.string name, .string ⟨#[]⟩, .int .i64 par, .slice none 0 0] 33)
       have st6' := st.next q6'
       obtain ⟨⟨k00, k01⟩, ⟨k10, k11, k12, k13⟩, ⟨k20, k21, k22, k23⟩, ⟨k30, k31, k32, k33⟩⟩ := st6'.facts
       have q7 := q6'.alloc (by simp) (.cells #[] 104)
       have st7 := st.next q7
       obtain ⟨⟨i00, i01⟩, ⟨i10, i11, i12, i13⟩, ⟨i20, i21, i22, i23⟩, ⟨i30, i31, i32, i33⟩⟩ := st7.facts
       have ho7 := own_empty2 w4 (.cells #[.slice A4 n c4, .slice A5 (p + 1) c5] 27) (.cells #[.string name, .string ⟨#[]⟩, .int .i64 par, .slice none 0 0] 33) 104 2
       have ht7 := ht.below st7.below)
    | (go_at_call 13
       refine (isVoid_impl _ _).mono ?_
       rintro e w5 ⟨rfl, rfl⟩
       simp only [hv])
    | (at_builtin
       refine wpList_app row_Attr rfl (.tmp 120) (.tmp 122) rfl (w4.heap.size + 1 + 1) _ 0 0 [] rfl ho7 w.heap.size At attrs.length ct (s2V attrs) rfl ht7 (s2_one _) attrs.length (s2V attrs) (by omega) rfl ⟨by omega, by omega⟩ (by simp) ?_
       intro A7 c7 w7 o7' b7
       have o7 := Own.of_row o7'
       have z7 := b7.size
       simp only [World.size_alloc] at z7
       have q8 := q7.trans (b7.mono (by simp))
       have X7 := ((HasBox.new' (w := (w4.alloc (.cells #[.slice A4 n c4, .slice A5 (p + 1) c5] 27))) (g := w4.heap.size + 1) (by simp) [.string name, .string ⟨#[]⟩, .int .i64 par, .slice none 0 0] 33).alloc (.cells #[] 104)).below b7 (by omega)
       have q8' := q8.setCell (p := ⟨w4.heap.size + 1, 3, none⟩) (by simp) (.slice A7 attrs.length c7)
       have x0 := X7.cell 3 _ rfl
       have x1 := X7.open_ 3
       have st8 := st.next q8'
       obtain ⟨⟨r00, r01⟩, ⟨r10, r11, r12, r13⟩, ⟨r20, r21, r22, r23⟩, ⟨r30, r31, r32, r33⟩⟩ := st8.facts
       have X8 := X7.put (j := 3) (.slice A7 attrs.length c7)
       have y0 := X8.cell 0 _ rfl
       have y1 := X8.cell 1 _ rfl
       have y2 := X8.cell 2 _ rfl
       have y3 := X8.cell 3 _ rfl)
    | (at_builtin
       have q9 := q8'.alloc (by simp [World.setCell]; omega) (.cells #[.string name, .string ⟨#[]⟩, .int .i64 par, .slice A7 attrs.length c7] 33)
       have hr9 := Reads.four (w7.setCell ⟨w4.heap.size + 1, 3, none⟩ (.slice A7 attrs.length c7)) (.string name) (.string ⟨#[]⟩) (.int .i64 par) (.slice A7 attrs.length c7) 33
       rw [show (w7.setCell ⟨w4.heap.size + 1, 3, none⟩ (.slice A7 attrs.length c7)).heap.size = w7.heap.size by simp [World.setCell]] at hr9
       refine wpList_pushX (X := AddX w.heap.size w4.heap.size) (bytes := 64) row_Node rfl (.tmp 129) (.tmp 131) rfl (ow.below q9) (by simp [World.setCell]; omega) (by omega) ?_ (⟨name, ⟨#[]⟩, par, attrs⟩, (A7, c7)) ?_ ?_ rfl (some ⟨w7.heap.size, 0, none⟩) 1 _ rfl hr9 (by omega) (by omega) ?_
       · intro k hk; unfold AddX at hk; simp [World.setCell]; omega
       · exact (((o7.set (p := ⟨w4.heap.size + 1, 3, none⟩) (by show w4.heap.size + 1 < _; omega) _).below ((Below.refl _ _).alloc (Nat.le_refl _) _)).wide (by omega) (by simp [World.setCell]))
       · exact fun k hk h => by have := o7.ge k (by rw [hdBlock_eq (c' := c7)]; exact h); unfold AddX at hk; omega
       intro A9 c9 w9 ow9 k9
       have s9 := (st.next q9).keep k9
       have z9 := k9.size
       simp [World.setCell] at z9
       obtain ⟨⟨m00, m01⟩, ⟨m10, m11, m12, m13⟩, ⟨m20, m21, m22, m23⟩, ⟨m30, m31, m32, m33⟩⟩ := s9.facts
       have s10 := s9.put0 (.slice A9 (n + 1) c9)
       obtain ⟨⟨n00, n01⟩, ⟨n10, n11, n12, n13⟩, ⟨n20, n21, n22, n23⟩, ⟨n30, n31, n32, n33⟩⟩ := s10.facts
       have ow10 := ow9.set (p := ⟨w4.heap.size, 0, none⟩) (.inr rfl) (.slice A9 (n + 1) c9)))
  obtain ⟨ob, bl⟩ := s10.fin ow10 (by simp [World.setCell]) (.slice A9 (n + 1) c9) (.slice A5 (p + 1) c5)
  exact bodyPost_ret (v := .tuple #[.agg #[.slice A9 (n + 1) c9, .slice A5 (p + 1) c5], .int .i64 (n : Int)]) (by simp [results, Try.results15, go_sem, n20, n21, n22, n23, n30, n31]) rfl (GotBI.of rfl (by simp [hlen.out.1]) hlen.out.2 ob bl)
set_option maxHeartbeats 1000000 in
theorem addToken_impl_add_k3 {A A' At : Option Addr} {n c p c' ct : Nat} {b : Bld} {name text : ByteArray} {attrs : List S2} {par : Int} (w : World) (hx : ReadsB w w.heap.size A n A' (p + 1) b) (hn : n ≤ 1073741824) (hn' : p + 1 ≤ 1073741824) (hka : ∀ a ∈ b.nodes, a.attrs.length ≤ 1073741824)
    (ht : Reads w w.heap.size 2 At attrs.length (s2V attrs)) (hm : attrs.length ≤ 1073741824) (hp : b.opens[p]? = some par) (ht0 : 0 < text.size) (hf : n < 40) :
    Calls Try.prog 15 #[.agg #[.slice A n c, .slice A' (p + 1) c'], .agg #[.int .i64 3, .string name, .slice At attrs.length ct, .string text]] w (GotBI w 33 104 3 (⟨b.nodes ++ [⟨⟨#[]⟩, text, par, []⟩], b.opens⟩, (n : Int))) := by
  have hlen := Lib.hid hx.len
  have hb3 : Below w.heap.size w _ := (((Below.refl _ w).alloc (Nat.le_refl _) (.cells #[.slice A n c, .slice A' (p + 1) c'] 27)).alloc (by simp) (.cells #[.int .i64 3, .string name, .slice At attrs.length ct, .string text] 40)).alloc (by simp; omega) (.cells #[.slice none 0 0, .slice none 0 0] 27)
  have hx3 := hx.next hb3
  have hz : ((p : Int) + 1 == 0) = false := by simp; omega
  have hz2 : decide ((40 : Int) ≤ (n : Int)) = false := by simp; omega
  have hne := toList_ne (s := text) (by omega)
  obtain ⟨b0, off0, rfl, hb0, hcx⟩ := hx.2.num (k := p) (by omega)
  have g1 : w.cell? ⟨b0, off0 + p, none⟩ = some (.int .i64 par) := by
    obtain ⟨hl, rfl⟩ := List.getElem?_eq_some_iff.1 hp
    exact hcx hl
  clear hcx
  go_enter Try.func15, Try.ntmps15
  go_wp2_with (first
    | (go_at_call 39
       refine (copyBuilder_impl (b := b) _ hx3 hn hn' hka).mono ?_
       rintro e w4 ⟨A4, c4, A5, c5, L, rfl, o4, b4⟩
       simp only [World.size_alloc] at o4 b4
       have z4 := b4.size
       simp only [World.size_alloc] at z4
       obtain ⟨st, ow⟩ := AddAt.of o4 b4
       obtain ⟨⟨f00, f01⟩, ⟨f10, f11, f12, f13⟩, ⟨f20, f21, f22, f23⟩, ⟨f30, f31, f32, f33⟩⟩ := st.facts
       have g2 := (st.below.cell (p := ⟨b0, off0 + p, none⟩) hb0).trans g1
       have q6 := (Below.refl (w4.alloc (.cells #[.slice A4 n c4, .slice A5 (p + 1) c5] 27)).heap.size (w4.alloc (.cells #[.slice A4 n c4, .slice A5 (p + 1) c5] 27))).alloc (Nat.le_refl _) (.cells #[.string ⟨#[]⟩, .string ⟨#[]⟩, .int .i64 par, .slice none 0 0] 33)
       have st6 := st.next q6
       obtain ⟨⟨h00, h01⟩, ⟨h10, h11, h12, h13⟩, ⟨h20, h21, h22, h23⟩, ⟨h30, h31, h32, h33⟩⟩ := st6.facts)
    | (at_builtin
       have q9 := ((Below.refl (w4.alloc (.cells #[.slice A4 n c4, .slice A5 (p + 1) c5] 27)).heap.size (w4.alloc (.cells #[.slice A4 n c4, .slice A5 (p + 1) c5] 27))).alloc (Nat.le_refl _) (.cells #[.string ⟨#[]⟩, .string text, .int .i64 par, .slice none 0 0] 33)).alloc (by simp) (.cells #[.string ⟨#[]⟩, .string text, .int .i64 par, .slice none 0 0] 33)
       have hr9 := Reads.four ((w4.alloc (.cells #[.slice A4 n c4, .slice A5 (p + 1) c5] 27)).alloc (.cells #[.string ⟨#[]⟩, .string text, .int .i64 par, .slice none 0 0] 33)) (.string ⟨#[]⟩) (.string text) (.int .i64 par) (.slice none 0 0) 33
       simp only [World.size_alloc] at hr9
       refine wpList_pushX (X := AddX w.heap.size w4.heap.size) (bytes := 64) row_Node rfl (.tmp 129) (.tmp 131) rfl (ow.below q9) (by simp; omega) (by omega) ?_ (⟨⟨#[]⟩, text, par, []⟩, ((none : Option Addr), 0)) ?_ ?_ rfl (some ⟨(w4.heap.size + 1 + 1), 0, none⟩) 1 _ rfl hr9 (by omega) (by omega) ?_
       · intro k hk; unfold AddX at hk; simp; omega
       · exact own_nil _ _ _ _ _
       · exact fun k hk h => by cases h
       intro A9 c9 w9 ow9 k9
       have s9 := (st.next q9).keep k9
       have z9 := k9.size
       simp [World.setCell] at z9
       obtain ⟨⟨m00, m01⟩, ⟨m10, m11, m12, m13⟩, ⟨m20, m21, m22, m23⟩, ⟨m30, m31, m32, m33⟩⟩ := s9.facts
       have s10 := s9.put0 (.slice A9 (n + 1) c9)
       obtain ⟨⟨n00, n01⟩, ⟨n10, n11, n12, n13⟩, ⟨n20, n21, n22, n23⟩, ⟨n30, n31, n32, n33⟩⟩ := s10.facts
       have ow10 := ow9.set (p := ⟨w4.heap.size, 0, none⟩) (.inr rfl) (.slice A9 (n + 1) c9)))
  obtain ⟨ob, bl⟩ := s10.fin ow10 (by simp [World.setCell]) (.slice A9 (n + 1) c9) (.slice A5 (p + 1) c5)
  exact bodyPost_ret (v := .tuple #[.agg #[.slice A9 (n + 1) c9, .slice A5 (p + 1) c5], .int .i64 (n : Int)]) (by simp [results, Try.results15, go_sem, n20, n21, n22, n23, n30, n31]) rfl (GotBI.of rfl (by simp [hlen.out.1]) hlen.out.2 ob bl)
end Go.Proofs.Ytleopmeaaabejaa
