/-
  The law FnKeyedHash: its plain law, what it draws, its walk.
-/
import Derived.Test.YtifghjkiodnehaaFnc
import Derived.Test.YtifghjkiodnehaaDer
namespace Go.Proofs.Ytifghjkiodnehaa
set_option linter.unusedVariables false
set_option linter.unusedSimpArgs false
set_option maxRecDepth 100000
open Go.ChangeShapes Go.WideShapes Go.ChangeAt Go.RowKit Go.Deep

section
variable {P : Program} {w : World}
theorem wpList_appg {T E size bytes : Nat} (R : RowT P T E size bytes) {ops : Array Oper} {rest : List Oper} {o : Oper} {a : Act} {Q : Exit → Act → World → Prop} (hgd : Region.wanted o (yielded ops a.tmps) = true) (s x : Operand)
    (ho : o.op = .call { callee := .builtin .append, args := #[s, x], argTypes := #[T, T] })
    (base : Nat) (A : Option Addr) (n c : Nat) (xs : List Value) (hs : a.eval s = .slice A n c) (hown : w.ownsRow base E size (.slice A n c) n xs)
    (B : Nat) (A' : Option Addr) (m c' : Nat) (ys : List Value) (hx : a.eval x = .slice A' m c') (hr : Reads w B size A' m ys) (h1 : ∀ u ∈ ys, u.oneCell' = true)
    (N : Nat) (zs : List Value) (hN : n + m = N) (hzs : xs ++ ys = zs) (hbytes : N ≤ 1099511627776 ∧ bytes ≤ 128) (hbase : base ≤ w.heap.size)
    (h : ∀ A' c' w', w'.ownsRow base E size (.slice A' N c') N zs → Below base w w' → wpList P ops Q rest (a.put o.dst (.slice A' N c')) w') : wpList P ops Q (o :: rest) a w :=
  wpList_step fun K hK => by
    simp only [hgd, if_true]
    exact wp_app R s x ho base A n c xs hs hown B A' m c' ys hx hr h1 N zs hN hzs hbytes hbase fun A1 c1 w1 h2 h3 => hK _ _ (h A1 c1 w1 h2 h3)
end

/-! ### the plain law: another value modulo M31 gives another hash -/
theorem mul31 (t q : Int) (h : t * 1000003 = 2147483647 * q) (h1 : -2147483647 < t) (h2 : t < 2147483647) : t = 0 := by
  have h3 : t = 2147483647 * (q * 1523789695 - 709572 * t) := by
    have e := congrArg (· * 1523789695) h
    simp only [Int.mul_assoc, Int.reduceMul] at e
    rw [Int.mul_sub]
    omega
  generalize q * 1523789695 - 709572 * t = z at h3
  omega
theorem mul_inj31 (a b c : Int) (ha : 0 ≤ a ∧ a < 2147483647) (hb : 0 ≤ b ∧ b < 2147483647) (h : (a * 1000003 + c + 13) % 2147483647 = (b * 1000003 + c + 13) % 2147483647) : a = b := by
  have b1 : -2147483647 < a - b := by clear h; omega
  have b2 : a - b < 2147483647 := by clear h; omega
  have e1 := Int.emod_add_mul_ediv (a * 1000003 + c + 13) 2147483647
  have e2 := Int.emod_add_mul_ediv (b * 1000003 + c + 13) 2147483647
  rw [h] at e1
  generalize (b * 1000003 + c + 13) % 2147483647 = r at e1 e2
  generalize (a * 1000003 + c + 13) / 2147483647 = u at e1
  generalize (b * 1000003 + c + 13) / 2147483647 = v at e2
  clear h
  have h3 : (a - b) * 1000003 = 2147483647 * (u - v) := by
    rw [Int.sub_mul, Int.mul_sub]
    generalize a * 1000003 = p at *
    generalize b * 1000003 = q at *
    generalize 2147483647 * u = u' at *
    generalize 2147483647 * v = v' at *
    omega
  have h4 := mul31 (a - b) (u - v) h3 b1 b2
  clear h3 e1 e2 b1 b2 ha hb
  omega
theorem step_inj (a b x : Int) (ha : 0 ≤ a ∧ a < 2147483647) (hb : 0 ≤ b ∧ b < 2147483647) (h : hashStep a x = hashStep b x) : a = b := mul_inj31 a b (modZ x 2147483647) ha hb h
theorem foldl_inj (l : List Int) (a b : Int) (ha : 0 ≤ a ∧ a < 2147483647) (hb : 0 ≤ b ∧ b < 2147483647) (h : l.foldl hashStep a = l.foldl hashStep b) : a = b := by
  induction l generalizing a b with
  | nil => exact h
  | cons x l ih => exact step_inj a b x ha hb (ih _ _ (hashStep_bd a x) (hashStep_bd b x) h)
theorem mod31 (v : Int) : modZ v 2147483647 = v % 2147483647 := by simp [modZ, inR]
set_option maxHeartbeats 1000000 in
theorem step_ne (a x y : Int) (h : x % 2147483647 ≠ y % 2147483647) : hashStep a x ≠ hashStep a y := by
  unfold hashStep
  rw [mod31, mod31]
  omega
theorem hash_ne (u v : List Int) (x y : Int) (h : x % 2147483647 ≠ y % 2147483647) : hashZ (u ++ x :: v) ≠ hashZ (u ++ y :: v) := by
  unfold hashZ
  rw [List.foldl_append, List.foldl_append, List.foldl_cons, List.foldl_cons]
  exact fun e => step_ne _ x y h (foldl_inj v _ _ (hashStep_bd _ _) (hashStep_bd _ _) e)
theorem kh_ne (key : Int) (l : List Int) (i : Nat) (hi : i < l.length) (y : Int) (h : l[i] % 2147483647 ≠ y % 2147483647) : khZ key (l.set i y) ≠ khZ key l := by
  have e1 : l = l.take i ++ l[i] :: l.drop (i + 1) := by simp
  have e2 : l.set i y = l.take i ++ y :: l.drop (i + 1) := List.set_eq_take_append_cons_drop ▸ by simp [hi]
  have h9 := hash_ne ([key] ++ l.take i) (l.drop (i + 1) ++ [key]) y l[i] (fun e => h e.symm)
  have c1 : khZ key l = hashZ ([key] ++ l.take i ++ l[i] :: (l.drop (i + 1) ++ [key])) := by
    unfold khZ
    exact congrArg hashZ (by rw [show [key] ++ l ++ [key] = [key] ++ (l.take i ++ l[i] :: l.drop (i + 1)) ++ [key] by rw [← e1]]; simp only [List.append_assoc, List.cons_append])
  have c2 : khZ key (l.set i y) = hashZ ([key] ++ l.take i ++ y :: (l.drop (i + 1) ++ [key])) := by
    unfold khZ
    rw [e2]
    exact congrArg hashZ (by simp)
  rw [c1, c2]
  exact h9

theorem at_any {A : Option Addr} {n c : Nat} {zs : List Int} (w : World) (hx : Reads w w.heap.size 1 A n (zs.map (Value.int .u8))) (hn : n ≤ 1048576) (hz : ∀ z ∈ zs, 0 ≤ z ∧ z ≤ 255) (j : Nat) (hj : j ≤ 1000) :
    Calls Try.prog 15 #[.slice A n c, .int .i64 j] w fun e w' => ∃ x : Nat, x ≤ 255 ∧ e = .returned (.int .i64 x) ∧ w = w' := by
  have lx : zs.length = n := by simpa using hx.1
  by_cases hlt : j < n
  · obtain ⟨b0, off0, rfl, hab, hcx⟩ := hx.num hlt
    have hl1 : j < zs.length := by omega
    replace hcx := hcx hl1
    obtain ⟨hv1, hv2⟩ := hz zs[j] (List.getElem_mem _)
    generalize zs[j] = x at *
    obtain ⟨y, rfl⟩ := Int.eq_ofNat_of_zero_le hv1
    clear hx hz
    go_enter Try.func15, Try.ntmps15
    go_wp2
    go_ret
    exact ⟨y, by omega, rfl, rfl⟩
  · go_enter Try.func15, Try.ntmps15
    go_wp2
    go_ret
    exact ⟨(j * 31 + n * 7) % 256, by omega, ret_int (by omega), rfl⟩

set_option maxHeartbeats 400000 in
theorem drawKeyedHash_any {A : Option Addr} {n c : Nat} {zs : List Int} (w : World) (hx : Reads w w.heap.size 1 A n (zs.map (Value.int .u8))) (hn : n ≤ 1048576) (hz : ∀ z ∈ zs, 0 ≤ z ∧ z ≤ 255) :
    Calls Try.prog 12 #[.slice A n c] w fun e w' => ∃ (k : Int) (A' : Option Addr) (m c' : Nat) (ys : List Int), -1 ≤ k ∧ k ≤ 2147483648 ∧ m ≤ 8 ∧ e = .returned (.tuple #[.int .i64 k, .slice A' m c']) ∧ Reads w' w'.heap.size 1 A' m (ys.map (Value.int .i64)) ∧ (∀ z ∈ ys, -1 ≤ z ∧ z ≤ 2147483648) ∧ Below w.heap.size w w' := by
  go_enter Try.func12, Try.ntmps12
  go_wp2_with (fail)
  go_at_call 31
  refine (l1New_any _ hx hn hz).mono ?_
  rintro e w0 ⟨g, hg, rfl, hb, hc⟩
  clear hx hz
  have hd := Draws.refl hc
  go_wp2_with (fail)
  go_at_call 32
  refine (l3Word_any _ g hd.2).mono ?_
  rintro e w1 ⟨k, hk1, hk2, rfl, d⟩
  replace hd := hd.trans d
  clear d
  go_wp2_with (fail)
  go_at_call 36
  refine (l3Words_any _ g hd.2).mono ?_
  rintro e w3 ⟨A1, m, c1, ys, hm, rfl, ho, hz, d⟩
  replace hd := hd.trans d
  clear d
  go_wp2
  go_ret2
  exact ⟨k, A1, m, c1, ys, hk1, hk2, by omega, rfl, (Own.of_row ho).rd, hz, hb.trans (hd.below hb.size hg)⟩

set_option maxHeartbeats 400000 in
theorem drawDerive_any {A : Option Addr} {n c : Nat} {zs : List Int} (w : World) (hx : Reads w w.heap.size 1 A n (zs.map (Value.int .u8))) (hn : n ≤ 1048576) (hz : ∀ z ∈ zs, 0 ≤ z ∧ z ≤ 255) :
    Calls Try.prog 17 #[.slice A n c] w fun e w' => ∃ (k : Int) (s : ByteArray), -1 ≤ k ∧ k ≤ 2147483648 ∧ s.size ≤ 8 ∧ e = .returned (.tuple #[.int .i64 k, .string s]) ∧ Below w.heap.size w w' := by
  go_enter Try.func17, Try.ntmps17
  go_wp2_with (fail)
  go_at_call 31
  refine (l1New_any _ hx hn hz).mono ?_
  rintro e w0 ⟨g, hg, rfl, hb, hc⟩
  clear hx hz
  have hd := Draws.refl hc
  go_wp2_with (fail)
  go_at_call 32
  refine (l3Word_any _ g hd.2).mono ?_
  rintro e w1 ⟨k, hk1, hk2, rfl, d⟩
  replace hd := hd.trans d
  clear d
  go_wp2_with (fail)
  go_at_call 39
  refine (l1Str_any _ g (hd.alloc _).2 _ 6 [⟨#[]⟩, ⟨#[97]⟩, ⟨#[98]⟩, ⟨#[97, 98]⟩, ⟨#[110, 101, 119, 115]⟩, ⟨#[120]⟩] (by have := hd.lt; omega) (by omega) (by omega) rfl (fun j v h => alloc_vals _ _ _ j v h) (alloc_lt _ _)).mono ?_
  rintro e w2 ⟨s, hs, rfl, d⟩
  replace hd := (hd.alloc _).trans d
  have hsz : s.size ≤ 8 := by
    simp at hs
    rcases hs with rfl | rfl | rfl | rfl | rfl | rfl <;> simp [ByteArray.size]
  clear d hs
  go_wp2
  go_ret2
  exact ⟨k, s, hk1, hk2, hsz, rfl, hb.trans (hd.below hb.size hg)⟩

theorem derZ_in (key : Int) (s : ByteArray) : inR (derZ key s) 1 2147483646 = true := by
  have := khZ_bd key (bti s.size (strI s) s.size)
  rw [derZ]
  split <;> simp [inR] <;> omega
theorem isValidKey_impl (a : Int) (w : World) (h : inR a 1 2147483646 = true) : Calls Try.prog 18 #[.int .i64 a] w fun e w' => e = .returned (.bool true) ∧ w = w' := by
  go_enter Try.func18, Try.ntmps18
  go_wp2_with (go_at_call 40; refine (inRange_impl _ _ _ _).mono ?_; rintro e w' ⟨rfl, rfl⟩)
  go_ret
  exact ⟨rfl, rfl⟩

set_option maxHeartbeats 1000000 in
theorem keyedTail_walk (w : World) : True := trivial

set_option maxHeartbeats 1000000 in
theorem keyedHash_walk (w : World) (A : Option Addr) (n c : Nat) (zs : List Int) (ha : ArgInts .u8 w A n zs) : Calls Try.prog 4 #[.slice A n c] w fun e w' => e = .returned (.bool true) ∧ Below w.heap.size w w' := by
  obtain ⟨hl, hm, hx, hwf⟩ := ha
  have hz : ∀ z ∈ zs, 0 ≤ z ∧ z ≤ 255 := u8_all hwf
  clear hwf hl
  by_cases hn : n ≤ 1048576
  · go_enter Try.func4, Try.ntmps4
    go_wp2_with (fail)
    go_at_call 7
    refine (big_no _ hn).mono ?_
    rintro e w0 ⟨rfl, rfl⟩
    go_wp2_with (fail)
    go_at_call 12
    refine (drawKeyedHash_any _ hx hn hz).mono ?_
    rintro e w1 ⟨k, A1, m, c1, ys, hk1, hk2, hm8, rfl, hr, hy, hb⟩
    have hi := hx.next hb
    have hy' : ∀ z ∈ ys, -9223372036854775808 ≤ z ∧ z ≤ 9223372036854775807 := fun z h => by have := hy z h; omega
    go_wp2_with (fail)
    go_at_call 13
    refine (keyedHash_impl _ hr (by omega) hy' (by omega) (by omega)).mono ?_
    rintro e w2 ⟨rfl, b2⟩
    replace hr := hr.next b2
    replace hi := hi.next b2
    replace hb := hb.trans (b2.mono hb.size)
    clear b2
    have hkb := khZ_bd k ys
    have hH : Hid (hashZ ([k] ++ ys ++ [k]) = khZ k ys) := by show _ = _; rfl
    have h0 := own_lit1 w2 3 (.int .i64 k) w2.heap.size (Nat.le_refl _)
    have hx1 := hr.over (Nat.le_refl _) (.cells #[.int .i64 k] 3)
    have hzz := kh_in (key := k) (by omega) (by omega) hy'
    have hKH : Hid (khZ k ys = khZ k ys) := rfl
    generalize hKHe : khZ k ys = H at *
    replace hKH : Hid (khZ k ys = H) := hKHe
    clear hKHe
    have hA : decide (H < 0) = false := by simp; omega
    have hB : decide (2147483647 ≤ H) = false := by simp; omega
    by_cases hpos : 0 < m
    · go_wp2_with (first
        | (at_builtin
           refine wpList_appg row_i64 (by rfl) (.tmp 29) (.tmp 30) rfl w2.heap.size _ 1 1 [.int .i64 k] rfl h0 w2.heap.size A1 m c1 (ys.map (Value.int .i64)) rfl hx1 (ints_one _ _) (m + 1) (([k] ++ ys).map (Value.int .i64)) (by omega) (by simp) ⟨by omega, by omega⟩ (by simp) ?_
           intro A2 c2 w3 ho1 hb1
           have hz1 : w2.heap.size ≤ w3.heap.size := by have := hb1.size; simp at this; omega
           have ho1' := ho1.alloc (.cells #[.int .i64 k] 3)
           have hr1 := Reads.one w3 (.int .i64 k) 3
           clear h0 hx1 ho1)
        | (at_builtin
           refine wpList_appg row_i64 (by rfl) (.tmp 31) (.tmp 33) rfl w2.heap.size _ (m + 1) c2 _ rfl ho1' (w3.heap.size + 1) _ 1 1 [.int .i64 k] rfl hr1 (int_one _ _) (m + 2) (([k] ++ ys ++ [k]).map (Value.int .i64)) (by omega) (by simp) ⟨by omega, by omega⟩ (by simp; omega) ?_
           intro A3 c3 w4 ho2 hb2
           have hr2 := Reads.of_own ho2
           have hw : Below w2.heap.size w2 w4 := (((Below.refl _ _).alloc (Nat.le_refl _) _).trans hb1).trans (((Below.refl _ _).alloc hz1 _).trans hb2)
           replace hr := hr.next hw
           replace hi := hi.next hw
           replace hb := hb.trans (hw.mono hb.size)
           have hz4 := hb.size
           clear ho1' hr1 ho2 hb1 hb2)
        | (go_at_call 14; refine (hash_impl _ hr2 (by omega) hzz).mono ?_; rintro e w' ⟨rfl, rfl⟩; rw [hH.out])
        | (at_builtin
           refine wpList_app row_i64 rfl (.tmp 41) (.tmp 42) rfl w4.heap.size _ 0 0 [] rfl (own_empty w4 3 1) w4.heap.size A1 m c1 (ys.map (Value.int .i64)) rfl (hr.over (Nat.le_refl _) (.cells #[] 3)) (ints_one _ _) m (ys.map (Value.int .i64)) (by omega) rfl ⟨by omega, by omega⟩ (by simp) ?_
           intro A5 c5 w5 ho5 hb5))
      have hw5 : Below w4.heap.size w4 w5 := ((Below.refl _ w4).alloc (Nat.le_refl _) _).trans hb5
      replace hr := hr.next hw5
      replace hi := hi.next hw5
      replace hb := hb.trans (hw5.mono hb.size)
      clear hb5
      obtain ⟨g, cap, hv, hg1, hg2⟩ := ho5.form (by omega)
      obtain ⟨rfl, rfl⟩ : A5 = some ⟨g, 0, none⟩ ∧ c5 = cap := by injection hv with h1 _ h2; exact ⟨h1, h2⟩
      clear hv
      go_at_call 15
      refine (at_any _ hi hn hz 0 (by omega)).mono ?_
      rintro e w' ⟨x, hx5, rfl, rfl⟩
      have hxi : x % m < m := Nat.mod_lt _ (by omega)
      have ly : ys.length = m := by simpa using hr.1
      have hk9 : khZ k ys = H := hKH.out
      go_wp2_with (fail)
      rw [show ((x : Int) % (m : Int)) = ((x % m : Nat) : Int) from rfl]
      generalize x % m = i at *
      have hiy : i < ys.length := by omega
      have hcell : w5.cell? ⟨g, i, none⟩ = some (.int .i64 ys[i]) := by
        rw [ho5.cellAt i (by omega), List.getElem?_map, List.getElem?_eq_getElem hiy]
        rfl
      have hfr := ho5.frozenAt i
      obtain ⟨hv1, hv2⟩ := hy ys[i] (List.getElem_mem _)
      have hne : Hid (∀ y : Int, 0 ≤ y → y ≤ 255 → khZ k (ys.set i (modZ (ys[i] + 1 + y) 2147483647)) ≠ khZ k ys) := fun y h1 h2 => kh_ne k ys i hiy _ (by rw [mod31]; omega)
      have hms : Hid (∀ y : Int, (ys.map (Value.int .i64)).set i (.int .i64 y) = (ys.set i y).map (Value.int .i64)) := fun y => by simp [List.map_set]
      have hmb : ∀ y : Int, ∀ z ∈ ys.set i (modZ y 2147483647), -9223372036854775808 ≤ z ∧ z ≤ 9223372036854775807 := fun y z h => by
        rcases List.mem_or_eq_of_mem_set h with h | rfl
        · exact hy' z h
        · have := mod31_bd y; omega
      generalize ys[i] = v at *
      go_region_with (first
        | (go_at_call 15; refine (at_any (zs := zs) _ ?_ hn hz 1 (by omega)).mono ?_; (exact hi.keep fun _ _ => rfl); rintro e w' ⟨y, hy5, rfl, rfl⟩)
        | (go_at_call 16; rw [show IntKind.i64.wrap (IntKind.i64.wrap (v + 1) + (y : Int)) = v + 1 + y by rw [IntKind.wrap_i64, IntKind.wrap_i64]; omega]; refine (mod_spec _ _ (by omega) (by omega) _).mono ?_; rintro e w' ⟨rfl, rfl⟩))
      all_goals
        have hs := ho5.stored i (.int .i64 (modZ (v + 1 + y) 2147483647))
        have hb6 : Below w.heap.size w (w5.setCell ⟨g, i, none⟩ (.int .i64 (modZ (v + 1 + y) 2147483647))).drew := (hb.setCell (p := ⟨g, i, none⟩) (by simp; omega) (.int .i64 (modZ (v + 1 + y) 2147483647))).drew
        have hne' := hne.out y (by omega) (by omega)
        rw [hk9] at hne'
        have hcmp : (khZ k (ys.set i (modZ (v + 1 + y) 2147483647)) == H) = false := by simpa using hne'
        have hr6 : Reads (w5.setCell ⟨g, i, none⟩ (.int .i64 (modZ (v + 1 + y) 2147483647))).drew (w5.setCell ⟨g, i, none⟩ (.int .i64 (modZ (v + 1 + y) 2147483647))).drew.heap.size 1 (some ⟨g, 0, none⟩) m ((ys.set i (modZ (v + 1 + y) 2147483647)).map (Value.int .i64)) := by
          rw [← hms.out]
          exact (Reads.of_own hs.1).drew
        have hi := hx.next hb6
        have hkb6 := hmb (v + 1 + y)
        clear hne hne' hk9 hmb hms hr hb hcell hfr ho5 hs
        generalize (w5.setCell ⟨g, i, none⟩ (.int .i64 (modZ (v + 1 + y) 2147483647))).drew = W6 at *
        have hb := hb6
        generalize ys.set i (modZ (v + 1 + y) 2147483647) = ys6 at *
        go_wp2_with (fail)
        go_at_call 13
        refine (keyedHash_impl _ hr6 (by omega) hkb6 (by omega) (by omega)).mono ?_
        rintro e w7 ⟨rfl, b7⟩
        have hr := hr6
        replace hi := hi.next b7
        replace hb := hb.trans (b7.mono hb.size)
        clear b7
        go_wp2_with (fail)
        go_at_call 17
        refine (drawDerive_any _ hi hn hz).mono ?_
        rintro e w6 ⟨k6, s6, hk61, hk62, hs6, rfl, b6⟩
        replace hb := hb.trans (b6.mono hb.size)
        have hder := derZ_in k6 s6
        clear b6 hi hr
        go_wp2_with (fail)
        go_at_call 19
        refine (derive_impl _ s6 (by omega) (by omega) (by omega)).mono ?_
        rintro e w7 ⟨rfl, b7⟩
        replace hb := hb.trans (b7.mono hb.size)
        clear b7
        go_wp2_with (fail)
        go_at_call 18
        refine (isValidKey_impl _ _ hder).mono ?_
        rintro e w8 ⟨rfl, rfl⟩
        go_wp2
        go_ret
        exact ⟨rfl, hb⟩
    · go_wp2_with (first
        | (at_builtin
           refine wpList_appg row_i64 (by rfl) (.tmp 29) (.tmp 30) rfl w2.heap.size _ 1 1 [.int .i64 k] rfl h0 w2.heap.size A1 m c1 (ys.map (Value.int .i64)) rfl hx1 (ints_one _ _) (m + 1) (([k] ++ ys).map (Value.int .i64)) (by omega) (by simp) ⟨by omega, by omega⟩ (by simp) ?_
           intro A2 c2 w3 ho1 hb1
           have hz1 : w2.heap.size ≤ w3.heap.size := by have := hb1.size; simp at this; omega
           have ho1' := ho1.alloc (.cells #[.int .i64 k] 3)
           have hr1 := Reads.one w3 (.int .i64 k) 3
           clear h0 hx1 ho1)
        | (at_builtin
           refine wpList_appg row_i64 (by rfl) (.tmp 31) (.tmp 33) rfl w2.heap.size _ (m + 1) c2 _ rfl ho1' (w3.heap.size + 1) _ 1 1 [.int .i64 k] rfl hr1 (int_one _ _) (m + 2) (([k] ++ ys ++ [k]).map (Value.int .i64)) (by omega) (by simp) ⟨by omega, by omega⟩ (by simp; omega) ?_
           intro A3 c3 w4 ho2 hb2
           have hr2 := Reads.of_own ho2
           have hw : Below w2.heap.size w2 w4 := (((Below.refl _ _).alloc (Nat.le_refl _) _).trans hb1).trans (((Below.refl _ _).alloc hz1 _).trans hb2)
           replace hr := hr.next hw
           replace hi := hi.next hw
           replace hb := hb.trans (hw.mono hb.size)
           have hz4 := hb.size
           clear ho1' hr1 ho2 hb1 hb2)
        | (go_at_call 14; refine (hash_impl _ hr2 (by omega) hzz).mono ?_; rintro e w' ⟨rfl, rfl⟩; rw [hH.out]))
      go_at_call 17
      refine (drawDerive_any _ hi hn hz).mono ?_
      rintro e w6 ⟨k6, s6, hk61, hk62, hs6, rfl, b6⟩
      replace hb := hb.trans (b6.mono hb.size)
      have hder := derZ_in k6 s6
      clear b6 hi hr
      go_wp2_with (fail)
      go_at_call 19
      refine (derive_impl _ s6 (by omega) (by omega) (by omega)).mono ?_
      rintro e w7 ⟨rfl, b7⟩
      replace hb := hb.trans (b7.mono hb.size)
      clear b7
      go_wp2_with (fail)
      go_at_call 18
      refine (isValidKey_impl _ _ hder).mono ?_
      rintro e w8 ⟨rfl, rfl⟩
      go_wp2
      go_ret
      exact ⟨rfl, hb⟩
  · go_enter Try.func4, Try.ntmps4
    go_wp2_with (go_at_call 7; refine (big_yes _ hn hm).mono ?_; rintro e w0 ⟨rfl, rfl⟩)
    go_ret
    exact ⟨rfl, Below.refl _ _⟩
end Go.Proofs.Ytifghjkiodnehaa
