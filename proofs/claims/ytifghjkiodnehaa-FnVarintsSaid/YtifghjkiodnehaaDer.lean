/-
  Contracts of DeriveFromString, ReadBytes and DecodeInts, of the program and of the reference. Conditions: at most 2^27 bytes, integers of 64 bits.
-/
import Derived.Test.YtifghjkiodnehaaCip
import Derived.Test.YtifghjkiodnehaaPlb
namespace Go.Proofs.Ytifghjkiodnehaa
set_option linter.unusedVariables false
set_option linter.unusedSimpArgs false
set_option maxRecDepth 100000
open Go.ChangeShapes Go.WideShapes Go.ChangeAt Go.RowKit Go.Deep

def maxZ (a b : Int) : Int := if a < b then b else a

set_option maxHeartbeats 1000000 in
theorem derive_impl {key : Int} (w : World) (s : ByteArray) (hs : s.size ≤ 134217728) (h1 : -9223372036854775808 ≤ key) (h2 : key ≤ 9223372036854775807) :
    Calls Try.prog 19 #[.int .i64 key, .string s] w fun e w' => e = .returned (.int .i64 (derZ key s)) ∧ Below w.heap.size w w' := by
  have kc := fun W => run_bytes_of_string (P := Try.prog) W 9 22 5 s Try.underlying9 Try.underlying22 Try.underlying5
  have hz := bti_in (n := s.size) (xs := strI s) (by omega) (strI_bytes s) s.size
  have hk := khZ_bd key (bti s.size (strI s) s.size)
  go_enter Try.func19, Try.ntmps19
  go_wp2_with fail
  refine (bytesToInts_impl _ ((reads_bytesRow w s _ 5 _).drew.more (by simp)) (by omega) (strI_bytes s)).mono ?_
  rintro e w1 ⟨A1, c1, rfl, o1, b1⟩
  clear kc
  go_wp2_with fail
  refine (keyedHash_impl _ (Reads.of_own o1.1) (by omega) hz h1 h2).mono ?_
  rintro e w2 ⟨rfl, b2⟩
  have b0 : Below w.heap.size w w1 := (((Below.refl _ w).alloc (Nat.le_refl _) _).drew).trans (b1.mono (by simp))
  have hb9 : Below w.heap.size w w2 := b0.trans (b2.mono b0.size)
  clear b1 b2 b0
  generalize hkk : khZ key (bti s.size (strI s) s.size) = K at *
  have hdd : derZ key s = if K = 0 then 1 else K := by rw [derZ, hkk]
  have HD := Lib.hid hdd
  clear hkk hdd
  by_cases h0 : K = 0
  · subst h0
    have HR : Hid (1 = derZ key s) := by show _ = _; rw [HD.out]; rfl
    clear o1 HD hz hk
    go_wp2
    go_ret
    exact ⟨ret_int HR.out, hb9⟩
  · have hk0 : (K == 0) = false := by simpa using h0
    have HR : Hid (K = derZ key s) := by show _ = _; rw [HD.out, if_neg h0]
    clear o1 HD hz hk
    go_wp2
    go_ret
    exact ⟨ret_int HR.out, hb9⟩


set_option maxHeartbeats 1000000 in
theorem readBytes_impl {A : Option Addr} {n c : Nat} {zs : List Int} {off mx : Int} (w : World) (hx : Reads w w.heap.size 1 A n (zs.map (Value.int .u8))) (hn : n ≤ 134217728) (hc : n ≤ c) (hz : ∀ z ∈ zs, 0 ≤ z ∧ z ≤ 255)
    (h1 : -9223372036854775808 ≤ off) (h2 : off ≤ 9223372036854775807) : Calls Try.prog 22 #[.slice A n c, .int .i64 off, .int .i64 mx] w (Got3 w 5 .u8 (rbR zs off mx)) := by
  have lx : zs.length = n := by simpa using hx.1
  cases hr : readU zs off with
  | none =>
    have HN : Hid (rbR zs off mx = none) := rbR_none hr
    have hru := readUvarintB_impl (c := c) w hx (by omega) hz h1 h2
    rw [hr] at hru
    have HC := Lib.hid hru
    clear hr hru lx hx hz
    go_enter Try.func22, Try.ntmps22
    go_wp2_with fail
    refine HC.out.mono ?_
    rintro e w1 ⟨rfl, b1⟩
    have e1 : ruN none = 0 := rfl
    have e2 : ruA none = 0 := rfl
    rw [e1, e2]
    clear e1 e2
    go_wp2
    go_ret3
    exact Got3.none_ HN.out (own_mono (own_empty w1 5 1) b1.size) (b1.trans (((Below.refl _ w1).alloc (Nat.le_refl _) _).mono b1.size))
  | some p =>
    obtain ⟨m, a⟩ := p
    obtain ⟨hm0, hm1, ha0, ha1⟩ := readU_bd hz hr
    have hru := readUvarintB_impl (c := c) w hx (by omega) hz h1 h2
    rw [hr] at hru
    have HC := Lib.hid hru
    clear hru
    by_cases hbad : mx < m ∨ (zs.length : Int) - a < m
    · have HN : Hid (rbR zs off mx = none) := rbR_bad hr hbad
      have hbad' : mx < m ∨ (m ≤ mx ∧ (n : Int) - a < m) := by omega
      have han : a ≤ (n : Int) := by omega
      clear hr lx hx hz hbad
      rcases hbad' with hb1 | ⟨hb1, hb2⟩
      all_goals
        go_enter Try.func22, Try.ntmps22
        go_wp2_with fail
        refine HC.out.mono ?_
        rintro e w1 ⟨rfl, b1⟩
        have e1 : ruN (some (m, a)) = m := rfl
        have e2 : ruA (some (m, a)) = a := rfl
        rw [e1, e2]
        clear e1 e2
        go_wp2
        go_ret3
        exact Got3.none_ HN.out (own_mono (own_empty w1 5 1) b1.size) (b1.trans (((Below.refl _ w1).alloc (Nat.le_refl _) _).mono b1.size))
    · have hg1 : m ≤ mx := by omega
      have hg2 : m ≤ (n : Int) - a := by omega
      have HG := Lib.hid (rbR_good hr hbad)
      obtain ⟨m, rfl⟩ := Int.eq_ofNat_of_zero_le hm0
      obtain ⟨a, rfl⟩ := Int.eq_ofNat_of_zero_le (show 0 ≤ a by omega)
      rw [Int.toNat_natCast, Int.toNat_natCast] at HG
      obtain ⟨b0, off0, rfl, hb0, hcell⟩ := hx.place (by omega) (by omega)
      have hcut0 := hx.cut (k := a) (m := m) (by omega) hb0 hcell
      rw [← List.map_drop, ← List.map_take] at hcut0
      generalize hcl : (zs.drop a).take m = cutL at *
      have Hl : Hid (cutL.length = m) := by show _ = _; have := hcut0.1; simpa using this
      have HC' : Hid (n = n) := rfl
      by_cases hac : c = a
      · have hm : m = 0 := by omega
        subst hm
        obtain rfl : cutL = [] := List.eq_nil_of_length_eq_zero Hl.out
        have hcut1 : ∀ (X : Option Addr), Reads w w.heap.size 1 X 0 (([] : List Int).map (Value.int .u8)) := fun X => Reads.none_
        subst hac
        clear hr lx hx hz hbad hcell hcut0 hcl
        go_enter Try.func22, Try.ntmps22
        go_wp2_with fail
        refine HC.out.mono ?_
        rintro e w1 ⟨rfl, b1⟩
        have e1 : ruN (some (((0 : Nat) : Int), (c : Int))) = 0 := rfl
        have e2 : ruA (some (((0 : Nat) : Int), (c : Int))) = c := rfl
        rw [e1, e2]
        clear e1 e2
        have hcut : ∀ X, Reads w1 w1.heap.size 1 X 0 (([] : List Int).map (Value.int .u8)) := fun X => Reads.none_
        have oe := own_empty w1 5 1
        have hcut' : ∀ X, Reads (w1.alloc (.cells #[] 5)) w1.heap.size 1 X 0 [] := fun X => Reads.none_
        go_wp2_with (go_at_call 35; refine (copyBytes_any _ (hcut _) (by omega)).mono ?_; rintro e w2 ⟨A2, c2, rfl, o2, b2⟩)
        go_ret3
        exact Got3.some_ HG.out rfl (by omega) (o2.wide (b1.size) (Nat.le_refl _)).1 (b1.trans (b2.mono b1.size))
      · have hac1 : a < c := by omega
        clear hr lx hx hz hbad hcell hcl
        go_enter Try.func22, Try.ntmps22
        go_wp2_with fail
        refine HC.out.mono ?_
        rintro e w1 ⟨rfl, b1⟩
        have e1 : ruN (some ((m : Int), (a : Int))) = m := rfl
        have e2 : ruA (some ((m : Int), (a : Int))) = a := rfl
        rw [e1, e2]
        clear e1 e2
        have hcut := hcut0.next b1
        have oe := own_empty w1 5 1
        have hcut' := hcut.over (Nat.le_refl _) (.cells #[] 5)
        clear hcut0
        go_wp2_with (go_at_call 35; refine (copyBytes_any _ hcut (by omega)).mono ?_; rintro e w2 ⟨A2, c2, rfl, o2, b2⟩)
        go_ret3
        exact Got3.some_ HG.out Hl.out.symm (by omega) (o2.wide (b1.size) (Nat.le_refl _)).1 (b1.trans (b2.mono b1.size))


set_option maxHeartbeats 2000000 in
theorem decodeInts_impl {A : Option Addr} {n c : Nat} {zs : List Int} {off cnt : Int} (w : World) (hx : Reads w w.heap.size 1 A n (zs.map (Value.int .u8))) (hn : n ≤ 134217728) (hz : ∀ z ∈ zs, 0 ≤ z ∧ z ≤ 255)
    (h1 : -9223372036854775808 ≤ off) (h2 : off ≤ 9223372036854775807) : Calls Try.prog 24 #[.slice A n c, .int .i64 off, .int .i64 cnt] w (Got3 w 3 .i64 (decR zs off cnt)) := by
  have lx : zs.length = n := by simpa using hx.1
  have hb0 : Below w.heap.size w (w.alloc (.cells #[] 3)) := (Below.refl _ w).alloc (Nat.le_refl _) _
  have oe := own_empty w 3 1
  cases hr1 : inR cnt 0 100
  · have HN : Hid (decR zs off cnt = none) := by show _ = _; rw [decR, hr1]; rfl
    clear lx hx hz
    go_enter Try.func24, Try.ntmps24
    go_wp2_with (go_at_call 40; refine (inRange_impl _ _ _ _).mono ?_; rintro e w' ⟨rfl, rfl⟩)
    go_ret3
    exact Got3.none_ HN.out oe hb0
  · cases hr2 : inR off 0 (n : Int)
    · have HN : Hid (decR zs off cnt = none) := by show _ = _; rw [decR, lx, hr2, hr1]; rfl
      clear lx hx hz
      go_enter Try.func24, Try.ntmps24
      go_wp2_with (go_at_call 40; refine (inRange_impl _ _ _ _).mono ?_; rintro e w' ⟨rfl, rfl⟩)
      go_ret3
      exact Got3.none_ HN.out oe hb0
    · obtain ⟨q0, q1⟩ := inR_true hr1
      obtain ⟨p0, p1⟩ := inR_true hr2
      have HD : Hid (decR zs off cnt = decF zs cnt.toNat off) := by show _ = _; rw [decR, lx, hr2, hr1]; rfl
      have lx' := Lib.hid lx
      obtain ⟨N, rfl⟩ := Int.eq_ofNat_of_zero_le q0
      rw [Int.toNat_natCast] at HD
      clear lx
      go_enter Try.func24, Try.ntmps24
      go_wp2_with (go_at_call 40; refine (inRange_impl _ _ _ _).mono ?_; rintro e w' ⟨rfl, rfl⟩)
      go_loopw [1, 9, 10] (fun p v i wr => ∃ (k : Nat) (o : Int) (A' : Option Addr) (c' : Nat) (cur : List Int), k ≤ N ∧ p = .int .i64 o ∧ v = .slice A' k c' ∧ i = .int .i64 k ∧ 0 ≤ o ∧ o ≤ n ∧ wr.ownsRow w.heap.size 3 1 (.slice A' k c') k (cur.map (Value.int .i64)) ∧ Hid (cur.length = k ∧ decR zs off N = onto cur (decF zs (N - k) o)) ∧ Below w.heap.size w wr)
        (fun _ _ i _ => N - (intOf i).toNat)
      case atStart => exact ⟨0, off, _, 0, [], Nat.zero_le _, rfl, rfl, rfl, p0, p1, oe, ⟨rfl, by rw [HD.out, onto_nil]; rfl⟩, hb0⟩
      case round =>
        obtain ⟨k, o, A', c', cur, hk, rfl, rfl, rfl, ho0, ho1, hown, hcur, hbel⟩ := hrel
        have hbs := hbel.size
        by_cases hlt : k < N
        · have hru := readUvarintB_impl (c := c) wr ((hx.below hbel).more hbs) (by omega) hz (off := o) (by omega) (by omega)
          have HN1 : N - k = (N - (k + 1)) + 1 := by omega
          cases hr : readU zs o with
          | none =>
            rw [hr] at hru
            have HN : Hid (decR zs off N = none) := by show _ = _; rw [hcur.out.2, HN1, dec_none hr]
            have HC := Lib.hid hru
            clear hru hr HN1 hcur hown hx hz oe hb0
            go_wp2_with fail
            refine HC.out.mono ?_
            rintro e w1 ⟨rfl, b1⟩
            have hz1 : w.heap.size ≤ w1.heap.size := by have := b1.size; omega
            go_wp2
            go_ret3
            exact Got3.none_ HN.out (own_mono (own_empty w1 3 1) hz1) ((hbel.trans (b1.mono hbs)).trans (((Below.refl _ w1).alloc (Nat.le_refl _) _).mono hz1))
          | some p =>
            obtain ⟨x, a⟩ := p
            obtain ⟨hm0, hm1, ha0, ha1⟩ := readU_bd hz hr
            rw [hr] at hru
            have ha2 : a ≤ (n : Int) := by rw [← lx'.out]; exact ha1
            have HN : Hid ((cur ++ [x]).length = k + 1 ∧ decR zs off N = onto (cur ++ [x]) (decF zs (N - (k + 1)) a)) := ⟨by simp [hcur.out.1], by rw [hcur.out.2, HN1, dec_some hr]⟩
            have HC := Lib.hid hru
            clear hru hr HN1 hcur hx hz oe hb0 ha1
            go_wp2_with fail
            refine HC.out.mono ?_
            rintro e w1 ⟨rfl, b1⟩
            have hz1 : w.heap.size ≤ w1.heap.size := by have := b1.size; omega
            have e1 : ruN (some (x, a)) = x := rfl
            have e2 : ruA (some (x, a)) = a := rfl
            rw [e1, e2]
            clear e1 e2
            have ho9 := (own_next hown b1).alloc (.cells #[.int .i64 x] 3)
            have hr9 := Reads.one w1 (.int .i64 x) 3
            clear hown
            go_wp2_with (at_builtin; refine wpList_app row_i64 rfl _ _ rfl w.heap.size A' k c' _ rfl ho9 (w1.heap.size + 1) _ 1 1 [.int .i64 x] rfl hr9 (int_one _ _) (k + 1) ((cur ++ [x]).map (Value.int .i64)) (by omega) (by simp) ⟨by omega, by omega⟩ (by simp; omega) ?_; intro A2 c2 w2 ho2 hb2)
            go_roundw
            case rel => exact ⟨k + 1, a, A2, c2, cur ++ [x], by omega, rfl, rfl, by go_num, by omega, ha2, ho2, HN, (hbel.trans (b1.mono hbs)).trans (((Below.refl _ w1).alloc hz1 _).trans hb2)⟩
            case measure => simp [intOf]; omega
        · obtain rfl : k = N := by omega
          have HR : Hid (decR zs off k = some (cur, o)) := by show _ = _; rw [hcur.out.2, Nat.sub_self, dec_done]
          clear oe hb0 hx hz
          go_wp2
          go_ret3
          exact Got3.some_ HR.out hcur.out.1.symm rfl hown hbel

end Go.Proofs.Ytifghjkiodnehaa
