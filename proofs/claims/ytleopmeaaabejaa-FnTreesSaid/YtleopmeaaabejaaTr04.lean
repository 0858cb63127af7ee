/-
  Contract of IsBuilder of the reference. Conditions: at most 2^30 elements; sizes of Go strings.
  Plain words: a valid builder stays valid when a token is added whose name is one. No program is named. No condition.
-/
import Derived.Deep.QuietTactic
import Derived.BigQuiet
import Derived.Test.YtleopmeaaabejaaTr03
import Derived.Test.YtleopmeaaabejaaP15
namespace Go.Proofs.Ytleopmeaaabejaa
set_option linter.unusedVariables false
set_option linter.unusedSimpArgs false
set_option maxRecDepth 100000
open Go.ChangeShapes Go.WideShapes Go.ChangeAt Go.RowKit Go.Deep

def chB (b : Bld) (i : Nat) (k : Int) : Bool := decide (1 ≤ k) && opnB b k && (match b.nodes[k.toNat]?, b.opens[i - 1]? with | some x, some q => decide (x.parent = q) | _, _ => false)
structure IsB (b : Bld) : Prop where
  n1 : 1 ≤ b.nodes.length ∧ b.nodes.length ≤ 40
  o1 : 1 ≤ b.opens.length ∧ b.opens.length ≤ 8
  o0 : b.opens[0]? = some 0
  r0 : ∃ r, b.nodes[0]? = some r ∧ r.name = pageS ∧ r.parent = -1 ∧ r.text.size = 0 ∧ r.attrs.length = 0
  nd : ∀ i (h : i < b.nodes.length), 1 ≤ i → nodeB b i b.nodes[i] = true
  ch : ∀ i (h : i < b.opens.length), 1 ≤ i → chB b i b.opens[i] = true
theorem isB_no {b : Bld} (h : ¬ IsB b) : (false = true ↔ IsB b) := ⟨fun e => (nomatch e), fun e => absurd e h⟩
theorem isB_yes {b : Bld} (h : IsB b) : (true = true ↔ IsB b) := ⟨fun _ => h, fun _ => rfl⟩
theorem chB_at {b : Bld} {i j : Nat} {q : Int} (hj : j < b.nodes.length) (hq : b.opens[i]? = some q) : chB b (i + 1) (j : Int) = (decide (1 ≤ (j : Int)) && opnB b (j : Int) && decide (b.nodes[j].parent = q)) := by
  simp only [chB, Int.toNat_natCast, List.getElem?_eq_getElem hj, Nat.add_sub_cancel, hq]
/-- the box of a builder, and what is read through it -/
theorem quiet_bool {P : Program} {f : FuncId} {args : Array Value} {w : World} {n : Nat} {v x : Bool} (h : Calls P f args (w.drewN n) fun e w' => e = .returned (.bool x) ∧ w.drewN n = w') (hv : x = v) :
    Calls P f args (w.drewN n) fun e w'' => e = .returned (.bool v) ∧ ∃ m, w'' = w.drewN m :=
  Calls.quiet_of_same (h.mono fun e w' ⟨h1, h2⟩ => ⟨by rw [h1, hv], h2.symm⟩)
theorem quiet_bool' {P : Program} {f : FuncId} {args : Array Value} {w : World} {n : Nat} {v x : Bool} (h : Calls P f args (w.drewN n) fun e w' => e = .returned (.bool x) ∧ w' = w.drewN n) (hv : x = v) :
    Calls P f args (w.drewN n) fun e w'' => e = .returned (.bool v) ∧ ∃ m, w'' = w.drewN m :=
  Calls.quiet_of_same (h.mono fun e w' ⟨h1, h2⟩ => ⟨by rw [h1, hv], h2⟩)
/-- the two boxes of a call of IsBuilder -/
structure IsbAt (tB tN : TypeId) (H : Nat) (W0 : World) (u v : Value) (x0 x1 x2 x3 : Value) (W : World) : Prop where
  bB : HasBox W H [u, v] tB
  bN : HasBox W (H + 1) [x0, x1, x2, x3] tN
  below : Below H W0 W
  hsz : W0.heap.size = H
section
variable {tB tN : TypeId} {H : Nat} {W0 W W' : World} {u v x0 x1 x2 x3 : Value}
theorem IsbAt.of (w : World) : IsbAt tB tN w.heap.size w u v x0 x1 x2 x3 ((w.alloc (.cells #[u, v] tB)).alloc (.cells #[x0, x1, x2, x3] tN)) :=
  ⟨(HasBox.new w [u, v] tB).alloc _, HasBox.new' (by simp) [x0, x1, x2, x3] tN, ((Below.refl _ w).alloc (Nat.le_refl _) _).alloc (by simp) _, rfl⟩
theorem IsbAt.next (h : IsbAt tB tN H W0 u v x0 x1 x2 x3 W) (hb : Below W.heap.size W W') : IsbAt tB tN H W0 u v x0 x1 x2 x3 W' :=
  ⟨h.bB.below hb h.bB.lt, h.bN.below hb h.bN.lt, h.below.trans (hb.mono (by have := h.below.size; have := h.hsz; omega)), h.hsz⟩
theorem IsbAt.facts (h : IsbAt tB tN H W0 u v x0 x1 x2 x3 W) : (W.cell? ⟨H, 0, none⟩ = some u ∧ W.cell? ⟨H, 1, none⟩ = some v) ∧ (W.cell? ⟨H + 1, 0, none⟩ = some x0 ∧ W.cell? ⟨H + 1, 1, none⟩ = some x1 ∧ W.cell? ⟨H + 1, 2, none⟩ = some x2 ∧ W.cell? ⟨H + 1, 3, none⟩ = some x3) :=
  ⟨⟨h.bB.cell 0 _ rfl, h.bB.cell 1 _ rfl⟩, ⟨h.bN.cell 0 _ rfl, h.bN.cell 1 _ rfl, h.bN.cell 2 _ rfl, h.bN.cell 3 _ rfl⟩⟩
end
set_option maxHeartbeats 2000000 in
theorem isBuilder_spec {A A' : Option Addr} {n c n' c' : Nat} {b : Bld} (w : World) (hx : ReadsB w w.heap.size A n A' n' b) (hn : n ≤ 1073741824) (hn' : n' ≤ 1073741824) (hz : ∀ a ∈ b.nodes, a.name.size ≤ 9223372036854775807) :
    Calls Try.prog 19 #[.agg #[.slice A n c, .slice A' n' c']] w fun e w' => ∃ v : Bool, e = .returned (.bool v) ∧ (v = true ↔ IsB b) ∧ Below w.heap.size w w' := by
  have hl := Lib.hid hx.len
  have hb1 := (Below.refl w.heap.size w).alloc (Nat.le_refl _) (.cells #[.slice A n c, .slice A' n' c'] 27)
  cases hq1 : inR (n : Int) 1 40
  · have hno : Hid (¬ IsB b) := fun h => by have h1 := h.n1; rw [hl.out.1] at h1; have h2 := inR_false hq1; omega
    go_enter Try.func19, Try.ntmps19
    go_wp2_with (go_at_call 50; refine (inRange_spec _ _ _ _).mono ?_; rintro e w' ⟨rfl, rfl⟩; rw [hq1])
    go_ret
    exact ⟨false, rfl, isB_no hno.out, hb1⟩
  cases hq2 : inR (n' : Int) 1 8
  · have hno : Hid (¬ IsB b) := fun h => by have h1 := h.o1; rw [hl.out.2] at h1; have h2 := inR_false hq2; omega
    go_enter Try.func19, Try.ntmps19
    go_wp2_with (go_at_call 50; refine (inRange_spec _ _ _ _).mono ?_; rintro e w' ⟨rfl, rfl⟩; first | rw [hq1] | rw [hq2])
    go_ret
    exact ⟨false, rfl, isB_no hno.out, hb1⟩
  have hr1 := inR_true hq1
  have hr2 := inR_true hq2
  have hnl : 0 < b.nodes.length := by rw [hl.out.1]; omega
  have hol : 0 < b.opens.length := by rw [hl.out.2]; omega
  obtain ⟨b0, off0, rfl, hb0, hcx⟩ := (hx.2.below hb1).num (k := 0) (by omega)
  have g0 := hcx hol
  simp only [Nat.add_zero] at g0
  clear hcx
  by_cases ho : b.opens[0] = 0
  rotate_left
  · have hno : Hid (¬ IsB b) := fun h => by have h1 := h.o0; rw [List.getElem?_eq_getElem hol] at h1; exact ho (Option.some.inj h1)
    generalize b.opens[0] = o at *
    have ho2 : (o != 0) = true := by simpa using ho
    have hk9 : (0 : Int) < (n' : Int) := by omega
    go_enter Try.func19, Try.ntmps19
    go_wp2_with (go_at_call 50; refine (inRange_spec _ _ _ _).mono ?_; rintro e w' ⟨rfl, rfl⟩; first | rw [hq1] | rw [hq2])
    go_ret
    exact ⟨false, rfl, isB_no hno.out, hb1⟩
  have ho0 := Lib.hid ho
  rw [ho] at g0
  clear ho
  obtain ⟨b1, off1, rfl, hb1', hcx⟩ := (hx.1.below hb1).nod (i := 0) (by omega)
  obtain ⟨Ax, cx, hrk, e0, e1, e2, e3⟩ := hcx hnl
  simp only [Nat.zero_mul, Nat.add_zero] at e0 e1 e2 e3
  clear hcx hrk
  have hr0 : Hid (b.nodes[0]? = some b.nodes[0]) := List.getElem?_eq_getElem hnl
  generalize b.nodes[0] = r at *
  obtain ⟨name, text, parent, attrs⟩ := r
  simp only at e0 e1 e2 e3
  have hk9 : (0 : Int) < (n' : Int) := by omega
  have hk8 : (0 : Int) < (n : Int) := by omega
  have st := IsbAt.of (tB := 27) (tN := 33) (u := .slice (some ⟨b1, off1, none⟩) n c) (v := .slice (some ⟨b0, off0, none⟩) n' c') (x0 := .string name) (x1 := .string text) (x2 := .int .i64 parent) (x3 := .slice Ax attrs.length cx) w
  by_cases hroot : name = pageS ∧ parent = -1 ∧ text.size = 0 ∧ attrs.length = 0
  rotate_left
  · have hno : Hid (¬ IsB b) := fun h => by
      obtain ⟨r, h1, h2, h3, h4, h5⟩ := h.r0
      rw [hr0.out] at h1
      obtain rfl := Option.some.inj h1
      exact hroot ⟨h2, h3, h4, h5⟩
    by_cases hnm : name = pageS
    rotate_left
    · have hs : (name.toList == [112, 97, 103, 101]) = false := by rw [str_lit_eq]; simpa [pageS] using hnm
      have hs2 : (name.toList != [112, 97, 103, 101]) = true := by rw [bne, hs]; rfl
      clear hroot
      go_enter Try.func19, Try.ntmps19
      go_wp2_with (go_at_call 50; refine (inRange_spec _ _ _ _).mono ?_; rintro e w' ⟨rfl, rfl⟩; first | rw [hq1] | rw [hq2])
      go_ret
      exact ⟨false, rfl, isB_no hno.out, st.below⟩
    have hs : (name.toList == [112, 97, 103, 101]) = true := by rw [str_lit_eq]; simpa [pageS] using hnm
    have hs2 : (name.toList != [112, 97, 103, 101]) = false := by rw [bne, hs]; rfl
    have hs3 : name.toList = [112, 97, 103, 101] := by simpa using hs
    by_cases hpa : parent = -1
    rotate_left
    · have hp2 : (parent != -1) = true := by simpa using hpa
      clear hroot hnm
      go_enter Try.func19, Try.ntmps19
      go_wp2_with (go_at_call 50; refine (inRange_spec _ _ _ _).mono ?_; rintro e w' ⟨rfl, rfl⟩; first | rw [hq1] | rw [hq2])
      go_ret
      exact ⟨false, rfl, isB_no hno.out, st.below⟩
    subst hpa
    by_cases htx : text.size = 0
    rotate_left
    · have hnt := toList_ne htx
      clear hroot hnm
      go_enter Try.func19, Try.ntmps19
      go_wp2_with (go_at_call 50; refine (inRange_spec _ _ _ _).mono ?_; rintro e w' ⟨rfl, rfl⟩; first | rw [hq1] | rw [hq2])
      go_ret
      exact ⟨false, rfl, isB_no hno.out, st.below⟩
    obtain rfl := bytes_nil htx
    have hemp : (⟨#[]⟩ : ByteArray).toList.isEmpty = true := by rw [Lib.toList_data]; rfl
    have hat : ¬ attrs.length = 0 := fun h => hroot ⟨hnm, rfl, htx, h⟩
    have hat2 : ((attrs.length : Int) != 0) = true := by simp; intro h; exact hat (by rw [h]; rfl)
    clear hroot hnm htx
    go_enter Try.func19, Try.ntmps19
    go_wp2_with (go_at_call 50; refine (inRange_spec _ _ _ _).mono ?_; rintro e w' ⟨rfl, rfl⟩; first | rw [hq1] | rw [hq2])
    go_ret
    exact ⟨false, rfl, isB_no hno.out, st.below⟩
  obtain ⟨hnm, rfl, htx, hat⟩ := hroot
  obtain rfl := bytes_nil htx
  have hemp : (⟨#[]⟩ : ByteArray).toList.isEmpty = true := by rw [Lib.toList_data]; rfl
  have hat2 : ((attrs.length : Int) != 0) = false := by simp; exact List.eq_nil_of_length_eq_zero hat
  have hs3 : name.toList = [112, 97, 103, 101] := by rw [hnm, pageS, Lib.toList_data]
  have hs : (name.toList == [112, 97, 103, 101]) = true := by simp [hs3]
  have hs2 : (name.toList != [112, 97, 103, 101]) = false := by simp [hs3]
  have hroot : Hid (∃ r, b.nodes[0]? = some r ∧ r.name = pageS ∧ r.parent = -1 ∧ r.text.size = 0 ∧ r.attrs.length = 0) := ⟨_, hr0.out, hnm, rfl, rfl, hat⟩
  clear hnm htx hat hr0
  go_enter Try.func19, Try.ntmps19
  go_wp2_with (go_at_call 50; refine (inRange_spec _ _ _ _).mono ?_; rintro e w' ⟨rfl, rfl⟩; first | rw [hq1] | rw [hq2])
  go_loopw [4] (fun i wr => ∃ k : Nat, 1 ≤ k ∧ k ≤ n ∧ i = .int .i64 k ∧ Hid (∀ j (h : j < b.nodes.length), 1 ≤ j → j < k → nodeB b j b.nodes[j] = true) ∧ Below (w.heap.size + 1 + 1) ((w.alloc (.cells #[.slice (some ⟨b1, off1, none⟩) n c, .slice (some ⟨b0, off0, none⟩) n' c'] 27)).alloc (.cells #[.string name, .string ⟨#[]⟩, .int .i64 (-1), .slice Ax attrs.length cx] 33)) wr) (fun i _ => n - (intOf i).toNat)
  case atStart => exact ⟨1, Nat.le_refl _, by omega, rfl, fun j _ h1 h2 => by omega, Below.refl _ _⟩
  case round =>
    obtain ⟨k, hk1, hk2, rfl, hall, hbel⟩ := hrel
    have st' := st.next (by simp only [World.size_alloc]; exact hbel)
    obtain ⟨⟨f00, f01⟩, ⟨f10, f11, f12, f13⟩⟩ := st'.facts
    have hrd := hx.1.next st'.below
    by_cases hlt : k < n
    · have hkl : k < b.nodes.length := by rw [hl.out.1]; exact hlt
      have hk90 : (k : Int) < (n : Int) := by omega
      have hcall := l6Node_spec (c := c) (A' := some ⟨b0, off0, none⟩) (n' := n') (c' := c') k wr hrd hn hz hk1 hlt hkl
      cases hnd : nodeB b k b.nodes[k]
      · have hno : Hid (¬ IsB b) := fun h => by have h1 := h.nd k hkl hk1; rw [hnd] at h1; cases h1
        rw [hnd] at hcall
        clear hnd hrd
        go_wp2_with (go_at_call 51; refine hcall.mono ?_; rintro e w6 ⟨rfl, b6⟩)
        go_ret
        exact ⟨false, rfl, isB_no hno.out, st'.below.trans (b6.mono st'.below.size)⟩
      · have hall2 : Hid (∀ j (h : j < b.nodes.length), 1 ≤ j → j < k + 1 → nodeB b j b.nodes[j] = true) := fun j h h1 h2 => by
          by_cases e : j = k
          · subst e; exact hnd
          · exact hall.out j h h1 (by omega)
        rw [hnd] at hcall
        clear hnd hrd
        go_wp2_with (go_at_call 51; refine hcall.mono ?_; rintro e w6 ⟨rfl, b6⟩)
        go_roundw
        case rel => exact ⟨k + 1, by omega, by omega, by go_num, hall2, hbel.trans (b6.mono (by have := hbel.size; simp at this; omega))⟩
        case measure => simp [intOf]; omega
    · obtain rfl : n = k := by omega
      have hnd : Hid (∀ i (h : i < b.nodes.length), 1 ≤ i → nodeB b i b.nodes[i] = true) := fun i h h1 => hall.out i h h1 (by rw [← hl.out.1]; exact h)
      clear hall
      go_wp2
      go_loopw [5] (fun i wq => ∃ k : Nat, 1 ≤ k ∧ k ≤ n' ∧ i = .int .i64 k ∧ Hid (∀ j (h : j < b.opens.length), 1 ≤ j → j < k → chB b j b.opens[j] = true) ∧ Below wr.heap.size wr wq) (fun i _ => n' - (intOf i).toNat)
      case atStart => exact ⟨1, Nat.le_refl _, by omega, rfl, fun j _ h1 h2 => by omega, Below.refl _ _⟩
      case round =>
        rename_i wq
        obtain ⟨m, hm1, hm2, rfl, hch, hbq⟩ := hrel
        have st2 := st'.next hbq
        clear f00 f01 f10 f11 f12 f13
        obtain ⟨⟨f00, f01⟩, ⟨f10, f11, f12, f13⟩⟩ := st2.facts
        have hrd := hx.1.next st2.below
        have hro := (hx.2.below st2.below).more st2.below.size
        by_cases hlt : m < n'
        · obtain ⟨p, rfl⟩ : ∃ p, m = p + 1 := ⟨m - 1, by omega⟩
          have hml : p + 1 < b.opens.length := by rw [hl.out.2]; exact hlt
          have hpl : p < b.opens.length := by omega
          obtain ⟨b2, off2, hA, hb2, hcx⟩ := hro.num hlt
          injection hA with hA
          injection hA with hA1 hA2
          subst hA1 hA2
          have g1 := hcx hml
          clear hcx
          obtain ⟨b2, off2, hA, hb2', hcx⟩ := hro.num (k := p) (by omega)
          injection hA with hA
          injection hA with hA1 hA2
          subst hA1 hA2
          have g2 := hcx hpl
          clear hcx hro
          have hq0 : Hid (b.opens[p]? = some b.opens[p]) := List.getElem?_eq_getElem hpl
          have hm90 : (p : Int) + 1 < (n' : Int) := by omega
          have hm91 : (0 : Int) ≤ (p : Int) + 1 := by omega
          have hm92 : (0 : Int) ≤ (p : Int) := by omega
          have hm93 : (p : Int) < (n' : Int) := by omega
          have hfail : chB b (p + 1) b.opens[p + 1] = false → Hid (¬ IsB b) := fun hf h => by
            have h1 := h.ch (p + 1) hml hm1
            rw [hf] at h1
            cases h1
          have hok : chB b (p + 1) b.opens[p + 1] = true → Hid (∀ j (h : j < b.opens.length), 1 ≤ j → j < p + 1 + 1 → chB b j b.opens[j] = true) := fun hf j h h1 h2 => by
            by_cases e : j = p + 1
            · subst e; exact hf
            · exact hch.out j h h1 (by omega)
          clear hch
          generalize b.opens[p + 1] = o at *
          generalize b.opens[p] = q at *
          by_cases hin : 1 ≤ o ∧ o ≤ (n : Int) - 1
          · obtain ⟨j, rfl⟩ := Int.eq_ofNat_of_zero_le (by omega : 0 ≤ o)
            have hj : j < n := by omega
            have hjl : j < b.nodes.length := by rw [hl.out.1]; exact hj
            have hqi : inR (j : Int) 1 ((n : Int) - 1) = true := inR_mk hin.1 hin.2
            obtain ⟨b2, off2, hA, hb2, hcy⟩ := hrd.nod hj
            injection hA with hA
            injection hA with hA1 hA2
            subst hA1 hA2
            obtain ⟨Ay, cy, hrk, d0, d1, d2, d3⟩ := hcy hjl
            have hca := chB_at (i := p) (j := j) hjl hq0.out
            have hoa := opnB_at hjl
            clear hcy hrk d1 d3 hrd
            generalize b.nodes[j].name = nm at *
            generalize b.nodes[j].parent = pa at *
            have hk0 : (0 : Int) ≤ (j : Int) := by omega
            have hk9 : (j : Int) < (n : Int) := by omega
            have hj1 : (1 : Int) ≤ (j : Int) := hin.1
            clear hin
            by_cases hzm : nm.size = 0
            · obtain rfl := bytes_nil hzm
              have hemp : (⟨#[]⟩ : ByteArray).toList.isEmpty = true := by rw [Lib.toList_data]; rfl
              have hno := hfail (by rw [hca, hoa]; simp [hzm])
              clear hfail hok hca hoa hzm
              go_wp2
              go_quiet (first | (go_at_call 50; refine quiet_bool (inRange_spec _ _ _ _) hqi))
              go_wp2
              go_ret
              exact ⟨false, rfl, isB_no hno.out, below_drewN st2.below _⟩
            have hne := toList_ne hzm
            cases hv : voidB nm
            rotate_left
            · have hno := hfail (by rw [hca, hoa]; simp [hv])
              clear hfail hok hca hoa hzm
              go_wp2
              go_quiet (first | (go_at_call 50; refine quiet_bool (inRange_spec _ _ _ _) hqi) | (go_at_call 42; refine quiet_bool' (isVoid_spec _ _) hv))
              go_wp2
              go_ret
              exact ⟨false, rfl, isB_no hno.out, below_drewN st2.below _⟩
            by_cases hpq : pa = q
            · subst hpq
              have hall2 := hok (by rw [hca, hoa]; simp [hv, hzm, hj1])
              have hpp : (pa != pa) = false := by simp
              clear hfail hok hca hoa hzm
              go_wp2
              go_quiet (first | (go_at_call 50; refine quiet_bool (inRange_spec _ _ _ _) hqi) | (go_at_call 42; refine quiet_bool' (isVoid_spec _ _) hv))
              go_wp2
              go_roundw
              case rel => exact ⟨p + 1 + 1, by omega, by omega, by go_num, hall2, below_drewN hbq _⟩
              case measure => simp [intOf]; omega
            · have hno := hfail (by rw [hca, hoa]; simp [hpq])
              have hpp : (pa != q) = true := by simpa using hpq
              clear hfail hok hca hoa hzm hpq
              go_wp2
              go_quiet (first | (go_at_call 50; refine quiet_bool (inRange_spec _ _ _ _) hqi) | (go_at_call 42; refine quiet_bool' (isVoid_spec _ _) hv))
              go_wp2
              go_ret
              exact ⟨false, rfl, isB_no hno.out, below_drewN st2.below _⟩
          · have hqi : inR o 1 ((n : Int) - 1) = false := by simp [inR]; omega
            have hno := hfail (by
              by_cases h1 : 1 ≤ o
              · rw [chB, opnB_far (by rw [hl.out.1]; omega)]; simp
              · simp [chB, h1])
            clear hfail hok hin hrd
            go_wp2
            go_quiet (first | (go_at_call 50; refine quiet_bool (inRange_spec _ _ _ _) hqi))
            go_wp2
            go_ret
            exact ⟨false, rfl, isB_no hno.out, below_drewN st2.below _⟩
        · obtain rfl : n' = m := by omega
          have hyes : Hid (IsB b) := ⟨by rw [hl.out.1]; omega, by rw [hl.out.2]; omega, by rw [List.getElem?_eq_getElem hol, ho0.out], hroot.out, hnd.out, fun i h h1 => hch.out i h h1 (by rw [← hl.out.2]; exact h)⟩
          clear hch hrd hro
          go_wp2
          go_ret
          exact ⟨true, rfl, isB_yes hyes.out, st2.below⟩
end Go.Proofs.Ytleopmeaaabejaa

namespace Go.Proofs.Ytleopmeaaabejaa
set_option linter.unusedVariables false
set_option linter.unusedSimpArgs false

theorem opnB_grow {b b' : Bld} {x : Nod} (hb : b'.nodes = b.nodes ++ [x]) {m : Int} (h : opnB b m = true) : opnB b' m = true := by
  obtain ⟨j, rfl, hj, h1, h2⟩ := opnB_in h
  have hj' : j < b'.nodes.length := by rw [hb]; simp; omega
  have e : b'.nodes[j] = b.nodes[j] := by
    have : b'.nodes[j]? = b.nodes[j]? := by rw [hb, List.getElem?_append_left hj]
    rw [List.getElem?_eq_getElem hj', List.getElem?_eq_getElem hj] at this
    exact Option.some.inj this
  rw [opnB_at hj', e]
  simp only [Bool.and_eq_true, Bool.not_eq_true', decide_eq_false_iff_not]
  exact ⟨h1, h2⟩
theorem IsB.last {b : Bld} (h : IsB b) {p : Nat} {par : Int} (hl : b.opens.length = p + 1) (hp : b.opens[p]? = some par) : opnB b par = true := by
  rcases Nat.eq_zero_or_pos p with h0 | h0
  · subst h0
    rw [h.o0] at hp
    obtain rfl := Option.some.inj hp
    obtain ⟨r, h1, h2, _⟩ := h.r0
    have hn : 0 < b.nodes.length := h.n1.1
    rw [show (0 : Int) = ((0 : Nat) : Int) from rfl, opnB_at hn]
    rw [List.getElem?_eq_getElem hn] at h1
    rw [Option.some.inj h1, h2]
    rfl
  · have hp' : p < b.opens.length := by omega
    have h1 := h.ch p hp' h0
    rw [List.getElem?_eq_getElem hp'] at hp
    rw [Option.some.inj hp] at h1
    simp only [chB, Bool.and_eq_true] at h1
    exact h1.1.2
theorem IsB.cut {b : Bld} (h : IsB b) {m : Nat} (h0 : 0 < m) : IsB ⟨b.nodes, b.opens.take m⟩ := by
  have ho := h.o1
  refine ⟨h.n1, by simp only [List.length_take]; omega, ?_, h.r0, h.nd, fun i hi h1 => ?_⟩
  · show (b.opens.take m)[0]? = _
    rw [List.getElem?_take, if_pos h0]; exact h.o0
  · have hi' : i < b.opens.length ∧ i < m := by simp only [List.length_take] at hi; omega
    have hc := h.ch i hi'.1 h1
    have e1 : (b.opens.take m)[i] = b.opens[i] := List.getElem_take
    have e2 : (b.opens.take m)[i - 1]? = b.opens[i - 1]? := by rw [List.getElem?_take, if_pos (by omega)]
    show chB ⟨b.nodes, b.opens.take m⟩ i (b.opens.take m)[i] = true
    rw [e1]
    simp only [chB, e2] at hc ⊢
    exact hc
theorem IsB.grow {b : Bld} (h : IsB b) {x : Nod} {p : Nat} {par : Int} (hl : b.opens.length = p + 1) (hp : b.opens[p]? = some par) (hx : x.parent = par) (hb : bodyB x = true) (h40 : b.nodes.length < 40) : IsB ⟨b.nodes ++ [x], b.opens⟩ := by
  have hop := h.last hl hp
  have hg : ∀ m, opnB b m = true → opnB ⟨b.nodes ++ [x], b.opens⟩ m = true := fun m hm => opnB_grow rfl hm
  refine ⟨by simp; omega, h.o1, h.o0, ?_, fun i hi h1 => ?_, fun i hi h1 => ?_⟩
  · obtain ⟨r, h1, h2⟩ := h.r0
    refine ⟨r, ?_, h2⟩
    show (b.nodes ++ [x])[0]? = _
    rw [List.getElem?_append_left h.n1.1]; exact h1
  · have hi' : i < b.nodes.length ∨ i = b.nodes.length := by simp at hi; omega
    show nodeB _ i (b.nodes ++ [x])[i] = true
    rcases hi' with hi' | hi'
    · rw [List.getElem_append_left hi']
      have hc := h.nd i hi' h1
      simp only [nodeB, Bool.and_eq_true] at hc ⊢
      exact ⟨⟨hc.1.1, hg _ hc.1.2⟩, hc.2⟩
    · subst hi'
      have e : (b.nodes ++ [x])[b.nodes.length]'hi = x := by simp
      rw [e]
      obtain ⟨j, hj, hjl, _⟩ := opnB_in hop
      simp only [nodeB, Bool.and_eq_true, decide_eq_true_eq, hx]
      exact ⟨⟨by omega, hg _ hop⟩, hb⟩
  · have hc := h.ch i hi h1
    simp only [chB, Bool.and_eq_true] at hc ⊢
    refine ⟨⟨hc.1.1, hg _ hc.1.2⟩, ?_⟩
    obtain ⟨j, hj, hjl, _⟩ := opnB_in hc.1.2
    have e : (b.nodes ++ [x])[(b.opens[i]).toNat]? = b.nodes[(b.opens[i]).toNat]? := List.getElem?_append_left (by rw [hj]; simpa using hjl)
    show (match (b.nodes ++ [x])[(b.opens[i]).toNat]?, b.opens[i - 1]? with | some x, some q => decide (x.parent = q) | _, _ => false) = true
    rw [e]
    exact hc.2
theorem IsB.push {b : Bld} (h : IsB b) {x : Nod} {p : Nat} {par : Int} (hl : b.opens.length = p + 1) (hp : b.opens[p]? = some par) {n : Nat} (hn : b.nodes[n]? = some x) (hn1 : 1 ≤ n) (hx : x.parent = par) (hz : ¬ x.name.size = 0) (hv : voidB x.name = false) (h8 : b.opens.length < 8) : IsB ⟨b.nodes, b.opens ++ [(n : Int)]⟩ := by
  obtain ⟨hnl, rfl⟩ := List.getElem?_eq_some_iff.1 hn
  refine ⟨h.n1, by simp; omega, ?_, h.r0, h.nd, fun i hi h1 => ?_⟩
  · show (b.opens ++ [(n : Int)])[0]? = _
    rw [List.getElem?_append_left h.o1.1]; exact h.o0
  · have hi' : i < b.opens.length ∨ i = b.opens.length := by simp at hi; omega
    show chB _ i (b.opens ++ [(n : Int)])[i] = true
    rcases hi' with hi' | hi'
    · rw [List.getElem_append_left hi']
      have hc := h.ch i hi' h1
      have e2 : (b.opens ++ [(n : Int)])[i - 1]? = b.opens[i - 1]? := List.getElem?_append_left (by omega)
      simp only [chB, e2] at hc ⊢
      exact hc
    · subst hi'
      have e : (b.opens ++ [(n : Int)])[b.opens.length]'hi = (n : Int) := by simp
      have e2 : (b.opens ++ [(n : Int)])[b.opens.length - 1]? = some par := by rw [List.getElem?_append_left (by omega), hl]; exact hp
      have ho : opnB b (n : Int) = true := by
        rw [opnB_at hnl]
        simp only [Bool.and_eq_true, Bool.not_eq_true', decide_eq_false_iff_not]
        exact ⟨hz, hv⟩
      rw [e]
      simp only [chB, Int.toNat_natCast, List.getElem?_eq_getElem hnl, e2, hx, decide_true, Bool.and_true, Bool.and_eq_true, decide_eq_true_eq]
      exact ⟨by omega, ho⟩
theorem IsB.add {b : Bld} {t : Tok} (h : IsB b) (hv : t.kind = 1 → nameB t.name = true) : IsB (addB b t).1 := by
  obtain ⟨kind, name, attrs, text⟩ := t
  simp only at hv
  have ho := h.o1
  by_cases k2 : kind = 2
  · subst k2
    rw [addB_close rfl]
    have hcl : 0 < clsF b name (b.opens.length - 1) := by rcases clsF_or b name (b.opens.length - 1) with e | e <;> omega
    exact h.cut hcl
  by_cases h40 : 40 ≤ b.nodes.length
  · rw [addB_full k2 (.inl h40)]; exact h
  obtain ⟨p, hp⟩ : ∃ p, b.opens.length = p + 1 := ⟨b.opens.length - 1, by omega⟩
  obtain ⟨par, hpar, hl⟩ := last_at hp
  by_cases k1 : kind = 1
  · subst k1
    have hnb := hv rfl
    have hnz : ¬ name.size = 0 := fun e => by rw [nameB_empty e] at hnb; cases hnb
    have hbd : bodyB ⟨name, ⟨#[]⟩, par, attrs⟩ = true := by simp only [bodyB, hnb]; rfl
    have hgr := h.grow (x := ⟨name, ⟨#[]⟩, par, attrs⟩) hp hpar rfl hbd (by omega)
    cases hvd : voidB name
    · by_cases h8 : b.opens.length < 8
      · rw [addB_k1 false hvd (by omega) (by omega) (.inr h8), hl]
        exact hgr.push (x := ⟨name, ⟨#[]⟩, par, attrs⟩) (n := b.nodes.length) hp hpar (by simp) h.n1.1 rfl hnz hvd h8
      · rw [addB_full k2 (.inr (.inr ⟨rfl, hvd, by omega⟩))]; exact h
    · rw [addB_k1 true hvd (by omega) (by omega) (.inl rfl), hl]
      exact hgr
  by_cases k3 : kind = 3
  · subst k3
    by_cases ht0 : text.size = 0
    · rw [addB_none k1 k2 (.inr (bytes_nil ht0))]; exact h
    · rw [addB_k3 (by omega) (by omega) (by omega), hl]
      exact h.grow (x := ⟨⟨#[]⟩, text, par, []⟩) hp hpar rfl (by
        have : (⟨#[]⟩ : ByteArray).size = 0 := rfl
        simp only [bodyB, this, decide_true, ht0, decide_false, Bool.not_false, Bool.true_and, List.length_nil, Bool.or_true]) (by omega)
  · rw [addB_none k1 k2 (.inl k3)]; exact h
end Go.Proofs.Ytleopmeaaabejaa
