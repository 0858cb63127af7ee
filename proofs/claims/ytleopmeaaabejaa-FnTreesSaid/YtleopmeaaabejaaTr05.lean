/-
  Contract of IsBuilder of the program. Conditions: at most 2^30 elements; sizes of Go strings.
-/
import Derived.Deep.RegionHeld3
import Derived.Test.YtleopmeaaabejaaTr04
namespace Go.Proofs.Ytleopmeaaabejaa
set_option linter.unusedVariables false
set_option linter.unusedSimpArgs false
set_option maxRecDepth 100000
open Go.ChangeShapes Go.WideShapes Go.ChangeAt Go.RowKit Go.Deep

def GotIs (w : World) (b : Bld) (e : Ending) (w' : World) : Prop := ∃ v : Bool, e = .returned (.bool v) ∧ (v = true ↔ IsB b) ∧ Below w.heap.size w w'
theorem GotIs.no {w w' : World} {b : Bld} {e : Ending} (he : e = .returned (.bool false)) (h : ¬ IsB b) (hb : Below w.heap.size w w') : GotIs w b e w' := ⟨false, he, isB_no h, hb⟩
theorem GotIs.yes {w w' : World} {b : Bld} {e : Ending} (he : e = .returned (.bool true)) (h : IsB b) (hb : Below w.heap.size w w') : GotIs w b e w' := ⟨true, he, isB_yes h, hb⟩
theorem body_cases (name text : ByteArray) (m : Nat) :
    (nameB name = true ∧ ¬ name.size = 0 ∧ text.size = 0) ∨ (nameB name = true ∧ ¬ name.size = 0 ∧ ¬ text.size = 0) ∨ (name.size = 0 ∧ text.size = 0) ∨ (name.size = 0 ∧ ¬ text.size = 0 ∧ m = 0) ∨ (name.size = 0 ∧ ¬ text.size = 0 ∧ ¬ m = 0) ∨ (nameB name = false ∧ ¬ name.size = 0) := by
  by_cases h1 : name.size = 0
  · by_cases h2 : text.size = 0
    · exact .inr (.inr (.inl ⟨h1, h2⟩))
    · by_cases h3 : m = 0
      · exact .inr (.inr (.inr (.inl ⟨h1, h2, h3⟩)))
      · exact .inr (.inr (.inr (.inr (.inl ⟨h1, h2, h3⟩))))
  · cases h4 : nameB name
    · exact .inr (.inr (.inr (.inr (.inr ⟨rfl, h1⟩))))
    · by_cases h2 : text.size = 0
      · exact .inl ⟨rfl, h1, h2⟩
      · exact .inr (.inl ⟨rfl, h1, h2⟩)
theorem empty_list : (⟨#[]⟩ : ByteArray).toList.isEmpty = true := by rw [Lib.toList_data]; rfl
theorem empty_name : nameB ⟨#[]⟩ = false := nameB_empty rfl
set_option maxHeartbeats 8000000 in
theorem isBuilder_impl {A A' : Option Addr} {n c n' c' : Nat} {b : Bld} (w : World) (hx : ReadsB w w.heap.size A n A' n' b) (hn : n ≤ 1073741824) (hn' : n' ≤ 1073741824) (hz : ∀ a ∈ b.nodes, a.name.size ≤ 9223372036854775807) :
    Calls Try.prog 18 #[.agg #[.slice A n c, .slice A' n' c']] w (GotIs w b) := by
  have hl := Lib.hid hx.len
  have hb1 := (Below.refl w.heap.size w).alloc (Nat.le_refl _) (.cells #[.slice A n c, .slice A' n' c'] 27)
  cases hq1 : inR (n : Int) 1 40
  · have hno : Hid (¬ IsB b) := fun h => by have h1 := h.n1; rw [hl.out.1] at h1; have h2 := inR_false hq1; omega
    go_enter Try.func18, Try.ntmps18
    go_wp2_with (go_at_call 47; refine (inRange_impl _ _ _ _).mono ?_; rintro e w' ⟨rfl, rfl⟩; rw [hq1])
    go_ret
    exact GotIs.no rfl hno.out (hb1)
  cases hq2 : inR (n' : Int) 1 8
  · have hno : Hid (¬ IsB b) := fun h => by have h1 := h.o1; rw [hl.out.2] at h1; have h2 := inR_false hq2; omega
    go_enter Try.func18, Try.ntmps18
    go_wp2_with (go_at_call 47; refine (inRange_impl _ _ _ _).mono ?_; rintro e w' ⟨rfl, rfl⟩; first | rw [hq1] | rw [hq2])
    go_ret
    exact GotIs.no rfl hno.out (hb1)
  have hr1 := inR_true hq1
  have hr2 := inR_true hq2
  have hnl : 0 < b.nodes.length := by rw [hl.out.1]; omega
  have hol : 0 < b.opens.length := by rw [hl.out.2]; omega
  obtain ⟨b0, off0, rfl, hb0, hcx⟩ := (hx.2.below hb1).num (k := 0) (by omega)
  have g0 := hcx hol
  simp only [Nat.add_zero] at g0
  clear hcx
  by_cases ho : b.opens[0] = 0
  rotate_left
  · have hno : Hid (¬ IsB b) := fun h => by have h1 := h.o0; rw [List.getElem?_eq_getElem hol] at h1; exact ho (Option.some.inj h1)
    generalize b.opens[0] = o at *
    have ho2 : (o != 0) = true := by simpa using ho
    have hk9 : (0 : Int) < (n' : Int) := by omega
    go_enter Try.func18, Try.ntmps18
    go_wp2_with (go_at_call 47; refine (inRange_impl _ _ _ _).mono ?_; rintro e w' ⟨rfl, rfl⟩; first | rw [hq1] | rw [hq2])
    go_ret
    exact GotIs.no rfl hno.out (hb1)
  have ho0 := Lib.hid ho
  rw [ho] at g0
  clear ho
  obtain ⟨b1, off1, rfl, hb1', hcx⟩ := (hx.1.below hb1).nod (i := 0) (by omega)
  obtain ⟨Ax, cx, hrk, e0, e1, e2, e3⟩ := hcx hnl
  simp only [Nat.zero_mul, Nat.add_zero] at e0 e1 e2 e3
  clear hcx hrk
  have hr0 : Hid (b.nodes[0]? = some b.nodes[0]) := List.getElem?_eq_getElem hnl
  generalize b.nodes[0] = r at *
  obtain ⟨rname, rtext, rparent, rattrs⟩ := r
  simp only at e0 e1 e2 e3
  have hk9 : (0 : Int) < (n' : Int) := by omega
  have hk8 : (0 : Int) < (n : Int) := by omega
  have st := IsbAt.of (tB := 27) (tN := 33) (u := .slice (some ⟨b1, off1, none⟩) n c) (v := .slice (some ⟨b0, off0, none⟩) n' c') (x0 := .string rname) (x1 := .string rtext) (x2 := .int .i64 rparent) (x3 := .slice Ax rattrs.length cx) w
  by_cases hroot : rname = pageS ∧ rparent = -1 ∧ rtext.size = 0 ∧ rattrs.length = 0
  rotate_left
  · have hno : Hid (¬ IsB b) := fun h => by
      obtain ⟨r, h1, h2, h3, h4, h5⟩ := h.r0
      rw [hr0.out] at h1
      obtain rfl := Option.some.inj h1
      exact hroot ⟨h2, h3, h4, h5⟩
    by_cases hnm : rname = pageS
    rotate_left
    · have hs : (rname.toList == [112, 97, 103, 101]) = false := by rw [str_lit_eq]; simpa [pageS] using hnm
      have hs2 : (rname.toList != [112, 97, 103, 101]) = true := by rw [bne, hs]; rfl
      clear hroot
      go_enter Try.func18, Try.ntmps18
      go_wp2_with (go_at_call 47; refine (inRange_impl _ _ _ _).mono ?_; rintro e w' ⟨rfl, rfl⟩; first | rw [hq1] | rw [hq2])
      go_ret
      exact GotIs.no rfl hno.out (st.below)
    have hs : (rname.toList == [112, 97, 103, 101]) = true := by rw [str_lit_eq]; simpa [pageS] using hnm
    have hs2 : (rname.toList != [112, 97, 103, 101]) = false := by rw [bne, hs]; rfl
    have hs3 : rname.toList = [112, 97, 103, 101] := by simpa using hs
    by_cases hpa : rparent = -1
    rotate_left
    · have hp2 : (rparent != -1) = true := by simpa using hpa
      clear hroot hnm
      go_enter Try.func18, Try.ntmps18
      go_wp2_with (go_at_call 47; refine (inRange_impl _ _ _ _).mono ?_; rintro e w' ⟨rfl, rfl⟩; first | rw [hq1] | rw [hq2])
      go_ret
      exact GotIs.no rfl hno.out (st.below)
    subst hpa
    by_cases htx : rtext.size = 0
    rotate_left
    · have hnt := toList_ne htx
      clear hroot hnm
      go_enter Try.func18, Try.ntmps18
      go_wp2_with (go_at_call 47; refine (inRange_impl _ _ _ _).mono ?_; rintro e w' ⟨rfl, rfl⟩; first | rw [hq1] | rw [hq2])
      go_ret
      exact GotIs.no rfl hno.out (st.below)
    obtain rfl := bytes_nil htx
    have hemp : (⟨#[]⟩ : ByteArray).toList.isEmpty = true := by rw [Lib.toList_data]; rfl
    have hat : ¬ rattrs.length = 0 := fun h => hroot ⟨hnm, rfl, htx, h⟩
    have hat2 : decide ((0 : Int) < (rattrs.length : Int)) = true := by simp; exact Nat.pos_of_ne_zero hat
    clear hroot hnm htx
    go_enter Try.func18, Try.ntmps18
    go_wp2_with (go_at_call 47; refine (inRange_impl _ _ _ _).mono ?_; rintro e w' ⟨rfl, rfl⟩; first | rw [hq1] | rw [hq2])
    go_ret
    exact GotIs.no rfl hno.out (st.below)
  obtain ⟨hnm, rfl, htx, hat⟩ := hroot
  obtain rfl := bytes_nil htx
  have hemp : (⟨#[]⟩ : ByteArray).toList.isEmpty = true := by rw [Lib.toList_data]; rfl
  have hat2 : rattrs.length ≤ 0 := by omega
  have hat5 : decide (0 < rattrs.length) = false := by simp; exact List.eq_nil_of_length_eq_zero hat
  have hs3 : rname.toList = [112, 97, 103, 101] := by rw [hnm, pageS, Lib.toList_data]
  have hs : (rname.toList == [112, 97, 103, 101]) = true := by simp [hs3]
  have hs2 : (rname.toList != [112, 97, 103, 101]) = false := by simp [hs3]
  have hroot : Hid (∃ r, b.nodes[0]? = some r ∧ r.name = pageS ∧ r.parent = -1 ∧ r.text.size = 0 ∧ r.attrs.length = 0) := ⟨_, hr0.out, hnm, rfl, rfl, hat⟩
  clear hnm htx hat hr0
  go_enter Try.func18, Try.ntmps18
  go_wp2_with (go_at_call 47; refine (inRange_impl _ _ _ _).mono ?_; rintro e w' ⟨rfl, rfl⟩; first | rw [hq1] | rw [hq2])
  go_loopw [55] (fun i wr => ∃ k : Nat, k ≤ n ∧ i = .int .i64 k ∧ Hid (∀ j (h : j < b.nodes.length), 1 ≤ j → j < k → nodeB b j b.nodes[j] = true) ∧ Below (w.heap.size + 1 + 1) ((w.alloc (.cells #[.slice (some ⟨b1, off1, none⟩) n c, .slice (some ⟨b0, off0, none⟩) n' c'] 27)).alloc (.cells #[.string rname, .string ⟨#[]⟩, .int .i64 (-1), .slice Ax rattrs.length cx] 33)) wr) (fun i _ => n - (intOf i).toNat)
  case atStart => exact ⟨0, Nat.zero_le _, rfl, fun j _ h1 h2 => by omega, Below.refl _ _⟩
  case round =>
    obtain ⟨k, hk2, rfl, hall, hbel⟩ := hrel
    have st' := st.next (by simp only [World.size_alloc]; exact hbel)
    obtain ⟨⟨f00, f01⟩, ⟨f10, f11, f12, f13⟩⟩ := st'.facts
    have hrd := hx.1.next st'.below
    by_cases hlt : k < n
    · have hkl : k < b.nodes.length := by rw [hl.out.1]; exact hlt
      have hk90 : (k : Int) < (n : Int) := by omega
      have hk91 : (0 : Int) ≤ (k : Int) := by omega
      obtain ⟨b2, off2, hA, hb2, hcy⟩ := hrd.nod hlt
      injection hA with hA
      injection hA with hA1 hA2
      subst hA1 hA2
      obtain ⟨Ay, cy, hrk, d0, d1, d2, d3⟩ := hcy hkl
      clear hcy hrk
      have hzk := hz _ (List.getElem_mem hkl)
      have hfail : 1 ≤ k → nodeB b k b.nodes[k] = false → Hid (¬ IsB b) := fun hk1 hf h => by
        have h1 := h.nd k hkl hk1
        rw [hf] at h1
        cases h1
      have hstep : (1 ≤ k → nodeB b k b.nodes[k] = true) → Hid (∀ j (h : j < b.nodes.length), 1 ≤ j → j < k + 1 → nodeB b j b.nodes[j] = true) := fun hf j h h1 h2 => by
        by_cases e : j = k
        · subst e; exact hf h1
        · exact hall.out j h h1 (by omega)
      clear hall
      generalize b.nodes[k] = x at *
      obtain ⟨name, text, parent, attrs⟩ := x
      simp only at d0 d1 d2 d3 hzk
      by_cases hk0 : k = 0
      · have hall2 := hstep (fun h => by omega)
        subst hk0
        simp only [Nat.zero_mul, Nat.add_zero] at d0 d1 d2 d3
        clear hfail hstep hrd
        go_wp2
        go_roundw
        case rel => exact ⟨0 + 1, by omega, by go_num, hall2, hbel.alloc (by have := hbel.size; simp at this; omega) _⟩
        case measure => simp [intOf]; omega
      have hk1 : 1 ≤ k := by omega
      replace hfail := hfail hk1
      replace hstep : nodeB b k ⟨name, text, parent, attrs⟩ = true → _ := fun h => hstep (fun _ => h)
      have e0 : ((k : Int) == 0) = false := by simp; omega
      have hba := (Below.refl wr.heap.size wr).alloc (Nat.le_refl _) (.cells #[.string name, .string text, .int .i64 parent, .slice Ay attrs.length cy] 33)
      have st2 := st'.next hba
      obtain ⟨⟨h00, h01⟩, ⟨h10, h11, h12, h13⟩⟩ := st2.facts
      have hcall := isOpenable_impl (c := c) (A' := some ⟨b0, off0, none⟩) (n' := n') (c' := c') parent _ (hrd.next hba) hn
      clear hrd hk0
      by_cases hpk : parent < k
      · have hd : decide ((k : Int) ≤ parent) = false := by simp; omega
        cases hop : opnB b parent
        · have hno := hfail (by simp [nodeB, hop])
          clear hfail hstep
          rcases body_cases name text attrs.length with ⟨hnb, h1, h2⟩ | ⟨hnb, h1, h2⟩ | ⟨h1, h2⟩ | ⟨h1, h2, h3⟩ | ⟨h1, h2, h3⟩ | ⟨hnb, h1⟩
          · obtain rfl := bytes_nil h2
            have c1 := toList_ne h1
            have c2 := empty_list
            try clear h3
            try clear h2
            try clear h1
            go_wp2_with (first | (go_at_call 48; refine (isName_impl _ hzk _).mono ?_; rintro e w6 ⟨rfl, rfl⟩; simp only [hnb]) | (go_at_call 49; refine hcall.mono ?_; rintro e w7 ⟨rfl, b7⟩; rw [hop]))
            go_ret
            exact GotIs.no rfl hno.out (st2.below.trans (b7.mono st2.below.size))
          · have c1 := toList_ne h1
            have c2 := toList_ne h2
            try clear h3
            try clear h2
            try clear h1
            go_wp2_with (first | (go_at_call 48; refine (isName_impl _ hzk _).mono ?_; rintro e w6 ⟨rfl, rfl⟩; simp only [hnb]) | (go_at_call 49; refine hcall.mono ?_; rintro e w7 ⟨rfl, b7⟩; rw [hop]))
            go_ret
            exact GotIs.no rfl hno.out (st2.below.trans (b7.mono st2.below.size))
          · obtain rfl := bytes_nil h1
            obtain rfl := bytes_nil h2
            have hnb := empty_name
            have c2 := empty_list
            try clear h3
            try clear h2
            try clear h1
            go_wp2_with (first | (go_at_call 48; refine (isName_impl _ hzk _).mono ?_; rintro e w6 ⟨rfl, rfl⟩; simp only [hnb]) | (go_at_call 49; refine hcall.mono ?_; rintro e w7 ⟨rfl, b7⟩; rw [hop]))
            go_ret
            exact GotIs.no rfl hno.out (st2.below.trans (b7.mono st2.below.size))
          · obtain rfl := bytes_nil h1
            have hnb := empty_name
            have c1 := empty_list
            have c2 := toList_ne h2
            have c3 : ((attrs.length : Int) == 0) = true := by simp; exact List.eq_nil_of_length_eq_zero h3
            try clear h3
            try clear h2
            try clear h1
            go_wp2_with (first | (go_at_call 48; refine (isName_impl _ hzk _).mono ?_; rintro e w6 ⟨rfl, rfl⟩; simp only [hnb]) | (go_at_call 49; refine hcall.mono ?_; rintro e w7 ⟨rfl, b7⟩; rw [hop]))
            go_ret
            exact GotIs.no rfl hno.out (st2.below.trans (b7.mono st2.below.size))
          · obtain rfl := bytes_nil h1
            have hnb := empty_name
            have c1 := empty_list
            have c2 := toList_ne h2
            have c3 : ((attrs.length : Int) == 0) = false := by simp; intro h; exact h3 (by rw [h]; rfl)
            try clear h3
            try clear h2
            try clear h1
            go_wp2_with (first | (go_at_call 48; refine (isName_impl _ hzk _).mono ?_; rintro e w6 ⟨rfl, rfl⟩; simp only [hnb]) | (go_at_call 49; refine hcall.mono ?_; rintro e w7 ⟨rfl, b7⟩; rw [hop]))
            go_ret
            exact GotIs.no rfl hno.out (st2.below.trans (b7.mono st2.below.size))
          · have c1 := toList_ne h1
            try clear h3
            try clear h2
            try clear h1
            go_wp2_with (first | (go_at_call 48; refine (isName_impl _ hzk _).mono ?_; rintro e w6 ⟨rfl, rfl⟩; simp only [hnb]) | (go_at_call 49; refine hcall.mono ?_; rintro e w7 ⟨rfl, b7⟩; rw [hop]))
            go_ret
            exact GotIs.no rfl hno.out (st2.below.trans (b7.mono st2.below.size))
        · clear hd
          have hd : decide ((k : Int) ≤ parent) = false := by simp; omega
          rcases body_cases name text attrs.length with ⟨hnb, h1, h2⟩ | ⟨hnb, h1, h2⟩ | ⟨h1, h2⟩ | ⟨h1, h2, h3⟩ | ⟨h1, h2, h3⟩ | ⟨hnb, h1⟩
          · obtain rfl := bytes_nil h2
            have c1 := toList_ne h1
            have c2 := empty_list
            have hbd : bodyB ⟨name, ⟨#[]⟩, parent, attrs⟩ = true := by simp only [bodyB, hnb]; rfl
            have hall2 := hstep (by simp [nodeB, hbd, hop, hpk])
            clear hbd hfail hstep
            try clear h3
            try clear h2
            try clear h1
            go_wp2_with (first | (go_at_call 48; refine (isName_impl _ hzk _).mono ?_; rintro e w6 ⟨rfl, rfl⟩; simp only [hnb]) | (go_at_call 49; refine hcall.mono ?_; rintro e w7 ⟨rfl, b7⟩; rw [hop]))
            go_roundw
            case rel => first | exact ⟨k + 1, by omega, by go_num, hall2, hbel.trans ((((Below.refl _ wr).alloc (Nat.le_refl _) _).trans (b7.mono (by simp))).mono (by have := hbel.size; simp at this; omega))⟩ | ((repeat apply Exists.intro); exact ⟨⟨k + 1, by omega, by go_num, hall2, hbel.trans ((((Below.refl _ wr).alloc (Nat.le_refl _) _).trans (b7.mono (by simp))).mono (by have := hbel.size; simp at this; omega))⟩, rfl⟩)
            case measure => simp [intOf]; omega
          · have c1 := toList_ne h1
            have c2 := toList_ne h2
            have hbd : bodyB ⟨name, text, parent, attrs⟩ = false := by simp [bodyB, h1, h2]
            have hno := hfail (by simp [nodeB, hbd])
            clear hbd hfail hstep
            try clear h3
            try clear h2
            try clear h1
            go_wp2_with (first | (go_at_call 48; refine (isName_impl _ hzk _).mono ?_; rintro e w6 ⟨rfl, rfl⟩; simp only [hnb]) | (go_at_call 49; refine hcall.mono ?_; rintro e w7 ⟨rfl, b7⟩; rw [hop]))
            go_ret
            exact GotIs.no rfl hno.out (st2.below.trans (b7.mono st2.below.size))
          · obtain rfl := bytes_nil h1
            obtain rfl := bytes_nil h2
            have hnb := empty_name
            have c2 := empty_list
            have hbd : bodyB ⟨⟨#[]⟩, ⟨#[]⟩, parent, attrs⟩ = false := by simp [bodyB, empty_name]
            have hno := hfail (by simp [nodeB, hbd])
            clear hbd hfail hstep
            try clear h3
            try clear h2
            try clear h1
            go_wp2_with (first | (go_at_call 48; refine (isName_impl _ hzk _).mono ?_; rintro e w6 ⟨rfl, rfl⟩; simp only [hnb]) | (go_at_call 49; refine hcall.mono ?_; rintro e w7 ⟨rfl, b7⟩; rw [hop]))
            go_ret
            exact GotIs.no rfl hno.out (st2.below.trans (b7.mono st2.below.size))
          · obtain rfl := bytes_nil h1
            have hnb := empty_name
            have c1 := empty_list
            have c2 := toList_ne h2
            have c3 : ((attrs.length : Int) == 0) = true := by simp; exact List.eq_nil_of_length_eq_zero h3
            have hbd : bodyB ⟨⟨#[]⟩, text, parent, attrs⟩ = true := by simp [bodyB, h1, h2, h3]
            have hall2 := hstep (by simp [nodeB, hbd, hop, hpk])
            clear hbd hfail hstep
            try clear h3
            try clear h2
            try clear h1
            go_wp2_with (first | (go_at_call 48; refine (isName_impl _ hzk _).mono ?_; rintro e w6 ⟨rfl, rfl⟩; simp only [hnb]) | (go_at_call 49; refine hcall.mono ?_; rintro e w7 ⟨rfl, b7⟩; rw [hop]))
            go_roundw
            case rel => first | exact ⟨k + 1, by omega, by go_num, hall2, hbel.trans ((((Below.refl _ wr).alloc (Nat.le_refl _) _).trans (b7.mono (by simp))).mono (by have := hbel.size; simp at this; omega))⟩ | ((repeat apply Exists.intro); exact ⟨⟨k + 1, by omega, by go_num, hall2, hbel.trans ((((Below.refl _ wr).alloc (Nat.le_refl _) _).trans (b7.mono (by simp))).mono (by have := hbel.size; simp at this; omega))⟩, rfl⟩)
            case measure => simp [intOf]; omega
          · obtain rfl := bytes_nil h1
            have hnb := empty_name
            have c1 := empty_list
            have c2 := toList_ne h2
            have c3 : ((attrs.length : Int) == 0) = false := by simp; intro h; exact h3 (by rw [h]; rfl)
            have hbd : bodyB ⟨⟨#[]⟩, text, parent, attrs⟩ = false := by simp [bodyB, empty_name, h2, h3]
            have hno := hfail (by simp [nodeB, hbd])
            clear hbd hfail hstep
            try clear h3
            try clear h2
            try clear h1
            go_wp2_with (first | (go_at_call 48; refine (isName_impl _ hzk _).mono ?_; rintro e w6 ⟨rfl, rfl⟩; simp only [hnb]) | (go_at_call 49; refine hcall.mono ?_; rintro e w7 ⟨rfl, b7⟩; rw [hop]))
            go_ret
            exact GotIs.no rfl hno.out (st2.below.trans (b7.mono st2.below.size))
          · have c1 := toList_ne h1
            have hbd : bodyB ⟨name, text, parent, attrs⟩ = false := by simp [bodyB, hnb, h1]
            have hno := hfail (by simp [nodeB, hbd])
            clear hbd hfail hstep
            try clear h3
            try clear h2
            try clear h1
            go_wp2_with (first | (go_at_call 48; refine (isName_impl _ hzk _).mono ?_; rintro e w6 ⟨rfl, rfl⟩; simp only [hnb]) | (go_at_call 49; refine hcall.mono ?_; rintro e w7 ⟨rfl, b7⟩; rw [hop]))
            go_ret
            exact GotIs.no rfl hno.out (st2.below.trans (b7.mono st2.below.size))
      · have hd : decide ((k : Int) ≤ parent) = true := by simp; omega
        have hno := hfail (by simp [nodeB, hpk])
        clear hfail hstep hcall
        have hzq := hzk
        · skip
          rcases body_cases name text attrs.length with ⟨hnb, h1, h2⟩ | ⟨hnb, h1, h2⟩ | ⟨h1, h2⟩ | ⟨h1, h2, h3⟩ | ⟨h1, h2, h3⟩ | ⟨hnb, h1⟩
          · obtain rfl := bytes_nil h2
            have c1 := toList_ne h1
            have c2 := empty_list
            try clear h3
            try clear h2
            try clear h1
            go_wp2_with (first | (go_at_call 48; refine (isName_impl _ hzk _).mono ?_; rintro e w6 ⟨rfl, rfl⟩; simp only [hnb]))
            go_ret
            exact GotIs.no rfl hno.out (st2.below)
          · have c1 := toList_ne h1
            have c2 := toList_ne h2
            try clear h3
            try clear h2
            try clear h1
            go_wp2_with (first | (go_at_call 48; refine (isName_impl _ hzk _).mono ?_; rintro e w6 ⟨rfl, rfl⟩; simp only [hnb]))
            go_ret
            exact GotIs.no rfl hno.out (st2.below)
          · obtain rfl := bytes_nil h1
            obtain rfl := bytes_nil h2
            have hnb := empty_name
            have c2 := empty_list
            try clear h3
            try clear h2
            try clear h1
            go_wp2_with (first | (go_at_call 48; refine (isName_impl _ hzk _).mono ?_; rintro e w6 ⟨rfl, rfl⟩; simp only [hnb]))
            go_ret
            exact GotIs.no rfl hno.out (st2.below)
          · obtain rfl := bytes_nil h1
            have hnb := empty_name
            have c1 := empty_list
            have c2 := toList_ne h2
            have c3 : ((attrs.length : Int) == 0) = true := by simp; exact List.eq_nil_of_length_eq_zero h3
            try clear h3
            try clear h2
            try clear h1
            go_wp2_with (first | (go_at_call 48; refine (isName_impl _ hzk _).mono ?_; rintro e w6 ⟨rfl, rfl⟩; simp only [hnb]))
            go_ret
            exact GotIs.no rfl hno.out (st2.below)
          · obtain rfl := bytes_nil h1
            have hnb := empty_name
            have c1 := empty_list
            have c2 := toList_ne h2
            have c3 : ((attrs.length : Int) == 0) = false := by simp; intro h; exact h3 (by rw [h]; rfl)
            try clear h3
            try clear h2
            try clear h1
            go_wp2_with (first | (go_at_call 48; refine (isName_impl _ hzk _).mono ?_; rintro e w6 ⟨rfl, rfl⟩; simp only [hnb]))
            go_ret
            exact GotIs.no rfl hno.out (st2.below)
          · have c1 := toList_ne h1
            try clear h3
            try clear h2
            try clear h1
            go_wp2_with (first | (go_at_call 48; refine (isName_impl _ hzk _).mono ?_; rintro e w6 ⟨rfl, rfl⟩; simp only [hnb]))
            go_ret
            exact GotIs.no rfl hno.out (st2.below)
    · obtain rfl : n = k := by omega
      have hnd : Hid (∀ i (h : i < b.nodes.length), 1 ≤ i → nodeB b i b.nodes[i] = true) := fun i h h1 => hall.out i h h1 (by rw [← hl.out.1]; exact h)
      clear hall
      go_wp2
      go_loopw [107] (fun i wq => ∃ k : Nat, k ≤ n' ∧ i = .int .i64 k ∧ Hid (∀ j (h : j < b.opens.length), 1 ≤ j → j < k → chB b j b.opens[j] = true) ∧ Below wr.heap.size wr wq) (fun i _ => n' - (intOf i).toNat)
      case atStart => exact ⟨0, Nat.zero_le _, rfl, fun j _ h1 h2 => by omega, Below.refl _ _⟩
      case round =>
        rename_i wq
        obtain ⟨m, hm2, rfl, hch, hbq⟩ := hrel
        have st2 := st'.next hbq
        clear f00 f01 f10 f11 f12 f13
        obtain ⟨⟨f00, f01⟩, ⟨f10, f11, f12, f13⟩⟩ := st2.facts
        have hrd := hx.1.next st2.below
        have hro := (hx.2.below st2.below).more st2.below.size
        by_cases hlt : m < n'
        · have hml0 : m < b.opens.length := by rw [hl.out.2]; exact hlt
          obtain ⟨b2, off2, hA, hb2, hcx⟩ := hro.num hlt
          injection hA with hA
          injection hA with hA1 hA2
          subst hA1 hA2
          have g1 := hcx hml0
          clear hcx
          have hm90' : (m : Int) < (n' : Int) := by omega
          have hm91' : (0 : Int) ≤ (m : Int) := by omega
          by_cases hm0 : m = 0
          · subst hm0
            have hall2 : Hid (∀ j (h : j < b.opens.length), 1 ≤ j → j < 0 + 1 → chB b j b.opens[j] = true) := fun j h h1 h2 => by omega
            generalize b.opens[0] = o at *
            simp only [Nat.add_zero] at g1
            clear hch hrd hro
            have hd0 : decide ((0 : Int) < 0) = false := by simp
            go_wp2
            go_quiet (fail)
            go_wp2
            go_roundw
            case rel => first | exact ⟨0 + 1, by omega, by go_num, hall2, below_drewN hbq _⟩ | ((repeat apply Exists.intro); exact ⟨⟨0 + 1, by omega, by go_num, hall2, below_drewN hbq _⟩, rfl⟩)
            case measure => simp [intOf]; omega
          obtain ⟨p, rfl⟩ : ∃ p, m = p + 1 := ⟨m - 1, by omega⟩
          have hml : p + 1 < b.opens.length := hml0
          have hpl : p < b.opens.length := by omega
          obtain ⟨b2, off2, hA, hb2', hcx⟩ := hro.num (k := p) (by omega)
          injection hA with hA
          injection hA with hA1 hA2
          subst hA1 hA2
          have g2 := hcx hpl
          clear hcx hro
          have hq0 : Hid (b.opens[p]? = some b.opens[p]) := List.getElem?_eq_getElem hpl
          have hm90 : (p : Int) + 1 < (n' : Int) := by omega
          have hm91 : (0 : Int) ≤ (p : Int) + 1 := by omega
          have hm92 : (0 : Int) ≤ (p : Int) := by omega
          have hm93 : (p : Int) < (n' : Int) := by omega
          have hd1 : decide ((0 : Int) < (p : Int) + 1) = true := by first | (simp; done) | (simp; omega)
          have hd2 : (0 : Int) < (p : Int) + 1 := by omega
          have hw1 : IntKind.i64.wrap ((p : Int) + 1 - 1) = (p : Int) := by rw [IntKind.wrap_i64]; omega
          have hw2 : IntKind.i64.wrap (p : Int) = (p : Int) := by rw [IntKind.wrap_i64]; omega
          have hfail : chB b (p + 1) b.opens[p + 1] = false → Hid (¬ IsB b) := fun hf h => by
            have h1 := h.ch (p + 1) hml (by omega)
            rw [hf] at h1
            cases h1
          have hok : chB b (p + 1) b.opens[p + 1] = true → Hid (∀ j (h : j < b.opens.length), 1 ≤ j → j < p + 1 + 1 → chB b j b.opens[j] = true) := fun hf j h h1 h2 => by
            by_cases e : j = p + 1
            · subst e; exact hf
            · exact hch.out j h h1 (by omega)
          have hqpos : 0 ≤ b.opens[p] := by
            rcases Nat.eq_zero_or_pos p with h0 | h0
            · subst h0; rw [ho0.out]; exact Int.le_refl _
            · have h1 := hch.out p hpl h0 (by omega)
              simp only [chB, Bool.and_eq_true, decide_eq_true_eq] at h1
              omega
          clear hch
          generalize b.opens[p + 1] = o at *
          generalize b.opens[p] = q at *
          have hcall := fun W (h : ReadsN nodN W W.heap.size (some ⟨b1, off1, none⟩) n b.nodes) => isOpenable_impl (c := c) (A' := some ⟨b0, off0, none⟩) (n' := n') (c' := c') o W h hn
          cases hop : opnB b o
          · have hno := hfail (by simp [chB, hop])
            rw [hop] at hcall
            clear hfail hok
            go_wp2_with fail
            refine wp_region_held_drew (S := (fun v : World => v.cell? ⟨w.heap.size, 0, none⟩ = some (.slice (some ⟨b1, off1, none⟩) n c) ∧ v.cell? ⟨w.heap.size, 1, none⟩ = some (.slice (some ⟨b0, off0, none⟩) n' c'))) (by kernel_rfl) ⟨f00, f01⟩ ?_
            intro hSd
            try simp only [List.replicate, Array.replicate]
            refine wpAnyH_take (i := 0) (v := ?_) rfl (by kernel_rfl) (by kernel_rfl) (by kernel_rfl) (fun _ _ _ h => h) (Or.inl ⟨by rfl, ?_⟩) (by assumption) ?_
            rotate_left 1
            · intro wS hSw; (try dsimp only at hSw); go_simp
              all_goals with_reducible rfl
            try simp only [Act.put, List.getElem_toArray, List.getElem_cons_succ, List.getElem_cons_zero, List.setIfInBounds_toArray, List.set_cons_zero, List.set_cons_succ]
            refine wpAnyH_take (i := 1) (v := ?_) rfl (by kernel_rfl) (by kernel_rfl) (by kernel_rfl) (fun _ _ _ h => h) (Or.inl ⟨by rfl, ?_⟩) (by assumption) ?_
            rotate_left 1
            · intro wS hSw; (try dsimp only at hSw); go_simp
              all_goals with_reducible rfl
            try simp only [Act.put, List.getElem_toArray, List.getElem_cons_succ, List.getElem_cons_zero, List.setIfInBounds_toArray, List.set_cons_zero, List.set_cons_succ]
            refine wpAnyH_take (i := 2) (v := ?_) rfl (by kernel_rfl) (by kernel_rfl) (by kernel_rfl) (fun _ _ _ h => h) (Or.inl ⟨by rfl, ?_⟩) (by assumption) ?_
            rotate_left 1
            · intro wS hSw; (try dsimp only at hSw); go_simp
              all_goals with_reducible rfl
            try simp only [Act.put, List.getElem_toArray, List.getElem_cons_succ, List.getElem_cons_zero, List.setIfInBounds_toArray, List.set_cons_zero, List.set_cons_succ]
            refine wpAnyH_take (i := 3) (v := ?_) rfl (by kernel_rfl) (by kernel_rfl) (by kernel_rfl) (fun _ _ _ h => h) (Or.inl ⟨by rfl, ?_⟩) (by assumption) ?_
            rotate_left 1
            · intro wS hSw; (try dsimp only at hSw); go_simp
              all_goals with_reducible rfl
            try simp only [Act.put, List.getElem_toArray, List.getElem_cons_succ, List.getElem_cons_zero, List.setIfInBounds_toArray, List.set_cons_zero, List.set_cons_succ]
            refine wpAnyH_take (i := 4) (v := ?_) rfl (by kernel_rfl) (by kernel_rfl) (by kernel_rfl) (fun _ _ _ h => h) (Or.inl ⟨by rfl, ?_⟩) (by assumption) ?_
            rotate_left 1
            · intro wS hSw; (try dsimp only at hSw); go_simp
              all_goals with_reducible rfl
            try simp only [Act.put, List.getElem_toArray, List.getElem_cons_succ, List.getElem_cons_zero, List.setIfInBounds_toArray, List.set_cons_zero, List.set_cons_succ]
            refine wpAnyH_ready (rs := [5]) (by kernel_rfl) (by simp) ?_
            refine AllReadyH.cons rfl (fun K hK => ?_) AllReadyH.nil
            go_simp
            refine (hcall _ (by first | exact hrd | exact hrd.drew)).mono ?_
            rintro e w7 ⟨rfl, b7⟩
            have b7' : Below wr.heap.size wr w7 := (Below.refl _ wr).drew.trans b7
            have st7 := st2.next b7'
            obtain ⟨⟨k00, k01⟩, ⟨k10, k11, k12, k13⟩⟩ := st7.facts
            refine hK.out _ _ ⟨k00, k01⟩ (fun hSe => ?_)
            clear hK K hSd
            try simp only [Act.put, List.getElem_toArray, List.getElem_cons_succ, List.getElem_cons_zero, List.setIfInBounds_toArray, List.set_cons_zero, List.set_cons_succ]
            refine wpAnyH_take (i := 6) (v := ?_) rfl (by kernel_rfl) (by kernel_rfl) (by kernel_rfl) (fun _ _ _ h => h) (Or.inl ⟨by rfl, ?_⟩) (by assumption) ?_
            rotate_left 1
            · intro wS hSw; (try dsimp only at hSw); go_simp
              all_goals with_reducible rfl
            try simp only [Act.put, List.getElem_toArray, List.getElem_cons_succ, List.getElem_cons_zero, List.setIfInBounds_toArray, List.set_cons_zero, List.set_cons_succ]
            refine wpAnyH_take (i := 7) (v := ?_) rfl (by kernel_rfl) (by kernel_rfl) (by kernel_rfl) (fun _ _ _ h => h) (Or.inl ⟨by rfl, ?_⟩) (by assumption) ?_
            rotate_left 1
            · intro wS hSw; (try dsimp only at hSw); go_simp
              all_goals with_reducible rfl
            try simp only [Act.put, List.getElem_toArray, List.getElem_cons_succ, List.getElem_cons_zero, List.setIfInBounds_toArray, List.set_cons_zero, List.set_cons_succ]
            refine wpAnyH_take (i := 8) (v := undef) rfl (by kernel_rfl) (by kernel_rfl) (by kernel_rfl) (fun _ _ _ h => h) (Or.inr ⟨by rfl, rfl⟩) (by assumption) ?_
            try simp only [Act.put, List.getElem_toArray, List.getElem_cons_succ, List.getElem_cons_zero, List.setIfInBounds_toArray, List.set_cons_zero, List.set_cons_succ]
            refine wpAnyH_take (i := 9) (v := undef) rfl (by kernel_rfl) (by kernel_rfl) (by kernel_rfl) (fun _ _ _ h => h) (Or.inr ⟨by rfl, rfl⟩) (by assumption) ?_
            try simp only [Act.put, List.getElem_toArray, List.getElem_cons_succ, List.getElem_cons_zero, List.setIfInBounds_toArray, List.set_cons_zero, List.set_cons_succ]
            refine wpAnyH_take (i := 10) (v := undef) rfl (by kernel_rfl) (by kernel_rfl) (by kernel_rfl) (fun _ _ _ h => h) (Or.inr ⟨by rfl, rfl⟩) (by assumption) ?_
            try simp only [Act.put, List.getElem_toArray, List.getElem_cons_succ, List.getElem_cons_zero, List.setIfInBounds_toArray, List.set_cons_zero, List.set_cons_succ]
            refine wpAnyH_take (i := 11) (v := undef) rfl (by kernel_rfl) (by kernel_rfl) (by kernel_rfl) (fun _ _ _ h => h) (Or.inr ⟨by rfl, rfl⟩) (by assumption) ?_
            try simp only [Act.put, List.getElem_toArray, List.getElem_cons_succ, List.getElem_cons_zero, List.setIfInBounds_toArray, List.set_cons_zero, List.set_cons_succ]
            refine wpAnyH_take (i := 12) (v := undef) rfl (by kernel_rfl) (by kernel_rfl) (by kernel_rfl) (fun _ _ _ h => h) (Or.inr ⟨by rfl, rfl⟩) (by assumption) ?_
            try simp only [Act.put, List.getElem_toArray, List.getElem_cons_succ, List.getElem_cons_zero, List.setIfInBounds_toArray, List.set_cons_zero, List.set_cons_succ]
            refine wpAnyH_take (i := 13) (v := undef) rfl (by kernel_rfl) (by kernel_rfl) (by kernel_rfl) (fun _ _ _ h => h) (Or.inr ⟨by rfl, rfl⟩) (by assumption) ?_
            try simp only [Act.put, List.getElem_toArray, List.getElem_cons_succ, List.getElem_cons_zero, List.setIfInBounds_toArray, List.set_cons_zero, List.set_cons_succ]
            refine wpAnyH_take (i := 14) (v := undef) rfl (by kernel_rfl) (by kernel_rfl) (by kernel_rfl) (fun _ _ _ h => h) (Or.inr ⟨by rfl, rfl⟩) (by assumption) ?_
            try simp only [Act.put, List.getElem_toArray, List.getElem_cons_succ, List.getElem_cons_zero, List.setIfInBounds_toArray, List.set_cons_zero, List.set_cons_succ]
            refine wpAnyH_take (i := 15) (v := undef) rfl (by kernel_rfl) (by kernel_rfl) (by kernel_rfl) (fun _ _ _ h => h) (Or.inr ⟨by rfl, rfl⟩) (by assumption) ?_
            try simp only [Act.put, List.getElem_toArray, List.getElem_cons_succ, List.getElem_cons_zero, List.setIfInBounds_toArray, List.set_cons_zero, List.set_cons_succ]
            refine wpAnyH_take (i := 16) (v := undef) rfl (by kernel_rfl) (by kernel_rfl) (by kernel_rfl) (fun _ _ _ h => h) (Or.inr ⟨by rfl, rfl⟩) (by assumption) ?_
            try simp only [Act.put, List.getElem_toArray, List.getElem_cons_succ, List.getElem_cons_zero, List.setIfInBounds_toArray, List.set_cons_zero, List.set_cons_succ]
            refine wpAnyH_take (i := 17) (v := undef) rfl (by kernel_rfl) (by kernel_rfl) (by kernel_rfl) (fun _ _ _ h => h) (Or.inr ⟨by rfl, rfl⟩) (by assumption) ?_
            try simp only [Act.put, List.getElem_toArray, List.getElem_cons_succ, List.getElem_cons_zero, List.setIfInBounds_toArray, List.set_cons_zero, List.set_cons_succ]
            refine wpAnyH_take (i := 18) (v := undef) rfl (by kernel_rfl) (by kernel_rfl) (by kernel_rfl) (fun _ _ _ h => h) (Or.inr ⟨by rfl, rfl⟩) (by assumption) ?_
            try simp only [Act.put, List.getElem_toArray, List.getElem_cons_succ, List.getElem_cons_zero, List.setIfInBounds_toArray, List.set_cons_zero, List.set_cons_succ]
            refine wpAnyH_take (i := 19) (v := undef) rfl (by kernel_rfl) (by kernel_rfl) (by kernel_rfl) (fun _ _ _ h => h) (Or.inr ⟨by rfl, rfl⟩) (by assumption) ?_
            try simp only [Act.put, List.getElem_toArray, List.getElem_cons_succ, List.getElem_cons_zero, List.setIfInBounds_toArray, List.set_cons_zero, List.set_cons_succ]
            refine wpAnyH_take (i := 20) (v := undef) rfl (by kernel_rfl) (by kernel_rfl) (by kernel_rfl) (fun _ _ _ h => h) (Or.inr ⟨by rfl, rfl⟩) (by assumption) ?_
            try simp only [Act.put, List.getElem_toArray, List.getElem_cons_succ, List.getElem_cons_zero, List.setIfInBounds_toArray, List.set_cons_zero, List.set_cons_succ]
            refine wpAnyH_take (i := 21) (v := ?_) rfl (by kernel_rfl) (by kernel_rfl) (by kernel_rfl) (fun _ _ _ h => h) (Or.inl ⟨by rfl, ?_⟩) (by assumption) ?_
            rotate_left 1
            · intro wS hSw; (try dsimp only at hSw); go_simp
              all_goals with_reducible rfl
            try simp only [Act.put, List.getElem_toArray, List.getElem_cons_succ, List.getElem_cons_zero, List.setIfInBounds_toArray, List.set_cons_zero, List.set_cons_succ]
            refine wpAnyH_take (i := 22) (v := ?_) rfl (by kernel_rfl) (by kernel_rfl) (by kernel_rfl) (fun _ _ _ h => h) (Or.inl ⟨by rfl, ?_⟩) (by assumption) ?_
            rotate_left 1
            · intro wS hSw; (try dsimp only at hSw); go_simp
              all_goals with_reducible rfl
            try simp only [Act.put, List.getElem_toArray, List.getElem_cons_succ, List.getElem_cons_zero, List.setIfInBounds_toArray, List.set_cons_zero, List.set_cons_succ]
            refine wpAnyH_done (by kernel_rfl) ?_ _
            go_wp2
            go_ret
            exact GotIs.no rfl hno.out (st7.below)
          obtain ⟨j, rfl, hjl, hnz, hvd⟩ := opnB_in hop
          have hj : j < n := by rw [← hl.out.1]; exact hjl
          obtain ⟨b2, off2, hA, hb2, hcy⟩ := hrd.nod hj
          injection hA with hA
          injection hA with hA1 hA2
          subst hA1 hA2
          obtain ⟨Ay, cy, hrk, d0, d1, d2, d3⟩ := hcy hjl
          have hca := chB_at (i := p) (j := j) hjl hq0.out
          have hroot0 : j = 0 → b.nodes[j].parent = -1 := fun h => by
            subst h
            obtain ⟨r, h1, h2, h3, h4, h5⟩ := hroot.out
            rw [List.getElem?_eq_getElem hjl] at h1
            obtain rfl := Option.some.inj h1
            exact h3
          clear hcy hrk d0 d1 d3 hnz hvd
          generalize b.nodes[j].parent = pa at *
          have hk0 : (0 : Int) ≤ (j : Int) := by omega
          have hk9 : (j : Int) < (n : Int) := by omega
          rw [hop] at hcall
          by_cases hpq : pa = q
          · subst hpq
            have hj1 : (1 : Int) ≤ (j : Int) := by
              rcases Nat.eq_zero_or_pos j with h0 | h0
              · have := hroot0 h0; omega
              · omega
            have hall2 := hok (by rw [hca, hop]; simp [hj1])
            have hpp : (pa != pa) = false := by simp
            clear hfail hok hca hroot0
            go_wp2_with fail
            go_region_held3 (fun v : World => v.cell? ⟨w.heap.size, 0, none⟩ = some (.slice (some ⟨b1, off1, none⟩) n c) ∧ v.cell? ⟨w.heap.size, 1, none⟩ = some (.slice (some ⟨b0, off0, none⟩) n' c') ∧ v.cell? ⟨b1, off1 + j * 4 + 2, none⟩ = some (.int .i64 pa) ∧ v.cell? ⟨b0, off0 + p, none⟩ = some (.int .i64 pa))
              ((first | exact ⟨f00, f01, d2, g2⟩ | exact ⟨k00, k01, kd2, kg2⟩))
              (first
                | (go_at_call 49
                   refine (hcall _ (by first | exact hrd | exact hrd.drew)).mono ?_
                   rintro e w7 ⟨rfl, b7⟩
                   have b7' : Below wr.heap.size wr w7 := (Below.refl _ wr).drew.trans b7
                   have st7 := st2.next b7'
                   have kd2 := (b7'.cell (p := ⟨b1, off1 + j * 4 + 2, none⟩) hb2).trans d2
                   have kg2 := (b7'.cell (p := ⟨b0, off0 + p, none⟩) hb2').trans g2
                   obtain ⟨⟨k00, k01⟩, ⟨k10, k11, k12, k13⟩⟩ := st7.facts))
            all_goals
              go_wp2
              go_roundw
              case rel => first | exact ⟨p + 1 + 1, by omega, by go_num, hall2, hbq.trans (b7'.mono hbq.size)⟩ | ((repeat apply Exists.intro); exact ⟨⟨p + 1 + 1, by omega, by go_num, hall2, hbq.trans (b7'.mono hbq.size)⟩, rfl⟩)
              case measure => simp [intOf]; omega
          · have hno := hfail (by rw [hca]; simp [hpq])
            have hpp : (pa != q) = true := by simpa using hpq
            clear hfail hok hca hpq
            go_wp2_with fail
            go_region_held3 (fun v : World => v.cell? ⟨w.heap.size, 0, none⟩ = some (.slice (some ⟨b1, off1, none⟩) n c) ∧ v.cell? ⟨w.heap.size, 1, none⟩ = some (.slice (some ⟨b0, off0, none⟩) n' c') ∧ v.cell? ⟨b1, off1 + j * 4 + 2, none⟩ = some (.int .i64 pa) ∧ v.cell? ⟨b0, off0 + p, none⟩ = some (.int .i64 q))
              ((first | exact ⟨f00, f01, d2, g2⟩ | exact ⟨k00, k01, kd2, kg2⟩))
              (first
                | (go_at_call 49
                   refine (hcall _ (by first | exact hrd | exact hrd.drew)).mono ?_
                   rintro e w7 ⟨rfl, b7⟩
                   have b7' : Below wr.heap.size wr w7 := (Below.refl _ wr).drew.trans b7
                   have st7 := st2.next b7'
                   have kd2 := (b7'.cell (p := ⟨b1, off1 + j * 4 + 2, none⟩) hb2).trans d2
                   have kg2 := (b7'.cell (p := ⟨b0, off0 + p, none⟩) hb2').trans g2
                   obtain ⟨⟨k00, k01⟩, ⟨k10, k11, k12, k13⟩⟩ := st7.facts))
            all_goals
              go_wp2
              go_ret
              exact GotIs.no rfl hno.out (st7.below)
        · obtain rfl : n' = m := by omega
          have hyes : Hid (IsB b) := ⟨by rw [hl.out.1]; omega, by rw [hl.out.2]; omega, by rw [List.getElem?_eq_getElem hol, ho0.out], hroot.out, hnd.out, fun i h h1 => hch.out i h h1 (by rw [← hl.out.2]; exact h)⟩
          clear hch hrd hro
          go_wp2
          go_ret
          exact GotIs.yes rfl hyes.out st2.below
end Go.Proofs.Ytleopmeaaabejaa
