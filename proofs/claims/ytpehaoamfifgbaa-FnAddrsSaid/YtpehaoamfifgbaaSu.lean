/-
  Contract of SortAddrs of the program. Condition: at most 2^30 elements.
-/
import Derived.Test.YtpehaoamfifgbaaSs
import Derived.Test.YtpehaoamfifgbaaSq
import Derived.Test.YtpehaoamfifgbaaShf
import Derived.Shelf.SlSortCmp.NoneTotal
namespace Go.Proofs.Ytpehaoamfifgbaa
set_option linter.unusedVariables false
set_option linter.unusedSimpArgs false
set_option maxRecDepth 100000
open Go.ChangeShapes Go.WideShapes Go.ChangeAt Go.RowKit Go.Deep Go.Sort

def encA (a : S2) : List Value := [.string a.1, .string a.2]
theorem ltA (x y : S2) : ltOf cmpA x y = !leA y x := by simp [ltOf, leA]
theorem swoA : SWO (ltOf cmpA) where
  irrefl x := by simp [ltOf, cmpA_self]
  trans x y z h1 h2 := by
    simp only [ltOf, decide_eq_true_eq] at *
    exact cmpA_trans h1 h2
  ntrans x y z h1 h2 := by
    rw [ltA] at *
    simp only [Bool.not_eq_false'] at *
    exact leA_trans _ _ _ h2 h1
theorem sameA (x y : S2) (h1 : ltOf cmpA x y = false) (h2 : ltOf cmpA y x = false) : x = y := by
  simp only [ltOf, decide_eq_false_iff_not] at *
  rcases cmpA_vals x y with k | ⟨_, k⟩ | k
  · omega
  · exact k
  · exact absurd (by rw [cmpA_anti x y]; omega) h2
theorem sorted_eq (l : List S2) : (l.toArray.toList.mergeSort fun x y => !(ltOf cmpA) y x) = msA l := by
  have e : (fun x y => !(ltOf cmpA) y x) = leA := by
    funext x y
    rw [ltA]
    simp
  rw [e]
  rfl
theorem flat_list (l : List S2) : (flatK encA 2 l.toArray).toList = s2V l := by
  apply List.ext_getElem?
  intro i
  have hl := s2V_length l
  by_cases hi : i < l.length * 2
  · have hq : i / 2 < l.length := by omega
    have h1 : (flatK encA 2 l.toArray)[i]! = (encA l[i / 2])[i % 2]! := by
      rw [get_flatK _ _ _ _ (by simpa using hi)]
      simp [hq]
    have h2 : (flatK encA 2 l.toArray).toList[i]? = some ((encA l[i / 2])[i % 2]!) := by
      rw [← h1]
      have hs : i < (flatK encA 2 l.toArray).size := by simpa using hi
      rw [Array.getElem?_toList, Array.getElem?_eq_getElem hs, getElem!_pos (flatK encA 2 l.toArray) i hs]
    rw [h2]
    have e : i = (i / 2) * 2 ∨ i = (i / 2) * 2 + 1 := by omega
    rcases e with e | e
    · have hm : i % 2 = 0 := by omega
      rw [hm]
      conv => rhs; rw [e]
      rw [s2V_at0 hq]
      rfl
    · have hm : i % 2 = 1 := by omega
      rw [hm]
      conv => rhs; rw [e]
      rw [s2V_at1 hq]
      rfl
  · rw [List.getElem?_eq_none (by simp; omega), List.getElem?_eq_none (by omega)]
theorem own_holds {w : World} {lo e g n c : Nat} {l : List S2} (h : w.ownsRow lo e 2 (.slice (some ⟨g, 0, none⟩) n c) n (s2V l)) : HoldsK encA 2 w g 0 l.toArray := by
  intro j hj
  have hl : (s2V l).length = n * 2 := h.1
  have h2 := s2V_length l
  have hj' : j < l.length * 2 := by simpa using hj
  have h1 := h.cellAt j (by omega)
  rw [← flat_list, Array.getElem?_toList, Array.getElem?_eq_getElem hj] at h1
  rw [Nat.zero_add, getElem!_pos (flatK encA 2 l.toArray) j hj]
  exact ⟨h1, h.frozenAt j⟩
theorem own_sorted {w : World} {lo hi g n c : Nat} {e : TypeId} {l d : List S2} (h : Own w lo hi e 2 (.slice (some ⟨g, 0, none⟩) n c) n (s2V l)) (hd : d.length = l.length) (m : Nat) (os : Array Obj) :
    Own (sortWorldK encA 2 w g 0 m d.toArray os) lo hi e 2 (.slice (some ⟨g, 0, none⟩) n c) n (s2V d) ∧ Keeps (fun k => k = g) w (sortWorldK encA 2 w g 0 m d.toArray os) := by
  obtain ⟨⟨h1, h2⟩, h3⟩ := h
  have hl : l.length = n := by rw [s2V_length] at h1; omega
  rcases h2 with ⟨hv, _⟩ | ⟨g', cap, cur, hv, hb, hg, hn, hc, hs, ht⟩
  · injection hv with hv; cases hv
  · injection hv with hA _ hcap
    injection hA with hA
    injection hA with hA
    subst hA hcap
    have hlt := (Array.getElem?_eq_some_iff.1 hg).1
    have hF : (flatK encA 2 d.toArray).size = n * 2 := by simp [hd, hl]
    have hcur : n * 2 ≤ cur.size := by rw [hs]; exact Nat.mul_le_mul_right 2 hn
    constructor
    · refine ⟨⟨by rw [s2V_length, hd, hl], .inr ⟨g, c, putCells id 0 (flatK encA 2 d.toArray) cur, rfl, hb, ?_, hn, hc, by rw [putCells, Array.size_mapIdx]; exact hs, ?_⟩⟩, fun k hk => h3 k hk⟩
      · show ((w.heap.modify g _) ++ os)[g]? = _
        rw [Array.getElem?_append_left (by rw [Array.size_modify]; exact hlt), Array.getElem?_modify, if_pos rfl, hg]
        rfl
      · rw [← flat_list]
        apply List.ext_getElem?
        intro i
        rw [List.getElem?_take]
        by_cases hi : i < n * 2
        · rw [if_pos hi, Array.getElem?_toList, putCells, Array.getElem?_mapIdx, Array.getElem?_eq_getElem (by omega), Option.map_some, if_pos ⟨Nat.zero_le _, by omega⟩, Array.getElem?_toList, Array.getElem?_eq_getElem (by omega), Nat.sub_zero, getElem!_pos (flatK encA 2 d.toArray) i (by omega)]
          rfl
        · rw [if_neg hi, List.getElem?_eq_none (by simp; omega)]
    · refine ⟨rfl, rfl, rfl, ?_, fun k hk hne => ?_⟩
      · show w.heap.size ≤ ((w.heap.modify g _) ++ os).size
        simp
      · show ((w.heap.modify g _) ++ os)[k]? = _
        rw [Array.getElem?_append_left (by rw [Array.size_modify]; exact hk), Array.getElem?_modify, if_neg (fun h => hne h.symm)]
theorem cmpLaysA (blk off size : Nat) (w : World) : CmpLays Try.prog 14 #[] encA 2 cmpA blk off size w :=
  fun m os dk _ x y => (compareAddrs_grow x y _).mono fun e w' ⟨he, hw⟩ => ⟨he, 0, #[.cells #[.string x.1, .string x.2] 25] ++ #[.cells #[.string y.1, .string y.2] 25], by rw [hw, alloc_eq_grow, alloc_eq_grow, grow_grow]; rfl⟩
theorem ms_pair (l : List S2) : Hid ((msA l).Pairwise fun a b => leA a b = true) := msA_srt l
theorem sortFunc_any {lo hi g n c : Nat} {l : List S2} (w : World) (ho : Own w lo hi 25 2 (.slice (some ⟨g, 0, none⟩) n c) n (s2V l)) (hg : g < w.heap.size) (hn : n ≤ 1073741824) :
    Calls Try.prog 36 #[.slice (some ⟨g, 0, none⟩) n c, .func (.func 14) #[] #[]] w fun e w' =>
      e = .returned (.tuple #[]) ∧ Own w' lo hi 25 2 (.slice (some ⟨g, 0, none⟩) n c) n (s2V (msA l)) ∧ Keeps (fun k => k = g) w w' := by
  have hl : l.length = n := by have := ho.len; rw [s2V_length] at this; omega
  have eg : ∀ args w, (callFunc 14 args).run Try.prog w = .ok (.enter 14 args) w := enters_of Try.func14 (by kernel_rfl) rfl
  have hcon := Try.slices_SortFunc_total 2 (fun w => by kernel_rfl) (fun w => by kernel_rfl) encA (fun _ => rfl) (fun x v hv => by simp [encA] at hv; rcases hv with rfl | rfl <;> rfl) cmpA swoA 14 #[] g 0 c l.toArray w eg (cmpLaysA g 0 l.toArray.size w) (own_holds ho.1) hg (by simp; omega) sameA
  rw [List.size_toArray, hl, sorted_eq] at hcon
  refine hcon.mono ?_
  rintro e w' ⟨he, m, os, rfl⟩
  exact ⟨he, own_sorted ho (msA_len l) m os⟩
set_option maxHeartbeats 1000000 in
theorem sortAddrs_impl {A : Option Addr} {n c : Nat} {l : List S2} (w : World) (hx : Reads w w.heap.size 2 A n (s2V l)) (hn : n ≤ 1073741824) :
    Calls Try.prog 13 #[.slice A n c] w (GotSort w 25 l) := by
  have hl := Lib.hid hx.len2
  have h0 := own_empty w 25 2
  have hb0 := (Below.refl w.heap.size w).alloc (Nat.le_refl _) (.cells #[] 25)
  have hx1 := (hx.below hb0).more hb0.size
  go_enter Try.func13, Try.ntmps13
  go_wp2_with (at_builtin
               refine wpList_app row_Addr rfl (.tmp 4) (.tmp 5) rfl w.heap.size _ 0 0 [] rfl h0 _ A n c (s2V l) rfl hx1 (s2_one l) n (s2V l) (by omega) rfl ⟨by omega, by omega⟩ (by simp) ?_
               intro A1 c1 w1 ho hb)
  have hb1 := hb0.trans hb
  clear hx hx1 hb0 h0 hb
  have ho1 := Own.of_row ho
  have hsz := hb1.size
  rcases Nat.eq_zero_or_pos n with h1 | h1
  · subst h1
    obtain rfl : l = [] := List.eq_nil_of_length_eq_zero hl.out
    have hsn := fun W => Try.slices_SortFunc_none (α := Nat) A1 c1 (.func (.func 14) #[] #[]) W
    go_wp2_with (fail)
    go_at_call 36
    refine (hsn _).mono ?_
    rintro e w2 ⟨rfl, rfl⟩
    go_wp2_with (fail)
    go_at_call 37
    refine (compactAddr_few _ (by omega)).mono ?_
    rintro e w3 ⟨rfl, rfl⟩
    go_wp2
    go_ret
    exact ⟨[], A1, c1, SortOf.nil, by simp, rfl, ho1.wide (Nat.le_refl _) (Nat.le_refl _), hb1⟩
  · rcases ho1.shape with ⟨_, h2, _⟩ | ⟨g, rfl, hc1, hc2⟩
    · omega
    · have hlt := ho1.2 g rfl
      have hge : w.heap.size ≤ g := (ho.lt g rfl).1
      go_wp2_with (fail)
      go_at_call 36
      refine (sortFunc_any _ ho1 hlt hn).mono ?_
      rintro e w2 ⟨rfl, o2, k2⟩
      have hb2 := hb1.trans ((k2.below (B := w.heap.size) hsz (fun k hk => by omega)))
      have hml := msA_len l
      clear ho ho1 hb1
      rcases Nat.lt_or_ge n 2 with h3 | h3
      · go_wp2_with (fail)
        go_at_call 37
        refine (compactAddr_few _ h3).mono ?_
        rintro e w3 ⟨rfl, rfl⟩
        go_wp2
        go_ret
        have hl1 : l.length = 1 := by rw [hl.out]; omega
        obtain ⟨a, rfl⟩ := List.length_eq_one_iff.1 hl1
        have he : msA [a] = [a] := by simp [msA]
        rw [he] at o2
        have hn1 : n = 1 := by omega
        subst hn1
        exact ⟨[a], _, c1, ⟨by simp [Srt], fun _ => Iff.rfl⟩, by simp, rfl, o2.wide (Nat.le_refl _) k2.size, hb2⟩
      · go_wp2_with (fail)
        go_at_call 37
        refine (compactAddr_any _ o2 (ms_pair l) hn (by omega) hge hlt hc1 hc2).mono ?_
        rintro e w3 ⟨x, hs, hxl, hx0, rfl, o3, k3⟩
        have hs' : SortOf l x := ⟨hs.srt, fun a => (hs.mem a).trans (msA_mem l a)⟩
        rw [hml] at hxl
        have hz3 := k3.size
        have hz2 := k2.size
        have hb3 := hb2.trans (k3.below (B := w.heap.size) (by omega) (fun k hk => hk.1))
        go_wp2
        go_ret
        exact ⟨x, _, c1, hs', hxl, rfl, o3.wide (Nat.le_refl _) (by omega), hb3⟩
end Go.Proofs.Ytpehaoamfifgbaa
