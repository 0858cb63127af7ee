/-
  Contract of the reference's split at one byte. Condition: strings of at most 2^30 bytes.
-/
import Derived.Test.YtmfaihelphfbgaaDoorSpp
import Derived.Test.YtmfaihelphfbgaaDoorTwo
namespace Go.Proofs.YtmfaihelphfbgaaDoor
set_option linter.unusedVariables false
set_option linter.unusedSimpArgs false
set_option maxRecDepth 100000
open Go.ChangeShapes Go.WideShapes Go.ChangeAt Go.RowKit Go.Deep

theorem info_string : (Tryd.prog.info? 9).map (fun i => (i.zero, i.size, i.bytes)) = some (some (.string ⟨#[]⟩), 1, 16) := by kernel_rfl
theorem row_Str : RowT Tryd.prog 51 9 1 16 := RowT.mk' Tryd.underlying51 info_string rfl (by omega)
theorem strs_one (l : List ByteArray) : ∀ u ∈ l.map Value.string, u.oneCell' = true := by
  intro u hu
  obtain ⟨x, _, rfl⟩ := List.mem_map.1 hu
  rfl
theorem byte_eq {x c : UInt8} (h : x = c) : ((x.toNat : Nat) : Int) = (c.toNat : Int) := by rw [h]
theorem byte_ne {x c : UInt8} (h : x ≠ c) : ((x.toNat : Nat) : Int) ≠ (c.toNat : Int) := by intro e; exact h (UInt8.toNat_inj.1 (by omega))
set_option maxHeartbeats 2000000 in
theorem l5Split_any (w : World) (s : ByteArray) (c : UInt8) (hs : s.size ≤ 1073741824) : Calls Tryd.prog 35 #[.string s, .int .u8 c.toNat] w (GotRow w 9 1 (words c s).length ((words c s).map Value.string)) := by
  have h0 := own_empty w 9 1
  have hb0 := (Below.refl w.heap.size w).alloc (Nat.le_refl _) (.cells #[] 9)
  go_enter Tryd.func35, Tryd.ntmps35
  go_wp2
  go_loopw [5, 6, 7] (fun o f i wr => ∃ (a b : Nat) (P : List ByteArray) (A1 : Option Addr) (c1 : Nat), o = .slice A1 P.length c1 ∧ f = .int .i64 a ∧ i = .int .i64 b ∧ wr.ownsRow w.heap.size 9 1 (.slice A1 P.length c1) P.length (P.map Value.string) ∧ Below w.heap.size w wr ∧ P.length ≤ b ∧ b ≤ s.size + 1 ∧ a ≤ b ∧ Hid ((b ≤ s.size → Cutt c s a b P) ∧ (b = s.size + 1 → words c s = P))) (fun _ _ i _ => s.size + 1 - (intOf i).toNat)
  case atStart => exact ⟨0, 0, [], _, _, rfl, rfl, rfl, h0, hb0, by simp, by omega, by omega, ⟨fun _ => Cutt.start c s, fun h => absurd h (by omega)⟩⟩
  case round =>
    clear h0 hb0
    obtain ⟨a, b, P, A1, c1, rfl, rfl, rfl, hown, hbel, hP, hb, hab, hC⟩ := hrel
    have hbs := hbel.size
    by_cases hlt : b ≤ s.size
    · have hC1 := Lib.hid (hC.out.1 hlt)
      clear hC
      have ha0 : (0 : Int) ≤ (a : Int) := Int.natCast_nonneg _
      have hab' : (a : Int) ≤ (b : Int) := by omega
      have hlt' : (b : Int) ≤ (s.size : Int) := by omega
      by_cases he : b = s.size
      · subst he
        have hfin := Lib.hid hC1.out.last
        have hown1 := hown
        generalize hX : s.extract a s.size = X at *
        have hr := Reads.one wr (.string X) 9
        have ho2 := (Own.of_row hown).below ((Below.refl _ _).alloc (Nat.le_refl _) (.cells #[.string X] 9))
        go_wp2_with (at_builtin
                     refine wpList_app row_Str rfl (.tmp 26) (.tmp 31) rfl w.heap.size _ P.length _ (P.map Value.string) rfl ho2.1 (wr.heap.size + 1) _ 1 _ [.string X] rfl hr (strs_one [X]) (P.length + 1) ((P ++ [X]).map Value.string) (by omega) (by simp) ⟨by omega, by omega⟩ (by simp only [World.size_alloc]; omega) ?_
                     intro A2 c2 w2 ho bb)
        go_roundw
        case rel => exact ⟨s.size + 1, s.size + 1, P ++ [X], A2, c2, by rw [List.length_append]; rfl, by go_num, by go_num, by rw [List.length_append]; exact ho, (hbel.alloc hbs _).trans bb, by rw [List.length_append]; simp; omega, Nat.le_refl _, Nat.le_refl _, ⟨fun h => absurd h (by omega), fun _ => hfin.out⟩⟩
        case measure => simp [intOf] <;> omega
      · have hlt2 : b < s.size := by omega
        have hlt3 : (b : Int) < (s.size : Int) := by omega
        have heI : ((b : Int) == (s.size : Int)) = false := by simpa using (by omega : ¬ (b : Int) = (s.size : Int))
        by_cases hc : s[b] = c
        · have hcI := byte_eq hc
          have hfin := Lib.hid (hC1.out.hit hab hlt2 hc)
          generalize hX : s.extract a b = X at *
          have hr := Reads.one wr (.string X) 9
          have ho2 := (Own.of_row hown).below ((Below.refl _ _).alloc (Nat.le_refl _) (.cells #[.string X] 9))
          clear hc
          go_wp2_with (at_builtin
                       refine wpList_app row_Str rfl (.tmp 26) (.tmp 31) rfl w.heap.size _ P.length _ (P.map Value.string) rfl ho2.1 (wr.heap.size + 1) _ 1 _ [.string X] rfl hr (strs_one [X]) (P.length + 1) ((P ++ [X]).map Value.string) (by omega) (by simp) ⟨by omega, by omega⟩ (by simp only [World.size_alloc]; omega) ?_
                       intro A2 c2 w2 ho bb)
          go_roundw
          case rel => exact ⟨b + 1, b + 1, P ++ [X], A2, c2, by rw [List.length_append]; rfl, by go_num, by go_num, by rw [List.length_append]; exact ho, (hbel.alloc hbs _).trans bb, by rw [List.length_append]; simp; omega, by omega, Nat.le_refl _, ⟨fun _ => hfin.out, fun h => absurd h (by omega)⟩⟩
          case measure => (simp [intOf] <;> omega)
        · have hcI := byte_ne hc
          have hfin := Lib.hid (hC1.out.skip hlt2 hc)
          clear hc
          go_wp2
          go_roundw
          case rel => exact ⟨a, b + 1, P, A1, c1, rfl, rfl, by go_num, hown, hbel, by omega, by omega, by omega, ⟨fun _ => hfin.out, fun h => absurd h (by omega)⟩⟩
          case measure => (simp [intOf] <;> omega)
    · have hb1 : b = s.size + 1 := by omega
      have hfin := Lib.hid (hC.out.2 hb1)
      have hlt' : (s.size : Int) < (b : Int) := by omega
      clear hC
      go_wp2
      go_ret
      exact GotRow.of (by rw [hfin.out]) (by rw [hfin.out]) hown hbel
end Go.Proofs.YtmfaihelphfbgaaDoor
