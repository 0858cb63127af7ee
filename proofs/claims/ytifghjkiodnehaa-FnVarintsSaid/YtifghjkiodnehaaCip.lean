/-
  Contracts of Encrypt and Decrypt, of the program and of the reference. Conditions: at most 2^30 bytes, a key of 64 bits.
-/
import Derived.Test.YtifghjkiodnehaaUse
import Derived.Deep.RegionHeld3
import Derived.Deep.RegionWith
namespace Go.Proofs.Ytifghjkiodnehaa
set_option linter.unusedVariables false
set_option linter.unusedSimpArgs false
set_option maxRecDepth 100000
open Go.ChangeShapes Go.WideShapes Go.ChangeAt Go.RowKit Go.Deep

set_option maxHeartbeats 1000000 in
theorem encrypt_impl {A : Option Addr} {n c : Nat} {zs : List Int} {key : Int} (w : World) (hx : Reads w w.heap.size 1 A n (zs.map (Value.int .u8))) (hn : n ≤ 1073741824) (hz : ∀ z ∈ zs, 0 ≤ z ∧ z ≤ 255)
    (h1 : -9223372036854775808 ≤ key) (h2 : key ≤ 9223372036854775807) :
    Calls Try.prog 11 #[.int .i64 key, .slice A n c] w (GotRow w 5 1 n ((encZ key zs).map (Value.int .u8))) := by
  have lx : Hid (zs.length = n) := by show zs.length = n; simpa using hx.1
  go_enter Try.func11, Try.ntmps11
  go_wp2_with (go_at_call 35; refine (copyBytes_any _ hx (by omega)).mono ?_; rintro e w1 ⟨A1, c1, rfl, o1, b1⟩)
  have hg := o1.1
  clear hx o1
  go_loopw [11] (fun i wr => ∃ (k : Nat) (cur : List Value), k ≤ n ∧ i = .int .i64 k ∧ wr.ownsRow w.heap.size 5 1 (.slice A1 n c1) n cur ∧ Hid (cur.take k = ((encZ key zs).map (Value.int .u8)).take k) ∧ Hid (cur.drop k = (zs.map (Value.int .u8)).drop k) ∧ Below w.heap.size w wr)
    (fun i _ => n - (intOf i).toNat)
  case atStart => exact ⟨0, _, Nat.zero_le _, rfl, hg, by simp [Hid], by simp [Hid], b1⟩
  case round =>
    obtain ⟨k, cur, hk, rfl, hown, hdone, hrest, hbel⟩ := hrel
    by_cases hlt : k < n
    · obtain ⟨g, cap, hv, hg1, hg2⟩ := hown.form (by omega)
      obtain ⟨rfl, rfl⟩ : A1 = some ⟨g, 0, none⟩ ∧ c1 = cap := by injection hv with h1 _ h2; exact ⟨h1, h2⟩
      clear hv hg b1
      have hl1 : k < zs.length := by rw [lx.out]; exact hlt
      have hl2 : k < (encZ key zs).length := by rw [encZ_length]; exact hl1
      have hcl : k < cur.length := by have := hown.1; omega
      have hck : cur[k]? = some (.int .u8 zs[k]) := by
        have h9 := congrArg (fun l => l[0]?) hrest.out
        simpa [List.getElem?_drop, hl1] using h9
      have hcell : wr.cell? ⟨g, k, none⟩ = some (.int .u8 zs[k]) := by rw [hown.cellAt k (by omega)]; exact hck
      have hfr := hown.frozenAt k
      obtain ⟨hv1, hv2⟩ := hz zs[k] (List.getElem_mem _)
      obtain ⟨hk1, hk2⟩ := khZ_bd key [(k : Int)]
      have ht := tmod256 hk1
      have hw : IntKind.u8.wrap (khZ key [(k : Int)] % 256) = khZ key [(k : Int)] % 256 := by rw [u8_wrap]; omega
      have hw2 : IntKind.u8.wrap (zs[k] + khZ key [(k : Int)] % 256) = (zs[k] + khZ key [(k : Int)]) % 256 := by rw [u8_wrap]; omega
      have hr1 := Reads.one' wr (.int .i64 k) 3
      have hz1 := in_one (k := k) (by omega)
      have T1 : Hid ((cur.set k (.int .u8 ((zs[k] + khZ key [(k : Int)]) % 256))).take (k + 1) = ((encZ key zs).map (Value.int .u8)).take (k + 1)) := by
        have h9 := take_set_succ (xs := (encZ key zs).map (Value.int .u8)) hdone.out (by simpa using hl2) hcl
        simp only [List.getElem_map] at h9
        rw [encZ_get hl2 hl1] at h9
        exact h9
      have T2 : Hid ((cur.set k (.int .u8 ((zs[k] + khZ key [(k : Int)]) % 256))).drop (k + 1) = (zs.map (Value.int .u8)).drop (k + 1)) := by
        show _ = _
        rw [List.drop_set_of_lt (by omega), ← List.drop_drop, hrest.out, List.drop_drop]
      clear hdone hrest hz lx
      go_wp2_with fail
      go_region_with (go_at_call 13; refine (keyedHash_impl (xs := [(k : Int)]) _ ?_ (by omega) hz1 h1 h2).mono ?_; (exact Reads.drew hr1); rintro e w2 ⟨rfl, b2⟩; have hcell2 : w2.cell? ⟨g, k, none⟩ = some (.int .u8 zs[k]) := by { rw [(bcell b2).1 g k (by simp; omega)]; simp [hcell, World.cell?_alloc_some] }; have hfr2 : w2.frozen? ⟨g, k, none⟩ = false := by { rw [(bcell b2).2 g k (by simp; omega)]; simp [hfr, frozen?_alloc_cells] })
      all_goals
        have b3 : Below wr.heap.size wr w2 := (((Below.refl _ wr).alloc (Nat.le_refl _) _).drew).trans (b2.mono (by simp))
        have hs := (own_next hown b3).stored k (.int .u8 ((zs[k] + khZ key [(k : Int)]) % 256))
        have hb4 := (hbel.trans (b3.mono hbel.size)).setCell (p := ⟨g, k, none⟩) hg1 (.int .u8 ((zs[k] + khZ key [(k : Int)]) % 256))
        clear hcell hcell2 hfr hfr2 b2 b3 hown ht hw hw2 hr1
        go_wp2
        go_roundw
        case rel => exact ⟨k + 1, _, by omega, by go_num, hs.1, T1, T2, hb4⟩
        case measure => simp [intOf]; omega
    · obtain rfl : k = n := by omega
      have he : cur = (encZ key zs).map (Value.int .u8) := by
        have h1 := hdone.out
        rw [List.take_of_length_le (by have := hown.1; omega), List.take_of_length_le (by rw [List.length_map, encZ_length, lx.out]; exact Nat.le_refl _)] at h1
        exact h1
      subst he
      clear hdone hrest
      go_wp2
      go_ret
      exact GotRow.of rfl rfl hown hbel

set_option maxHeartbeats 1000000 in
theorem decrypt_impl {A : Option Addr} {n c : Nat} {zs : List Int} {key : Int} (w : World) (hx : Reads w w.heap.size 1 A n (zs.map (Value.int .u8))) (hn : n ≤ 1073741824) (hz : ∀ z ∈ zs, 0 ≤ z ∧ z ≤ 255)
    (h1 : -9223372036854775808 ≤ key) (h2 : key ≤ 9223372036854775807) :
    Calls Try.prog 10 #[.int .i64 key, .slice A n c] w (GotRow w 5 1 n ((decZ key zs).map (Value.int .u8))) := by
  have lx : Hid (zs.length = n) := by show zs.length = n; simpa using hx.1
  go_enter Try.func10, Try.ntmps10
  go_wp2_with (go_at_call 35; refine (copyBytes_any _ hx (by omega)).mono ?_; rintro e w1 ⟨A1, c1, rfl, o1, b1⟩)
  have hg := o1.1
  clear hx o1
  go_loopw [11] (fun i wr => ∃ (k : Nat) (cur : List Value), k ≤ n ∧ i = .int .i64 k ∧ wr.ownsRow w.heap.size 5 1 (.slice A1 n c1) n cur ∧ Hid (cur.take k = ((decZ key zs).map (Value.int .u8)).take k) ∧ Hid (cur.drop k = (zs.map (Value.int .u8)).drop k) ∧ Below w.heap.size w wr)
    (fun i _ => n - (intOf i).toNat)
  case atStart => exact ⟨0, _, Nat.zero_le _, rfl, hg, by simp [Hid], by simp [Hid], b1⟩
  case round =>
    obtain ⟨k, cur, hk, rfl, hown, hdone, hrest, hbel⟩ := hrel
    by_cases hlt : k < n
    · obtain ⟨g, cap, hv, hg1, hg2⟩ := hown.form (by omega)
      obtain ⟨rfl, rfl⟩ : A1 = some ⟨g, 0, none⟩ ∧ c1 = cap := by injection hv with h1 _ h2; exact ⟨h1, h2⟩
      clear hv hg b1
      have hl1 : k < zs.length := by rw [lx.out]; exact hlt
      have hl2 : k < (decZ key zs).length := by rw [decZ_length]; exact hl1
      have hcl : k < cur.length := by have := hown.1; omega
      have hck : cur[k]? = some (.int .u8 zs[k]) := by
        have h9 := congrArg (fun l => l[0]?) hrest.out
        simpa [List.getElem?_drop, hl1] using h9
      have hcell : wr.cell? ⟨g, k, none⟩ = some (.int .u8 zs[k]) := by rw [hown.cellAt k (by omega)]; exact hck
      have hfr := hown.frozenAt k
      obtain ⟨hv1, hv2⟩ := hz zs[k] (List.getElem_mem _)
      obtain ⟨hk1, hk2⟩ := khZ_bd key [(k : Int)]
      have ht := tmod256 hk1
      have hw : IntKind.u8.wrap (khZ key [(k : Int)] % 256) = khZ key [(k : Int)] % 256 := by rw [u8_wrap]; omega
      have hw2 : IntKind.u8.wrap (zs[k] - khZ key [(k : Int)] % 256) = (zs[k] - khZ key [(k : Int)]) % 256 := by rw [u8_wrap]; omega
      have hr1 := Reads.one' wr (.int .i64 k) 3
      have hz1 := in_one (k := k) (by omega)
      have T1 : Hid ((cur.set k (.int .u8 ((zs[k] - khZ key [(k : Int)]) % 256))).take (k + 1) = ((decZ key zs).map (Value.int .u8)).take (k + 1)) := by
        have h9 := take_set_succ (xs := (decZ key zs).map (Value.int .u8)) hdone.out (by simpa using hl2) hcl
        simp only [List.getElem_map] at h9
        rw [decZ_get hl2 hl1] at h9
        exact h9
      have T2 : Hid ((cur.set k (.int .u8 ((zs[k] - khZ key [(k : Int)]) % 256))).drop (k + 1) = (zs.map (Value.int .u8)).drop (k + 1)) := by
        show _ = _
        rw [List.drop_set_of_lt (by omega), ← List.drop_drop, hrest.out, List.drop_drop]
      clear hdone hrest hz lx
      go_wp2_with fail
      go_region_with (go_at_call 13; refine (keyedHash_impl (xs := [(k : Int)]) _ ?_ (by omega) hz1 h1 h2).mono ?_; (exact Reads.drew hr1); rintro e w2 ⟨rfl, b2⟩; have hcell2 : w2.cell? ⟨g, k, none⟩ = some (.int .u8 zs[k]) := by { rw [(bcell b2).1 g k (by simp; omega)]; simp [hcell, World.cell?_alloc_some] }; have hfr2 : w2.frozen? ⟨g, k, none⟩ = false := by { rw [(bcell b2).2 g k (by simp; omega)]; simp [hfr, frozen?_alloc_cells] })
      all_goals
        have b3 : Below wr.heap.size wr w2 := (((Below.refl _ wr).alloc (Nat.le_refl _) _).drew).trans (b2.mono (by simp))
        have hs := (own_next hown b3).stored k (.int .u8 ((zs[k] - khZ key [(k : Int)]) % 256))
        have hb4 := (hbel.trans (b3.mono hbel.size)).setCell (p := ⟨g, k, none⟩) hg1 (.int .u8 ((zs[k] - khZ key [(k : Int)]) % 256))
        clear hcell hcell2 hfr hfr2 b2 b3 hown ht hw hw2 hr1
        go_wp2
        go_roundw
        case rel => exact ⟨k + 1, _, by omega, by go_num, hs.1, T1, T2, hb4⟩
        case measure => simp [intOf]; omega
    · obtain rfl : k = n := by omega
      have he : cur = (decZ key zs).map (Value.int .u8) := by
        have h1 := hdone.out
        rw [List.take_of_length_le (by have := hown.1; omega), List.take_of_length_le (by rw [List.length_map, decZ_length, lx.out]; exact Nat.le_refl _)] at h1
        exact h1
      subst he
      clear hdone hrest
      go_wp2
      go_ret
      exact GotRow.of rfl rfl hown hbel


end Go.Proofs.Ytifghjkiodnehaa
