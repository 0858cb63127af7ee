/-
  Contracts of the generated helpers on rules and slices of them. Conditions: at most 2^30 elements, sizes of Go strings.
  Contracts of the generated helpers on structs of two strings and on slices of them: compare, copy. Conditions: at most 2^30 elements, sizes of Go strings.
  Contracts of the generated helpers on tokens: measure, compare, copy. Conditions: sizes of Go strings and slices.
  Words for the marks that the generated laws lay into tokens and nodes; the frame of one marked block. No program is named. No condition.
-/
import Derived.Deep.RegionWith
import Derived.Test.YtleopmeaaabejaaJ04
import Derived.Test.YtleopmeaaabejaaJ05
namespace Go.Proofs.Ytleopmeaaabejaa
set_option linter.unusedVariables false
set_option linter.unusedSimpArgs false
set_option maxRecDepth 100000
open Go.ChangeShapes Go.WideShapes Go.ChangeAt Go.RowKit Go.Deep

theorem info_Rule : (Try.prog.info? 84).map (fun i => (i.zero, i.size, i.bytes)) = some (some (.agg #[.string ⟨#[]⟩, .int .i64 0]), 2, 24) := by kernel_rfl
theorem row_Rule : RowT Try.prog 52 84 2 24 := RowT.mk' Try.underlying52 info_Rule rfl (by omega)
theorem eqRule_yes (a : Rul) (w : World) : Calls Try.prog 73 #[.agg #[.string a.1, .int .i64 a.2], .agg #[.string a.1, .int .i64 a.2]] w fun e w' => e = .returned (.bool true) ∧ Below w.heap.size w w' := by
  go_enter Try.func73, Try.ntmps73
  go_wp2
  go_ret
  exact ⟨rfl, ((Below.refl _ _).alloc (Nat.le_refl _) _).alloc (by simp) _⟩
set_option maxHeartbeats 400000 in
theorem eqRuleS_yes {A A' : Option Addr} {n n' c c' : Nat} {l : List Rul} (w : World) (hx : Reads w w.heap.size 2 A n (rulV l)) (hy : Reads w w.heap.size 2 A' n' (rulV l)) (hn : n ≤ 1073741824) :
    Calls Try.prog 58 #[.slice A n c, .slice A' n' c'] w fun e w' => e = .returned (.bool true) ∧ Below w.heap.size w w' := by
  have lx := hx.lenR
  have ly := hy.lenR
  obtain rfl : n = n' := by omega
  have Lx := Lib.hid lx
  clear lx ly
  go_enter Try.func58, Try.ntmps58
  go_wp2
  go_loopw [5] (fun i wr => ∃ k : Nat, k ≤ n ∧ i = .int .i64 k ∧ Below w.heap.size w wr) (fun i _ => n - (intOf i).toNat)
  case atStart => exact ⟨0, Nat.zero_le _, rfl, Below.refl _ _⟩
  case round =>
    obtain ⟨k, hk, rfl, hbel⟩ := hrel
    have hbs := hbel.size
    by_cases hlt : k < n
    · obtain ⟨b0, off0, rfl, hab, hcx⟩ := (hx.below hbel).rul hlt
      obtain ⟨b1, off1, rfl, hab', hcy⟩ := (hy.below hbel).rul hlt
      have hl1 : k < l.length := by rw [Lx.out]; exact hlt
      obtain ⟨hc0, hc1⟩ := hcx hl1
      obtain ⟨hd0, hd1⟩ := hcy hl1
      have hk0 : (0 : Int) ≤ (k : Int) := Int.natCast_nonneg _
      have hk9 : (k : Int) < (n : Int) := by omega
      generalize l[k] = a at *
      clear hx hy hcx hcy
      go_wp2_with fail
      go_region_with (go_at_call 73; refine (eqRule_yes a _).mono ?_; rintro e w1 ⟨rfl, bb1⟩)
      all_goals
        go_wp2
        go_roundw
        case rel => exact ⟨k + 1, by omega, by go_num, (hbel.drew).trans (bb1.mono hbs)⟩
        case measure => simp [intOf]; omega
    · obtain rfl : k = n := by omega
      go_wp2
      go_ret
      exact ⟨rfl, hbel⟩
theorem toRule_r (a : Rul) (w : World) : Calls Try.prog 79 #[.agg #[.string a.1, .int .i64 a.2]] w fun e w' => e = .returned (.agg #[.string a.1, .int .i64 a.2]) ∧ Below w.heap.size w w' := by
  go_enter Try.func79, Try.ntmps79
  go_wp2
  exact bodyPost_ret (v := .agg #[.string a.1, .int .i64 a.2]) (by simp [results, Try.results79, go_sem]) rfl ⟨rfl, ((((Below.refl _ _).alloc (Nat.le_refl _) _).alloc (by simp) _).alloc (by simp; omega) _)⟩
set_option maxHeartbeats 400000 in
theorem toRuleS_any {A : Option Addr} {n c : Nat} {l : List Rul} (w : World) (hx : Reads w w.heap.size 2 A n (rulV l)) (hn : n ≤ 1073741824) :
    Calls Try.prog 70 #[.slice A n c] w (GotRow w 84 2 n (rulV l)) := by
  have hmk := fun W => run_make_two (P := Try.prog) 52 84 (.agg #[.string ⟨#[]⟩, .int .i64 0]) 24 Try.underlying52 info_Rule n (by omega) (by omega) W
  have lx := Lib.hid hx.lenR
  go_enter Try.func70, Try.ntmps70
  go_wp2
  go_loopw [4] (fun i wr => ∃ k : Nat, k ≤ n ∧ i = .int .i64 k ∧ ∃ cur : List Value, wr.ownsRow w.heap.size 84 2 (.slice (some ⟨w.heap.size, 0, none⟩) n n) n cur ∧ Hid (cur.take (k * 2) = (rulV l).take (k * 2)) ∧ Below w.heap.size w wr)
    (fun i _ => n - (intOf i).toNat)
  case atStart =>
    exact ⟨0, Nat.zero_le _, rfl, _, World.ownsRow_lit w _ n (Nat.le_refl _) (by simp only [maxLen]; omega) (by rw [size_madeCells]), by simp [Hid], (Below.refl _ _).alloc (Nat.le_refl _) _⟩
  case round =>
    obtain ⟨k, hk, rfl, cur, hown, hall, hbel⟩ := hrel
    have hbs := hbel.size
    by_cases hlt : k < n
    · obtain ⟨b0, off0, rfl, hab, hcx⟩ := (hx.below hbel).rul hlt
      have hl1 : k < l.length := by rw [lx.out]; exact hlt
      obtain ⟨hc0, hc1⟩ := hcx hl1
      have hn1 : Hid (((cur.set (k * 2) (.string l[k].1)).set (k * 2 + 1) (.int .i64 l[k].2)).take ((k + 1) * 2) = (rulV l).take ((k + 1) * 2)) := fill_rul hall.out hl1 (by have := hown.1; omega)
      generalize l[k] = a at *
      clear hx hall hmk hcx
      go_wp2_with (go_at_call 79; refine (toRule_r a _).mono ?_; rintro e w1 ⟨rfl, b1⟩; have ho1 := own_next hown b1; obtain ⟨⟨u0, hu0, hf0⟩, u1, hu1, hf1⟩ := own_two ho1 hlt)
      have hs1 := (ho1.stored (k * 2) (.string a.1)).1
      have hs2 := (hs1.stored (k * 2 + 1) (.int .i64 a.2)).1
      have hb2 := ((hbel.trans (b1.mono hbs)).setCell (p := ⟨w.heap.size, k * 2, none⟩) (Nat.le_refl _) (.string a.1)).setCell (p := ⟨w.heap.size, k * 2 + 1, none⟩) (Nat.le_refl _) (.int .i64 a.2)
      clear ho1 hs1 hown hu0 hf0 hu1 hf1 b1
      go_roundw
      case rel => exact ⟨k + 1, by omega, by go_num, _, hs2, hn1, hb2⟩
      case measure => simp [intOf]; omega
    · obtain rfl : k = n := by omega
      have he : cur = rulV l := by
        have h1 := hall.out
        rw [List.take_of_length_le (by have := hown.1; omega), List.take_of_length_le (by rw [rulV_length, lx.out]; exact Nat.le_refl _)] at h1
        exact h1
      subst he
      clear hmk hall
      go_wp2
      go_ret
      exact ⟨_, _, rfl, Own.of_row hown, hbel⟩
theorem szRule_r (a : Rul) (ha : a.1.size ≤ 9223372036854775807) (left : Int) (h0 : 0 ≤ left) (h1 : left ≤ 1048576) (w : World) :
    Calls Try.prog 78 #[.agg #[.string a.1, .int .i64 a.2], .int .i64 left] w (Sz left a.1.size w) := by
  go_enter Try.func78, Try.ntmps78
  go_wp2
  all_goals go_ret
  all_goals refine ⟨_, rfl, ?_, ?_, ?_, (Below.refl _ _).alloc (Nat.le_refl _) _⟩
  all_goals omega
set_option maxHeartbeats 400000 in
theorem szRuleS_r {A : Option Addr} {n c : Nat} {l : List Rul} (w : World) (hx : Reads w w.heap.size 2 A n (rulV l)) (hn : n ≤ 9223372036854775807) (hz : ∀ a ∈ l, okRul a) (left : Int) (h0 : 0 ≤ left) (h1 : left ≤ 1048576) :
    Calls Try.prog 69 #[.slice A n c, .int .i64 left] w (Sz left (n + rulsz l) w) := by
  by_cases hbig : left < n
  · go_enter Try.func69, Try.ntmps69
    go_wp2
    go_ret
    exact ⟨-1, rfl, by omega, by omega, by omega, Below.refl _ _⟩
  · have lx := Lib.hid hx.lenR
    have hle : (n : Int) ≤ left := by omega
    go_enter Try.func69, Try.ntmps69
    go_wp2
    go_loopw [1, 5] (fun p i wr => ∃ (k : Nat) (m : Int), k ≤ n ∧ i = .int .i64 k ∧ p = .int .i64 m ∧ 0 ≤ m ∧ m ≤ left ∧ Hid (n + rulsz (l.take k) + m ≤ left) ∧ Below w.heap.size w wr) (fun _ i _ => n - (intOf i).toNat)
    case atStart => exact ⟨0, left - n, Nat.zero_le _, rfl, rfl, by omega, by omega, by show _ ≤ _; simp [rulsz]; omega, Below.refl _ _⟩
    case round =>
      obtain ⟨k, m, hk, rfl, rfl, hm0, hm1, hcur, hbel⟩ := hrel
      have hbs := hbel.size
      by_cases hlt : k < n
      · obtain ⟨b0, off0, rfl, hab, hcx⟩ := (hx.below hbel).rul hlt
        have hl1 : k < l.length := by rw [lx.out]; exact hlt
        obtain ⟨hc0, hc1⟩ := hcx hl1
        obtain ⟨hz0, hz1, hz2⟩ := hz l[k] (List.getElem_mem _)
        have hT : Hid (rulsz (l.take (k + 1)) = rulsz (l.take k) + l[k].1.size) := rulsz_take hl1
        generalize l[k] = a at *
        clear hx hz hcx
        go_wp2_with (go_at_call 78; refine (szRule_r a hz0 m hm0 (by omega) _).mono ?_; rintro e w1 ⟨r, rfl, hr1, hr2, hr3, b1⟩; have H3 := Lib.hid hr3; clear hr3)
        all_goals first
          | (go_ret; exact ⟨-1, rfl, by omega, by omega, by omega, hbel.trans (b1.mono hbs)⟩)
          | (go_roundw
             case rel => exact ⟨k + 1, r, by omega, by go_num, rfl, by omega, by omega, by show _ ≤ _; rw [hT.out]; have := H3.out (by omega); have := hcur.out; omega, hbel.trans (b1.mono hbs)⟩
             case measure => simp [intOf]; omega)
      · obtain rfl : k = n := by omega
        have he : Hid (l.take k = l) := by show _ = _; exact List.take_of_length_le (by rw [lx.out]; exact Nat.le_refl _)
        clear hx hz
        go_wp2
        go_ret
        exact ⟨m, rfl, by omega, by omega, fun _ => by have := hcur.out; rw [he.out] at this; exact this, hbel⟩
set_option maxHeartbeats 1000000 in
theorem markRuleS_any {lo hi : Nat} {A : Option Addr} {n c : Nat} {xs : List Value} {q : Int} (w : World) (hx : Own w lo hi 84 2 (.slice A n c) n xs) (hh : hi ≤ w.heap.size) (hlh : lo ≤ hi)
    (hn : n ≤ 1073741824) (q0 : 0 < q) (q1 : q ≤ 1073741824) : Calls Try.prog 59 #[.slice A n c, .int .i64 q] w
      (Marked w lo hi (fun w' => Own w' lo hi 84 2 (.slice A n c) n (rulV (mkR q n))) (q + 2 * n)) := by
  rcases Nat.eq_zero_or_pos n with h0 | h0
  · subst h0
    have hm : xs = [] := List.eq_nil_of_length_eq_zero (by simpa using hx.len)
    subst hm
    go_enter Try.func59, Try.ntmps59
    go_wp2
    refine wp_loop_rounds 1 ?_
    rw [rounds_succ]
    go_wp2
    go_ret
    exact ⟨ret_int (by simp), by simpa [mkR, rulV] using hx, Keeps.refl _ _⟩
  · obtain ⟨g, cap, hv, hg1, hg2⟩ := hx.1.form h0
    obtain ⟨rfl, rfl⟩ : A = some ⟨g, 0, none⟩ ∧ c = cap := by injection hv with h1 _ h2; exact ⟨h1, h2⟩
    have hg3 : g < hi := hx.2 g rfl
    obtain ⟨hx1, hx2⟩ := hx
    clear hv
    go_enter Try.func59, Try.ntmps59
    go_wp2
    go_loopw [1, 5] (fun p i wr => ∃ k : Nat, k ≤ n ∧ i = .int .i64 k ∧ p = .int .i64 (q + 2 * k) ∧ ∃ cur : List Value, wr.ownsRow lo 84 2 (.slice (some ⟨g, 0, none⟩) n c) n cur ∧ Hid (cur.take (k * 2) = (rulV (mkR q n)).take (k * 2)) ∧ Keeps (Span lo hi) w wr)
      (fun _ i _ => n - (intOf i).toNat)
    case atStart => exact ⟨0, Nat.zero_le _, rfl, by simp, xs, hx1, by simp [Hid], Keeps.refl _ _⟩
    case round =>
      obtain ⟨k, hk, rfl, rfl, cur, hown, hall, hbel⟩ := hrel
      have hbs := hbel.size
      by_cases hlt : k < n
      · have hn1 : Hid (((cur.set (k * 2) (.string (mkT (q + 2 * k)))).set (k * 2 + 1) (.int .i64 (q + 2 * k + 1))).take ((k + 1) * 2) = (rulV (mkR q n)).take ((k + 1) * 2)) := by
          have h9 := fill_rul (l := mkR q n) hall.out (by rw [mkR_length]; exact hlt) (by have := hown.1; omega)
          rw [mkR_get] at h9
          exact h9
        clear hall hx1 hx2
        go_wp2_with fail
        refine (markText_any _ _ (by omega) (by omega)).mono ?_
        rintro e w1 ⟨rfl, b1⟩
        have ho1 := own_next hown b1
        obtain ⟨⟨u0, hu0, hf0⟩, u1, hu1, hf1⟩ := own_two ho1 hlt
        have hs1 := (ho1.stored (k * 2) (.string (mkT (q + 2 * k)))).1
        have hs2 := (hs1.stored (k * 2 + 1) (.int .i64 (q + 2 * k + 1))).1
        have kp2 := ((hbel.trans (Keeps.of_below b1)).trans (keeps_set w1 (p := ⟨g, k * 2, none⟩) (.string (mkT (q + 2 * k))) ⟨hg1, hg3⟩)).trans (keeps_set (w1.setCell ⟨g, k * 2, none⟩ (.string (mkT (q + 2 * k)))) (p := ⟨g, k * 2 + 1, none⟩) (.int .i64 (q + 2 * k + 1)) ⟨hg1, hg3⟩)
        clear hown ho1 hs1 b1
        go_wp2
        go_roundw
        case rel => exact ⟨k + 1, by omega, by go_num, by go_num, _, hs2, hn1, kp2⟩
        case measure => simp [intOf]; omega
      · obtain rfl : k = n := by omega
        have he : cur = rulV (mkR q k) := by
          have h1 := hall.out
          rw [List.take_of_length_le (by have := hown.1; omega), List.take_of_length_le (by rw [rulV_length, mkR_length]; exact Nat.le_refl _)] at h1
          exact h1
        subst he
        clear hall hx1
        go_wp2
        go_ret
        exact ⟨rfl, ⟨hown, hx2⟩, hbel⟩
set_option maxHeartbeats 1000000 in
theorem heldRuleS_any {A : Option Addr} {n c : Nat} {q : Int} (w : World) (hx : Reads w w.heap.size 2 A n (rulV (mkR q n))) (hn : n ≤ 1073741824) (q0 : 0 < q) (q1 : q ≤ 1073741824) :
    Calls Try.prog 60 #[.slice A n c, .int .i64 q] w fun e w' => e = .returned (.int .i64 (q + 2 * n)) ∧ Below w.heap.size w w' := by
  go_enter Try.func60, Try.ntmps60
  go_wp2
  go_loopw [1, 5] (fun p i wr => ∃ k : Nat, k ≤ n ∧ i = .int .i64 k ∧ p = .int .i64 (q + 2 * k) ∧ Below w.heap.size w wr) (fun _ i _ => n - (intOf i).toNat)
  case atStart => exact ⟨0, Nat.zero_le _, rfl, by simp, Below.refl _ _⟩
  case round =>
    obtain ⟨k, hk, rfl, rfl, hbel⟩ := hrel
    have hbs := hbel.size
    by_cases hlt : k < n
    · obtain ⟨b0, off0, rfl, hab, hcx⟩ := (hx.below hbel).rul hlt
      obtain ⟨hc0, hc1⟩ := hcx (by rw [mkR_length]; exact hlt)
      rw [mkR_get] at hc0 hc1
      simp only at hc0 hc1
      have hk0 : (0 : Int) ≤ (k : Int) := Int.natCast_nonneg _
      have hk9 : (k : Int) < (n : Int) := by omega
      clear hx hcx
      go_wp2_with fail
      go_region_with (go_at_call 74; refine (markText_any (q + 2 * k) _ (by omega) (by omega)).mono ?_; rintro e w1 ⟨rfl, b1⟩; have hc2 : w1.cell? ⟨b0, off0 + k * 2, none⟩ = some (.string (mkT (q + 2 * k))) := by { rw [(bcell b1).1 b0 _ (by simp; omega)]; simp [hc0] })
      all_goals
        have B1 : Below w.heap.size w w1 := hbel.drew.trans (b1.mono hbs)
        have hc3 : w1.cell? ⟨b0, off0 + k * 2 + 1, none⟩ = some (.int .i64 (q + 2 * k + 1)) := by rw [(bcell b1).1 b0 _ (by simp; omega)]; simp [hc1]
        clear b1 hc2 hc0 hc1
        go_wp2
        go_roundw
        case rel => exact ⟨k + 1, by omega, by go_num, by go_num, B1⟩
        case measure => simp [intOf]; omega
    · obtain rfl : k = n := by omega
      go_wp2
      go_ret
      exact ⟨rfl, hbel⟩
end Go.Proofs.Ytleopmeaaabejaa

namespace Go.Proofs.Ytleopmeaaabejaa
set_option linter.unusedVariables false
set_option linter.unusedSimpArgs false
set_option maxRecDepth 100000
open Go.ChangeShapes Go.WideShapes Go.ChangeAt Go.RowKit Go.Deep


theorem info_Attr : (Try.prog.info? 104).map (fun i => (i.zero, i.size, i.bytes)) = some (some (.agg #[.string ⟨#[]⟩, .string ⟨#[]⟩]), 2, 32) := by kernel_rfl
theorem row_Attr : RowT Try.prog 31 104 2 32 := RowT.mk' Try.underlying31 info_Attr rfl (by omega)
end Go.Proofs.Ytleopmeaaabejaa

namespace Go.Proofs.Ytleopmeaaabejaa
set_option linter.unusedVariables false
set_option linter.unusedSimpArgs false
set_option maxRecDepth 100000
open Go.ChangeShapes Go.WideShapes Go.ChangeAt Go.RowKit Go.Deep

theorem Own.set {w : World} {lo hi : Nat} {e : TypeId} {size n : Nat} {v : Value} {xs : List Value} (h : Own w lo hi e size v n xs) {p : Addr} (hp : p.block < lo) (u : Value) : Own (w.setCell p u) lo hi e size v n xs :=
  h.keep (keeps_set (S := fun k => k = p.block) w u rfl) fun k hk => .inl (by rw [hk]; exact hp)
theorem Own.drew {w : World} {lo hi : Nat} {e : TypeId} {size n : Nat} {v : Value} {xs : List Value} (h : Own w lo hi e size v n xs) : Own w.drew lo hi e size v n xs := h
theorem Own.ge {w : World} {lo hi : Nat} {e : TypeId} {size n : Nat} {v : Value} {xs : List Value} (h : Own w lo hi e size v n xs) : ∀ k, v.ownBlock = some k → lo ≤ k := fun k hk => (h.1.lt k hk).1
/-- one token with its attributes in blocks of the call's own -/
def GotTok (w : World) (ek : TypeId) (t : Tok) (r : Ending) (w' : World) : Prop :=
  ∃ A c, r = .returned (.agg #[.int .i64 t.kind, .string t.name, .slice A t.attrs.length c, .string t.text]) ∧ Own w' w.heap.size w'.heap.size ek 2 (.slice A t.attrs.length c) t.attrs.length (s2V t.attrs) ∧ Below w.heap.size w w'
def tokSz (t : Tok) : Int := t.name.size + (t.attrs.length + s2sz t.attrs) + t.text.size

end Go.Proofs.Ytleopmeaaabejaa

namespace Go.Proofs.Ytleopmeaaabejaa
set_option linter.unusedVariables false
open Go.RowKit

def totN (cs : List Nat) : Int := (cs.map fun c : Nat => 3 + 2 * (c : Int)).sum
theorem totN_cons (c : Nat) (cs : List Nat) : totN (c :: cs) = 3 + 2 * c + totN cs := by simp [totN]
theorem totN_nonneg (cs : List Nat) : 0 ≤ totN cs := by
  induction cs with
  | nil => simp [totN]
  | cons c cs ih => rw [totN_cons]; omega
theorem totN_split (cs : List Nat) (k : Nat) : totN cs = totN (cs.take k) + totN (cs.drop k) := by
  rw [totN, totN, totN, ← List.sum_append, ← List.map_append, List.take_append_drop]
theorem totN_take {cs : List Nat} {k : Nat} (h : k < cs.length) : totN (cs.take (k + 1)) = totN (cs.take k) + (3 + 2 * (cs[k] : Int)) := by
  rw [List.take_succ_eq_append_getElem h, totN, totN, List.map_append, List.sum_append]; simp
theorem totN_le (cs : List Nat) (k : Nat) : totN (cs.take k) ≤ totN cs := by
  have := totN_split cs k
  have := totN_nonneg (cs.drop k)
  omega
def mkTok (q : Int) (c : Nat) : Tok := ⟨q, mkT (q + 1), mkL (q + 1 + 1) c, mkT (q + 1 + 1 + 2 * c)⟩
def mkNod (q : Int) (c : Nat) : Nod := ⟨mkT q, mkT (q + 1), q + 1 + 1, mkL (q + 1 + 1 + 1) c⟩
def mkNs {α : Type} (f : Int → Nat → α) : Int → List Nat → List α
  | _, [] => []
  | q, c :: cs => f q c :: mkNs f (q + (3 + 2 * c)) cs
theorem mkNs_len {α : Type} (f : Int → Nat → α) (q : Int) (cs : List Nat) : (mkNs f q cs).length = cs.length := by
  induction cs generalizing q with
  | nil => rfl
  | cons c cs ih => simp [mkNs, ih]
theorem mkNs_get {α : Type} (f : Int → Nat → α) {q : Int} {cs : List Nat} {k : Nat} (h : k < (mkNs f q cs).length) (hk : k < cs.length) : (mkNs f q cs)[k] = f (q + totN (cs.take k)) cs[k] := by
  induction cs generalizing q k with
  | nil => simp at hk
  | cons c cs ih =>
    cases k with
    | zero => simp [mkNs, totN]
    | succ k =>
      simp only [mkNs, List.getElem_cons_succ, List.take_succ_cons]
      rw [ih (by simpa [mkNs] using h) (by simpa using hk), totN_cons]
      congr 1
      omega
/-- the headers of L around the marked elements -/
def remark {α : Type} (f : Int → Nat → α) (q : Int) (cs : List Nat) (L : List (α × Hd)) : List (α × Hd) := List.zipWith (fun t (x : α × Hd) => (t, x.2)) (mkNs f q cs) L
theorem remark_len {α : Type} (f : Int → Nat → α) {q : Int} {cs : List Nat} {L : List (α × Hd)} (h : cs.length = L.length) : (remark f q cs L).length = L.length := by
  simp [remark, mkNs_len, h]
theorem remark_get {α : Type} (f : Int → Nat → α) {q : Int} {cs : List Nat} {L : List (α × Hd)} {k : Nat} (h : k < (remark f q cs L).length) (hk : k < cs.length) (hL : k < L.length) : (remark f q cs L)[k] = (f (q + totN (cs.take k)) cs[k], L[k].2) := by
  simp only [remark, List.getElem_zipWith]
  rw [mkNs_get f (by rw [mkNs_len]; exact hk) hk]
theorem remark_fst {α : Type} (f : Int → Nat → α) {q : Int} {cs : List Nat} {L : List (α × Hd)} (h : cs.length = L.length) : (remark f q cs L).map (·.1) = mkNs f q cs := by
  apply List.ext_getElem
  · rw [List.length_map, remark_len f h, mkNs_len, h]
  · intro i h1 h2
    rw [List.length_map, remark_len f h] at h1
    rw [List.getElem_map, remark_get f (by rw [remark_len f h]; exact h1) (by omega) h1, mkNs_get f h2 (by omega)]

/-! ### One row narrowed to its own block -/
theorem keeps_cell {S : Nat → Prop} {w w' : World} (h : Keeps S w w') {b o : Nat} (hb : b < w.heap.size) (hs : ¬ S b) : w'.cell? ⟨b, o, none⟩ = w.cell? ⟨b, o, none⟩ := by
  unfold World.cell?
  simp only [h.block b hb hs]
theorem Own.narrow {w : World} {lo hi : Nat} {e : TypeId} {size n : Nat} {v : Value} {xs : List Value} (h : Own w lo hi e size v n xs) :
    ∃ lo' hi', Own w lo' hi' e size v n xs ∧ hi' ≤ hi ∧ lo' ≤ hi' ∧ (∀ k, Span lo' hi' k → v.ownBlock = some k) ∧ ∀ (w' : World) (xs' : List Value), Own w' lo' hi' e size v n xs' → Own w' lo hi e size v n xs' := by
  obtain ⟨⟨h1, h2⟩, h3⟩ := h
  rcases h2 with hn | ⟨g, cap, cur, rfl, hb, rest⟩
  · refine ⟨0, 0, ⟨⟨h1, .inl hn⟩, fun k hk => by rw [hn.1] at hk; cases hk⟩, by omega, by omega, fun k hk => by have := hk.1; have := hk.2; omega, fun w' xs' h' => ⟨⟨h'.1.1, ?_⟩, fun k hk => by rw [hn.1] at hk; cases hk⟩⟩
    rcases h'.1.2 with hn' | ⟨g, cap, cur, hv, _⟩
    · exact .inl hn'
    · rw [hn.1] at hv; injection hv with hv; cases hv
  · have hg := h3 g rfl
    refine ⟨g, g + 1, ⟨⟨h1, .inr ⟨g, cap, cur, rfl, Nat.le_refl _, rest⟩⟩, fun k hk => ?_⟩, by omega, by omega, fun k hk => ?_, fun w' xs' h' => h'.wide hb (by omega)⟩
    · have e : some g = some k := hk
      injection e with e
      omega
    · have h1 := hk.1
      have h2 := hk.2
      show some g = some k
      congr 1
      omega
theorem own_any {w : World} {lo e g n c size idx : Nat} {cur : List Value} (h : w.ownsRow lo e size (.slice (some ⟨g, 0, none⟩) n c) n cur) (hk : idx < n * size) :
    ∃ u, w.cell? ⟨g, idx, none⟩ = some u ∧ w.frozen? ⟨g, idx, none⟩ = false := by
  have hl : cur.length = n * size := h.1
  have h1 := h.cellAt idx (by omega)
  rw [List.getElem?_eq_getElem (by omega)] at h1
  exact ⟨_, h1, h.frozenAt _⟩
theorem own_val {w : World} {lo e g n c size idx : Nat} {cur : List Value} {u : Value} (h : w.ownsRow lo e size (.slice (some ⟨g, 0, none⟩) n c) n cur) (hk : cur[idx]? = some u) :
    w.cell? ⟨g, idx, none⟩ = some u := by
  have hl : cur.length = n * size := h.1
  have hi := (List.getElem?_eq_some_iff.1 hk).1
  rw [h.cellAt idx (by omega), hk]
theorem Own.elsewhere {w w' : World} {lo hi : Nat} {e : TypeId} {size n : Nat} {v : Value} {xs : List Value} {S : Nat → Prop} (h : Own w lo hi e size v n xs) (hk : Keeps S w w') (hs : ∀ k, S k → v.ownBlock ≠ some k) : Own w' lo hi e size v n xs := by
  refine ⟨⟨h.1.1, ?_⟩, h.2⟩
  rcases h.1.2 with hn | ⟨g, cap, cur, rfl, hb, hg, rest⟩
  · exact .inl hn
  · refine .inr ⟨g, cap, cur, rfl, hb, ?_, rest⟩
    rw [hk.block g (Array.getElem?_eq_some_iff.1 hg).1 (fun hS => hs g hS rfl)]
    exact hg
/-- what a row of marked elements is filled to, cell by cell -/
theorem set_take {cur T : List Value} {i : Nat} (h : cur.take i = T.take i) {u : Value} (hu : T[i]? = some u) (hc : i < cur.length) : (cur.set i u).take (i + 1) = T.take (i + 1) := by
  obtain ⟨hi, rfl⟩ := List.getElem?_eq_some_iff.1 hu
  exact take_set_succ h hi hc
theorem take_more {cur T : List Value} {i : Nat} {u : Value} (h : cur.take i = T.take i) (hc : cur[i]? = some u) (hT : T[i]? = some u) : cur.take (i + 1) = T.take (i + 1) := by
  obtain ⟨h1, e1⟩ := List.getElem?_eq_some_iff.1 hc
  obtain ⟨h2, e2⟩ := List.getElem?_eq_some_iff.1 hT
  exact take_succ_eq h1 h2 h (e1.trans e2.symm)
theorem set_drop {cur T : List Value} {i j : Nat} (h : cur.drop j = T.drop j) (u : Value) (hij : i < j) : (cur.set i u).drop j = T.drop j := by
  rw [List.drop_set_of_lt hij, h]
theorem drop_more {cur T : List Value} {i j : Nat} (h : cur.drop i = T.drop i) (hij : i ≤ j) : cur.drop j = T.drop j := by
  obtain ⟨m, rfl⟩ := Nat.exists_eq_add_of_le hij
  rw [← List.drop_drop, ← List.drop_drop, h]
theorem drop_get {cur T : List Value} {i j : Nat} (h : cur.drop i = T.drop i) (hij : i ≤ j) : cur[j]? = T[j]? := by
  obtain ⟨m, rfl⟩ := Nat.exists_eq_add_of_le hij
  have := congrArg (fun l => l[m]?) h
  simpa using this
theorem pair_sep {l : List (Option Nat)} (h : l.Pairwise sep) {i j : Nat} (hi : i < l.length) (hj : j < l.length) (hij : i ≠ j) : sep l[i] l[j] := by
  rcases Nat.lt_or_gt_of_ne hij with h1 | h1
  · exact List.pairwise_iff_getElem.1 h i j hi hj h1
  · exact (List.pairwise_iff_getElem.1 h j i hj hi h1).symm
theorem mkTok_attrs (q : Int) (c : Nat) : (mkTok q c).attrs.length = c := by simp [mkTok, mkL_length]
theorem mkNod_attrs (q : Int) (c : Nat) : (mkNod q c).attrs.length = c := by simp [mkNod, mkL_length]
end Go.Proofs.Ytleopmeaaabejaa
