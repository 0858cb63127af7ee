/-
  Plain words: a list of pairs in strict order; a pair put in; equal neighbours left out; the builtin clear on pairs. No program is named. No condition.
  Contracts of functions that compute with integers and strings. No condition beyond the size of a Go string.
  Contracts of InRange, Mod, IsName, IsValue, IsAddr and of the generated toAddr, szAddr. Conditions: the bounds of Go integers and strings.
  Contracts of the helper that prints a mark. Conditions: at most 2^30 elements, sizes of Go strings.
  Words for slices of structs that hold one slice of two-cell elements each (tokens, nodes, sheets). No program is named. No condition.
-/
import Derived.Lib.SliceRun
import Derived.Test.YtleopmeaaabejaaJ03
import Derived.Test.YtleopmeaaabejaaRows
import Derived.Test.YtleopmeaaabejaaJ01
import Derived.BigQuiet
import Derived.Deep.QuietTactic
import Derived.Outline
import Derived.Test.YtleopmeaaabejaaJ02
import Derived.Deep.RegionWith
namespace Go.Proofs.Ytleopmeaaabejaa
set_option linter.unusedVariables false
set_option linter.unusedSimpArgs false
open Go.RowKit

def Srt (l : List S2) : Prop := l.Pairwise fun a b => cmpA a b < 0
structure SortOf (l x : List S2) : Prop where
  srt : Srt x
  mem : ∀ a, a ∈ x ↔ a ∈ l
theorem cmpA_irr (a : S2) : ¬ cmpA a a < 0 := by rw [cmpA_self]; omega
theorem cmpA_asymm {a b : S2} (h1 : cmpA a b < 0) (h2 : cmpA b a < 0) : False := by rw [cmpA_anti a b] at h2; omega
theorem srt_unique : ∀ {x y : List S2}, Srt x → Srt y → (∀ a, a ∈ x ↔ a ∈ y) → x = y := by
  intro x
  induction x with
  | nil =>
    intro y _ _ h
    cases y with
    | nil => rfl
    | cons b y => exact absurd ((h b).2 (by simp)) (by simp)
  | cons a x ih =>
    intro y hx hy h
    cases y with
    | nil => exact absurd ((h a).1 (by simp)) (by simp)
    | cons b y =>
      have hx' := List.pairwise_cons.1 hx
      have hy' := List.pairwise_cons.1 hy
      have hab : a = b := by
        rcases List.mem_cons.1 ((h a).1 (by simp)) with h1 | h1
        · exact h1
        · rcases List.mem_cons.1 ((h b).2 (by simp)) with h2 | h2
          · exact h2.symm
          · exact (cmpA_asymm (hx'.1 b h2) (hy'.1 a h1)).elim
      subst hab
      rw [ih hx'.2 hy'.2 fun c => ?_]
      constructor
      · intro hc
        rcases List.mem_cons.1 ((h c).1 (by simp [hc])) with h1 | h1
        · exact (cmpA_irr a (by have := hx'.1 c hc; rwa [h1] at this)).elim
        · exact h1
      · intro hc
        rcases List.mem_cons.1 ((h c).2 (by simp [hc])) with h1 | h1
        · exact (cmpA_irr a (by have := hy'.1 c hc; rwa [h1] at this)).elim
        · exact h1
theorem SortOf.unique {l x y : List S2} (h : SortOf l x) (k : SortOf l y) : x = y := srt_unique h.srt k.srt fun a => (h.mem a).trans (k.mem a).symm
theorem SortOf.nil : SortOf [] [] := ⟨List.Pairwise.nil, fun _ => Iff.rfl⟩
theorem SortOf.more {l x : List S2} {a : S2} (h : SortOf l x) (ha : a ∈ l) : SortOf (l ++ [a]) x :=
  ⟨h.srt, fun c => by
    rw [h.mem c, List.mem_append, List.mem_singleton]
    constructor
    · exact .inl
    · rintro (h1 | rfl)
      · exact h1
      · exact ha⟩
/-- the last is greater than all -/
theorem SortOf.last {l x : List S2} {a : S2} (h : SortOf l x) (ha : ∀ b ∈ l, cmpA b a < 0) : SortOf (l ++ [a]) (x ++ [a]) :=
  ⟨List.pairwise_append.2 ⟨h.srt, by simp, fun b hb c hc => by
    simp only [List.mem_singleton] at hc
    subst hc
    exact ha b ((h.mem b).1 hb)⟩, fun c => by rw [List.mem_append, List.mem_append, h.mem c]⟩
/-- put in at k -/
theorem SortOf.ins {l x : List S2} {a : S2} {k : Nat} (h : SortOf l x) (hk : k ≤ x.length) (h1 : ∀ j (hj : j < x.length), k ≤ j → cmpA a x[j] < 0) (h2 : ∀ j (hj : j < x.length), j < k → cmpA x[j] a < 0) : SortOf (l ++ [a]) (x.take k ++ [a] ++ x.drop k) := by
  have hs := h.srt
  rw [Srt, ← List.take_append_drop k x] at hs
  obtain ⟨p1, p2, p3⟩ := List.pairwise_append.1 hs
  have m1 : ∀ b ∈ x.take k, cmpA b a < 0 := by
    intro b hb
    obtain ⟨j, hj, rfl⟩ := List.getElem_of_mem hb
    rw [List.length_take] at hj
    rw [List.getElem_take]
    exact h2 j (by omega) (by omega)
  have m2 : ∀ b ∈ x.drop k, cmpA a b < 0 := by
    intro b hb
    obtain ⟨j, hj, rfl⟩ := List.getElem_of_mem hb
    rw [List.length_drop] at hj
    rw [List.getElem_drop]
    exact h1 (k + j) (by omega) (by omega)
  refine ⟨?_, fun c => ?_⟩
  · rw [Srt, List.append_assoc]
    refine List.pairwise_append.2 ⟨p1, List.pairwise_append.2 ⟨by simp, p2, fun b hb c hc => ?_⟩, fun b hb c hc => ?_⟩
    · simp only [List.mem_singleton] at hb
      subst hb
      exact m2 c hc
    · rcases List.mem_append.1 hc with hc | hc
      · simp only [List.mem_singleton] at hc
        subst hc
        exact m1 b hb
      · exact p3 b hb c hc
  · have hx := h.mem c
    rw [← List.take_append_drop k x, List.mem_append] at hx
    simp only [List.mem_append, List.mem_singleton]
    rw [← hx]
    constructor
    · rintro ((h3 | h3) | h3)
      · exact .inl (.inl h3)
      · exact .inr h3
      · exact .inl (.inr h3)
    · rintro ((h3 | h3) | h3)
      · exact .inl (.inl h3)
      · exact .inr h3
      · exact .inl (.inr h3)
/-- what stands below position k of a strictly sorted list, if a is greater than its neighbour -/
theorem srt_below {x : List S2} {a : S2} {k : Nat} (h : Srt x) (hk : k < x.length) (ha : cmpA x[k] a < 0) : ∀ j (hj : j < x.length), j < k + 1 → cmpA x[j] a < 0 := by
  intro j hj hjk
  by_cases e : j = k
  · subst e; exact ha
  · exact cmpA_trans (List.pairwise_iff_getElem.1 h j k hj hk (by omega)) ha

/-! ### clear -/
theorem setCells_keeps (b : Nat) : ∀ (vs : List Value) (o : Nat) (w : World), Keeps (fun k => k = b) w (w.setCells b o vs)
  | [], _, w => Keeps.refl _ _
  | v :: vs, o, w => (keeps_set (S := fun k => k = b) w v (p := ⟨b, o, none⟩) rfl).trans (setCells_keeps b vs (o + 1) _)
theorem heap_setCells {b : Nat} {ty : TypeId} : ∀ (vs : List Value) (o : Nat) (w : World) (cur : Array Value), w.heap[b]? = some (.cells cur ty (0, 0)) → ∃ cur' : Array Value, (w.setCells b o vs).heap[b]? = some (.cells cur' ty (0, 0)) ∧ cur'.size = cur.size ∧ ∀ j, j < o → cur'[j]? = cur[j]?
  | [], o, w, cur, h => ⟨cur, h, rfl, fun _ _ => rfl⟩
  | v :: vs, o, w, cur, h => by
    have h1 : (w.setCell ⟨b, o, none⟩ v).heap[b]? = some (.cells (cur.setIfInBounds o v) ty (0, 0)) := by
      obtain ⟨hlt, hk⟩ := Array.getElem?_eq_some_iff.1 h
      show (w.heap.modify b _)[b]? = _
      rw [Array.getElem?_eq_getElem (by rw [Array.size_modify]; exact hlt), Array.getElem_modify_self, hk]
      rfl
    obtain ⟨cur', h2, h3, h4⟩ := heap_setCells vs (o + 1) _ _ h1
    refine ⟨cur', h2, by rw [h3, Array.size_setIfInBounds], fun j hj => ?_⟩
    rw [h4 j (by omega), Array.getElem?_setIfInBounds_ne (by omega)]
theorem run_clear_two {P : Program} (w : World) (t e ty : TypeId) (z z0 z1 : Value) (ht : P.underlying t = some (.slice e)) (hv : ∀ w, (zeroValue e).run P w = .ok z w) (hz : z.cells = #[z0, z1]) (h0 : z0.oneCell' = true) (h1 : z1.oneCell' = true) (b o n c : Nat) (hn : 0 < n)
    (hc : ∀ j, j < n * 2 → (w.cell? ⟨b, o + j, none⟩).isSome = true) (hf : ∀ j, j < n * 2 → w.frozen? ⟨b, o + j, none⟩ = false) :
    ∃ vs : List Value, (Builtin.clear_ #[t] ty #[.slice (some ⟨b, o, none⟩) n c]).run P w = .ok (.tuple #[]) (w.setCells b o vs) := by
  have hlen : (Builtin.zeroCells z.cells n).toList.length = n * 2 := by rw [hz]; simp [Builtin.zeroCells]
  have hone : ∀ v ∈ (Builtin.zeroCells z.cells n).toList, v.oneCell' = true := by
    rw [hz]
    intro v hv'
    simp only [Builtin.zeroCells, Array.toList_map, Array.toList_range, List.mem_map] at hv'
    obtain ⟨i, _, rfl⟩ := hv'
    have : i % (#[z0, z1] : Array Value).size = 0 ∨ i % (#[z0, z1] : Array Value).size = 1 := by simp; omega
    rcases this with h | h <;> rw [h]
    · exact h0
    · exact h1
  have hst := run_storeCells_cells (P := P) b o (Builtin.zeroCells z.cells n).toList 0 w (by rw [hlen]; simpa using hc) (by rw [hlen]; simpa using hf) hone
  simp only [Nat.add_zero] at hst
  refine ⟨(Builtin.zeroCells z.cells n).toList, ?_⟩
  obtain ⟨m, rfl⟩ : ∃ m, n = m + 1 := ⟨n - 1, by omega⟩
  simp [Builtin.clear_, run_underlying ht, hv, hst]
theorem Own.front {w w' : World} {lo hi g n m c : Nat} {e : TypeId} {xs : List Value} {vs : List Value} (h : Own w lo hi e 2 (.slice (some ⟨g, 0, none⟩) n c) n xs) (hm : m ≤ n) (h0 : 0 < m) (hw : w' = w.setCells g (m * 2) vs) :
    Own w' lo hi e 2 (.slice (some ⟨g, 0, none⟩) m c) m (xs.take (m * 2)) := by
  subst hw
  obtain ⟨⟨h1, h2⟩, h3⟩ := h
  rcases h2 with ⟨hv, _⟩ | ⟨g', cap, cur, hv, hb, hg, hn, hc, hs, ht⟩
  · injection hv with hv; cases hv
  · injection hv with hA _ hcap
    injection hA with hA
    injection hA with hA
    subst hA hcap
    obtain ⟨cur', k1, k2, k3⟩ := heap_setCells vs (m * 2) w cur hg
    refine ⟨⟨by rw [List.length_take, h1]; exact Nat.min_eq_left (Nat.mul_le_mul_right _ hm), .inr ⟨g, c, cur', rfl, hb, k1, by omega, hc, by rw [k2, hs], ?_⟩⟩, fun k hk => h3 k hk⟩
    rw [← ht, List.take_take, Nat.min_eq_left (Nat.mul_le_mul_right _ hm)]
    apply List.ext_getElem?
    intro j
    rw [List.getElem?_take, List.getElem?_take]
    split
    · rename_i hj
      have := k3 j hj
      simpa [Array.getElem?_toList] using this
    · rfl
end Go.Proofs.Ytleopmeaaabejaa

namespace Go.Proofs.Ytleopmeaaabejaa
set_option linter.unusedVariables false
open Go.ChangeShapes Go.WideShapes Go.ChangeAt Go.RowKit
open Go.ChangeMaps (open_string shut_string)

theorem own : ownKnob Try.prog.godebug = none := by kernel_rfl
theorem laidOut : laidOutB Try.prog = true := by kernel_rfl

end Go.Proofs.Ytleopmeaaabejaa

namespace Go.Proofs.Ytleopmeaaabejaa
set_option linter.unusedVariables false
open Go.ChangeShapes Go.WideShapes Go.ChangeAt Go.RowKit
open Go.ChangeMaps (open_string shut_string)

theorem inRange_impl (n a b : Int) (w : World) : Calls Try.prog 47 #[.int .i64 n, .int .i64 a, .int .i64 b] w fun e w' => e = .returned (.bool (inR n a b)) ∧ w = w' := by
  by_cases h1 : a ≤ n
  · go_enter Try.func47, Try.ntmps47
    go_wp2
    go_ret
    exact ⟨ret_bool (inR_yes h1), rfl⟩
  · have h2 : n < a := by omega
    go_enter Try.func47, Try.ntmps47
    go_wp2
    go_ret
    exact ⟨ret_bool (inR_no h2), rfl⟩
theorem inRange_spec (n a b : Int) (w : World) : Calls Try.prog 50 #[.int .i64 n, .int .i64 a, .int .i64 b] w fun e w' => e = .returned (.bool (inR n a b)) ∧ w = w' := by
  by_cases h1 : a ≤ n
  · go_enter Try.func50, Try.ntmps50
    go_wp2
    go_ret
    exact ⟨ret_bool (inR_yes h1), rfl⟩
  · have h2 : n < a := by omega
    go_enter Try.func50, Try.ntmps50
    go_wp2
    go_ret
    exact ⟨ret_bool (inR_no h2), rfl⟩


theorem isName_impl (s : ByteArray) (_ : s.size ≤ 9223372036854775807) (w : World) :
    Calls Try.prog 48 #[.string s] w fun e w' => e = .returned (.bool (nameB s)) ∧ w = w' := by
  go_enter Try.func48, Try.ntmps48
  go_wp2
  go_loop [3] (fun i => ∃ k : Nat, k ≤ s.size ∧ i = .int .i64 k ∧ Hid (allB lowB s k = true)) (fun i => s.size - (intOf i).toNat)
  case atStart => exact ⟨0, Nat.zero_le _, rfl, allB_zero _ _⟩
  case round =>
    obtain ⟨k, hk, rfl, hall⟩ := hrel
    by_cases hlt : k < s.size
    · cases hc : lowB s[k]
      · rcases lowB_no hc with h1 | ⟨h1, h2⟩
        all_goals
          go_wp2
          go_ret
          exact ⟨ret_bool (nameB_no hlt hc).symm, rfl⟩
      · obtain ⟨h1, h2⟩ := lowB_yes hc
        have hn : Hid (allB lowB s (k + 1) = true) := by rw [Hid, allB_succ _ _ _ hlt, hall.out, hc]; rfl
        clear hc hall
        go_wp2
        go_round
        case rel => exact ⟨k + 1, by omega, by go_num, hn⟩
        case measure => simp [intOf]; omega
    · obtain rfl : k = s.size := by omega
      go_wp2_with (go_at_call 47; refine (inRange_impl _ _ _ _).mono ?_; rintro e w' ⟨rfl, rfl⟩)
      go_ret
      exact ⟨ret_bool (nameB_end hall.out).symm, rfl⟩
theorem isName_spec (s : ByteArray) (_ : s.size ≤ 9223372036854775807) (w : World) :
    Calls Try.prog 20 #[.string s] w fun e w' => e = .returned (.bool (nameB s)) ∧ w = w' := by
  go_enter Try.func20, Try.ntmps20
  go_wp2
  go_loop [3] (fun i => ∃ k : Nat, k ≤ s.size ∧ i = .int .i64 k ∧ Hid (allB lowB s k = true)) (fun i => s.size - (intOf i).toNat)
  case atStart => exact ⟨0, Nat.zero_le _, rfl, allB_zero _ _⟩
  case round =>
    obtain ⟨k, hk, rfl, hall⟩ := hrel
    by_cases hlt : k < s.size
    · cases hc : lowB s[k]
      · rcases lowB_no hc with h1 | ⟨h1, h2⟩
        all_goals
          go_wp2
          go_ret
          exact ⟨ret_bool (nameB_no hlt hc).symm, rfl⟩
      · obtain ⟨h1, h2⟩ := lowB_yes hc
        have hn : Hid (allB lowB s (k + 1) = true) := by rw [Hid, allB_succ _ _ _ hlt, hall.out, hc]; rfl
        clear hc hall
        go_wp2
        go_round
        case rel => exact ⟨k + 1, by omega, by go_num, hn⟩
        case measure => simp [intOf]; omega
    · obtain rfl : k = s.size := by omega
      go_wp2_with (go_at_call 50; refine (inRange_spec _ _ _ _).mono ?_; rintro e w' ⟨rfl, rfl⟩)
      go_ret
      exact ⟨ret_bool (nameB_end hall.out).symm, rfl⟩
theorem isValue_spec (s : ByteArray) (_ : s.size ≤ 9223372036854775807) (w : World) :
    Calls Try.prog 92 #[.string s] w fun e w' => e = .returned (.bool (valueB s)) ∧ w = w' := by
  go_enter Try.func92, Try.ntmps92
  go_wp2
  go_loop [3] (fun i => ∃ k : Nat, k ≤ s.size ∧ i = .int .i64 k ∧ Hid (allB valB s k = true)) (fun i => s.size - (intOf i).toNat)
  case atStart => exact ⟨0, Nat.zero_le _, rfl, allB_zero _ _⟩
  case round =>
    obtain ⟨k, hk, rfl, hall⟩ := hrel
    by_cases hlt : k < s.size
    · rcases valB_cases s[k] with ⟨hc, h⟩ | ⟨hc, h⟩
      · have hn : Hid (allB valB s (k + 1) = true) := by rw [Hid, allB_succ _ _ _ hlt, hall.out, hc]; rfl
        clear hc hall
        rcases h with ⟨h1, h2⟩ | ⟨h1, h2⟩ | h1
        all_goals
          go_wp2
          go_round
          case rel => exact ⟨k + 1, by omega, by go_num, hn⟩
          case measure => simp [intOf]; omega
      · rcases h with h1 | ⟨h1, h2⟩ | ⟨h1, h2⟩ | h1
        · go_wp2
          all_goals first | (go_ret; exact ⟨ret_bool (valB_no hlt hc).symm, rfl⟩) | (exfalso; rename_i h; simp at h; omega)
        · exact h2.elim
        · go_wp2
          all_goals first | (go_ret; exact ⟨ret_bool (valB_no hlt hc).symm, rfl⟩) | (exfalso; rename_i h; simp at h; omega)
        · go_wp2
          all_goals first | (go_ret; exact ⟨ret_bool (valB_no hlt hc).symm, rfl⟩) | (exfalso; rename_i h; simp at h; omega)
    · obtain rfl : k = s.size := by omega
      go_wp2_with (go_at_call 50; refine (inRange_spec _ _ _ _).mono ?_; rintro e w' ⟨rfl, rfl⟩)
      go_ret
      exact ⟨ret_bool (valueB_end hall.out).symm, rfl⟩
end Go.Proofs.Ytleopmeaaabejaa

namespace Go.Proofs.Ytleopmeaaabejaa
set_option linter.unusedVariables false
set_option linter.unusedSimpArgs false
set_option maxRecDepth 100000
open Go.ChangeShapes Go.WideShapes Go.ChangeAt Go.RowKit Go.Deep

/-- what the measuring helpers answer -/
def Sz (left size : Int) (w : World) (e : Ending) (w' : World) : Prop :=
  ∃ r : Int, e = .returned (.int .i64 r) ∧ r ≤ left ∧ -1 ≤ r ∧ (0 ≤ r → size + r ≤ left) ∧ Below w.heap.size w w'
theorem run_make_two {P : Program} (t e : TypeId) (z : Value) (bytes : Nat) (ht : P.underlying t = some (.slice e)) (hinfo : (P.info? e).map (fun i => (i.zero, i.size, i.bytes)) = some (some z, 2, bytes)) (n : Nat) (hb : bytes * n ≤ 281474976710656) (h63 : n ≤ 9223372036854775807) (w : World) :
    (Instr.makeSlice t (.int .i64 (n : Int)) (.int .i64 (n : Int))).run P w = .ok (.slice (some ⟨w.heap.size, 0, none⟩) n n) (w.alloc (.cells (madeCells z.cells (n * 2)) e)) := by
  obtain ⟨i, hi, hz, hs, hby⟩ := info_parts hinfo
  have h2 : (i.bytes : Int) * (n : Int) ≤ 281474976710656 := by
    rw [hby]
    have h : ((bytes * n : Nat) : Int) ≤ 281474976710656 := by omega
    rwa [Int.natCast_mul] at h
  have hr := run_make (P := P) w t e i z ht hi hz .i64 .i64 n n (by omega) (Int.le_refl _) h2 (by omega)
  simp only [Int.toNat_natCast, hs] at hr
  exact hr

set_option maxHeartbeats 400000 in
theorem markText_any (q : Int) (w : World) (h1 : 0 < q) (h2 : q ≤ 1099511627776) : Calls Try.prog 74 #[.int .i64 q] w fun e w' => e = .returned (.string (mkT q)) ∧ Below w.heap.size w w' := by
  go_enter Try.func74, Try.ntmps74
  go_wp2
  go_loopw [0, 3] (fun p v wr => ∃ (f : Nat) (m : Int) (acc : ByteArray), f ≤ 20 ∧ p = .int .i64 m ∧ v = .string acc ∧ 0 ≤ m ∧ m ≤ q ∧ Hid (m < 10 ^ f ∧ dgB 20 q ⟨#[]⟩ = dgB f m acc) ∧ acc.size + f ≤ 20 ∧ Below w.heap.size w wr) (fun p _ _ => (intOf p).toNat)
  case atStart => exact ⟨20, q, ⟨#[]⟩, Nat.le_refl _, rfl, rfl, by omega, by omega, ⟨by simp; omega, rfl⟩, by simp [ByteArray.size], Below.refl _ _⟩
  case round =>
    obtain ⟨f, m, acc, hf, rfl, rfl, hm0, hm1, hcur, hsz, hbel⟩ := hrel
    have hbs := hbel.size
    by_cases hpos : 0 < m
    · obtain ⟨f, rfl⟩ : ∃ f', f = f' + 1 := by
        rcases f with _ | f
        · have := hcur.out.1; simp at this; omega
        · exact ⟨f, rfl⟩
      have hn : Hid (m / 10 < 10 ^ f ∧ dgB 20 q ⟨#[]⟩ = dgB f (m / 10) (strOfNums [48 + m % 10] ++ acc)) := ⟨dg_small hcur.out.1, by rw [hcur.out.2, dgB_step hpos]⟩
      have kc := run_string_reads (P := Try.prog) (c := 1) (zs := [48 + m % 10]) 22 5 9 Try.underlying22 Try.underlying5 Try.underlying9 (Reads.one wr (.int .u8 (48 + m % 10)) 5)
      have hsz1 : (strOfNums [48 + m % 10]).size ≤ 1 := by rw [strOfNums_size]; simp
      have hsz2 : (strOfNums [48 + m % 10] ++ acc).size + f ≤ 20 := by rw [ByteArray.size_append, strOfNums_size]; simp; omega
      have hacc : acc.size ≤ 20 := by omega
      clear hcur
      go_wp2
      go_roundw
      case rel => exact ⟨f, m / 10, _, by omega, rfl, rfl, by omega, by omega, hn, hsz2, hbel.alloc hbs _⟩
      case measure => simp [intOf]; omega
    · have hz : m ≤ 0 := by omega
      have hr : Hid ((⟨#[109]⟩ : ByteArray) ++ acc = mkT q) := by show _ = _; rw [mkT, hcur.out.2, dgB_stop hz]
      have hacc : acc.size ≤ 20 := by omega
      clear hcur
      go_wp2
      go_ret
      exact ⟨by rw [← hr.out]; rfl, hbel⟩

end Go.Proofs.Ytleopmeaaabejaa

namespace Go.Proofs.Ytleopmeaaabejaa
set_option linter.unusedVariables false
open Go.RowKit

/-- a kind of element: its cells around the header of its own slice, and that slice's cells -/
structure Nest (α : Type) where
  k : Nat
  row : α → Option Addr → Nat → Nat → List Value
  num : α → Nat
  kid : α → List Value
  row_len : ∀ a A n c, (row a A n c).length = k
  kid_len : ∀ a, (kid a).length = num a * 2
  one : ∀ a A n c, ∀ u ∈ row a A n c, u.oneCell' = true
  pos : 0 < k
abbrev Hd := Option Addr × Nat
def Nest.cells {α : Type} (N : Nest α) (x : α × Hd) : List Value := N.row x.1 x.2.1 (N.num x.1) x.2.2
def Nest.flat {α : Type} (N : Nest α) (L : List (α × Hd)) : List Value := L.flatMap N.cells
section
variable {α : Type} {N : Nest α}
theorem Nest.cells_len (x : α × Hd) : (N.cells x).length = N.k := N.row_len _ _ _ _
theorem Nest.flat_nil : N.flat [] = [] := rfl
theorem Nest.flat_cons (x : α × Hd) (L : List (α × Hd)) : N.flat (x :: L) = N.cells x ++ N.flat L := by simp [Nest.flat]
theorem Nest.flat_append (L M : List (α × Hd)) : N.flat (L ++ M) = N.flat L ++ N.flat M := by simp [Nest.flat]
theorem Nest.flat_len (L : List (α × Hd)) : (N.flat L).length = L.length * N.k := by
  induction L with
  | nil => simp [Nest.flat]
  | cons x L ih => rw [Nest.flat_cons, List.length_append, ih, Nest.cells_len, List.length_cons, Nat.succ_mul]; omega
theorem Nest.flat_at {L : List (α × Hd)} {i j : Nat} (hi : i < L.length) (hj : j < N.k) : (N.flat L)[i * N.k + j]? = (N.cells L[i])[j]? := by
  induction L generalizing i with
  | nil => simp at hi
  | cons x L ih =>
    rw [Nest.flat_cons]
    cases i with
    | zero => rw [List.getElem?_append_left (by rw [Nest.cells_len]; omega)]; simp
    | succ i =>
      rw [List.getElem?_append_right (by rw [Nest.cells_len, Nat.succ_mul]; omega), Nest.cells_len, show (i + 1) * N.k + j - N.k = i * N.k + j by rw [Nat.succ_mul]; omega]
      exact ih (by simpa using hi)
theorem Nest.flat_take (L : List (α × Hd)) (i : Nat) : (N.flat L).take (i * N.k) = N.flat (L.take i) := by
  induction L generalizing i with
  | nil => simp [Nest.flat]
  | cons x L ih =>
    cases i with
    | zero => simp [Nest.flat]
    | succ i => rw [Nest.flat_cons, List.take_succ_cons, Nest.flat_cons, List.take_append, Nest.cells_len, show (i + 1) * N.k - N.k = i * N.k by rw [Nat.succ_mul]; omega, ih, List.take_of_length_le (by rw [Nest.cells_len, Nat.succ_mul]; omega)]
theorem Nest.flat_one (L : List (α × Hd)) : ∀ u ∈ N.flat L, u.oneCell' = true := by
  intro u hu
  obtain ⟨x, _, h⟩ := List.mem_flatMap.1 hu
  exact N.one _ _ _ _ u h
end

/-! ### Read -/
def ReadsN {α : Type} (N : Nest α) (w : World) (B : Nat) (A : Option Addr) (n : Nat) (l : List α) : Prop :=
  ∃ L : List (α × Hd), L.map (·.1) = l ∧ Reads w B N.k A n (N.flat L) ∧ ∀ x ∈ L, Reads w B 2 x.2.1 (N.num x.1) (N.kid x.1)
section
variable {α : Type} {N : Nest α} {w w' : World} {B B' n : Nat} {A : Option Addr} {l : List α}
theorem ReadsN.len (h : ReadsN N w B A n l) : l.length = n := by
  obtain ⟨L, rfl, hr, _⟩ := h
  have := hr.1
  rw [Nest.flat_len] at this
  rw [List.length_map]
  exact Nat.eq_of_mul_eq_mul_right N.pos this
theorem ReadsN.keep (h : ReadsN N w B A n l) (hk : ∀ p : Addr, p.block < B → w'.cell? p = w.cell? p) : ReadsN N w' B A n l := by
  obtain ⟨L, e, hr, hx⟩ := h
  exact ⟨L, e, hr.keep hk, fun x hm => (hx x hm).keep hk⟩
theorem ReadsN.more (h : ReadsN N w B A n l) (hB : B ≤ B') : ReadsN N w B' A n l := by
  obtain ⟨L, e, hr, hx⟩ := h
  exact ⟨L, e, hr.more hB, fun x hm => (hx x hm).more hB⟩
theorem ReadsN.below (h : ReadsN N w B A n l) (hb : Below B w w') : ReadsN N w' B A n l := h.keep fun _ hp => hb.cell hp
theorem ReadsN.next (h : ReadsN N w w.heap.size A n l) (hb : Below w.heap.size w w') : ReadsN N w' w'.heap.size A n l := (h.below hb).more hb.size
theorem ReadsN.nil : ReadsN N w B A 0 [] := ⟨[], rfl, ⟨by simp [Nest.flat], fun h => absurd h (by omega)⟩, by simp⟩
/-- element i: where its cells lie, and its own slice -/
theorem ReadsN.at_ {i : Nat} (h : ReadsN N w B A n l) (hi : i < n) :
    ∃ b off, A = some ⟨b, off, none⟩ ∧ b < B ∧ ∀ hl : i < l.length, ∃ hd : Hd, Reads w B 2 hd.1 (N.num l[i]) (N.kid l[i]) ∧ ∀ j u, (N.row l[i] hd.1 (N.num l[i]) hd.2)[j]? = some u → w.cell? ⟨b, off + i * N.k + j, none⟩ = some u := by
  obtain ⟨L, rfl, hr, hx⟩ := h
  obtain ⟨b, off, e, hb, hc⟩ := hr.place N.pos (by omega)
  refine ⟨b, off, e, hb, fun hl => ?_⟩
  have hL : i < L.length := by simpa using hl
  rw [List.getElem_map]
  refine ⟨L[i].2, hx _ (List.getElem_mem _), fun j u hu => ?_⟩
  have hj : j < N.k := by have := (List.getElem?_eq_some_iff.1 hu).1; rwa [N.row_len] at this
  rw [Nat.add_assoc]
  exact hc _ _ (by rw [Nest.flat_at hL hj]; exact hu)
end

/-! ### Owned: the row and the slices of its elements lie in blocks from lo to hi, no block twice -/
def sep (a b : Option Nat) : Prop := ∀ k, a = some k → b ≠ some k
theorem sep.symm {a b : Option Nat} (h : sep a b) : sep b a := fun k h1 h2 => h k h2 h1
theorem sep_lt {a b : Option Nat} {m : Nat} (ha : ∀ k, a = some k → k < m) (hb : ∀ k, b = some k → m ≤ k) : sep a b := fun k h1 h2 => by have := ha k h1; have := hb k h2; omega
def hdBlock (h : Hd) : Option Nat := (Value.slice h.1 0 0).ownBlock
theorem hdBlock_eq (A : Option Addr) (n c : Nat) (c' : Nat) : (Value.slice A n c).ownBlock = hdBlock (A, c') := by cases A <;> rfl
structure OwnN {α : Type} (N : Nest α) (w : World) (lo hi : Nat) (e ek : TypeId) (A : Option Addr) (n c : Nat) (L : List (α × Hd)) : Prop where
  row : Own w lo hi e N.k (.slice A n c) n (N.flat L)
  kids : ∀ x ∈ L, Own w lo hi ek 2 (.slice x.2.1 (N.num x.1) x.2.2) (N.num x.1) (N.kid x.1)
  apart : (L.map fun x => hdBlock x.2).Pairwise sep
  off : ∀ x ∈ L, sep (Value.slice A n c).ownBlock (hdBlock x.2)
section
variable {α : Type} {N : Nest α} {w w' : World} {lo hi n c : Nat} {e ek : TypeId} {A : Option Addr} {L : List (α × Hd)}
theorem OwnN.len (h : OwnN N w lo hi e ek A n c L) : L.length = n := by
  have := h.row.len
  rw [Nest.flat_len] at this
  exact Nat.eq_of_mul_eq_mul_right N.pos this
theorem OwnN.keep {S : Nat → Prop} (h : OwnN N w lo hi e ek A n c L) (hk : Keeps S w w') (hs : ∀ k, S k → k < lo ∨ hi ≤ k) : OwnN N w' lo hi e ek A n c L :=
  ⟨h.row.keep hk hs, fun x hx => (h.kids x hx).keep hk hs, h.apart, h.off⟩
theorem OwnN.below (h : OwnN N w lo hi e ek A n c L) (hb : Below w.heap.size w w') : OwnN N w' lo hi e ek A n c L := h.keep (S := Never) (Keeps.of_below hb) fun _ h => h.elim
theorem OwnN.wide {lo' hi' : Nat} (h : OwnN N w lo hi e ek A n c L) (h1 : lo' ≤ lo) (h2 : hi ≤ hi') : OwnN N w lo' hi' e ek A n c L :=
  ⟨h.row.wide h1 h2, fun x hx => (h.kids x hx).wide h1 h2, h.apart, h.off⟩
theorem OwnN.reads (h : OwnN N w lo hi e ek A n c L) (hh : hi ≤ w.heap.size) : ReadsN N w hi A n (L.map (·.1)) :=
  ⟨L, rfl, h.row.reads hh, fun x hx => (h.kids x hx).reads hh⟩
end
def GotN {α : Type} (N : Nest α) (w : World) (e ek : TypeId) (n : Nat) (l : List α) (r : Ending) (w' : World) : Prop :=
  ∃ A c L, r = .returned (.slice A n c) ∧ L.map (·.1) = l ∧ OwnN N w' w.heap.size w'.heap.size e ek A n c L ∧ Below w.heap.size w w'

/-! ### The kinds -/
structure Tok where
  kind : Int
  name : ByteArray
  attrs : List S2
  text : ByteArray
def tokN : Nest Tok where
  k := 4
  row t A n c := [.int .i64 t.kind, .string t.name, .slice A n c, .string t.text]
  num t := t.attrs.length
  kid t := s2V t.attrs
  row_len _ _ _ _ := rfl
  kid_len t := s2V_length t.attrs
  one t A n c u hu := by simp at hu; rcases hu with rfl | rfl | rfl | rfl <;> rfl
  pos := by omega
structure Nod where
  name : ByteArray
  text : ByteArray
  parent : Int
  attrs : List S2
def nodN : Nest Nod where
  k := 4
  row t A n c := [.string t.name, .string t.text, .int .i64 t.parent, .slice A n c]
  num t := t.attrs.length
  kid t := s2V t.attrs
  row_len _ _ _ _ := rfl
  kid_len t := s2V_length t.attrs
  one t A n c u hu := by simp at hu; rcases hu with rfl | rfl | rfl | rfl <;> rfl
  pos := by omega
abbrev Rul := ByteArray × Int
def rulV (l : List Rul) : List Value := l.flatMap fun a => [.string a.1, .int .i64 a.2]
theorem rulV_cons (a : Rul) (l : List Rul) : rulV (a :: l) = .string a.1 :: .int .i64 a.2 :: rulV l := by simp [rulV]
theorem rulV_append (l m : List Rul) : rulV (l ++ m) = rulV l ++ rulV m := by simp [rulV]
theorem rulV_length (l : List Rul) : (rulV l).length = l.length * 2 := by
  induction l with
  | nil => rfl
  | cons a l ih => rw [rulV_cons]; simp [ih]; omega
def shN : Nest (List Rul) where
  k := 1
  row t A n c := [.slice A n c]
  num t := t.length
  kid t := rulV t
  row_len _ _ _ _ := rfl
  kid_len t := rulV_length t
  one t A n c u hu := by simp at hu; subst hu; rfl
  pos := by omega
section
variable {w : World} {B n i : Nat} {A : Option Addr}
theorem ReadsN.tok {l : List Tok} (h : ReadsN tokN w B A n l) (hi : i < n) :
    ∃ b off, A = some ⟨b, off, none⟩ ∧ b < B ∧ ∀ hl : i < l.length, ∃ A' c', Reads w B 2 A' l[i].attrs.length (s2V l[i].attrs) ∧ w.cell? ⟨b, off + i * 4, none⟩ = some (.int .i64 l[i].kind) ∧
      w.cell? ⟨b, off + i * 4 + 1, none⟩ = some (.string l[i].name) ∧ w.cell? ⟨b, off + i * 4 + 2, none⟩ = some (.slice A' l[i].attrs.length c') ∧ w.cell? ⟨b, off + i * 4 + 3, none⟩ = some (.string l[i].text) := by
  obtain ⟨b, off, e, hb, hc⟩ := h.at_ hi
  refine ⟨b, off, e, hb, fun hl => ?_⟩
  obtain ⟨hd, hr, hx⟩ := hc hl
  exact ⟨hd.1, hd.2, hr, hx 0 _ rfl, hx 1 _ rfl, hx 2 _ rfl, hx 3 _ rfl⟩
theorem ReadsN.nod {l : List Nod} (h : ReadsN nodN w B A n l) (hi : i < n) :
    ∃ b off, A = some ⟨b, off, none⟩ ∧ b < B ∧ ∀ hl : i < l.length, ∃ A' c', Reads w B 2 A' l[i].attrs.length (s2V l[i].attrs) ∧ w.cell? ⟨b, off + i * 4, none⟩ = some (.string l[i].name) ∧
      w.cell? ⟨b, off + i * 4 + 1, none⟩ = some (.string l[i].text) ∧ w.cell? ⟨b, off + i * 4 + 2, none⟩ = some (.int .i64 l[i].parent) ∧ w.cell? ⟨b, off + i * 4 + 3, none⟩ = some (.slice A' l[i].attrs.length c') := by
  obtain ⟨b, off, e, hb, hc⟩ := h.at_ hi
  refine ⟨b, off, e, hb, fun hl => ?_⟩
  obtain ⟨hd, hr, hx⟩ := hc hl
  exact ⟨hd.1, hd.2, hr, hx 0 _ rfl, hx 1 _ rfl, hx 2 _ rfl, hx 3 _ rfl⟩
theorem ReadsN.sheet {l : List (List Rul)} (h : ReadsN shN w B A n l) (hi : i < n) :
    ∃ b off, A = some ⟨b, off, none⟩ ∧ b < B ∧ ∀ hl : i < l.length, ∃ A' c', Reads w B 2 A' l[i].length (rulV l[i]) ∧ w.cell? ⟨b, off + i, none⟩ = some (.slice A' l[i].length c') := by
  obtain ⟨b, off, e, hb, hc⟩ := h.at_ hi
  refine ⟨b, off, e, hb, fun hl => ?_⟩
  obtain ⟨hd, hr, hx⟩ := hc hl
  have h0 := hx 0 _ rfl
  exact ⟨hd.1, hd.2, hr, by simpa [shN] using h0⟩
end
end Go.Proofs.Ytleopmeaaabejaa
