/-
  Plain words: names in strict order; a name put in; a sorted list's equal neighbours left out; names in memory behind the library's sort. No program is named. No condition.
  Regions that draw their order: a condition on the world that is held till one key operation has come up; what is loaded earlier may be taken first. No program is named. No condition.
  Plain facts on the first place of a byte in a string. No program is named. No condition.
-/
import Derived.Sort.Walk0
import Derived.Lib.SlicesCompact
import Derived.Test.YtleopmeaaabejaaJ04
import Derived.Test.YtleopmeaaabejaaJ07
import Derived.Deep.RegionHeld
import Derived.Lib.Bytealg
import Derived.Test.YtleopmeaaabejaaJ01
namespace Go.Proofs.Ytleopmeaaabejaa
set_option linter.unusedVariables false
set_option linter.unusedSimpArgs false
open Go.RowKit Go.Sort

def eS (s : ByteArray) : S2 := (s, ⟨#[]⟩)
theorem eS_inj {a b : ByteArray} (h : eS a = eS b) : a = b := congrArg Prod.fst h
theorem cmpA_eS (a b : ByteArray) : cmpA (eS a) (eS b) = cmpS a b := by
  unfold cmpA eS
  simp only
  split
  · rename_i h; rw [h, cmpS_self]
  · rfl
/-- x: the names of l, each once, in strict order -/
def SortS (l x : List ByteArray) : Prop := SortOf (l.map eS) (x.map eS)
section
variable {l x y : List ByteArray} {a : ByteArray} {k : Nat}
theorem map_eS_inj {x y : List ByteArray} (h : x.map eS = y.map eS) : x = y := List.map_inj_right (fun _ _ h => eS_inj h) |>.1 h
theorem mem_eS {x : List ByteArray} {a : ByteArray} : eS a ∈ x.map eS ↔ a ∈ x := by
  rw [List.mem_map]
  exact ⟨fun ⟨b, hb, he⟩ => eS_inj he ▸ hb, fun h => ⟨a, h, rfl⟩⟩
theorem SortS.unique (h : SortS l x) (k : SortS l y) : x = y := map_eS_inj (SortOf.unique h k)
theorem SortS.nil : SortS [] [] := SortOf.nil
theorem SortS.mem (h : SortS l x) (a : ByteArray) : a ∈ x ↔ a ∈ l := by
  have := SortOf.mem h (eS a)
  rwa [mem_eS, mem_eS] at this
theorem SortS.more (h : SortS l x) (ha : a ∈ l) : SortS (l ++ [a]) x := by
  unfold SortS
  rw [List.map_append]
  exact SortOf.more h (mem_eS.2 ha)
theorem SortS.ins (h : SortS l x) (hk : k ≤ x.length) (h1 : ∀ j (hj : j < x.length), k ≤ j → cmpS a x[j] < 0) (h2 : ∀ j (hj : j < x.length), j < k → cmpS x[j] a < 0) : SortS (l ++ [a]) (x.take k ++ [a] ++ x.drop k) := by
  unfold SortS
  have := SortOf.ins (a := eS a) (k := k) h (by simpa using hk) (fun j hj h3 => by rw [List.getElem_map, cmpA_eS]; exact h1 j (by simpa using hj) h3) (fun j hj h3 => by rw [List.getElem_map, cmpA_eS]; exact h2 j (by simpa using hj) h3)
  simpa [List.map_take, List.map_drop] using this
theorem SortS.below (h : SortS l x) (hk : k < x.length) (ha : cmpS x[k] a < 0) : ∀ j (hj : j < x.length), j < k + 1 → cmpS x[j] a < 0 := by
  intro j hj hjk
  have := srt_below (x := x.map eS) (a := eS a) (k := k) h.srt (by simpa using hk) (by rw [List.getElem_map, cmpA_eS]; exact ha) j (by simpa using hj) hjk
  rwa [List.getElem_map, cmpA_eS] at this
end
/-- what the reference's test says -/
theorem cmpS_less (a b : ByteArray) : Op.bytesLess a.toList b.toList = decide (cmpS a b < 0) := by
  rcases cmpS_tri a b with ⟨h1, _, h3⟩ | ⟨h1, _, h3⟩ | ⟨h1, _, h3⟩ <;> rw [h1, h3] <;> rfl
theorem cmpS_rest {a b : ByteArray} (h1 : Op.bytesLess a.toList b.toList = false) (h2 : (b.toList == a.toList) = false) : cmpS b a < 0 := by
  have hne : a ≠ b := fun e => by subst e; simp at h2
  have e1 : ∀ x y : ByteArray, cmpS y x = - cmpS x y := fun x y => by have := cmpA_anti (eS x) (eS y); rw [cmpA_eS, cmpA_eS] at this; exact this
  rcases cmpS_tri a b with ⟨h3, _, _⟩ | ⟨_, h3, _⟩ | ⟨_, _, h3⟩
  · rw [h3] at h1; cases h1
  · exact absurd h3 hne
  · have := e1 a b; omega
/-! ### The library's sort and Compact -/
def bl (s : ByteArray) : List UInt8 := s.data.toList
def lb (s : List UInt8) : ByteArray := ⟨s.toArray⟩
theorem lb_bl (s : ByteArray) : lb (bl s) = s := rfl
theorem bl_lb (s : List UInt8) : bl (lb s) = s := rfl
theorem cmpS_lt {x y : List UInt8} : cmpS (lb x) (lb y) < 0 ↔ x < y := by
  have h := cmpS_less (lb x) (lb y)
  rw [Lib.toList_data, Lib.toList_data, bytesLess_eq] at h
  have e1 : (lb x).data.toList = x := rfl
  have e2 : (lb y).data.toList = y := rfl
  rw [e1, e2] at h
  have := decide_eq_decide.1 h
  exact this.symm
theorem compact_spec : ∀ (d : Array (List UInt8)), (d.toList.Pairwise (· ≤ ·)) → ∀ m, m ≤ d.size → ((Lib.compactUpTo d m).Pairwise (· < ·)) ∧ (∀ a, a ∈ Lib.compactUpTo d m ↔ a ∈ d.toList.take m) := by
  intro d hd m
  induction m with
  | zero => intro _; exact ⟨by simp [Lib.compactUpTo], fun a => by simp [Lib.compactUpTo]⟩
  | succ m ih =>
    intro hm
    obtain ⟨h1, h2⟩ := ih (by omega)
    have hml : m < d.toList.length := by rw [Array.length_toList]; omega
    have em : d[m]! = d.toList[m] := by rw [getElem!_pos d m (by omega)]; simp
    rw [Lib.compactUpTo_succ, List.take_succ_eq_append_getElem hml]
    cases hk : Lib.keeps d m
    · -- equal to its neighbour
      have hne : ¬ (m = 0 ∨ d[m]! ≠ d[m - 1]!) := by simpa [Lib.keeps] using hk
      have hm0 : m ≠ 0 := fun e => hne (.inl e)
      have heq : d[m]! = d[m - 1]! := Decidable.not_not.1 fun e => hne (.inr e)
      have hpl : m - 1 < d.toList.length := by omega
      have ep : d[m - 1]! = d.toList[m - 1] := by rw [getElem!_pos d (m - 1) (by omega)]; simp
      have hin : d.toList[m] ∈ d.toList.take m := by
        rw [← em, heq, ep, List.mem_take_iff_getElem]
        exact ⟨m - 1, by omega, rfl⟩
      refine ⟨by simpa using h1, fun a => ?_⟩
      simp only [Bool.false_eq_true, if_false, List.append_nil, List.mem_append, List.mem_singleton]
      rw [h2]
      exact ⟨.inl, fun h => h.elim id fun e => by rw [e]; exact hin⟩
    · refine ⟨?_, fun a => ?_⟩
      · simp only [if_true]
        refine List.pairwise_append.2 ⟨h1, by simp, fun b hb c hc => ?_⟩
        simp only [List.mem_singleton] at hc
        subst hc
        have hb' := (h2 b).1 hb
        obtain ⟨j, hj, rfl⟩ := List.mem_take_iff_getElem.1 hb'
        have hjm : j < m := by omega
        have hle : d.toList[j] ≤ d.toList[m] := (List.pairwise_iff_getElem.1 hd) j m (by omega) hml hjm
        rw [em]
        by_cases hlt : d.toList[j] < d.toList[m]
        · exact hlt
        · exfalso
          have h : d.toList[j] = d.toList[m] := Std.le_antisymm hle (List.not_lt.1 hlt)
          have hk' : m = 0 ∨ d[m]! ≠ d[m - 1]! := by simpa [Lib.keeps] using hk
          rcases hk' with h0 | h0
          · omega
          · have hpl : m - 1 < d.toList.length := by omega
            have ep : d[m - 1]! = d.toList[m - 1] := by rw [getElem!_pos d (m - 1) (by omega)]; simp
            apply h0
            rw [em, ep]
            have h3 : d.toList[m - 1] ≤ d.toList[m] := (List.pairwise_iff_getElem.1 hd) (m - 1) m (by omega) hml (by omega)
            have h4 : d.toList[j] ≤ d.toList[m - 1] := by
              rcases Nat.lt_or_ge j (m - 1) with h5 | h5
              · exact (List.pairwise_iff_getElem.1 hd) j (m - 1) (by omega) hpl h5
              · have e5 : j = m - 1 := by omega
                subst e5
                exact Std.le_refl _
            rw [h] at h4
            exact Std.le_antisymm h4 h3
      · simp only [if_true, List.mem_append, List.mem_singleton]
        rw [h2, em]
theorem compact_sorted (ns : List ByteArray) : SortS ns ((Lib.compact ((ns.map bl).mergeSort fun x y => decide (x ≤ y))).map lb) := by
  have hs : ((ns.map bl).mergeSort fun x y => decide (x ≤ y)).Pairwise (· ≤ ·) := by
    have := List.pairwise_mergeSort (le := fun x y : List UInt8 => decide (x ≤ y)) (fun a b c h1 h2 => by simp only [decide_eq_true_eq] at *; exact Std.le_trans h1 h2) (fun a b => by simp only [Bool.or_eq_true, decide_eq_true_eq]; exact Std.le_total) (ns.map bl)
    exact this.imp fun h => by simpa using h
  obtain ⟨h1, h2⟩ := compact_spec ((ns.map bl).mergeSort fun x y => decide (x ≤ y)).toArray (by simpa using hs) ((ns.map bl).mergeSort fun x y => decide (x ≤ y)).length (by simp)
  unfold Lib.compact
  refine ⟨?_, fun a => ?_⟩
  · unfold Srt
    rw [List.map_map, List.pairwise_map]
    exact h1.imp fun {x y} h => by
      show cmpA (eS (lb x)) (eS (lb y)) < 0
      rw [cmpA_eS]
      exact cmpS_lt.2 h
  · constructor
    · intro ha
      rw [List.map_map, List.mem_map] at ha
      obtain ⟨s, hs', rfl⟩ := ha
      have := (h2 s).1 hs'
      rw [List.toList_toArray] at this
      have := List.mem_of_mem_take this
      have := (List.mergeSort_perm _ _).mem_iff.1 this
      obtain ⟨b, hb, rfl⟩ := List.mem_map.1 this
      exact List.mem_map.2 ⟨b, hb, rfl⟩
    · intro ha
      obtain ⟨b, hb, rfl⟩ := List.mem_map.1 ha
      rw [List.map_map, List.mem_map]
      refine ⟨bl b, (h2 _).2 ?_, rfl⟩
      rw [List.toList_toArray, List.take_of_length_le (Nat.le_refl _)]
      exact (List.mergeSort_perm _ _).mem_iff.2 (List.mem_map.2 ⟨b, hb, rfl⟩)
theorem compact_le (zs : List (List UInt8)) : (Lib.compact zs).length ≤ zs.length := by
  unfold Lib.compact Lib.compactUpTo
  rw [List.length_map]
  refine Nat.le_trans (List.length_filter_le _ _) ?_
  simp
/-! ### The names of sheets, and what JoinSheets gives -/
def nmR (r : List Rul) : List ByteArray := r.map (·.1)
def nmsL (l : List (List Rul)) : List ByteArray := l.flatMap nmR
theorem nmsL_succ {l : List (List Rul)} {k : Nat} (h : k < l.length) : nmsL (l.take (k + 1)) = nmsL (l.take k) ++ nmR l[k] := by
  unfold nmsL
  rw [List.take_succ_eq_append_getElem h, List.flatMap_append]
  simp
theorem nmR_succ {r : List Rul} {k : Nat} (h : k < r.length) : nmR (r.take (k + 1)) = nmR (r.take k) ++ [r[k].1] := by
  unfold nmR
  rw [List.take_succ_eq_append_getElem h, List.map_append]
  rfl
theorem nmsL_len (l : List (List Rul)) : ((nmsL l).length : Int) ≤ shsSz l := by
  induction l with
  | nil => simp [nmsL, shsSz]
  | cons r l ih =>
    have h1 : nmsL (r :: l) = nmR r ++ nmsL l := by simp [nmsL]
    have h2 : shsSz (r :: l) = shSz r + shsSz l := by simp [shsSz]
    have h3 := rulsz_nonneg r
    rw [h1, h2, List.length_append]
    unfold shSz nmR
    simp only [List.length_map]
    omega
def jsR (l : List (List Rul)) (x : List ByteArray) : List Rul := x.map fun nm => (nm, colOf l nm)
theorem jsR_len (l : List (List Rul)) (x : List ByteArray) : (jsR l x).length = x.length := by simp [jsR]
theorem jsR_app (l : List (List Rul)) (x y : List ByteArray) : jsR l (x ++ y) = jsR l x ++ jsR l y := by simp [jsR]
theorem jsR_take (l : List (List Rul)) (x : List ByteArray) (k : Nat) : (jsR l x).take k = jsR l (x.take k) := by simp [jsR, List.map_take]
theorem jsR_drop (l : List (List Rul)) (x : List ByteArray) (k : Nat) : (jsR l x).drop k = jsR l (x.drop k) := by simp [jsR, List.map_drop]
theorem jsR_get {l : List (List Rul)} {x : List ByteArray} {k : Nat} (h : k < x.length) : (jsR l x)[k]'(by rw [jsR_len]; exact h) = (x[k], colOf l x[k]) := by simp [jsR]
def GotJs (w : World) (ek : TypeId) (l : List (List Rul)) (r : Ending) (w' : World) : Prop :=
  ∃ x A c, SortS (nmsL l) x ∧ x.length ≤ (nmsL l).length ∧ r = .returned (.agg #[.slice A x.length c]) ∧ Own w' w.heap.size w'.heap.size ek 2 (.slice A x.length c) x.length (rulV (jsR l x)) ∧ Below w.heap.size w w'
/-! ### Names in memory -/
def strV (x : List ByteArray) : List Value := x.map Value.string
theorem strV_len (x : List ByteArray) : (strV x).length = x.length := by simp [strV]
theorem enc_bl (s : ByteArray) : encStr (bl s) = .string s := rfl
theorem str_holds {w : World} {lo e g n c : Nat} {l : List ByteArray} (h : w.ownsRow lo e 1 (.slice (some ⟨g, 0, none⟩) n c) n (strV l)) : Holds encStr w g 0 (l.map bl).toArray := by
  intro j hj
  have hj' : j < l.length := by simpa using hj
  have hl : (strV l).length = n * 1 := h.1
  rw [strV_len] at hl
  have h1 := h.cellAt j (by omega)
  have e1 : (strV l)[j]? = some (.string l[j]) := by unfold strV; rw [List.getElem?_map, List.getElem?_eq_getElem hj']; rfl
  rw [e1] at h1
  rw [Nat.zero_add]
  refine ⟨?_, h.frozenAt j⟩
  rw [h1, getElem!_pos _ j hj]
  simp only [List.getElem_toArray, List.getElem_map]
  rw [enc_bl]
theorem str_sorted {w : World} {lo hi g n c : Nat} {e : TypeId} {l : List ByteArray} {d : List (List UInt8)} (h : Own w lo hi e 1 (.slice (some ⟨g, 0, none⟩) n c) n (strV l)) (hd : d.length = l.length) (m : Nat) (os : Array Obj) :
    Own (grow (putRow encStr (Sort.ahead w m) g 0 d.toArray) os) lo hi e 1 (.slice (some ⟨g, 0, none⟩) n c) n (strV (d.map lb)) ∧ Keeps (fun k => k = g) w (grow (putRow encStr (Sort.ahead w m) g 0 d.toArray) os) := by
  obtain ⟨⟨h1, h2⟩, h3⟩ := h
  have hl : l.length = n := by rw [strV_len] at h1; omega
  rcases h2 with ⟨hv, _⟩ | ⟨g', cap, cur, hv, hb, hg, hn, hc, hs, ht⟩
  · injection hv with hv; cases hv
  · injection hv with hA _ hcap
    injection hA with hA
    injection hA with hA
    subst hA hcap
    have hlt := (Array.getElem?_eq_some_iff.1 hg).1
    have hcur : n ≤ cur.size := by omega
    constructor
    · refine ⟨⟨by rw [strV_len, List.length_map, hd, hl]; omega, .inr ⟨g, c, putCells encStr 0 d.toArray cur, rfl, hb, ?_, hn, hc, by rw [putCells, Array.size_mapIdx]; exact hs, ?_⟩⟩, fun k hk => h3 k hk⟩
      · show ((w.heap.modify g _) ++ os)[g]? = _
        rw [Array.getElem?_append_left (by rw [Array.size_modify]; exact hlt), Array.getElem?_modify, if_pos rfl, hg]
        rfl
      · apply List.ext_getElem?
        intro i
        rw [List.getElem?_take]
        by_cases hi : i < n * 1
        · have hid : i < d.length := by omega
          rw [if_pos hi, Array.getElem?_toList, putCells, Array.getElem?_mapIdx, Array.getElem?_eq_getElem (by omega), Option.map_some, if_pos ⟨Nat.zero_le _, by simp; omega⟩, Nat.sub_zero, getElem!_pos d.toArray i (by simpa using hid)]
          unfold strV
          rw [List.getElem?_map, List.getElem?_map, List.getElem?_eq_getElem hid]
          rfl
        · rw [if_neg hi, List.getElem?_eq_none (by rw [strV_len, List.length_map]; omega)]
    · refine ⟨rfl, rfl, rfl, ?_, fun k hk hne => ?_⟩
      · show w.heap.size ≤ ((w.heap.modify g _) ++ os).size
        simp
      · show ((w.heap.modify g _) ++ os)[k]? = _
        rw [Array.getElem?_append_left (by rw [Array.size_modify]; exact hk), Array.getElem?_modify, if_neg (fun h => hne h.symm)]
theorem putRow_grow0 (w : World) (q g : Nat) (d : Array (List UInt8)) : putRow encStr (Sort.ahead w q) g 0 d = grow (putRow encStr (Sort.ahead w q) g 0 d) #[] := by
  simp [grow]
  rfl
theorem Reads.strFirst {w : World} {B n m : Nat} {A : Option Addr} {x y : List ByteArray} (h : Reads w B 1 A n (strV (x ++ y))) (hm : x.length = m) (hn : m ≤ n) : Reads w B 1 A m (strV x) := by
  refine ⟨by rw [strV_len]; omega, fun h0 => ?_⟩
  obtain ⟨ad, e, hb, hc⟩ := h.2 (by omega)
  refine ⟨ad, e, hb, fun j u hu => hc j u ?_⟩
  unfold strV at hu ⊢
  rw [List.map_append, List.getElem?_append_left (by have := (List.getElem?_eq_some_iff.1 hu).1; simpa using this)]
  exact hu
end Go.Proofs.Ytleopmeaaabejaa

namespace Go.Proofs.Ytleopmeaaabejaa
set_option linter.unusedVariables false
set_option linter.unusedSimpArgs false

section
variable {P : Program} {ops : Array Oper} {Q : Exit → Act → World → Prop} {md : Region.Mode} {S : World → Prop} {k0 : Nat}

/-- whatever order is picked: S holds behind every operation that is carried out before the key operation k0 has come up -/
def wpAnyK (P : Program) (md : Region.Mode) (ops : Array Oper) (Q : Exit → Act → World → Prop) (S : World → Prop) (k0 : Nat) : Nat → Array Bool → Act → World → Prop
  | 0, listed, a, w => Region.ready md ops listed = [] ∧ Q .normal a w
  | fuel + 1, listed, a, w =>
    (Region.ready md ops listed = [] → Q .normal a w) ∧
    ∀ i ∈ Region.ready md ops listed, wpOp P ops Q i (fun a' w' => ((listed.setIfInBounds i true).getD k0 true = false → S w') ∧ wpAnyK P md ops Q S k0 fuel (listed.setIfInBounds i true) a' w') a w

theorem wpAny_of_key : ∀ (fuel : Nat) (listed : Array Bool) (a : Act) (w : World), wpAnyK P md ops Q S k0 fuel listed a w → wpAny P md ops Q fuel listed a w
  | 0, _, _, _, h => h
  | fuel + 1, _, _, _, h => ⟨h.1, fun i hi => wpOp_mono (fun a' w' h' => wpAny_of_key fuel _ a' w' h'.2) (h.2 i hi)⟩

theorem wpAnyK_first {i : Nat} {oi : Oper} {v : Value} {T : World → Prop} (hi : ops[i]? = some oi) (hsel : ∀ (j : Nat) (o : Oper) cs b, ops[j]? = some o → o.op ≠ .select cs b)
    (hQ : ∀ c a w, Q (.panic c) (a.put oi.dst v) w → Q (.panic c) a w) (hki : k0 ≠ i)
    (hT : (∀ w, T w) ∨ ((∀ w, S w → T w) ∧ ∃ ok, ops[k0]? = some ok ∧ ∃ e ∈ ok.after, Region.binds md e = true ∧ e.on = i)) :
    ∀ (fuel : Nat) (listed : Array Bool) (a : Act) (w : World),
      (∀ j oj, ops[j]? = some oj → j ≠ i → listed.getD j true = false → (∀ e ∈ oj.after, Region.binds md e = true → e.on ≠ i) → oi.apart ops oj = true) →
      ((∀ w, T w) ∨ listed.getD k0 true = false) → i ∈ Region.ready md ops listed → YieldsIf P ops T oi v a → (listed.getD k0 true = false → S w) →
      wpAnyK P md ops Q S k0 fuel (listed.setIfInBounds i true) (a.put oi.dst v) w → wpAnyK P md ops Q S k0 (fuel + 1) listed a w := by
  intro fuel
  have hTw : ∀ (listed : Array Bool) (w : World), ((∀ w, T w) ∨ listed.getD k0 true = false) → (listed.getD k0 true = false → S w) → T w := by
    intro listed w h hS
    rcases hT with h0 | ⟨h0, _⟩
    · exact h0 w
    · rcases h with h | h
      · exact h w
      · exact h0 w (hS h)
  induction fuel with
  | zero =>
    intro listed a w _ hk hr hy hS H
    refine ⟨fun h => (by rw [h] at hr; cases hr), fun j hj => ?_⟩
    by_cases hji : j = i
    · subst hji
      exact hy.wpOp hi (hTw listed w hk hS) ⟨fun h => hS (by rw [getD_set_ne true (Ne.symm hki)] at h; exact h), H⟩
    · have := ready_mono hj hji
      rw [H.1] at this
      cases this
  | succ fuel ih =>
    intro listed a w hfree hk hr hy hS H
    refine ⟨fun h => (by rw [h] at hr; cases hr), fun j hj => ?_⟩
    by_cases hji : j = i
    · subst hji
      exact hy.wpOp hi (hTw listed w hk hS) ⟨fun h => hS (by rw [getD_set_ne true (Ne.symm hki)] at h; exact h), H⟩
    · have h1 := H.2 j (ready_mono hj hji)
      obtain ⟨hjun, oj, hoj, hall⟩ := mem_ready.1 hj
      have hnot : ∀ e ∈ oj.after, Region.binds md e = true → e.on ≠ i := fun e he hb heq => by
        have h1 := hall e he hb
        have h0 := (mem_ready.1 hr).1
        rw [heq] at h1
        rcases Nat.lt_or_ge i listed.size with h' | h'
        · simp [h'] at h0 h1; rw [h0] at h1; cases h1
        · simp [Array.getElem?_eq_none h'] at h1
      have h2 := wpOp_putIf hoj (hfree j oj hoj hji hjun hnot) (fun cs b => hsel i oi cs b hi) (fun cs b => hsel j oj cs b hoj) hQ hy h1
      have hfree' : ∀ k ok, ops[k]? = some ok → k ≠ i → (listed.setIfInBounds j true).getD k true = false →
          (∀ e ∈ ok.after, Region.binds md e = true → e.on ≠ i) → oi.apart ops ok = true := fun k ok hk hki hun hno => by
        refine hfree k ok hk hki ?_ hno
        by_cases hjk : j = k
        · subst hjk; exact hjun
        · rw [getD_set_ne true hjk] at hun; exact hun
      have hk' : (∀ w, T w) ∨ (listed.setIfInBounds j true).getD k0 true = false := by
        rcases hT with h | ⟨_, ok, hok, e, he, hb, hon⟩
        · exact .inl h
        · rcases hk with h | h
          · exact .inl h
          · right
            have hjk : j ≠ k0 := fun e' => by
              subst e'
              rw [hoj] at hok
              injection hok with hok
              subst hok
              exact hnot e he hb hon
            rw [getD_set_ne true hjk]
            exact h
      have hS' : ∀ w', (((listed.setIfInBounds i true).setIfInBounds j true).getD k0 true = false → S w') → (listed.setIfInBounds j true).getD k0 true = false → S w' := fun w' h h' => by
        refine h ?_
        rw [Array.setIfInBounds_comm _ _ (Ne.symm hji), getD_set_ne true (Ne.symm hki)]
        exact h'
      refine wpOp_mono (fun a' w' h3 => ⟨hS' w' h3.2.1, ih (listed.setIfInBounds j true) a' w' hfree' hk' (ready_mono hr (Ne.symm hji)) h3.1 (hS' w' h3.2.1) ?_⟩) h2
      rw [Array.setIfInBounds_comm _ _ hji]
      exact h3.2.2

/-- what yields in whatever world -/
theorem wpAnyK_take {i : Nat} {oi : Oper} {v : Value} {fuel : Nat} {listed : Array Bool} {a : Act} {w : World} (hi : ops[i]? = some oi)
    (hs : Region.noSelect ops = true) (hf : Region.free md ops listed i = true) (hr : (Region.ready md ops listed).contains i = true) (hki : (k0 == i) = false)
    (hQ : ∀ c a w, Q (.panic c) (a.put oi.dst v) w → Q (.panic c) a w) (hS : listed.getD k0 true = false → S w) (hy : YieldsIf P ops (fun _ => True) oi v a)
    (h : wpAnyK P md ops Q S k0 fuel (listed.setIfInBounds i true) (a.put oi.dst v) w) : wpAnyK P md ops Q S k0 (fuel + 1) listed a w :=
  wpAnyK_first (T := fun _ => True) hi (Region.noSelect_spec hs) hQ (by simpa using hki) (.inl fun _ => trivial) fuel listed a w (Region.free_spec hi hf) (.inl fun _ => trivial) (by simpa using hr) hy hS h
/-- what yields wherever S holds: the key operation waits for it -/
theorem wpAnyK_load {i : Nat} {oi : Oper} {v : Value} {fuel : Nat} {listed : Array Bool} {a : Act} {w : World} (hi : ops[i]? = some oi)
    (hs : Region.noSelect ops = true) (hf : Region.free md ops listed i = true) (hr : (Region.ready md ops listed).contains i = true) (hki : (k0 == i) = false)
    (hw : ((ops[k0]?).map fun o => o.after.any fun e => Region.binds md e && e.on == i).getD false = true) (hl : listed.getD k0 true = false)
    (hQ : ∀ c a w, Q (.panic c) (a.put oi.dst v) w → Q (.panic c) a w) (hS : S w) (hy : YieldsIf P ops S oi v a)
    (h : wpAnyK P md ops Q S k0 fuel (listed.setIfInBounds i true) (a.put oi.dst v) w) : wpAnyK P md ops Q S k0 (fuel + 1) listed a w := by
  refine wpAnyK_first (T := S) hi (Region.noSelect_spec hs) hQ (by simpa using hki) (.inr ⟨fun _ h => h, ?_⟩) fuel listed a w (Region.free_spec hi hf) (.inr hl) (by simpa using hr) hy (fun _ => hS) h
  cases ho : ops[k0]? with
  | none => rw [ho] at hw; cases hw
  | some ok =>
    rw [ho] at hw
    simp only [Option.map_some, Option.getD_some] at hw
    obtain ⟨j, hj, he⟩ := Array.any_eq_true.1 hw
    simp only [Bool.and_eq_true, beq_iff_eq] at he
    exact ⟨ok, rfl, ok.after[j], Array.getElem_mem _, he.1, he.2⟩
def AllReadyK (P : Program) (md : Region.Mode) (ops : Array Oper) (Q : Exit → Act → World → Prop) (S : World → Prop) (k0 : Nat) (fuel : Nat) (listed : Array Bool) (a : Act) (w : World) (rs : List Nat) : Prop :=
  ∀ i ∈ rs, wpOp P ops Q i (fun a' w' => ((listed.setIfInBounds i true).getD k0 true = false → S w') ∧ wpAnyK P md ops Q S k0 fuel (listed.setIfInBounds i true) a' w') a w
theorem AllReadyK.nil {fuel : Nat} {listed : Array Bool} {a : Act} {w : World} : AllReadyK P md ops Q S k0 fuel listed a w [] := fun _ h => by cases h
theorem AllReadyK.cons {fuel : Nat} {listed : Array Bool} {a : Act} {w : World} {i : Nat} {o : Oper} {rs : List Nat} (ho : ops[i]? = some o)
    (h : ∀ K' : Act → World → Prop, Shut (∀ a w, ((listed.setIfInBounds i true).getD k0 true = false → S w) → wpAnyK P md ops Q S k0 fuel (listed.setIfInBounds i true) a w → K' a w) → if Region.wanted o (yielded ops a.tmps) = true then Oper.wp P o a w K' Q else K' (a.put o.dst undef) w)
    (hs : AllReadyK P md ops Q S k0 fuel listed a w rs) : AllReadyK P md ops Q S k0 fuel listed a w (i :: rs) := fun j hj => by
  rcases List.mem_cons.1 hj with rfl | hj
  · exact wpOp_step ho (fun K' hK => h K' (fun a w hS hW => hK a w ⟨hS, hW⟩))
  · exact hs j hj
theorem wpAnyK_ready {rs : List Nat} {fuel : Nat} {listed : Array Bool} {a : Act} {w : World} (hr : Region.ready md ops listed = rs) (hne : rs ≠ [])
    (h : AllReadyK P md ops Q S k0 fuel listed a w rs) : wpAnyK P md ops Q S k0 (fuel + 1) listed a w := ⟨fun h0 => absurd (hr ▸ h0) hne, hr ▸ h⟩
theorem wpAnyK_done {listed : Array Bool} {a : Act} {w : World} (hr : Region.ready md ops listed = []) (h : Q .normal a w) : ∀ fuel, wpAnyK P md ops Q S k0 fuel listed a w
  | 0 => ⟨hr, h⟩
  | _ + 1 => ⟨fun _ => h, by rw [hr]; simp⟩
/-- the beginning, at a world that is a letter: R is what is known of it -/
theorem wp_region_key {id : Nat} {a : Act} {w : World} (S : World → Prop) (k0 : Nat) (R : World → Prop) (hm : P.follows .mixedOrders = true) (hR : R w.drew)
    (h : ∀ w1, R w1 → wpAnyK P .any ops Q S k0 ops.size (Array.replicate ops.size false) a w1) : (Code.region id ops true).wp P Q a w :=
  wp_region_any hm (wpAny_of_key _ _ _ _ (h _ hR))
end
end Go.Proofs.Ytleopmeaaabejaa

namespace Go.Proofs.Ytleopmeaaabejaa
set_option linter.unusedVariables false
open Go.RowKit

theorem ixL_cases (c : UInt8) : ∀ l : List UInt8, (Lib.indexByte l c = -1 ∧ ∀ b ∈ l, b ≠ c) ∨ ∃ i : Nat, Lib.indexByte l c = i ∧ l[i]? = some c ∧ ∀ j, j < i → l[j]? ≠ some c
  | [] => .inl ⟨rfl, by simp⟩
  | b :: l => by
    by_cases h : b = c
    · exact .inr ⟨0, by simp [Lib.indexByte, h], by simp [h], fun j hj => absurd hj (by omega)⟩
    · rcases ixL_cases c l with ⟨h1, h2⟩ | ⟨i, h1, h2, h3⟩
      · refine .inl ⟨by simp [Lib.indexByte, h, h1], fun x hx => ?_⟩
        rcases List.mem_cons.1 hx with rfl | hx
        · exact h
        · exact h2 x hx
      · refine .inr ⟨i + 1, ?_, by simpa using h2, ?_⟩
        · have hn : ((i : Int) == -1) = false := by rw [beq_eq_false_iff_ne]; omega
          simp [Lib.indexByte, h, h1, hn]
        · intro j hj
          cases j with
          | zero => simpa using h
          | succ j => simpa using h3 j (by omega)
def ixB (s : ByteArray) (c : UInt8) : Int := Lib.indexByte s.data.toList c
theorem ixB_cases (s : ByteArray) (c : UInt8) : (ixB s c = -1 ∧ ∀ i (h : i < s.size), s[i] ≠ c) ∨ ∃ (i : Nat) (h : i < s.size), ixB s c = i ∧ s[i] = c ∧ ∀ j (hj : j < i), s[j] ≠ c := by
  have hs : ∀ i (h : i < s.size), s.data.toList[i]? = some s[i] := by
    intro i h
    rw [Array.getElem?_toList, Array.getElem?_eq_getElem (by exact h)]
    rfl
  rcases ixL_cases c s.data.toList with ⟨h1, h2⟩ | ⟨i, h1, h2, h3⟩
  · exact .inl ⟨h1, fun i h => h2 _ (List.mem_of_getElem? (hs i h))⟩
  · have hi : i < s.size := by
      have := (List.getElem?_eq_some_iff.1 h2).1
      simpa using this
    refine .inr ⟨i, hi, h1, ?_, fun j hj e => h3 j hj ?_⟩
    · rw [hs i hi] at h2; exact Option.some.inj h2
    · rw [hs j (by omega), e]
theorem ixB_none {s : ByteArray} {c : UInt8} (h : ∀ i (h : i < s.size), s[i] ≠ c) : ixB s c = -1 := by
  rcases ixB_cases s c with ⟨h1, _⟩ | ⟨i, hi, _, h1, _⟩
  · exact h1
  · exact absurd h1 (h i hi)
theorem ixB_at {s : ByteArray} {c : UInt8} {i : Nat} (hi : i < s.size) (he : s[i] = c) (hb : ∀ j (hj : j < i), s[j] ≠ c) : ixB s c = i := by
  rcases ixB_cases s c with ⟨_, h2⟩ | ⟨k, hk, h1, h2, h3⟩
  · exact absurd he (h2 i hi)
  · rcases Nat.lt_trichotomy i k with h | h | h
    · exact absurd he (h3 i h)
    · rw [h1, h]
    · exact absurd h2 (hb k h)
end Go.Proofs.Ytleopmeaaabejaa
