/-
  Contracts of the generated helpers on sheets and slices of sheets. Conditions: at most 2^30 elements, sizes of Go strings.
-/
import Derived.Test.YtmfaihelphfbgaaDoorRu1
import Derived.Test.YtmfaihelphfbgaaDoorTk1
import Derived.Test.YtmfaihelphfbgaaDoorNmk
import Derived.Deep.RegionWith
namespace Go.Proofs.YtmfaihelphfbgaaDoor
set_option linter.unusedVariables false
set_option linter.unusedSimpArgs false
set_option maxRecDepth 100000
open Go.ChangeShapes Go.WideShapes Go.ChangeAt Go.RowKit Go.Deep

def shSz (l : List Rul) : Int := l.length + rulsz l
def shsSz (l : List (List Rul)) : Int := (l.map shSz).sum
theorem shSz_nonneg (l : List Rul) : 0 ≤ shSz l := by have := rulsz_nonneg l; unfold shSz; omega
theorem shsSz_nonneg (l : List (List Rul)) : 0 ≤ shsSz l := by
  induction l with
  | nil => simp [shsSz]
  | cons a l ih => have := shSz_nonneg a; simp only [shsSz, List.map_cons, List.sum_cons] at *; omega
theorem shsSz_mem {l : List (List Rul)} {a : List Rul} (h : a ∈ l) : shSz a ≤ shsSz l := by
  induction l with
  | nil => cases h
  | cons b l ih =>
    have h1 : shsSz (b :: l) = shSz b + shsSz l := by simp [shsSz]
    have h2 := shsSz_nonneg l
    have h3 := shSz_nonneg b
    rw [h1]
    rcases List.mem_cons.1 h with rfl | h
    · omega
    · have := ih h; omega
theorem shsSz_take {l : List (List Rul)} {k : Nat} (h : k < l.length) : shsSz (l.take (k + 1)) = shsSz (l.take k) + shSz l[k] := by
  rw [List.take_succ_eq_append_getElem h, shsSz, shsSz, List.map_append, List.sum_append]; simp
def GotSh (w : World) (ek : TypeId) (l : List Rul) (r : Ending) (w' : World) : Prop :=
  ∃ A c, r = .returned (.agg #[.slice A l.length c]) ∧ Own w' w.heap.size w'.heap.size ek 2 (.slice A l.length c) l.length (rulV l) ∧ Below w.heap.size w w'
theorem run_make_one {P : Program} (t e : TypeId) (z : Value) (bytes : Nat) (ht : P.underlying t = some (.slice e)) (hinfo : (P.info? e).map (fun i => (i.zero, i.size, i.bytes)) = some (some z, 1, bytes)) (n : Nat) (hb : bytes * n ≤ 281474976710656) (h63 : n ≤ 9223372036854775807) (w : World) :
    (Instr.makeSlice t (.int .i64 (n : Int)) (.int .i64 (n : Int))).run P w = .ok (.slice (some ⟨w.heap.size, 0, none⟩) n n) (w.alloc (.cells (madeCells z.cells (n * 1)) e)) := by
  obtain ⟨i, hi, hz, hs, hby⟩ := info_parts hinfo
  have h2 : (i.bytes : Int) * (n : Int) ≤ 281474976710656 := by
    rw [hby]
    have h : ((bytes * n : Nat) : Int) ≤ 281474976710656 := by omega
    rwa [Int.natCast_mul] at h
  have hr := run_make (P := P) w t e i z ht hi hz .i64 .i64 n n (by omega) (Int.le_refl _) h2 (by omega)
  simp only [Int.toNat_natCast, hs] at hr
  exact hr
theorem szSheet_any {A : Option Addr} {c : Nat} (l : List Rul) (w : World) (hx : Reads w w.heap.size 2 A l.length (rulV l)) (h2 : l.length ≤ 9223372036854775807) (hz : ∀ a ∈ l, okRul a) (left : Int) (h0 : 0 ≤ left) (h1 : left ≤ 1048576) :
    Calls Tryd.prog 22 #[.agg #[.slice A l.length c], .int .i64 left] w (Sz left (shSz l) w) := by
  have hb0 := (Below.refl w.heap.size w).alloc (Nat.le_refl _) (.cells #[.slice A l.length c] 42)
  have hx' := (hx.below hb0).more hb0.size
  have hT : Hid (shSz l = l.length + rulsz l) := rfl
  go_enter Tryd.func22, Tryd.ntmps22
  go_wp2_with (go_at_call 44; refine (szRuleS_r (l := l) _ hx' h2 hz _ h0 h1).mono ?_; rintro e w1 ⟨r, rfl, ra, rb, rc, bb⟩)
  all_goals
    go_ret
    refine ⟨_, rfl, ?_, ?_, ?_, hb0.trans (bb.mono hb0.size)⟩
    all_goals (have := hT.out; omega)
theorem eqSheet_yes {A A' : Option Addr} {c c' : Nat} (l : List Rul) (w : World) (hx : Reads w w.heap.size 2 A l.length (rulV l)) (hy : Reads w w.heap.size 2 A' l.length (rulV l)) (hn : l.length ≤ 1073741824) :
    Calls Tryd.prog 18 #[.agg #[.slice A l.length c], .agg #[.slice A' l.length c']] w fun e w' => e = .returned (.bool true) ∧ Below w.heap.size w w' := by
  have hb0 := ((Below.refl w.heap.size w).alloc (Nat.le_refl _) (.cells #[.slice A l.length c] 34)).alloc (by simp) (.cells #[.slice A' l.length c'] 34)
  have hx' := (hx.below hb0).more hb0.size
  have hy' := (hy.below hb0).more hb0.size
  go_enter Tryd.func18, Tryd.ntmps18
  go_wp2_with (go_at_call 41; refine (eqRuleS_yes (l := l) _ hx' hy' hn).mono ?_; rintro e w1 ⟨rfl, bb⟩)
  go_ret
  exact ⟨rfl, hb0.trans (bb.mono hb0.size)⟩
set_option maxHeartbeats 800000 in
theorem toSheet_any {A : Option Addr} {c : Nat} (l : List Rul) (w : World) (hx : Reads w w.heap.size 2 A l.length (rulV l)) (hn : l.length ≤ 1073741824) :
    Calls Tryd.prog 24 #[.agg #[.slice A l.length c]] w (GotSh w 60 l) := by
  have hb0 := (((Below.refl w.heap.size w).alloc (Nat.le_refl _) (.cells #[.slice A l.length c] 42)).alloc (by simp) (.cells #[.slice none 0 0] 34)).alloc (by simp; omega) (.cells #[.slice none 0 0] 34)
  have hx' := (hx.below hb0).more hb0.size
  go_enter Tryd.func24, Tryd.ntmps24
  go_wp2_with (go_at_call 45; refine (toRuleS_any (l := l) _ hx' hn).mono ?_; rintro e w1 ⟨A', c', rfl, o1, b1⟩; obtain ⟨hc, hf⟩ := bcell b1; have zz := b1.size; simp at zz)
  refine bodyPost_ret (v := .agg #[.slice A' l.length c']) (by simp [results, Tryd.results24, go_sem, hc, hf, zz]) rfl ⟨A', c', rfl, ?_, ?_⟩
  · exact ((o1.set (p := ⟨w.heap.size + 1 + 1, 0, none⟩) (by first | omega | (simp; done) | (simp; omega)) (.slice A' l.length c')).set (p := ⟨w.heap.size + 1, 0, none⟩) (by first | omega | (simp; done) | (simp; omega)) (.slice A' l.length c')).wide (by first | omega | (simp; done) | (simp; omega)) (by simp)
  · exact (((hb0.trans (b1.mono hb0.size)).setCell (p := ⟨w.heap.size + 1 + 1, 0, none⟩) (by first | omega | (simp; done) | (simp; omega)) (.slice A' l.length c')).setCell (p := ⟨w.heap.size + 1, 0, none⟩) (by first | omega | (simp; done) | (simp; omega)) (.slice A' l.length c'))
end Go.Proofs.YtmfaihelphfbgaaDoor
