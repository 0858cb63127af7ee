/-
  append of one element to an owned slice of structs that hold a slice each. Conditions: the new element's own slice lies in younger blocks than all that was owned.
-/
import Derived.Test.YtkmechjilekcmaaDoorNmv
namespace Go.Proofs.YtkmechjilekcmaaDoor
set_option linter.unusedVariables false
set_option linter.unusedSimpArgs false
set_option maxRecDepth 100000
open Go.ChangeShapes Go.WideShapes Go.ChangeAt Go.RowKit Go.Deep

theorem Own.ltb {w : World} {lo hi n c : Nat} {e : TypeId} {size : Nat} {A : Option Addr} {xs : List Value} (h : Own w lo hi e size (.slice A n c) n xs) : ∀ k, (Value.slice A n c).ownBlock = some k → k < hi := h.2
theorem Own.geb {w : World} {lo hi n c : Nat} {e : TypeId} {size : Nat} {A : Option Addr} {xs : List Value} (h : Own w lo hi e size (.slice A n c) n xs) : ∀ k, (Value.slice A n c).ownBlock = some k → lo ≤ k := fun k hk => (h.1.lt k hk).1

/-- the row after the append is owned, the slices of its elements too, apart from each other -/
theorem OwnN.push {α : Type} {N : Nest α} {w w' : World} {lo m n c c' : Nat} {e ek : TypeId} {A A' : Option Addr} {L : List (α × Hd)} {x : α × Hd}
    (h : OwnN N w lo m e ek A n c L) (hm : m ≤ w.heap.size) (hlm : lo ≤ m)
    (hk : Own w m w.heap.size ek 2 (.slice x.2.1 (N.num x.1) x.2.2) (N.num x.1) (N.kid x.1))
    (ho : w'.ownsRow lo e N.k (.slice A' (n + 1) c') (n + 1) (N.flat L ++ N.cells x))
    (hg : w.grownBy w' (Value.slice A n c).ownBlock)
    (hb : (Value.slice A' (n + 1) c').ownBlock = (Value.slice A n c).ownBlock ∨ (Value.slice A' (n + 1) c').ownBlock = some w.heap.size) :
    OwnN N w' lo w'.heap.size e ek A' (n + 1) c' (L ++ [x]) := by
  have hkp := Keeps.of_grown hg
  have hr1 := h.row.ltb
  have hold : ∀ y ∈ L, ∀ k, hdBlock y.2 = some k → k < m := fun y hy k hk' => (h.kids y hy).ltb k (by rw [hdBlock_eq _ _ _ y.2.2]; exact hk')
  have hnew : ∀ k, hdBlock x.2 = some k → m ≤ k ∧ k < w.heap.size := fun k hk' => ⟨hk.geb k (by rw [hdBlock_eq _ _ _ x.2.2]; exact hk'), hk.ltb k (by rw [hdBlock_eq _ _ _ x.2.2]; exact hk')⟩
  have hsz := hkp.size
  have hfar : ∀ y ∈ L ++ [x], sep (Value.slice A n c).ownBlock (hdBlock y.2) := by
    intro y hy
    rcases List.mem_append.1 hy with h1 | h1
    · exact h.off y h1
    · simp only [List.mem_singleton] at h1
      subst h1
      exact sep_lt hr1 fun k hk' => (hnew k hk').1
  refine ⟨?_, ?_, ?_, ?_⟩
  · rw [Nest.flat_append, show N.flat [x] = N.cells x by simp [Nest.flat]]
    exact Own.of_row ho
  · intro y hy
    have hs := hfar y hy
    rcases List.mem_append.1 hy with h1 | h1
    · have h2 := (h.kids y h1).elsewhere hkp fun k hS hb' => hs k hS (by rw [← hdBlock_eq y.2.1 (N.num y.1) y.2.2]; exact hb')
      exact h2.wide (Nat.le_refl _) (by omega)
    · simp only [List.mem_singleton] at h1
      subst h1
      have h2 := hk.elsewhere hkp fun k hS hb' => hs k hS (by rw [← hdBlock_eq y.2.1 (N.num y.1) y.2.2]; exact hb')
      exact h2.wide hlm hsz
  · rw [List.map_append, List.pairwise_append]
    refine ⟨h.apart, by simp, fun a ha b hb' => ?_⟩
    obtain ⟨y, hy, rfl⟩ := List.mem_map.1 ha
    simp only [List.map_cons, List.map_nil, List.mem_singleton] at hb'
    subst hb'
    exact sep_lt (hold y hy) fun k hk' => (hnew k hk').1
  · intro y hy
    rcases hb with hb | hb
    · rw [hb]; exact hfar y hy
    · rw [hb]
      intro k hk' h2
      injection hk' with hk'
      subst hk'
      rcases List.mem_append.1 hy with h1 | h1
      · have := hold y h1 _ h2; omega
      · simp only [List.mem_singleton] at h1
        subst h1
        have := hnew _ h2
        omega
/-- the step of a walk -/
theorem wpList_push {P : Program} {w : World} {α : Type} {N : Nest α} {T E bytes : Nat} (R : RowT P T E N.k bytes) {ops : Array Oper} {rest : List Oper} {o : Oper} {a : Act} {Q : Exit → Act → World → Prop} (hgd : o.guard = none) (s x : Operand)
    (ho : o.op = .call { callee := .builtin .append, args := #[s, x], argTypes := #[T, T] })
    {lo m n c : Nat} {ek : TypeId} {A : Option Addr} {L : List (α × Hd)} (h : OwnN N w lo m E ek A n c L) (hm : m ≤ w.heap.size) (hlm : lo ≤ m) (el : α × Hd)
    (hk : Own w m w.heap.size ek 2 (.slice el.2.1 (N.num el.1) el.2.2) (N.num el.1) (N.kid el.1)) (hs : a.eval s = .slice A n c)
    (A1 : Option Addr) (c1 B : Nat) (hx : a.eval x = .slice A1 1 c1) (hr : Reads w B N.k A1 1 (N.cells el)) (hn : n + 1 ≤ 1099511627776) (hbytes : bytes ≤ 128)
    (hK : ∀ A' c' w', OwnN N w' lo w'.heap.size E ek A' (n + 1) c' (L ++ [el]) → Keeps (fun b => (Value.slice A n c).ownBlock = some b) w w' → wpList P ops Q rest (a.put o.dst (.slice A' (n + 1) c')) w') : wpList P ops Q (o :: rest) a w := by
  obtain ⟨i, z, hi, hz, hsz, hby, hzs'⟩ := R.inf
  refine wpList_append_any w hgd s x T ho lo E i z N.k bytes R.und hi hz hsz hby hzs' R.pos _ n (N.flat L) hs h.row.1 B A1 1 c1 (N.cells el) hx hr (N.one _ _ _ _) (by simp only [maxLen]; omega) ?_ (by omega) ?_
  · have := Nat.mul_le_mul hn hbytes; omega
  · intro A' c' w' h2 h3 h4
    exact hK A' c' w' (h.push hm hlm hk h2 h3 h4) (Keeps.of_grown h3)
end Go.Proofs.YtkmechjilekcmaaDoor
