/-
  Plain words: a token is added to a builder. No program is named. No condition.
-/
import Derived.Test.YtflcknknkekkfaaBd
namespace Go.Proofs.Ytflcknknkekkfaa
set_option linter.unusedVariables false
open Go.RowKit

/-- the open element i bears the name -/
def hitB (b : Bld) (name : ByteArray) (i : Nat) : Bool :=
  match b.opens[i]? with
  | none => false
  | some k => decide (0 ≤ k) && (match b.nodes[k.toNat]? with | none => false | some x => decide (x.name = name))
/-- the open elements that stay, of the first i + 1 looked at from the end; the first is not looked at -/
def clsF (b : Bld) (name : ByteArray) : Nat → Nat
  | 0 => b.opens.length
  | i + 1 => if hitB b name (i + 1) then i + 1 else clsF b name i
theorem clsF_hit {b : Bld} {name : ByteArray} {i : Nat} (h : hitB b name (i + 1) = true) : clsF b name (i + 1) = i + 1 := by rw [clsF, if_pos h]
theorem clsF_miss {b : Bld} {name : ByteArray} {i : Nat} (h : hitB b name (i + 1) = false) : clsF b name (i + 1) = clsF b name i := by rw [clsF, h]; rfl
theorem clsF_le (b : Bld) (name : ByteArray) : ∀ i, i < b.opens.length ∨ i = 0 → clsF b name i ≤ b.opens.length := by
  intro i
  induction i with
  | zero => intro _; exact Nat.le_refl _
  | succ i ih =>
    intro h
    rw [clsF]
    split
    · omega
    · exact ih (by omega)
def voidB (s : ByteArray) : Bool := decide (s = ⟨#[105, 109, 103]⟩) || decide (s = ⟨#[108, 105, 110, 107]⟩)
def fullB (b : Bld) (t : Tok) : Bool := decide (40 ≤ b.nodes.length) || decide (b.opens.length = 0) || (decide (t.kind = 1) && !voidB t.name && decide (8 ≤ b.opens.length))
def addsB (t : Tok) : Bool := decide (t.kind = 1) || (decide (t.kind = 3) && !decide (t.text = ⟨#[]⟩))
def newNode (b : Bld) (t : Tok) : Nod :=
  if t.kind = 1 then ⟨t.name, ⟨#[]⟩, b.opens.getLastD 0, t.attrs⟩ else ⟨⟨#[]⟩, t.text, b.opens.getLastD 0, []⟩
def addOpens (b : Bld) (t : Tok) : List Int := if t.kind = 1 ∧ voidB t.name = false then b.opens ++ [(b.nodes.length : Int)] else b.opens
def addB (b : Bld) (t : Tok) : Bld × Int :=
  if t.kind = 2 then (⟨b.nodes, b.opens.take (clsF b t.name (b.opens.length - 1))⟩, -1)
  else if addsB t && !fullB b t then (⟨b.nodes ++ [newNode b t], addOpens b t⟩, b.nodes.length)
  else (b, -1)
theorem addB_close {b : Bld} {t : Tok} (h : t.kind = 2) : addB b t = ((⟨b.nodes, b.opens.take (clsF b t.name (b.opens.length - 1))⟩ : Bld), -1) := by rw [addB, if_pos h]
theorem addB_stay {b : Bld} {t : Tok} (h : t.kind ≠ 2) (h2 : addsB t = false ∨ fullB b t = true) : addB b t = (b, -1) := by
  rw [addB, if_neg h, if_neg]
  rcases h2 with h2 | h2 <;> simp [h2]
theorem addB_add {b : Bld} {t : Tok} (h : t.kind ≠ 2) (h2 : addsB t = true) (h3 : fullB b t = false) : addB b t = ((⟨b.nodes ++ [newNode b t], addOpens b t⟩ : Bld), ((b.nodes.length : Nat) : Int)) := by
  rw [addB, if_neg h, if_pos]
  simp [h2, h3]
def addsL (b : Bld) (l : List Tok) : Bld := l.foldl (fun b t => (addB b t).1) b
end Go.Proofs.Ytflcknknkekkfaa
