/-
  Contracts in the forms that the walks of the laws take. Conditions: as in the contracts they come from.
-/
import Derived.Test.YtifghjkiodnehaaRd
namespace Go.Proofs.Ytifghjkiodnehaa
set_option linter.unusedVariables false
set_option maxRecDepth 100000
open Go.ChangeShapes Go.WideShapes Go.ChangeAt Go.RowKit Go.Deep

theorem same_below {P : Program} {f : FuncId} {args : Array Value} {w : World} {r : Ending} (h : Calls P f args w fun e w' => e = r ∧ w = w') : Calls P f args w fun e w' => e = r ∧ Below w.heap.size w w' :=
  h.mono fun _ _ ⟨h1, h2⟩ => ⟨h1, h2 ▸ Below.refl _ _⟩
theorem hashB_impl {A : Option Addr} {n c : Nat} {xs : List Int} (w : World) (hx : Reads w w.heap.size 1 A n (xs.map (Value.int .i64))) (hn : n ≤ 1099511627776) (hz : ∀ z ∈ xs, -9223372036854775808 ≤ z ∧ z ≤ 9223372036854775807) :
    Calls Try.prog 14 #[.slice A n c] w fun e w' => e = .returned (.int .i64 (hashZ xs)) ∧ Below w.heap.size w w' := same_below (hash_impl w hx hn hz)
def RuEnd (r : Option (Int × Int)) : Value := .tuple #[.int .i64 (ruN r), .int .i64 (ruA r), .bool r.isSome]
theorem readUvarintB_impl {A : Option Addr} {n c : Nat} {zs : List Int} {off : Int} (w : World) (hx : Reads w w.heap.size 1 A n (zs.map (Value.int .u8))) (hn : n ≤ 1073741824) (hz : ∀ z ∈ zs, 0 ≤ z ∧ z ≤ 255)
    (h1 : -9223372036854775808 ≤ off) (h2 : off ≤ 9223372036854775807) : Calls Try.prog 28 #[.slice A n c, .int .i64 off] w fun e w' => e = .returned (.tuple #[.int .i64 (ruN (readU zs off)), .int .i64 (ruA (readU zs off)), .bool (readU zs off).isSome]) ∧ Below w.heap.size w w' :=
  same_below (readUvarint_impl w hx hn hz h1 h2)
theorem readUvarintB_spec {A : Option Addr} {n c : Nat} {zs : List Int} {off : Int} (w : World) (hx : Reads w w.heap.size 1 A n (zs.map (Value.int .u8))) (hn : n ≤ 1073741824) (hz : ∀ z ∈ zs, 0 ≤ z ∧ z ≤ 255)
    (h1 : -9223372036854775808 ≤ off) (h2 : off ≤ 9223372036854775807) : Calls Try.prog 30 #[.slice A n c, .int .i64 off] w fun e w' => e = .returned (.tuple #[.int .i64 (ruN (readU zs off)), .int .i64 (ruA (readU zs off)), .bool (readU zs off).isSome]) ∧ Below w.heap.size w w' :=
  same_below (readUvarint_spec w hx hn hz h1 h2)
end Go.Proofs.Ytifghjkiodnehaa
