/-
  Contracts in the forms that the walks of the laws take. Conditions: as in the contracts they come from.
-/
import Derived.Test.YtannhkkafibamaaRd
namespace Go.Proofs.Ytannhkkafibamaa
set_option linter.unusedVariables false
set_option maxRecDepth 100000
open Go.ChangeShapes Go.WideShapes Go.ChangeAt Go.RowKit Go.Deep

theorem same_below {P : Program} {f : FuncId} {args : Array Value} {w : World} {r : Ending} (h : Calls P f args w fun e w' => e = r ∧ w = w') : Calls P f args w fun e w' => e = r ∧ Below w.heap.size w w' :=
  h.mono fun _ _ ⟨h1, h2⟩ => ⟨h1, h2 ▸ Below.refl _ _⟩
theorem eqByteS_yes {A A' : Option Addr} {n n' c c' : Nat} {xs : List Int} (w : World) (hx : Reads w w.heap.size 1 A n (xs.map (Value.int .u8))) (hy : Reads w w.heap.size 1 A' n' (xs.map (Value.int .u8)))
    (hn : n ≤ 1099511627776) : Calls Try.prog 24 #[.slice A n c, .slice A' n' c'] w fun e w' => e = .returned (.bool true) ∧ Below w.heap.size w w' :=
  (eqByteS_any w hx hy hn).mono fun _ _ ⟨h1, h2⟩ => ⟨by rw [h1, eqL_self], h2⟩
theorem eqIntS_yes {A A' : Option Addr} {n n' c c' : Nat} {xs : List Int} (w : World) (hx : Reads w w.heap.size 1 A n (xs.map (Value.int .i64))) (hy : Reads w w.heap.size 1 A' n' (xs.map (Value.int .i64)))
    (hn : n ≤ 1099511627776) : Calls Try.prog 28 #[.slice A n c, .slice A' n' c'] w fun e w' => e = .returned (.bool true) ∧ Below w.heap.size w w' :=
  (eqIntS_any w hx hy hn).mono fun _ _ ⟨h1, h2⟩ => ⟨by rw [h1, eqL_self], h2⟩
theorem equalBytes_impl {A A' : Option Addr} {n n' c c' : Nat} {xs ys : List Int} (w : World) (hx : Reads w w.heap.size 1 A n (xs.map (Value.int .u8))) (hy : Reads w w.heap.size 1 A' n' (ys.map (Value.int .u8)))
    (hn : n ≤ 1099511627776) : Calls Try.prog 23 #[.slice A n c, .slice A' n' c'] w fun e w' => e = .returned (.bool (eqL xs ys)) ∧ Below w.heap.size w w' := by
  go_enter Try.func23, Try.ntmps23
  go_wp2_with (go_at_call 69; refine (slicesEqual_bytes _ hx hy hn).mono ?_; rintro e w1 ⟨rfl, b1⟩)
  go_ret
  exact ⟨rfl, b1⟩
theorem equalBytes_spec {A A' : Option Addr} {n n' c c' : Nat} {xs ys : List Int} (w : World) (hx : Reads w w.heap.size 1 A n (xs.map (Value.int .u8))) (hy : Reads w w.heap.size 1 A' n' (ys.map (Value.int .u8)))
    (hn : n ≤ 1099511627776) (zx : ∀ z ∈ xs, 0 ≤ z ∧ z ≤ 255) (zy : ∀ z ∈ ys, 0 ≤ z ∧ z ≤ 255) : Calls Try.prog 21 #[.slice A n c, .slice A' n' c'] w fun e w' => e = .returned (.bool (eqL xs ys)) ∧ Below w.heap.size w w' := by
  have k1 := run_string_reads (P := Try.prog) (c := c) 22 5 9 Try.underlying22 Try.underlying5 Try.underlying9 hx
  have k2 := run_string_reads (P := Try.prog) (c := c') 22 5 9 Try.underlying22 Try.underlying5 Try.underlying9 hy
  have hE : ((strOfNums xs).toList == (strOfNums ys).toList) = eqL xs ys := eqL_nums zx zy
  generalize strOfNums xs = S1 at *
  generalize strOfNums ys = S2 at *
  generalize eqL xs ys = b at *
  clear hx hy zx zy
  cases b
  all_goals
    go_enter Try.func21, Try.ntmps21
    go_wp2
    go_ret
    exact ⟨rfl, Below.refl _ _⟩
theorem equalInts_impl {A A' : Option Addr} {n n' c c' : Nat} {xs ys : List Int} (w : World) (hx : Reads w w.heap.size 1 A n (xs.map (Value.int .i64))) (hy : Reads w w.heap.size 1 A' n' (ys.map (Value.int .i64)))
    (hn : n ≤ 1099511627776) : Calls Try.prog 27 #[.slice A n c, .slice A' n' c'] w fun e w' => e = .returned (.bool (eqL xs ys)) ∧ Below w.heap.size w w' := by
  go_enter Try.func27, Try.ntmps27
  go_wp2_with (go_at_call 70; refine (slicesEqual_ints _ hx hy hn).mono ?_; rintro e w1 ⟨rfl, b1⟩)
  go_ret
  exact ⟨rfl, b1⟩
theorem hashB_impl {A : Option Addr} {n c : Nat} {xs : List Int} (w : World) (hx : Reads w w.heap.size 1 A n (xs.map (Value.int .i64))) (hn : n ≤ 1099511627776) (hz : ∀ z ∈ xs, -9223372036854775808 ≤ z ∧ z ≤ 9223372036854775807) :
    Calls Try.prog 30 #[.slice A n c] w fun e w' => e = .returned (.int .i64 (hashZ xs)) ∧ Below w.heap.size w w' := same_below (hash_impl w hx hn hz)
theorem hashB_spec {A : Option Addr} {n c : Nat} {xs : List Int} (w : World) (hx : Reads w w.heap.size 1 A n (xs.map (Value.int .i64))) (hn : n ≤ 1099511627776) (hz : ∀ z ∈ xs, -9223372036854775808 ≤ z ∧ z ≤ 9223372036854775807) :
    Calls Try.prog 29 #[.slice A n c] w fun e w' => e = .returned (.int .i64 (hashZ xs)) ∧ Below w.heap.size w w' := same_below (hash_spec w hx hn hz)
def RuEnd (r : Option (Int × Int)) : Value := .tuple #[.int .i64 (ruN r), .int .i64 (ruA r), .bool r.isSome]
theorem readUvarintB_impl {A : Option Addr} {n c : Nat} {zs : List Int} {off : Int} (w : World) (hx : Reads w w.heap.size 1 A n (zs.map (Value.int .u8))) (hn : n ≤ 1073741824) (hz : ∀ z ∈ zs, 0 ≤ z ∧ z ≤ 255)
    (h1 : -9223372036854775808 ≤ off) (h2 : off ≤ 9223372036854775807) : Calls Try.prog 32 #[.slice A n c, .int .i64 off] w fun e w' => e = .returned (.tuple #[.int .i64 (ruN (readU zs off)), .int .i64 (ruA (readU zs off)), .bool (readU zs off).isSome]) ∧ Below w.heap.size w w' :=
  same_below (readUvarint_impl w hx hn hz h1 h2)
theorem readUvarintB_spec {A : Option Addr} {n c : Nat} {zs : List Int} {off : Int} (w : World) (hx : Reads w w.heap.size 1 A n (zs.map (Value.int .u8))) (hn : n ≤ 1073741824) (hz : ∀ z ∈ zs, 0 ≤ z ∧ z ≤ 255)
    (h1 : -9223372036854775808 ≤ off) (h2 : off ≤ 9223372036854775807) : Calls Try.prog 31 #[.slice A n c, .int .i64 off] w fun e w' => e = .returned (.tuple #[.int .i64 (ruN (readU zs off)), .int .i64 (ruA (readU zs off)), .bool (readU zs off).isSome]) ∧ Below w.heap.size w w' :=
  same_below (readUvarint_spec w hx hn hz h1 h2)
end Go.Proofs.Ytannhkkafibamaa
