/-
  Contracts of functions of Go's library on strings: Compare, IndexByte, Index and Cut at a text of one byte. No condition but the bounds of strings.
-/
import Derived.Test.YtmfaihelphfbgaaDoorIxb
import Derived.Test.YtmfaihelphfbgaaDoorCmp
import Derived.Test.YtmfaihelphfbgaaDoorOne
import Derived.Lib.Strings
import Derived.Lib.Walk
import Derived.Lib.Bytealg
import Derived.Deep.RegionWith
namespace Go.Proofs.YtmfaihelphfbgaaDoor
set_option linter.unusedVariables false
set_option linter.unusedSimpArgs false
set_option maxRecDepth 100000
open Go.ChangeShapes Go.WideShapes Go.ChangeAt Go.RowKit Go.Deep

theorem liteIndexByte_any (s : ByteArray) (c : Int) (w : World) :
    Calls Tryd.prog 86 #[.string s, .int .u8 c] w fun e w' => e = .returned (.int .i64 (ixB s c.toNat.toUInt8)) ∧ w = w' := by
  go_enter Tryd.func86, Tryd.ntmps86
  go_wp2
  rw [run_callFunc_extern Tryd.func100 (by kernel_rfl) (by kernel_rfl) (by kernel_rfl) (e := Extern.BytealgIndexByte.indexByte) (by kernel_rfl), Lib.run_indexByteString]
  simp only [Result.andThen]
  rw [Oper.upon_value]
  go_wp2
  go_ret
  exact ⟨rfl, rfl⟩
theorem liteIndex_one (s : ByteArray) (c : UInt8) (w : World) :
    Calls Tryd.prog 73 #[.string s, .string ⟨#[c]⟩] w fun e w' => e = .returned (.int .i64 (ixB s c)) ∧ w = w' := by
  go_enter Tryd.func73, Tryd.ntmps73
  go_wp2_with (go_at_call 86; refine (liteIndexByte_any _ _ _).mono ?_; rintro e w' ⟨rfl, rfl⟩)
  · have h : ([c] == s.toList) = true := by assumption
    go_ret
    refine ⟨?_, rfl⟩
    have e : s.data.toList = [c] := by rw [← Lib.toList_data]; exact (beq_iff_eq.1 h).symm
    rw [ixB, e]
    simp [Lib.indexByte]
  · go_ret
    exact ⟨rfl, rfl⟩
theorem liteCut_miss (s : ByteArray) (c : UInt8) (h : ixB s c = -1) (w : World) :
    Calls Tryd.prog 54 #[.string s, .string ⟨#[c]⟩] w fun e w' => e = .returned (.tuple #[.string s, .string ByteArray.empty, .bool false]) ∧ Below w.heap.size w w' := by
  go_enter Tryd.func54, Tryd.ntmps54
  go_wp2_with (go_at_call 73; refine (liteIndex_one _ _ _).mono ?_; rintro e w' ⟨rfl, rfl⟩; rw [h])
  go_ret3
  exact ⟨rfl, Below.refl _ _⟩
theorem liteCut_hit (s : ByteArray) (c : UInt8) (i : Nat) (hi : i < s.size) (hs : s.size ≤ 9223372036854775806) (h : ixB s c = i) (w : World) :
    Calls Tryd.prog 54 #[.string s, .string ⟨#[c]⟩] w fun e w' => e = .returned (.tuple #[.string (s.extract 0 i), .string (s.extract (i + 1) s.size), .bool true]) ∧ Below w.heap.size w w' := by
  have c1 : (0 : Int) ≤ ↑i := by omega
  have c2 : (↑i : Int) ≤ ↑s.size := by omega
  have c3 : (0 : Int) ≤ ↑i + 1 := by omega
  have c4 : (↑i + 1 : Int) ≤ ↑s.size := by omega
  go_enter Tryd.func54, Tryd.ntmps54
  go_wp2_with (go_at_call 73; refine (liteIndex_one _ _ _).mono ?_; rintro e w' ⟨rfl, rfl⟩; rw [h])
  go_region
  all_goals
    go_wp2
    go_ret3
    exact ⟨rfl, (Below.refl _ _).drew⟩
theorem cut_miss (s : ByteArray) (c : UInt8) (h : ixB s c = -1) (w : World) :
    Calls Tryd.prog 39 #[.string s, .string ⟨#[c]⟩] w fun e w' => e = .returned (.tuple #[.string s, .string ByteArray.empty, .bool false]) ∧ Below w.heap.size w w' := by
  go_enter Tryd.func39, Tryd.ntmps39
  go_wp2_with (go_at_call 54; refine (liteCut_miss _ _ h _).mono ?_; rintro e w' ⟨rfl, b1⟩)
  go_ret3
  exact ⟨rfl, b1⟩
theorem cut_hit (s : ByteArray) (c : UInt8) (i : Nat) (hi : i < s.size) (hs : s.size ≤ 9223372036854775806) (h : ixB s c = i) (w : World) :
    Calls Tryd.prog 39 #[.string s, .string ⟨#[c]⟩] w fun e w' => e = .returned (.tuple #[.string (s.extract 0 i), .string (s.extract (i + 1) s.size), .bool true]) ∧ Below w.heap.size w w' := by
  go_enter Tryd.func39, Tryd.ntmps39
  go_wp2_with (go_at_call 54; refine (liteCut_hit _ _ i hi hs h _).mono ?_; rintro e w' ⟨rfl, b1⟩)
  go_ret3
  exact ⟨rfl, b1⟩
end Go.Proofs.YtmfaihelphfbgaaDoor
