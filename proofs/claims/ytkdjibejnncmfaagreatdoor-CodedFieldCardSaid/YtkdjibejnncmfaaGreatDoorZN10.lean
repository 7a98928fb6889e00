/- CodedField returns true, whatever comes in. -/
import Derived.Test.YtkdjibejnncmfaaGreatDoorZN5
import Derived.Test.YtkdjibejnncmfaaGreatDoorZK73
namespace Go.Proofs.YtkdjibejnncmfaaGreatDoor.Co
open Go.RowKit
set_option linter.unusedVariables false
theorem field_all {x y n : Int} {s : ByteArray} (hx : (Lit.int .u8 x).wf = true) (hy : (Lit.int .u8 y).wf = true) (hn : (Lit.int .i64 n).wf = true) (hs : s.size ≤ maxLen) (w : World) :
    Calls Tryz.prog 3 #[.int .u8 x, .int .u8 y, .int .i64 n, .string s] w fun e w' => e = .returned (.bool true) ∧ Below w.heap.size w w' := by
  have h1 := byte_of hx
  have h2 := byte_of hy
  obtain ⟨a, rfl⟩ := Int.eq_ofNat_of_zero_le h1.1
  obtain ⟨b, rfl⟩ := Int.eq_ofNat_of_zero_le h2.1
  have h3 := h1.2
  have h4 := h2.2
  unfold maxLen at hs
  exact field_any a b n s w (by omega) (by omega) (int_of hn) hs
end Go.Proofs.YtkdjibejnncmfaaGreatDoor.Co
