/- CodedTexts returns true, whatever comes in. -/
import Derived.Test.YtkdjibejnncmfaaGreatDoorZK77
namespace Go.Proofs.YtkdjibejnncmfaaGreatDoor.Co
open Go.RowKit Go.Proofs.YtkdjibejnncmfaaGreatDoorW.PrintWords Go.Proofs.YtkdjibejnncmfaaGreatDoorW.PrintLast Go.Proofs.YtkdjibejnncmfaaGreatDoorW.PrintMore
set_option linter.unusedVariables false
theorem texts_any {A : Option Addr} {c : Nat} {l : List ByteArray} {n k p : Int} {w : World} (hl : TL w A c l) :
    Calls Tryz.prog 7 #[.int .i64 n, .int .i64 k, .int .i64 p, .slice A l.length c] w fun e w' => e = .returned (.bool true) ∧ Below w.heap.size w w' := by
  by_cases h : 1 ≤ n ∧ n ≤ 4 ∧ 1 ≤ k ∧ k ≤ n ∧ 2 ≤ p ∧ p ≤ 12 ∧ l.length ≤ 10
  · obtain ⟨h1, h2, h3, h4, h5, h6, h7⟩ := h
    obtain ⟨N, rfl⟩ := Int.eq_ofNat_of_zero_le (show 0 ≤ n by omega)
    obtain ⟨K, rfl⟩ := Int.eq_ofNat_of_zero_le (show 0 ≤ k by omega)
    obtain ⟨M, rfl⟩ := Int.eq_ofNat_of_zero_le (show 0 ≤ p by omega)
    exact texts_yes hl rfl h7 (by omega) (by omega) (by omega) (by omega) (by omega)
  · exact texts_no h
end Go.Proofs.YtkdjibejnncmfaaGreatDoor.Co
