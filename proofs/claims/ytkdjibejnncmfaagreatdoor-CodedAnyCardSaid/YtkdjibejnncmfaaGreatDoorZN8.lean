/- CodedAny returns true, whatever comes in. -/
import Derived.Test.YtkdjibejnncmfaaGreatDoorZN5
import Derived.Test.YtkdjibejnncmfaaGreatDoorZK72
namespace Go.Proofs.YtkdjibejnncmfaaGreatDoor.Co
open Go.RowKit
set_option linter.unusedVariables false
theorem any_any {A Ao : Option Addr} {c co : Nat} {l : List ByteArray} {order : List Int} {n : Int} {w : World} (hl : TL w A c l) (ho : IL w Ao co order) :
    Calls Tryz.prog 13 #[.slice A l.length c, .int .i64 n, .slice Ao order.length co] w fun e w' => e = .returned (.bool true) ∧ Below w.heap.size w w' := by
  cases h : (dataB l n 100 && decide (order.length ≤ 100)) with
  | false => exact any_no hl ho h
  | true =>
    simp only [Bool.and_eq_true, decide_eq_true_eq] at h
    have hn := dataB_iff h.1
    obtain ⟨N, rfl⟩ := Int.eq_ofNat_of_zero_le (show 0 ≤ n by omega)
    exact any_yes hl ho h.1 rfl rfl h.2
end Go.Proofs.YtkdjibejnncmfaaGreatDoor.Co
