/- The walks of the reference's Arm, Lose, Rot. -/
import Derived.Test.YtkdjibejnncmfaaGreatDoorZK82
import Derived.Test.YtkdjibejnncmfaaGreatDoorZN15
namespace Go.Proofs.YtkdjibejnncmfaaGreatDoor.Co
open Go.RowKit Go.Proofs.YtkdjibejnncmfaaGreatDoorW.PrintWords Go.Proofs.YtkdjibejnncmfaaGreatDoorW.PrintLast Go.Proofs.YtkdjibejnncmfaaGreatDoorW.PrintMore
set_option linter.unusedVariables false
set_option linter.unusedSimpArgs false
set_option maxRecDepth 100000
set_option maxHeartbeats 1000000 in
theorem refArm_any {base r Q c m : Nat} {E : List (Nat × Nat)} {D : DS} (n b : Int) (w : World) (h : RAt w base r Q E c m D) :
    Calls Tryz.prog 110 #[.pointer (some ⟨r, 0, none⟩), .int .i64 n, .int .i64 b] w fun e w' => e = .returned (.tuple #[]) ∧ RAt w' base r Q E c m (armF D n b) ∧ Fr r (E.map Prod.fst) w w' := by
  have f1 := h.f1
  have fz1 := h.box.frozen 1
  obtain ⟨u, hu⟩ : ∃ u, u = max n 0 := ⟨_, rfl⟩
  obtain ⟨v, hv⟩ : ∃ v, v = max (min b 64) 0 := ⟨_, rfl⟩
  have hmx : max n 0 = u := hu.symm
  have hmn : max (min b 64) 0 = v := hv.symm
  have H1 := h.fld (D' := { D with armed := u }) 1 (.int .i64 u) rfl rfl
  have g2 := H1.f2
  have gz2 := H1.box.frozen 2
  have hav : armF D n b = { D with armed := u, part := v } := by unfold armF; rw [hu, hv]; congr 1; omega
  have H2 := Lib.hid (H1.fld (D' := armF D n b) 2 (.int .i64 v) rfl (by rw [hav]; rfl))
  dsimp only at g2
  clear H1 h hu hv hav
  go_enter Tryz.func110, Tryz.ntmps110
  go_wp2_with fail
  go_end0
  exact ⟨rfl, H2.out, ((Fr.refl r (E.map Prod.fst) w).set ⟨r, 1, none⟩ _ (.inl rfl)).set ⟨r, 2, none⟩ _ (.inl rfl)⟩
end Go.Proofs.YtkdjibejnncmfaaGreatDoor.Co
