/- The reference's Write, whatever comes in. -/
import Derived.Test.YtkdjibejnncmfaaGreatDoorZK87
namespace Go.Proofs.YtkdjibejnncmfaaGreatDoor.Co
open Go.RowKit Go.Proofs.YtkdjibejnncmfaaGreatDoorW.PrintWords Go.Proofs.YtkdjibejnncmfaaGreatDoorW.PrintLast Go.Proofs.YtkdjibejnncmfaaGreatDoorW.PrintMore
set_option linter.unusedVariables false
set_option maxRecDepth 100000
/-- What disks in memory always are. -/
structure Dok (n m : Nat) (D : DS) : Prop where
  z : Dz n m D
  bytes : ∀ l ∈ D.disks, ∀ x ∈ l, IsB x
  a0 : 0 ≤ D.armed
  a1 : D.armed ≤ 9223372036854775807
  p0 : 0 ≤ D.part
  p1 : D.part ≤ 64
theorem refWrite_any {base r Q c m : Nat} {E : List (Nat × Nat)} {D : DS} (i j : Int) (s : ByteArray) (w : World) (h : RAt w base r Q E c m D) (hk : Dok E.length m D) (hs : s.size ≤ 9223372036854775807) (hf0 : 0 ≤ D.falls) (hf1 : D.falls < 9223372036854775807) :
    Calls Tryz.prog 109 #[.pointer (some ⟨r, 0, none⟩), .int .i64 i, .int .i64 j, .string s] w fun e w' => e = .returned (.int .i64 (writeF E.length m D i j s).2) ∧ RAt w' base r Q E c m (writeF E.length m D i j s).1 ∧ Fr r (E.map Prod.fst) w w' := by
  by_cases hc : D.armed = 1 ∧ D.down = false ∧ hasF E.length m i j = true ∧ s.size = 64
  · obtain ⟨c1, c2, c3, c4⟩ := hc
    have c5 := c3
    unfold hasF at c5
    simp only [Bool.and_eq_true, decide_eq_true_eq] at c5
    obtain ⟨i', rfl⟩ := Int.eq_ofNat_of_zero_le (show 0 ≤ i by omega)
    obtain ⟨j', rfl⟩ := Int.eq_ofNat_of_zero_le (show 0 ≤ j by omega)
    have p0 := hk.p0
    have p1 := hk.p1
    obtain ⟨pt, hpt⟩ := Int.eq_ofNat_of_zero_le p0
    have hW : writeF E.length m D (i' : Int) (j' : Int) s = ({ D.put i' (j' * 64) ((wrBytes s).take pt) with armed := 0, down := true, falls := D.falls + 1 }, 91) := by
      unfold writeF
      rw [c2, c3, if_neg (by simp), if_neg (by simp [c4]), if_pos c1, hpt]
      simp only [Int.toNat_natCast]
    rw [hW]
    exact refWrite_off i' j' pt s w h hk.z hk.bytes (by omega) (by omega) c4 c2 c1 hpt (by omega) hf0 hf1
  · exact refWrite_on i j s w h hk.z hs hk.a0 hk.a1 (fun e1 e2 e3 e4 => hc ⟨e1, e2, e3, e4⟩)
theorem dok_of {w : World} {d P c m : Nat} {B : List Nat} {D : DS} (h : DAt w d P B c m D) : Dok B.length m D := ⟨⟨h.len, h.size⟩, h.bytes, h.arm0, h.arm1, h.part0, h.part1⟩
end Go.Proofs.YtkdjibejnncmfaaGreatDoor.Co
