/- The walk of Rot. -/
import Derived.Test.YtkdjibejnncmfaaGreatDoorZK79
import Derived.StillTailTactics
namespace Go.Proofs.YtkdjibejnncmfaaGreatDoor.Co
open Go.RowKit Go.Proofs.YtkdjibejnncmfaaGreatDoorW.PrintWords Go.Proofs.YtkdjibejnncmfaaGreatDoorW.PrintLast Go.Proofs.YtkdjibejnncmfaaGreatDoorW.PrintMore
set_option linter.unusedVariables false
set_option linter.unusedSimpArgs false
set_option maxRecDepth 100000
/-- What Rot leaves and answers. -/
def rotF (n m : Nat) (D : DS) (i j p y : Int) : DS × Int :=
  if hasF n m i j && decide (0 ≤ p) && decide (p < 64) then (D.put i.toNat (j.toNat * 64 + p.toNat) [xorI (rd (D.disks.getD i.toNat []) ((j.toNat * 64 + p.toNat : Nat) : Int)) y], 0) else (D, 1)
set_option maxHeartbeats 2000000 in
theorem Rot_any {d P c m : Nat} {B : List Nat} {D : DS} (i j p y : Int) (w : World) (h : DAt w d P B c m D) (hy : IsB y) :
    Calls Tryz.prog 49 #[.pointer (some ⟨d, 0, none⟩), .int .i64 i, .int .i64 j, .int .i64 p, .int .u8 y] w fun e w' => e = .returned (.int .i64 (rotF B.length m D i j p y).2) ∧ DAt w' d P B c m (rotF B.length m D i j p y).1 ∧ Fr d B w w' := by
  have f0 := h.f0
  have H := Lib.hid h
  clear h
  by_cases h2 : hasF B.length m i j = true
  · by_cases h3 : p < 0
    · have HW : Hid (rotF B.length m D i j p y = (D, 1)) := Lib.hid (by unfold rotF; rw [show decide (0 ≤ p) = false by simp; omega]; simp)
      clear f0
      go_enter Tryz.func49, Tryz.ntmps49
      go_wp2_with (go_at_call 101; refine (has_any _ _ w H.out).mono ?_; rintro e w' ⟨rfl, rfl⟩; rw [h2])
      go_ret
      exact ⟨by rw [HW.out]; rfl, by rw [HW.out]; exact H.out, Fr.refl _ _ _⟩
    · by_cases h4 : 64 ≤ p
      · have HW : Hid (rotF B.length m D i j p y = (D, 1)) := Lib.hid (by unfold rotF; rw [show decide (p < 64) = false by simp; omega]; simp)
        clear f0
        go_enter Tryz.func49, Tryz.ntmps49
        go_wp2_with (go_at_call 101; refine (has_any _ _ w H.out).mono ?_; rintro e w' ⟨rfl, rfl⟩; rw [h2])
        go_ret
        exact ⟨by rw [HW.out]; rfl, by rw [HW.out]; exact H.out, Fr.refl _ _ _⟩
      · obtain ⟨i', j', rfl, rfl, hi, hj⟩ : ∃ i' j' : Nat, i = (i' : Int) ∧ j = (j' : Int) ∧ i' < B.length ∧ j' < m := by
          unfold hasF at h2
          simp only [Bool.and_eq_true, decide_eq_true_eq] at h2
          exact ⟨i.toNat, j.toNat, by omega, by omega, by omega, by omega⟩
        obtain ⟨q, rfl⟩ := Int.eq_ofNat_of_zero_le (Int.not_lt.1 h3)
        have hq : q < 64 := by omega
        have r0 := H.out.row i' hi
        have hx := H.out.cap
        have hmm := H.out.few
        have hby := H.out.byte i' hi (j' * 64 + q) (by omega)
        have hfz := (H.out.dsk i' hi).frozen (j' * 64 + q)
        obtain ⟨b, hb⟩ : ∃ b, b = B.getD i' 0 := ⟨_, rfl⟩
        obtain ⟨z, hz⟩ : ∃ z, z = rd (D.disks.getD i' []) ((j' * 64 + q : Nat) : Int) := ⟨_, rfl⟩
        rw [← hb] at r0 hby hfz
        rw [← hz] at hby
        have HW : Hid (rotF B.length m D i' j' q y = (D.put i' (j' * 64 + q) [xorI z y], 0)) := Lib.hid (by
          unfold rotF
          rw [h2, show decide ((0 : Int) ≤ (q : Int)) = true by simp, show decide ((q : Int) < 64) = true by simp; omega]
          simp only [Bool.and_self, if_true, Int.toNat_natCast]
          rw [hz])
        have HBE : Hid (b ∈ B ∧ b = B.getD i' 0 ∧ IsB z) := Lib.hid ⟨by rw [hb]; exact DAt.b_mem hi, hb, by
          rw [hz]
          exact H.out.dbytes i' hi _ (rd_mem _ _ (by rw [H.out.dlen i' hi]; omega))⟩
        have hj0 : (0 : Int) ≤ (j' : Int) := by omega
        have hq0 : (0 : Int) ≤ (q : Int) := by omega
        have hjm : (j' : Int) < (m : Int) := by omega
        have hin : (i' : Int) < (B.length : Int) := by omega
        have hq64 : (q : Int) < 64 := by omega
        clear hb hz
        go_enter Tryz.func49, Tryz.ntmps49
        go_wp2_with (go_at_call 101; refine (has_any _ _ w H.out).mono ?_; rintro e w' ⟨rfl, rfl⟩; rw [h2])
        go_still_tail 16, (by kernel_rfl)
        change wpList _ _ _ _ _ w.drew
        obtain ⟨w2, hw2⟩ : ∃ w2, w2 = w.drew := ⟨_, rfl⟩
        have f0' : w2.cell? ⟨d, 0, none⟩ = some (.slice (some ⟨P, 0, none⟩) B.length c) := by rw [hw2]; exact f0
        have r0' : w2.cell? ⟨P, i', none⟩ = some (.slice (some ⟨b, 0, none⟩) m m) := by rw [hw2]; exact r0
        have hby' : w2.cell? ⟨b, j' * 64 + q, none⟩ = some (.int .u8 z) := by rw [hw2]; exact hby
        have hfz' : w2.frozen? ⟨b, j' * 64 + q, none⟩ = false := by rw [hw2]; exact hfz
        have H2 : Hid (DAt w2 d P B c m D) := Lib.hid (by rw [hw2]; exact H.out.below (Below.refl _ _).drew)
        have HFR : Hid (Fr d B w w2) := Lib.hid (by rw [hw2]; exact Fr.of_below (Below.refl _ _).drew)
        rw [← hw2]
        clear hw2 f0 r0 hby hfz
        go_wp2_with fail
        go_ret
        have hpt := H2.out.put i' hi (j' * 64 + q) [xorI z y] (fun x hx => by rw [List.mem_singleton.1 hx]; exact xorI_b _ _)
        rw [← HBE.out.2.1] at hpt
        refine ⟨by rw [HW.out]; rfl, by rw [HW.out]; exact hpt, HFR.out.set _ _ (.inr HBE.out.1)⟩
  · have h2' : hasF B.length m i j = false := by simpa using h2
    have HW : Hid (rotF B.length m D i j p y = (D, 1)) := Lib.hid (by unfold rotF; rw [h2']; simp)
    clear f0
    go_enter Tryz.func49, Tryz.ntmps49
    go_wp2_with (go_at_call 101; refine (has_any _ _ w H.out).mono ?_; rintro e w' ⟨rfl, rfl⟩; rw [h2'])
    go_ret
    exact ⟨by rw [HW.out]; rfl, by rw [HW.out]; exact H.out, Fr.refl _ _ _⟩
end Go.Proofs.YtkdjibejnncmfaaGreatDoor.Co
