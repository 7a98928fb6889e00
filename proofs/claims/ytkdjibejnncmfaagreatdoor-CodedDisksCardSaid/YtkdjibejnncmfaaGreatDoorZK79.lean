/- The walks of Up, Read, Rot of the disks. -/
import Derived.Test.YtkdjibejnncmfaaGreatDoorB3
import Derived.Test.YtkdjibejnncmfaaGreatDoorZN4
namespace Go.Proofs.YtkdjibejnncmfaaGreatDoor.Co
open Go.RowKit Go.Proofs.YtkdjibejnncmfaaGreatDoorW.PrintWords Go.Proofs.YtkdjibejnncmfaaGreatDoorW.PrintLast Go.Proofs.YtkdjibejnncmfaaGreatDoorW.PrintMore
set_option linter.unusedVariables false
set_option linter.unusedSimpArgs false
set_option maxRecDepth 100000
theorem Up_any {d P c m : Nat} {B : List Nat} {D : DS} (w : World) (h : DAt w d P B c m D) : Calls Tryz.prog 57 #[.pointer (some ⟨d, 0, none⟩)] w fun e w' => e = .returned (.bool (!D.down)) ∧ w = w' := by
  have f3 := h.f3
  go_enter Tryz.func57, Tryz.ntmps57
  go_wp2_with fail
  go_ret
  exact ⟨rfl, rfl⟩
/-- What Read answers. -/
def readF (n m : Nat) (D : DS) (i j : Int) : ByteArray × Int := if D.down then (⟨#[]⟩, 91) else if hasF n m i j then (strOfNums (pageAt D i.toNat j.toNat), 0) else (⟨#[]⟩, 1)
set_option maxHeartbeats 1000000 in
theorem Read_any {d P c m : Nat} {B : List Nat} {D : DS} (i j : Int) (w : World) (h : DAt w d P B c m D) :
    Calls Tryz.prog 106 #[.pointer (some ⟨d, 0, none⟩), .int .i64 i, .int .i64 j] w fun e w' => e = .returned (.tuple #[.string (readF B.length m D i j).1, .int .i64 (readF B.length m D i j).2]) ∧ w = w' := by
  have f0 := h.f0
  have f3 := h.f3
  have H := Lib.hid h
  clear h
  by_cases h1 : D.down = true
  · have HW : Hid (readF B.length m D i j = (⟨#[]⟩, 91)) := Lib.hid (by unfold readF; rw [if_pos h1])
    rw [h1] at f3
    clear f0
    go_enter Tryz.func106, Tryz.ntmps106
    go_wp2_with fail
    go_ret2
    exact ⟨by rw [HW.out]; rfl, rfl⟩
  · have h1' : D.down = false := by simpa using h1
    rw [h1'] at f3
    by_cases h2 : hasF B.length m i j = true
    · obtain ⟨i', j', rfl, rfl, hi, hj⟩ : ∃ i' j' : Nat, i = (i' : Int) ∧ j = (j' : Int) ∧ i' < B.length ∧ j' < m := by
        unfold hasF at h2
        simp only [Bool.and_eq_true, decide_eq_true_eq] at h2
        exact ⟨i.toNat, j.toNat, by omega, by omega, by omega, by omega⟩
      have HW : Hid (readF B.length m D i' j' = (strOfNums (pageAt D i' j'), 0)) := Lib.hid (by unfold readF; rw [h1', h2]; rfl)
      have r0 := H.out.row i' hi
      have hx := H.out.cap
      have hmm := H.out.few
      have hpl := H.out.page_len i' j' hi hj
      have hrg := H.out.page_range i' j' hi hj
      have hcv : (convert 46 9 (.slice (some ⟨B.getD i' 0, j' * 64, none⟩) 64 64)).run Tryz.prog w = .ok (.string (strOfNums (pageAt D i' j'))) w := by
        refine run_convert_bytes_arg w 46 5 Tryz.underlying46 Tryz.underlying5 (B.getD i' 0) (j' * 64) 64 64 (pageAt D i' j') hpl (fun q hq => ?_) 9 Tryz.underlying9
        refine hrg q _ ?_
        unfold encB
        rw [List.getElem?_map, List.getElem?_eq_getElem (by omega), List.getD_eq_getElem?_getD, List.getElem?_eq_getElem (by omega)]
        rfl
      obtain ⟨b, hb⟩ : ∃ b, b = B.getD i' 0 := ⟨_, rfl⟩
      rw [← hb] at r0 hcv
      have HB := Lib.hid hb
      clear hb hrg hpl
      go_enter Tryz.func106, Tryz.ntmps106
      go_wp2_with fail
      refine (has_any _ _ w H.out).mono ?_
      rintro e w' ⟨rfl, rfl⟩
      rw [h2]
      go_wp2_with fail
      go_ret2
      exact ⟨by rw [HW.out]; rfl, rfl⟩
    · have h2' : hasF B.length m i j = false := by simpa using h2
      have HW : Hid (readF B.length m D i j = (⟨#[]⟩, 1)) := Lib.hid (by unfold readF; rw [h1', h2']; rfl)
      go_enter Tryz.func106, Tryz.ntmps106
      go_wp2_with fail
      refine (has_any _ _ w H.out).mono ?_
      rintro e w' ⟨rfl, rfl⟩
      rw [h2']
      go_wp2_with fail
      go_ret2
      exact ⟨by rw [HW.out]; rfl, rfl⟩
end Go.Proofs.YtkdjibejnncmfaaGreatDoor.Co
