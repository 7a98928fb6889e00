/- The walks of the reference's zeros, Read, Restart. -/
import Derived.Test.YtkdjibejnncmfaaGreatDoorZK81
namespace Go.Proofs.YtkdjibejnncmfaaGreatDoor.Co
open Go.RowKit Go.Proofs.YtkdjibejnncmfaaGreatDoorW.PrintWords Go.Proofs.YtkdjibejnncmfaaGreatDoorW.PrintLast Go.Proofs.YtkdjibejnncmfaaGreatDoorW.PrintMore
set_option linter.unusedVariables false
set_option linter.unusedSimpArgs false
set_option maxRecDepth 100000
/-- An empty page's text. -/
def zeroT : ByteArray := strOfNums (List.replicate 64 0)
theorem refZeros_any (w : World) : Calls Tryz.prog 105 #[] w fun e w' => e = .returned (.string zeroT) ∧ Below w.heap.size w w' := by
  have hmk := print_make (P := Tryz.prog) 46 5 .u8 1 Tryz.underlying46 info5 (by omega) 64 (by omega) w
  obtain ⟨W1, hW1⟩ : ∃ W1, W1 = w.alloc (.cells (madeCells #[.int .u8 0] 64) 5) := ⟨_, rfl⟩
  have hcv : (convert 46 9 (.slice (some ⟨w.heap.size, 0, none⟩) 64 64)).run Tryz.prog W1 = .ok (.string zeroT) W1 := by
    refine run_convert_bytes_arg W1 46 5 Tryz.underlying46 Tryz.underlying5 w.heap.size 0 64 64 (List.replicate 64 0) (by simp) (fun i hi => ?_) 9 Tryz.underlying9
    rw [hW1, Nat.zero_add, cell_new]
    have : (madeCells #[Value.int .u8 0] 64)[i]? = some (.int .u8 0) := by simp [madeCells, hi, Nat.mod_one]
    rw [this, List.getD_eq_getElem?_getD, List.getElem?_replicate]
    simp [hi]
  rw [← hW1] at hmk
  have hmk2 : (Instr.makeSlice 46 (.int .i64 64) (.int .i64 64)).run Tryz.prog w = .ok (.slice (some ⟨w.heap.size, 0, none⟩) 64 64) W1 := hmk
  clear hmk
  have hB : Below w.heap.size w W1 := by rw [hW1]; exact below_al (Below.refl _ _) _
  have HB := Lib.hid hB
  clear hW1 hB
  obtain ⟨z, hz⟩ : ∃ z, z = zeroT := ⟨_, rfl⟩
  rw [← hz] at hcv ⊢
  clear hz
  go_enter Tryz.func105, Tryz.ntmps105
  go_wp2_with fail
  go_ret
  exact ⟨rfl, HB.out⟩
theorem RAt.fld {w : World} {base r Q c m : Nat} {E : List (Nat × Nat)} {D D' : DS} (h : RAt w base r Q E c m D) (i : Nat) (v : Value) (hp : D'.disks = D.disks)
    (hb : (#[Value.slice (some ⟨Q, 0, none⟩) E.length c, .int .i64 D.armed, .int .i64 D.part, .bool D.down, .int .i64 D.falls] : Array Value).setIfInBounds i v = #[Value.slice (some ⟨Q, 0, none⟩) E.length c, .int .i64 D'.armed, .int .i64 D'.part, .bool D'.down, .int .i64 D'.falls]) :
    RAt (w.setCell ⟨r, i, none⟩ v) base r Q E c m D' := by
  have hne : ∀ {k : Nat} {e : Nat} {cs : Array Value}, e ≠ 150 → w.heap[k]? = some (.cells cs e (0, 0)) → k ≠ r := fun {k e cs} he hk hkr => by
    have hbx : w.heap[r]? = some (.cells _ 150 (0, 0)) := h.box
    rw [hkr, hbx] at hk
    injection hk with hk
    injection hk with _ hk2
    exact he hk2.symm
  refine ⟨?_, ?_, fun j e he => ?_, h.nodup, h.rge, h.cap⟩
  · have := h.box.set i v
    rw [hb] at this
    exact this
  · refine ownsRow_setCell_other h.outer ?_ v
    obtain ⟨cs, hk⟩ := own_typed h.outer Q rfl
    intro e
    injection e with e
    exact hne (by decide) hk e
  · have hr := h.row j e he
    have hpp : pagesL D' j m = pagesL D j m := by unfold pagesL pageAt; rw [hp]
    rw [hpp]
    refine ⟨?_, hr.len, hr.ge, hr.hcap, hr.capm⟩
    refine ownsRow_setCell_other hr.own ?_ v
    obtain ⟨cs, hk⟩ := own_typed hr.own e.1 rfl
    intro e2
    injection e2 with e2
    exact hne (by decide) hk e2
theorem refRestart_any {base r Q c m : Nat} {E : List (Nat × Nat)} {D : DS} (w : World) (h : RAt w base r Q E c m D) :
    Calls Tryz.prog 111 #[.pointer (some ⟨r, 0, none⟩)] w fun e w' => e = .returned (.tuple #[]) ∧ RAt w' base r Q E c m (restartF D) ∧ Fr r (E.map Prod.fst) w w' := by
  have f3 := h.f3
  have fz3 := h.box.frozen 3
  have H1 := h.fld (D' := { D with down := false }) 3 (.bool false) rfl rfl
  have g1 := H1.f1
  have gz1 := H1.box.frozen 1
  have H2 := Lib.hid (H1.fld (D' := restartF D) 1 (.int .i64 0) rfl rfl)
  dsimp only at g1
  clear H1 h
  go_enter Tryz.func111, Tryz.ntmps111
  go_wp2_with fail
  go_end0
  exact ⟨rfl, H2.out, ((Fr.refl r (E.map Prod.fst) w).set ⟨r, 3, none⟩ _ (.inl rfl)).set ⟨r, 1, none⟩ _ (.inl rfl)⟩
set_option maxHeartbeats 1000000 in
theorem refRead_any {base r Q c m : Nat} {E : List (Nat × Nat)} {D : DS} (i j : Int) (w : World) (h : RAt w base r Q E c m D) :
    Calls Tryz.prog 107 #[.pointer (some ⟨r, 0, none⟩), .int .i64 i, .int .i64 j] w fun e w' => e = .returned (.tuple #[.string (readF E.length m D i j).1, .int .i64 (readF E.length m D i j).2]) ∧ w = w' := by
  have f0 := h.f0
  have f3 := h.f3
  have H := Lib.hid h
  have hcap := h.cap
  clear h
  by_cases h1 : D.down = true
  · have HW : Hid (readF E.length m D i j = (⟨#[]⟩, 91)) := Lib.hid (by unfold readF; rw [if_pos h1])
    rw [h1] at f3
    clear f0
    go_enter Tryz.func107, Tryz.ntmps107
    go_wp2_with fail
    go_ret2
    exact ⟨by rw [HW.out]; rfl, rfl⟩
  · have h1' : D.down = false := by simpa using h1
    rw [h1'] at f3
    by_cases h2 : hasF E.length m i j = true
    · obtain ⟨i', j', rfl, rfl, hi, hj⟩ : ∃ i' j' : Nat, i = (i' : Int) ∧ j = (j' : Int) ∧ i' < E.length ∧ j' < m := by
        unfold hasF at h2
        simp only [Bool.and_eq_true, decide_eq_true_eq] at h2
        exact ⟨i.toNat, j.toNat, by omega, by omega, by omega, by omega⟩
      have HW : Hid (readF E.length m D i' j' = (strOfNums (pageAt D i' j'), 0)) := Lib.hid (by unfold readF; rw [h1', h2]; rfl)
      obtain ⟨⟨b, cb⟩, he⟩ : ∃ e, E[i']? = some e := ⟨_, List.getElem?_eq_getElem hi⟩
      have r0 := H.out.rowC i' (b, cb) he
      have p0 := H.out.pageC i' j' (b, cb) he hj
      have hcb : m ≤ cb := (H.out.row i' (b, cb) he).hcap
      obtain ⟨s, hs⟩ : ∃ s, s = strOfNums (pageAt D i' j') := ⟨_, rfl⟩
      rw [← hs] at p0 HW
      have hin : (i' : Int) < (E.length : Int) := by omega
      have hjm : (j' : Int) < (m : Int) := by omega
      clear hs he
      dsimp only at r0 p0
      go_enter Tryz.func107, Tryz.ntmps107
      go_wp2_with (go_at_call 141; refine (refHas_any _ _ w H.out).mono ?_; rintro e w' ⟨rfl, rfl⟩; rw [h2])
      go_ret2
      exact ⟨by rw [HW.out]; rfl, rfl⟩
    · have h2' : hasF E.length m i j = false := by simpa using h2
      have HW : Hid (readF E.length m D i j = (⟨#[]⟩, 1)) := Lib.hid (by unfold readF; rw [h1', h2']; rfl)
      go_enter Tryz.func107, Tryz.ntmps107
      go_wp2_with (go_at_call 141; refine (refHas_any _ _ w H.out).mono ?_; rintro e w' ⟨rfl, rfl⟩; rw [h2'])
      go_ret2
      exact ⟨by rw [HW.out]; rfl, rfl⟩
end Go.Proofs.YtkdjibejnncmfaaGreatDoor.Co
