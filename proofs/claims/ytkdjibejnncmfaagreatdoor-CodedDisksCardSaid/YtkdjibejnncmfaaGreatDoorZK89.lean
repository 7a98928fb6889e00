/- The walk of the reference's Lose. -/
import Derived.Test.YtkdjibejnncmfaaGreatDoorZK88
import Derived.Deep.RegionHeld3
namespace Go.Proofs.YtkdjibejnncmfaaGreatDoor.Co
open Go.RowKit Go.Proofs.YtkdjibejnncmfaaGreatDoorW.PrintWords Go.Proofs.YtkdjibejnncmfaaGreatDoorW.PrintLast Go.Proofs.YtkdjibejnncmfaaGreatDoorW.PrintMore
set_option linter.unusedVariables false
set_option linter.unusedSimpArgs false
set_option maxRecDepth 100000
/-- Pages of a disk up to k are emptied. -/
def loseTo (D : DS) (i : Nat) : Nat → DS
  | 0 => D
  | k + 1 => (loseTo D i k).put i (k * 64) (wrBytes zeroT)
theorem zeroT_size : zeroT.size = 64 := by unfold zeroT; rw [str_size]; simp
theorem Dz.put {n m : Nat} {D : DS} (h : Dz n m D) {i : Nat} (hi : i < n) (off : Nat) (bs : List Int) : Dz n m (D.put i off bs) where
  len := by show (D.disks.set i _).length = n; rw [List.length_set]; exact h.len
  size := fun l hl => by
    rcases List.mem_or_eq_of_mem_set (show l ∈ D.disks.set i _ from hl) with h1 | rfl
    · exact h.size l h1
    · rw [setL_length]
      have hi3 : i < D.disks.length := by have := h.len; omega
      rw [List.getD_eq_getElem?_getD, List.getElem?_eq_getElem hi3]
      exact h.size _ (List.getElem_mem _)
theorem loseTo_dz {n m : Nat} {D : DS} (h : Dz n m D) {i : Nat} (hi : i < n) : ∀ k, Dz n m (loseTo D i k)
  | 0 => h
  | k + 1 => (loseTo_dz h hi k).put hi _ _
set_option maxHeartbeats 2000000 in
theorem refLose_loop {base r Q c m : Nat} {E : List (Nat × Nat)} {D : DS} (i : Nat) (w : World) (h : RAt w base r Q E c m D) (hz : Dz E.length m D) (hi : i < E.length) (hm : m ≤ 1024) :
    Calls Tryz.prog 112 #[.pointer (some ⟨r, 0, none⟩), .int .i64 (i : Int)] w fun e w' => e = .returned (.int .i64 0) ∧ RAt w' base r Q E c m (loseTo D i m) ∧ Fr r (E.map Prod.fst) w w' := by
  have f0 := h.f0
  have H := Lib.hid h
  have hcap := h.cap
  obtain ⟨⟨b, cb⟩, he⟩ : ∃ e, E[i]? = some e := ⟨_, List.getElem?_eq_getElem hi⟩
  have HE := Lib.hid he
  have HBM : Hid (b ∈ E.map Prod.fst) := Lib.hid (List.mem_map.2 ⟨(b, cb), List.mem_of_getElem? he, rfl⟩)
  have hcb : m ≤ cb := (h.row i (b, cb) he).hcap
  have hin : (i : Int) < (E.length : Int) := by omega
  have HZ := Lib.hid hz
  clear h he hz
  go_enter Tryz.func112, Tryz.ntmps112
  go_wp2_with fail
  have hdf : decide (E.length ≤ i) = false := by simp; omega
  rw [hdf, Bool.or_false]
  clear hdf
  go_loopw [5] (fun q wr => ∃ k : Nat, k ≤ m ∧ q = .int .i64 k ∧ Hid (RAt wr base r Q E c m (loseTo D i k)) ∧ Hid (Fr r (E.map Prod.fst) w wr)) (fun q _ => m - (intOf q).toNat)
  case atStart => exact ⟨0, by omega, rfl, H, Lib.hid (Fr.refl _ _ _)⟩
  case round =>
    obtain ⟨W, rfl⟩ : ∃ W : World, W = wr := ⟨_, rfl⟩
    obtain ⟨k, hk, rfl, HR, HF⟩ := hrel
    have x0 := HR.out.f0
    have x1 := HR.out.rowC i (b, cb) HE.out
    try dsimp only at x1
    clear f0
    by_cases hlt : k < m
    · have hk0 : (0 : Int) ≤ (k : Int) := by omega
      have hkm : (k : Int) < (m : Int) := by omega
      go_upto_region 6 with fail
      go_region_held3 (fun V => V.cell? ⟨r, 0, none⟩ = some (.slice (some ⟨Q, 0, none⟩) E.length c) ∧ V.cell? ⟨Q, i, none⟩ = some (.slice (some ⟨b, 0, none⟩) m cb)) (first | exact ⟨x0, x1⟩ | exact ⟨y0, y1⟩ | exact ⟨z0, z1⟩ | assumption) ((go_at_call 105; refine (refZeros_any _).mono ?_; rintro e w5 ⟨rfl, hb0⟩; have hb : Below W.heap.size W w5 := belt (Below.refl _ W).drew hb0; have HB5 := Lib.hid hb; have y0 := cell_below hb x0; have y1 := cell_below hb x1; clear hb0; have R5 := Lib.hid (HR.out.below hb); have yp := R5.out.pageC i k (b, cb) HE.out hlt; have yf := (R5.out.row i (b, cb) HE.out).frozen k; have R6 := Lib.hid (R5.out.whole (loseTo_dz HZ.out hi k) (b, cb) HE.out hlt zeroT_size); have z0 := R6.out.f0; have z1 := R6.out.rowC i (b, cb) HE.out; have F6 := Lib.hid ((HF.out.trans (Fr.of_below hb)).set ⟨b, k, none⟩ (.string zeroT) (.inr HBM.out)); clear hb))
      go_wp2_with fail
      go_roundw
      case rel => first | exact ⟨k + 1, by omega, by go_num, R6, F6⟩ | ((repeat apply Exists.intro); refine ⟨⟨k + 1, ?_, ?_, R6, F6⟩, rfl⟩; omega; go_num)
      case measure => simp [intOf]; omega
    · have hkm : k = m := by omega
      subst hkm
      go_wp2_with fail
      go_ret
      exact ⟨rfl, HR.out, HF.out⟩
end Go.Proofs.YtkdjibejnncmfaaGreatDoor.Co
