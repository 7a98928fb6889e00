/- The walk of slices.Concat at two slices of whole numbers. -/
import Derived.Test.YtkdjibejnncmfaaGreatDoorB2
import Derived.Test.YtkdjibejnncmfaaGreatDoorZS2
namespace Go.Proofs.YtkdjibejnncmfaaGreatDoor.Co
open Go.RowKit Go.Proofs.YtkdjibejnncmfaaGreatDoorW.PrintWords Go.Proofs.YtkdjibejnncmfaaGreatDoorW.PrintLast Go.Proofs.YtkdjibejnncmfaaGreatDoorW.PrintMore
set_option linter.unusedVariables false
set_option linter.unusedSimpArgs false
set_option maxRecDepth 100000
theorem info3i : ∃ i0 : TypeInfo, Tryz.prog.info? 3 = some i0 ∧ i0.zero = some (.int .i64 0) ∧ i0.size = 1 ∧ i0.bytes = 8 := by
  obtain ⟨i0, hi, hz0, hz1, hz2⟩ := info_parts info3
  exact ⟨i0, hi, hz0, hz1, hz2⟩
theorem grow_nil (n : Nat) (w : World) (h1 : 1 ≤ n) (h2 : n ≤ 1000) :
    Calls Tryz.prog 124 #[.slice none 0 0, .int .i64 (n : Int)] w fun e w' => ∃ v, e = .returned v ∧ w'.ownsRow w.heap.size 3 1 v 0 [] ∧ Below w.heap.size w w' := by
  obtain ⟨i0, hi, hz0, hz1, hz2⟩ := info3i
  refine (Any8.slices_Grow_grow Tryz.growI i0 (.int .i64 0) hi hz0 (by omega) none 0 0 n [] w (Nat.le_refl _) (by omega) (by rw [hz2]; omega) (by omega) (by simp) (fun _ => rfl) (fun a h => by cases h)).mono ?_
  rintro e w' ⟨rfl, rfl⟩
  refine ⟨_, rfl, ?_, ?_⟩
  · refine ⟨by simp, .inr ⟨w.heap.size, _, _, rfl, Nat.le_refl _, heap_alloc_new w.drew _, Nat.zero_le _, ?_, ?_, by simp⟩⟩
    · exact grownCap_le_maxLen w _ _ _ (by unfold maxLen; omega)
    · have h := grownCap_ge w (0 + n) 0 (Tryz.growI_ren.t 25)
      rw [Array.size_append, Array.size_append, size_zeroCells, size_zeroCells]
      show 0 + (0 + n - 0) * 1 + (_ - (0 + n)) * 1 = _ * 1
      omega
  · exact ((Below.refl _ _).drew).alloc (Nat.le_refl _) _
def szK (n1 n2 k : Nat) : Nat := if k = 0 then 0 else if k = 1 then n1 else n1 + n2
def catK (l1 l2 : List Int) (k : Nat) : List Int := if k = 0 then [] else if k = 1 then l1 else l1 ++ l2
set_option maxHeartbeats 1000000 in
theorem concat_any (gs : Nat) (A1 A2 : Option Addr) (c1 c2 : Nat) (l1 l2 : List Int) (w : World) (h0 : w.cell? ⟨gs, 0, none⟩ = some (.slice A1 l1.length c1)) (h1 : w.cell? ⟨gs, 1, none⟩ = some (.slice A2 l2.length c2))
    (hC1 : Kd.C (Kd.int .i64) w A1 l1.length l1) (hC2 : Kd.C (Kd.int .i64) w A2 l2.length l2) (hl1 : l1.length ≤ 400) (hl2 : l2.length ≤ 400) (hp : 1 ≤ l1.length + l2.length) :
    Calls Tryz.prog 70 #[.slice (some ⟨gs, 0, none⟩) 2 2] w fun e w' => ∃ v, e = .returned v ∧ w'.ownsRow w.heap.size 3 1 v (l1 ++ l2).length (nums .i64 (l1 ++ l2)) ∧ Below w.heap.size w w' := by
  have HC1 := Lib.hid hC1
  have HC2 := Lib.hid hC2
  have H0 := Lib.hid h0
  have H1 := Lib.hid h1
  clear hC1 hC2
  go_enter Tryz.func70, Tryz.ntmps70
  go_wp2_with fail
  go_loop [3, 11] (fun s i => ∃ k z : Nat, k ≤ 2 ∧ i = .int .i64 k ∧ s = .int .i64 (z : Nat) ∧ z ≤ 800 ∧ Hid (z = szK l1.length l2.length k)) (fun _ i => 2 - (intOf i).toNat)
  case atStart => exact ⟨0, 0, by omega, rfl, rfl, by omega, rfl⟩
  case round =>
    obtain ⟨k, z, hk, rfl, rfl, hz, hZ⟩ := hrel
    have hk3 : k = 0 ∨ k = 1 ∨ k = 2 := by omega
    rcases hk3 with rfl | rfl | rfl
    · have hz0 : z = 0 := hZ.out
      subst hz0
      go_wp2_with fail
      go_round
      case rel => exact ⟨1, l1.length, by omega, rfl, by go_num, by omega, rfl⟩
      case measure => simp [intOf]
    · have hz0 : z = l1.length := hZ.out
      subst hz0
      go_wp2_with fail
      go_round
      case rel => exact ⟨2, l1.length + l2.length, by omega, rfl, by go_num, by omega, rfl⟩
      case measure => simp [intOf]
    · have hz0 : z = l1.length + l2.length := hZ.out
      have HZ0 := Lib.hid hz0
      have hz1 : 1 ≤ z := by omega
      clear hz0
      go_wp2_with fail
      refine (grow_nil z w hz1 (by omega)).mono ?_
      rintro e w1 ⟨v, rfl, hown, hb⟩
      have HOWN := Lib.hid hown
      have HB := Lib.hid hb
      have x0 := cell_below hb h0
      have x1 := cell_below hb h1
      clear h0 h1 hown hb
      go_wp2_with fail
      go_loopw [6, 27] (fun v i wr => ∃ k : Nat, k ≤ 2 ∧ i = .int .i64 k ∧ wr.ownsRow w.heap.size 3 1 v (catK l1 l2 k).length (nums .i64 (catK l1 l2 k)) ∧ Below w.heap.size w wr) (fun _ i _ => 2 - (intOf i).toNat)
      case atStart => exact ⟨0, by omega, rfl, HOWN.out, HB.out⟩
      case round =>
        obtain ⟨k, hk, rfl, hown, hb⟩ := hrel
        have HO := Lib.hid hown
        have HBr := Lib.hid hb
        have y0 := cell_below hb H0.out
        have y1 := cell_below hb H1.out
        clear x0 x1
        have hk3 : k = 0 ∨ k = 1 ∨ k = 2 := by omega
        rcases hk3 with rfl | rfl | rfl
        · have hR : Hid (ReadsInt wr .i64 A1 l1.length l1) := Lib.hid (Kd.reads_of_C (d := (0 : Int)) (Kd.C_below HC1.out hb))
          clear hown hb
          have hlen : (catK l1 l2 0).length ≤ 400 := by simp [catK]; try omega
          go_wp2_with ((with_reducible refine gate_builtin (b := .append) (xs := #[.tmp 31, .tmp 32]) rfl ?_); at_builtin; refine print_append_row (w0 := w) w.heap.size rfl (.tmp 31) (.tmp 32) 34 3 .i64 8 rfl Tryz.underlying34 info3 (by decide) u6 (catK l1 l2 0) l1 A1 l1.length c1 rfl rfl HO.out hR.out HBr.out HBr.out.size (by omega) ?_; intro v1 w2 ho hb2 hg hat; have HO2 := Lib.hid ho; have HB2 := Lib.hid hb2; clear ho hb2 hg hat)
          go_roundw
          case rel => exact ⟨1, by omega, rfl, HO2.out, HB2.out⟩
          case measure => simp [intOf]
        · have hR : Hid (ReadsInt wr .i64 A2 l2.length l2) := Lib.hid (Kd.reads_of_C (d := (0 : Int)) (Kd.C_below HC2.out hb))
          clear hown hb
          have hlen : (catK l1 l2 1).length ≤ 400 := by simp [catK]; try omega
          go_wp2_with ((with_reducible refine gate_builtin (b := .append) (xs := #[.tmp 31, .tmp 32]) rfl ?_); at_builtin; refine print_append_row (w0 := w) w.heap.size rfl (.tmp 31) (.tmp 32) 34 3 .i64 8 rfl Tryz.underlying34 info3 (by decide) u6 (catK l1 l2 1) l2 A2 l2.length c2 rfl rfl HO.out hR.out HBr.out HBr.out.size (by omega) ?_; intro v1 w2 ho hb2 hg hat; have HO2 := Lib.hid ho; have HB2 := Lib.hid hb2; clear ho hb2 hg hat)
          go_roundw
          case rel => exact ⟨2, by omega, rfl, HO2.out, HB2.out⟩
          case measure => simp [intOf]
        · clear hown hb
          go_wp2_with fail
          go_ret
          exact ⟨_, rfl, HO.out, HBr.out⟩
end Go.Proofs.YtkdjibejnncmfaaGreatDoor.Co
