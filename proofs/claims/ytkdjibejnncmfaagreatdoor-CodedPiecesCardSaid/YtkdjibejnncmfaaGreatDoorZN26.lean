/- The walks of the reference's numbers and Decode. -/
import Derived.Test.YtkdjibejnncmfaaGreatDoorZN25
namespace Go.Proofs.YtkdjibejnncmfaaGreatDoor.Co
open Go.RowKit Go.Proofs.YtkdjibejnncmfaaGreatDoorW.PrintWords Go.Proofs.YtkdjibejnncmfaaGreatDoorW.PrintLast Go.Proofs.YtkdjibejnncmfaaGreatDoorW.PrintMore
set_option linter.unusedVariables false
set_option linter.unusedSimpArgs false
set_option maxRecDepth 100000
theorem numAt_iff {l : List Int} {i : Nat} (hi : i < l.length) : numAt l i = true ↔ (0 ≤ rd l i ∧ rd l i < 12) ∧ ∀ j : Nat, j < i → rd l j ≠ rd l i := by
  unfold numAt
  rw [Bool.and_eq_true, decide_eq_true_eq]
  refine and_congr_right (fun _ => ?_)
  rw [Bool.not_eq_true', ← Bool.not_eq_true, List.contains_iff_mem]
  constructor
  · intro h j hj e
    refine h ?_
    have hjl : j < (l.take i).length := by rw [List.length_take]; omega
    have e2 : (l.take i)[j] = rd l i := by rw [List.getElem_take, ← e, rd_nat l j (by omega)]
    rw [← e2]
    exact List.getElem_mem _
  · intro h hm
    obtain ⟨j, hj, e⟩ := List.getElem_of_mem hm
    rw [List.length_take] at hj
    refine h j (by omega) ?_
    rw [← e, List.getElem_take, rd_nat l j (by omega)]
theorem numF_no {l : List Int} {m i : Nat} (hi : i < l.length) (h : ¬ numAt l i = true) : numF l m = false := by
  unfold numF
  rw [Bool.and_eq_false_iff]
  refine Or.inr ?_
  rw [List.all_eq_false]
  exact ⟨i, List.mem_range.2 hi, h⟩
theorem numF_yes {l : List Int} {m : Nat} (hl : l.length = m) (h : ∀ i : Nat, i < m → numAt l i = true) : numF l m = true := by
  unfold numF
  rw [Bool.and_eq_true, decide_eq_true_eq, List.all_eq_true]
  exact ⟨hl, fun i hi => h i (by have := List.mem_range.1 hi; omega)⟩
set_option maxHeartbeats 1000000 in
theorem refNumbers_any {A : Option Addr} {c N m : Nat} {l : List Int} {w : World} (hI : IL w A c l) (hN : l.length = N) (hN2 : N ≤ 1000) :
    Calls Tryz.prog 85 #[.slice A N c, .int .i64 (m : Int)] w fun e w' => e = .returned (.bool (numF l m)) ∧ ∃ q, w' = w.drewN q := by
  obtain ⟨b, hb⟩ : ∃ b, b = numF l m := ⟨_, rfl⟩
  rw [← hb]
  have HI := Lib.hid hI
  have HN := Lib.hid hN
  have HBE := Lib.hid hb
  have hNc : (N : Int) ≤ c := by have := hI.cap; omega
  by_cases hm : N = m
  · have e0 : ((N : Int) != (m : Int)) = false := by rw [bne_cast]; simpa using hm
    have hmI : (m : Int) = (N : Int) := by omega
    have HM := Lib.hid hm
    subst hm
    clear hI hN hb hmI
    go_enter Tryz.func85, Tryz.ntmps85
    go_wp2_with fail
    go_loopw [5] (fun i wr => ∃ k : Nat, k ≤ N ∧ i = .int .i64 k ∧ Hid (∀ j : Nat, j < k → numAt l j = true) ∧ Hid (Drawn0 w wr)) (fun i _ => N - (intOf i).toNat)
    case atStart => exact ⟨0, by omega, rfl, Lib.hid (fun j hj => by omega), Lib.hid (Drawn0.refl _)⟩
    case round =>
      obtain ⟨k, hk, rfl, HA, HD⟩ := hrel
      by_cases hlt : k < N
      · obtain ⟨g, o, eA, hx0⟩ := CI_at HI.out.C k (by have := HN.out; omega)
        subst eA
        obtain ⟨x, hx⟩ : ∃ x, x = rd l k := ⟨_, rfl⟩
        rw [← hx] at hx0
        have y0 : wr.cell? ⟨g, o + k, none⟩ = some (.int .i64 x) := by obtain ⟨q, hq⟩ := HD.out; rw [hq]; exact hx0
        have HX := Lib.hid hx
        have hk0 : (0 : Int) ≤ (k : Int) := by omega
        have hkN : (k : Int) < (N : Int) := by omega
        have HFAIL : Hid (¬ ((0 ≤ x ∧ x < 12) ∧ ∀ j : Nat, j < k → rd l j ≠ x) → b = false) := Lib.hid (fun h => by
          rw [HBE.out]
          refine numF_no (i := k) (by have := HN.out; omega) (fun h2 => h ?_)
          rw [hx]
          exact (numAt_iff (by have := HN.out; omega)).1 h2)
        clear hx hx0
        by_cases h1 : x < 0
        · have HB : Hid (b = false) := Lib.hid (HFAIL.out (fun h => by omega))
          go_wp2_with fail
          go_ret
          exact ⟨by rw [HB.out]; rfl, HD.out.out⟩
        · by_cases h2 : 12 ≤ x
          · have HB : Hid (b = false) := Lib.hid (HFAIL.out (fun h => by omega))
            go_wp2_with fail
            go_ret
            exact ⟨by rw [HB.out]; rfl, HD.out.out⟩
          · obtain ⟨wo, hwo⟩ : ∃ wo : World, wo = wr := ⟨_, rfl⟩
            have HWO := Lib.hid hwo
            have HY0 : Hid (wo.cell? ⟨g, o + k, none⟩ = some (.int .i64 x)) := Lib.hid (by rw [hwo]; exact y0)
            rw [← hwo] at HD
            clear hwo
            go_wp2_with fail
            go_loopw [6] (fun i wr => ∃ j : Nat, j ≤ k ∧ i = .int .i64 j ∧ Hid (∀ q : Nat, q < j → rd l q ≠ x) ∧ Hid (Drawn0 wo wr)) (fun i _ => k - (intOf i).toNat)
            case atStart => exact ⟨0, by omega, rfl, Lib.hid (fun j hj => by omega), Lib.hid (by rw [HWO.out]; exact Drawn0.refl _)⟩
            case round =>
              obtain ⟨W, rfl⟩ : ∃ W : World, W = wr := ⟨_, rfl⟩
              obtain ⟨j, hj, rfl, HQ, HD2⟩ := hrel
              have HDD : Hid (Drawn0 w W) := Lib.hid (by obtain ⟨m1, h1⟩ := HD.out; obtain ⟨m2, h2⟩ := HD2.out; rw [h2, h1]; exact (Drawn0.refl w).step _ |>.step _)
              by_cases hlt2 : j < k
              · obtain ⟨z, hz⟩ : ∃ z, z = rd l j := ⟨_, rfl⟩
                have u1 : W.cell? ⟨g, o + k, none⟩ = some (.int .i64 x) := by obtain ⟨q, hq⟩ := HD2.out; rw [hq]; exact HY0.out
                have u2 : W.cell? ⟨g, o + j, none⟩ = some (.int .i64 z) := by
                  obtain ⟨q, hq⟩ := HDD.out
                  rw [hq, hz]
                  exact HI.out.cell j (by have := HN.out; omega)
                have HZ := Lib.hid hz
                have hj0 : (0 : Int) ≤ (j : Int) := by omega
                have hjk : (j : Int) < (k : Int) := by omega
                have hjN : (j : Int) < (N : Int) := by omega
                clear hz y0
                by_cases he : z = x
                · have HB : Hid (b = false) := Lib.hid (HFAIL.out (fun h => h.2 j hlt2 (by rw [← HZ.out]; exact he)))
                  have e1 : (z == x) = true := by simpa using he
                  clear HFAIL
                  go_upto_region 11 with fail
                  go_quiet (fail)
                  go_wp2_with fail
                  go_ret
                  exact ⟨by rw [HB.out]; rfl, (HDD.out.step _).out⟩
                · have e1 : (z == x) = false := by simpa using he
                  have HQ2 : Hid (∀ q : Nat, q < j + 1 → rd l q ≠ x) := Lib.hid (fun q hq => by
                    by_cases h : q = j
                    · rw [h, ← HZ.out]; exact he
                    · exact HQ.out q (by omega))
                  go_upto_region 11 with fail
                  go_quiet (fail)
                  go_wp2_with fail
                  go_roundw
                  case rel => exact ⟨j + 1, by omega, by go_num, HQ2, Lib.hid (HD2.out.step _)⟩
                  case measure => simp [intOf]; omega
              · have hjk : j = k := by omega
                have HA2 : Hid (∀ q : Nat, q < k + 1 → numAt l q = true) := Lib.hid (fun q hq => by
                  by_cases h : q = k
                  · subst h
                    refine (numAt_iff (by have := HN.out; omega)).2 ?_
                    rw [← HX.out]
                    exact ⟨⟨by omega, by omega⟩, fun q hq => HQ.out q (by omega)⟩
                  · exact HA.out q (by omega))
                subst hjk
                clear y0
                go_wp2_with fail
                go_roundw
                case rel => exact ⟨j + 1, by omega, by go_num, HA2, HDD⟩
                case measure => simp [intOf]; omega
      · have hkN : k = N := by omega
        subst hkN
        have HB : Hid (b = true) := Lib.hid (by rw [HBE.out]; exact numF_yes HN.out HA.out)
        go_wp2_with fail
        go_ret
        exact ⟨by rw [HB.out]; rfl, HD.out.out⟩
  · have e0 : ((N : Int) != (m : Int)) = true := by rw [bne_cast]; simpa using hm
    have HB : Hid (b = false) := Lib.hid (by rw [hb]; unfold numF; rw [hN]; simp [hm])
    have HM := Lib.hid hm
    clear hI hN hb hm
    go_enter Tryz.func85, Tryz.ntmps85
    go_wp2_with fail
    go_ret
    exact ⟨by rw [HB.out]; rfl, 0, rfl⟩
end Go.Proofs.YtkdjibejnncmfaaGreatDoor.Co
