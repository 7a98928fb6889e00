/- The walks of the reference's texts, first, pieces, SameTexts. -/
import Derived.Test.YtkdjibejnncmfaaGreatDoorZN22
namespace Go.Proofs.YtkdjibejnncmfaaGreatDoor.Co
open Go.RowKit Go.Proofs.YtkdjibejnncmfaaGreatDoorW.PrintWords Go.Proofs.YtkdjibejnncmfaaGreatDoorW.PrintLast Go.Proofs.YtkdjibejnncmfaaGreatDoorW.PrintMore
set_option linter.unusedVariables false
set_option linter.unusedSimpArgs false
set_option maxRecDepth 100000
theorem alike_not {l : List ByteArray} {least most : Int} (i : Nat) (hi : i < l.length) (h : (vs l i).size ≠ (vs l 0).size) : alikeF l least most = false := by
  unfold alikeF
  split
  · rfl
  · split
    · rfl
    · split
      · rfl
      · have e : vs l i = l[i] := by unfold vs rdOf; simp [hi]
        rw [e] at h
        simp only [Bool.not_eq_false', List.any_eq_true]
        exact ⟨l[i], List.getElem_mem _, by simpa using h⟩
set_option maxHeartbeats 1000000 in
theorem refTexts_any {A : Option Addr} {c N : Nat} {l : List ByteArray} {least long : Int} {w : World} (hl : TL w A c l) (hN : l.length = N) (h1 : 1 ≤ least) :
    Calls Tryz.prog 81 #[.slice A N c, .int .i64 least, .int .i64 long] w fun e w' => e = .returned (.bool (alikeF l least long)) ∧ ∃ m, w' = w.drewN m := by
  have HL := Lib.hid hl
  have hNc : (N : Int) ≤ (c : Int) := by have := hl.cap; omega
  obtain ⟨b, hb⟩ : ∃ b, b = alikeF l least long := ⟨_, rfl⟩
  rw [← hb]
  by_cases g0 : (N : Int) < least
  · have HB : Hid (b = false) := Lib.hid (by rw [hb]; unfold alikeF; rw [hN, if_pos g0])
    clear hl hb
    go_enter Tryz.func81, Tryz.ntmps81
    go_wp2_with fail
    go_ret
    exact ⟨by rw [HB.out]; rfl, 0, rfl⟩
  · have g1 : ¬ (N : Int) < 1 := by omega
    by_cases g2 : (12 : Int) < (N : Int)
    · have HB : Hid (b = false) := Lib.hid (by rw [hb]; unfold alikeF; rw [hN, if_neg g0, if_pos (by omega)])
      clear hl hb
      go_enter Tryz.func81, Tryz.ntmps81
      go_wp2_with fail
      go_ret
      exact ⟨by rw [HB.out]; rfl, 0, rfl⟩
    · obtain ⟨g, o, eA, hx0⟩ := hl.at 0 (by omega)
      subst eA
      have hx : w.cell? ⟨g, o, none⟩ = some (.string (vs l 0)) := hx0
      obtain ⟨s0, hs0⟩ : ∃ s0, s0 = vs l 0 := ⟨_, rfl⟩
      have hs0m : (s0.size : Int) ≤ 9223372036854775807 := by have := hl.sz s0 (by rw [hs0]; exact vs_mem l 0 (by omega)); omega
      rw [← hs0] at hx
      have HX := Lib.hid hx
      have HS0 := Lib.hid hs0
      have hp0 : (0 : Int) < (N : Int) := by omega
      clear hx0 hs0
      by_cases g3 : long < (s0.size : Int)
      · have HB : Hid (b = false) := Lib.hid (by rw [hb]; unfold alikeF; rw [hN, if_neg g0, if_neg (by omega), ← HS0.out, if_pos g3])
        clear hl hb
        go_enter Tryz.func81, Tryz.ntmps81
        go_wp2_with fail
        go_ret
        exact ⟨by rw [HB.out]; rfl, 0, rfl⟩
      · have HBE := Lib.hid hb
        have HN := Lib.hid hN
        clear hl hb hN
        go_enter Tryz.func81, Tryz.ntmps81
        go_wp2_with fail
        go_loopw [7] (fun i wr => ∃ k : Nat, k ≤ N ∧ i = .int .i64 k ∧ Hid (∀ j : Nat, j < k → (vs l j).size = (vs l 0).size) ∧ Hid (Drawn0 w wr)) (fun i _ => N - (intOf i).toNat)
        case atStart => exact ⟨0, by omega, rfl, Lib.hid (fun j hj => by omega), Lib.hid (Drawn0.refl _)⟩
        case round =>
          obtain ⟨W, rfl⟩ : ∃ W : World, W = wr := ⟨_, rfl⟩
          obtain ⟨k, hk, rfl, HE, HD⟩ := hrel
          have hx1 : W.cell? ⟨g, o, none⟩ = some (.string s0) := by obtain ⟨m, hm⟩ := HD.out; rw [hm]; exact HX.out
          by_cases hlt : k < N
          · obtain ⟨sk, hsk⟩ : ∃ sk, sk = vs l k := ⟨_, rfl⟩
            have hx2 : W.cell? ⟨g, o + k, none⟩ = some (.string sk) := by
              obtain ⟨m, hm⟩ := HD.out
              rw [hm, hsk]
              exact HL.out.cell k (by have := HN.out; omega)
            have hskm : (sk.size : Int) ≤ 9223372036854775807 := by have := HL.out.sz sk (by rw [hsk]; exact vs_mem l k (by have := HN.out; omega)); omega
            have HSK := Lib.hid hsk
            have hk0 : (0 : Int) ≤ (k : Int) := by omega
            have hkN : (k : Int) < (N : Int) := by omega
            clear hsk hx
            by_cases he : sk.size = s0.size
            · have e0 : ((sk.size : Int) != (s0.size : Int)) = false := by rw [bne_cast]; simpa using he
              have HE2 : Hid (∀ j : Nat, j < k + 1 → (vs l j).size = (vs l 0).size) := Lib.hid (fun j hj => by
                by_cases h : j = k
                · rw [h, ← HSK.out, he, HS0.out]
                · exact HE.out j (by omega))
              go_upto_region 6 with fail
              go_quiet (fail)
              go_wp2_with fail
              go_roundw
              case rel => exact ⟨k + 1, by omega, by go_num, HE2, Lib.hid (HD.out.step _)⟩
              case measure => simp [intOf]; omega
            · have e0 : ((sk.size : Int) != (s0.size : Int)) = true := by rw [bne_cast]; simpa using he
              have HB : Hid (b = false) := Lib.hid (by rw [HBE.out]; exact alike_not k (by have := HN.out; omega) (by rw [← HSK.out, ← HS0.out]; exact he))
              have HSE := Lib.hid he
              clear he
              go_upto_region 6 with fail
              go_quiet (fail)
              go_wp2_with fail
              go_ret
              exact ⟨by rw [HB.out]; rfl, (HD.out.step _).out⟩
          · have hkN : k = N := by omega
            subst hkN
            have HB : Hid (b = true) := Lib.hid (by
              have hN := HN.out
              rw [HBE.out]
              exact alike_of (by omega) (by omega) (by rw [← HS0.out]; omega) (fun j hj => HE.out j (by omega)))
            clear hx hx1
            go_wp2_with fail
            go_ret
            exact ⟨by rw [HB.out]; rfl, HD.out.out⟩
end Go.Proofs.YtkdjibejnncmfaaGreatDoor.Co
