/- The walk of the reference's value. -/
import Derived.Test.YtkdjibejnncmfaaGreatDoorZN20
namespace Go.Proofs.YtkdjibejnncmfaaGreatDoor.Co
open Go.RowKit Go.Proofs.YtkdjibejnncmfaaGreatDoorW.PrintWords Go.Proofs.YtkdjibejnncmfaaGreatDoorW.PrintLast Go.Proofs.YtkdjibejnncmfaaGreatDoorW.PrintMore
set_option linter.unusedVariables false
set_option linter.unusedSimpArgs false
set_option maxRecDepth 100000
/-- The value, at an element, of the polynomial through points. -/
def valB (pts ys : List Int) (x : Int) : B8 := Pf.lag (pf pts) (fun j => fe (rd ys j)) pts.length (fe x) pts.length
set_option maxHeartbeats 4000000 in
theorem value_any {Aa Ay : Option Addr} {ca cy N : Nat} {pts ys : List Int} {x : Int} {w : World} (hC : Kd.C (Kd.int .i64) w Aa pts.length pts) (hY : Kd.C (Kd.int .u8) w Ay ys.length ys) (hca : pts.length ≤ ca) (hcy : ys.length ≤ cy) (hP : Pts pts) (hN : pts.length = N) (hN2 : ys.length = N)
    (hyb : ∀ i : Nat, i < N → IsB (rd ys i)) (hx : IsB x) (hN12 : N ≤ 100) :
    Calls Tryz.prog 148 #[.slice Aa N ca, .slice Ay N cy, .int .i64 x] w fun e w' => e = .returned (.int .u8 ((valB pts ys x).n : Int)) ∧ ∃ m, w' = w.drewN m := by
  have HC := Lib.hid hC
  have HY := Lib.hid hY
  have HP := Lib.hid (And.intro hP (And.intro hN (And.intro hN2 (And.intro hyb hx))))
  have hNca : (N : Int) ≤ (ca : Int) := by omega
  have hNcy : (N : Int) ≤ (cy : Int) := by omega
  have hx0 := hx.1
  have hx1 := hx.2
  obtain ⟨X, hX⟩ : ∃ X, X = fe x := ⟨_, rfl⟩
  have HX := Lib.hid hX
  have hxw : IntKind.u8.wrap x = (X.n : Int) := by rw [hX, fe_b hx]; exact u8_byte hx
  obtain ⟨L, hL⟩ : ∃ L : Nat → B8, L = Pf.lag (pf pts) (fun j => fe (rd ys j)) N X := ⟨_, rfl⟩
  have HL := Lib.hid hL
  have HL0 : Hid (L 0 = Pf.Fd.o) := Lib.hid (by rw [hL]; rfl)
  have HLV : Hid (valB pts ys x = L N) := Lib.hid (by rw [hL, hX]; unfold valB; rw [hN])
  clear hC hY hP hN hN2 hyb hx hX hL
  go_enter Tryz.func148, Tryz.ntmps148
  go_wp2_with fail
  go_loopw [7, 8] (fun o i wr => ∃ k : Nat, k ≤ N ∧ i = .int .i64 k ∧ o = .int .u8 ((L k).n : Int) ∧ Hid (∀ j : Nat, j < k → rd pts j ≠ x) ∧ Hid (Drawn0 w wr)) (fun _ i _ => N - (intOf i).toNat)
  case atStart => exact ⟨0, by omega, rfl, by rw [HL0.out]; rfl, Lib.hid (fun j hj => by omega), Lib.hid (Drawn0.refl _)⟩
  case round =>
    obtain ⟨k, hk, rfl, rfl, HNE, HD⟩ := hrel
    have hCr := drawn_il HC.out HD.out
    have hYr := drawn_y HY.out HD.out
    by_cases hlt : k < N
    · obtain ⟨ad, e1, hx1⟩ := Kd.at_int hCr (k : Int) (by omega) (by have := HP.out.2.1; omega)
      obtain ⟨ay, e2, hx2⟩ := Kd.at_int hYr (k : Int) (by omega) (by have := HP.out.2.2.1; omega)
      subst e1 e2
      simp only [Int.toNat_natCast] at hx1 hx2
      obtain ⟨pk, hpk⟩ : ∃ pk, pk = rd pts k := ⟨_, rfl⟩
      obtain ⟨yk, hyk⟩ : ∃ yk, yk = rd ys k := ⟨_, rfl⟩
      rw [← hpk] at hx1
      rw [← hyk] at hx2
      have HPK := Lib.hid (And.intro hpk hyk)
      have HCr := Lib.hid hCr
      have hk0 : (0 : Int) ≤ (k : Int) := by omega
      have hkN : (k : Int) < (N : Int) := by omega
      clear hpk hyk hCr hYr
      by_cases he : pk = x
      · have HV : Hid (yk = ((valB pts ys x).n : Int)) := Lib.hid (by
          obtain ⟨hP, hN, hN2, hyb, hxb⟩ := HP.out
          have h1 := Pf.lag_at (pf pts) (fun j => fe (rd ys j)) N k hlt (fun a b ha hb hab => hP.inj a b (by omega) (by omega) hab)
          have h2 : valB pts ys x = fe (rd ys k) := by
            rw [HLV.out, HL.out, HX.out]
            have e3 : fe x = pf pts k := by rw [← he, HPK.out.1]; rfl
            rw [e3]
            exact h1
          rw [h2, fe_b (hyb k hlt), HPK.out.2])
        go_wp2_with fail
        go_ret
        exact ⟨ret_int' HV.out, HD.out.out⟩
      · have e0 : (pk == x) = false := by simpa using he
        obtain ⟨UF, hUF⟩ : ∃ UF : Nat → B8, UF = upB (pf pts) X k := ⟨_, rfl⟩
        obtain ⟨DF, hDF⟩ : ∃ DF : Nat → B8, DF = dnB (pf pts) k := ⟨_, rfl⟩
        have HUD := Lib.hid (And.intro hUF hDF)
        have HU0 : Hid (UF 0 = Pf.Fd.e ∧ DF 0 = Pf.Fd.e) := Lib.hid (by rw [hUF, hDF]; exact ⟨rfl, rfl⟩)
        clear hUF hDF
        obtain ⟨wo, hwo⟩ : ∃ wo : World, wo = wr := ⟨_, rfl⟩
        rw [← hwo] at HD HCr
        go_wp2_with fail
        go_loopw [9, 10, 11] (fun u d i wr => ∃ j : Nat, j ≤ N ∧ i = .int .i64 j ∧ u = .int .u8 ((UF j).n : Int) ∧ d = .int .u8 ((DF j).n : Int) ∧ Hid (Drawn0 wo wr)) (fun _ _ i _ => N - (intOf i).toNat)
        case atStart => exact ⟨0, by omega, rfl, by rw [HU0.out.1]; rfl, by rw [HU0.out.2]; rfl, Lib.hid (by rw [hwo]; exact Drawn0.refl _)⟩
        case round =>
          obtain ⟨j, hj, rfl, rfl, rfl, HD2⟩ := hrel
          have hC2 := drawn_il HCr.out HD2.out
          have y1 : wr.cell? (ad.add k) = some (.int .i64 pk) := by obtain ⟨m, hm⟩ := HD2.out; rw [hm, hwo]; exact hx1
          have y2 : wr.cell? (ay.add k) = some (.int .u8 yk) := by obtain ⟨m, hm⟩ := HD2.out; rw [hm, hwo]; exact hx2
          by_cases hlt2 : j < N
          · obtain ⟨ad2, e1, hx3⟩ := Kd.at_int hC2 (j : Int) (by omega) (by have := HP.out.2.1; omega)
            cases e1
            simp only [Int.toNat_natCast] at hx3
            obtain ⟨pj, hpj⟩ : ∃ pj, pj = rd pts j := ⟨_, rfl⟩
            rw [← hpj] at hx3
            have HPJ := Lib.hid hpj
            have hj0 : (0 : Int) ≤ (j : Int) := by omega
            have hjN : (j : Int) < (N : Int) := by omega
            clear hC2 hpj
            have hS : Hid (UF (j + 1) = (if j = k then UF j else UF j * (X + fe pj)) ∧ DF (j + 1) = (if j = k then DF j else DF j * (fe pk + fe pj))) := Lib.hid (by
              rw [HUD.out.1, HUD.out.2, HPJ.out, HPK.out.1]
              exact ⟨rfl, rfl⟩)
            by_cases hjk : j = k
            · have en : ((j : Int) != (k : Int)) = false := by rw [bne_eq_false_iff_eq]; omega
              go_wp2_with fail
              go_roundw
              case rel => exact ⟨j + 1, by omega, by go_num, by rw [hS.out.1, if_pos hjk], by rw [hS.out.2, if_pos hjk], HD2⟩
              case measure => simp [intOf]; omega
            · have en : ((j : Int) != (k : Int)) = true := by rw [bne_iff_ne]; omega
              have hb : IsB pj ∧ IsB pk := by
                rw [HPJ.out, HPK.out.1]
                obtain ⟨hP, hN, _⟩ := HP.out
                exact ⟨hP.b j (by omega), hP.b k (by omega)⟩
              have hw1 : IntKind.u8.wrap pj = ((fe pj).n : Int) := by rw [fe_b hb.1]; exact u8_byte hb.1
              have hw2 : IntKind.u8.wrap pk = ((fe pk).n : Int) := by rw [fe_b hb.2]; exact u8_byte hb.2
              obtain ⟨FJ, hFJ⟩ : ∃ FJ, FJ = fe pj := ⟨_, rfl⟩
              obtain ⟨FK, hFK⟩ : ∃ FK, FK = fe pk := ⟨_, rfl⟩
              rw [← hFJ] at hw1
              rw [← hFK] at hw2
              have hz1 := xor_b8 X FJ
              have hz2 := xor_b8 FK FJ
              obtain ⟨Z1, hZ1⟩ : ∃ Z1, Z1 = X + FJ := ⟨_, rfl⟩
              obtain ⟨Z2, hZ2⟩ : ∃ Z2, Z2 = FK + FJ := ⟨_, rfl⟩
              rw [← hZ1] at hz1
              rw [← hZ2] at hz2
              obtain ⟨U, hU⟩ : ∃ U, U = UF j := ⟨_, rfl⟩
              obtain ⟨V, hV⟩ : ∃ V, V = DF j := ⟨_, rfl⟩
              rw [← hU, ← hV]
              obtain ⟨U2, hU2⟩ : ∃ U2, U2 = U * Z1 := ⟨_, rfl⟩
              obtain ⟨V2, hV2⟩ : ∃ V2, V2 = V * Z2 := ⟨_, rfl⟩
              have HT1 : Hid (∀ W, Calls Tryz.prog 22 #[.int .u8 (U.n : Int), .int .u8 (Z1.n : Int)] W fun e w' => e = .returned (.int .u8 (U2.n : Int)) ∧ ∃ m, w' = W.drewN m) := Lib.hid (fun W => by rw [hU2]; exact refT U Z1 W)
              have HT2 : Hid (∀ W, Calls Tryz.prog 22 #[.int .u8 (V.n : Int), .int .u8 (Z2.n : Int)] W fun e w' => e = .returned (.int .u8 (V2.n : Int)) ∧ ∃ m, w' = W.drewN m) := Lib.hid (fun W => by rw [hV2]; exact refT V Z2 W)
              have HR2 : Hid (UF (j + 1) = U2 ∧ DF (j + 1) = V2) := Lib.hid (by rw [hS.out.1, hS.out.2, if_neg hjk, if_neg hjk, hU2, hV2, hU, hV, hZ1, hZ2, hFJ, hFK]; exact ⟨rfl, rfl⟩)
              clear hb hFJ hFK hZ1 hZ2 hU hV hU2 hV2
              go_upto_region 13 with (go_at_call 22; (with_reducible refine Calls.mono (HT1.out _) ?_); rintro e w5 ⟨rfl, m5, rfl⟩)
              have HD5 : Hid (Drawn0 wo (wr.drewN m5)) := Lib.hid (HD2.out.step m5)
              obtain ⟨W5, hW5⟩ : ∃ W5, W5 = wr.drewN m5 := ⟨_, rfl⟩
              have z1 : W5.cell? (ad.add k) = some (.int .i64 pk) := by rw [hW5]; exact y1
              have z3 : W5.cell? (ad.add j) = some (.int .i64 pj) := by rw [hW5]; exact hx3
              rw [← hW5] at HD5 ⊢
              clear hW5 y1 y2 hx3 hx1 hx2
              go_quiet ((first | (go_at_call 22; exact Calls.quiet_of (HT2.out _))))
              go_wp2_with fail
              go_roundw
              case rel => exact ⟨j + 1, by omega, by go_num, by rw [HR2.out.1], by rw [HR2.out.2], Lib.hid (HD5.out.step _)⟩
              case measure => simp [intOf]; omega
          · have hjN : j = N := by omega
            subst hjN
            obtain ⟨U, hU⟩ : ∃ U, U = UF j := ⟨_, rfl⟩
            obtain ⟨V, hV⟩ : ∃ V, V = DF j := ⟨_, rfl⟩
            rw [← hU, ← hV]
            obtain ⟨Q, hQ⟩ : ∃ Q, Q = U * Pf.Fd.inv V := ⟨_, rfl⟩
            have HUDN : Hid (V ≠ Pf.Fd.o ∧ Q = Pf.wt (pf pts) k X j) := Lib.hid (by
              obtain ⟨hP, hN, hN2, hyb, hxb⟩ := HP.out
              have := up_dn (p := pf pts) (X := X) hlt (fun a b ha hb hab => hP.inj a b (by omega) (by omega) hab) j (Nat.le_refl _)
              rw [hQ, hU, hV, HUD.out.1, HUD.out.2]
              exact this)
            have HOV : Hid (∀ W, Calls Tryz.prog 16 #[.int .u8 (U.n : Int), .int .u8 (V.n : Int)] W fun e w' => e = .returned (.tuple #[.int .u8 (Q.n : Int), .int .i64 0]) ∧ W = w') := Lib.hid (fun W => by rw [hQ]; exact refO U V W HUDN.out.1)
            obtain ⟨Y, hY⟩ : ∃ Y, Y = fe yk := ⟨_, rfl⟩
            have hyn : yk = (Y.n : Int) := by
              obtain ⟨hP, hN, hN2, hyb, hxb⟩ := HP.out
              rw [hY, fe_b (by rw [HPK.out.2]; exact hyb k hlt)]
            rw [hyn] at y2
            obtain ⟨T, hT⟩ : ∃ T, T = Y * Q := ⟨_, rfl⟩
            have HTT : Hid (∀ W, Calls Tryz.prog 22 #[.int .u8 (Y.n : Int), .int .u8 (Q.n : Int)] W fun e w' => e = .returned (.int .u8 (T.n : Int)) ∧ ∃ m, w' = W.drewN m) := Lib.hid (fun W => by rw [hT]; exact refT Y Q W)
            obtain ⟨O, hO⟩ : ∃ O, O = L k := ⟨_, rfl⟩
            have hxo := xor_b8 O T
            obtain ⟨O2, hO2⟩ : ∃ O2, O2 = O + T := ⟨_, rfl⟩
            rw [← hO2] at hxo
            have HLS : Hid (L (k + 1) = O2) := Lib.hid (by
              have e1 : L (k + 1) = L k + Pf.wt (pf pts) k X j * fe (rd ys k) := by rw [HL.out]; rfl
              rw [e1, hO2, hT, hO, HUDN.out.2, hY, HPK.out.2, Pf.Fd.mul_comm (fe (rd ys k))])
            have HDD : Hid (Drawn0 w wr) := Lib.hid (by obtain ⟨m1, h1⟩ := HD.out; obtain ⟨m2, h2⟩ := HD2.out; rw [h2, h1]; exact (Drawn0.refl w).step _ |>.step _)
            have HNE2 : Hid (∀ i : Nat, i < k + 1 → rd pts i ≠ x) := Lib.hid (fun i hi => by
              by_cases h : i = k
              · rw [h, ← HPK.out.1]; exact he
              · exact HNE.out i (by omega))
            rw [← hO]
            clear hU hV hQ hY hyn hT hO hO2 hC2 hx1 hx2
            go_wp2_with (first
              | (go_at_call 16; (with_reducible refine Calls.mono (HOV.out _) ?_); rintro e w5 ⟨rfl, rfl⟩)
              | (go_at_call 22; (with_reducible refine Calls.mono (HTT.out _) ?_); rintro e w5 ⟨rfl, m5, rfl⟩))
            go_roundw
            case rel => exact ⟨k + 1, by omega, by go_num, by rw [HLS.out], HNE2, Lib.hid (HDD.out.step _)⟩
            case measure => simp [intOf]; omega
    · have hkN : k = N := by omega
      subst hkN
      clear hCr hYr
      go_wp2_with fail
      go_ret
      exact ⟨ret_int' (by rw [HLV.out]), HD.out.out⟩
end Go.Proofs.YtkdjibejnncmfaaGreatDoor.Co
