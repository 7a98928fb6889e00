/- The walk of CodedTexts. -/
import Derived.Test.YtkdjibejnncmfaaGreatDoorZK76
namespace Go.Proofs.YtkdjibejnncmfaaGreatDoor.Co
open Go.RowKit Go.Proofs.YtkdjibejnncmfaaGreatDoorW.PrintWords Go.Proofs.YtkdjibejnncmfaaGreatDoorW.PrintLast Go.Proofs.YtkdjibejnncmfaaGreatDoorW.PrintMore
set_option linter.unusedVariables false
set_option linter.unusedSimpArgs false
set_option maxRecDepth 100000
set_option maxHeartbeats 1000000 in
theorem texts_no {A : Option Addr} {c : Nat} {l : List ByteArray} {n k p : Int} {w : World} (hno : ¬ (1 ≤ n ∧ n ≤ 4 ∧ 1 ≤ k ∧ k ≤ n ∧ 2 ≤ p ∧ p ≤ 12 ∧ l.length ≤ 10)) :
    Calls Tryz.prog 7 #[.int .i64 n, .int .i64 k, .int .i64 p, .slice A l.length c] w fun e w' => e = .returned (.bool true) ∧ Below w.heap.size w w' := by
  have HS : Hid (∀ W, Calls Tryz.prog 14 #[] W fun e w' => e = .returned (.bool true) ∧ Below W.heap.size W w') := Lib.hid sane_any
  have HNO := Lib.hid hno
  clear hno
  by_cases h0 : n < 1
  · go_enter Tryz.func7, Tryz.ntmps7
    go_wp2_with (go_at_call 14; (with_reducible refine Calls.mono (HS.out _) ?_); rintro e w1 ⟨rfl, hb⟩; have HB1 := Lib.hid hb; clear hb)
    go_ret
    exact ⟨rfl, HB1.out⟩
  · have g0 := Int.not_lt.1 h0
    by_cases h1 : 4 < n
    · go_enter Tryz.func7, Tryz.ntmps7
      go_wp2_with (go_at_call 14; (with_reducible refine Calls.mono (HS.out _) ?_); rintro e w1 ⟨rfl, hb⟩; have HB1 := Lib.hid hb; clear hb)
      go_ret
      exact ⟨rfl, HB1.out⟩
    · have g1 := Int.not_lt.1 h1
      by_cases h2 : k < 1
      · go_enter Tryz.func7, Tryz.ntmps7
        go_wp2_with (go_at_call 14; (with_reducible refine Calls.mono (HS.out _) ?_); rintro e w1 ⟨rfl, hb⟩; have HB1 := Lib.hid hb; clear hb)
        go_ret
        exact ⟨rfl, HB1.out⟩
      · have g2 := Int.not_lt.1 h2
        by_cases h3 : n < k
        · go_enter Tryz.func7, Tryz.ntmps7
          go_wp2_with (go_at_call 14; (with_reducible refine Calls.mono (HS.out _) ?_); rintro e w1 ⟨rfl, hb⟩; have HB1 := Lib.hid hb; clear hb)
          go_ret
          exact ⟨rfl, HB1.out⟩
        · have g3 := Int.not_lt.1 h3
          by_cases h4 : p < 2
          · go_enter Tryz.func7, Tryz.ntmps7
            go_wp2_with (go_at_call 14; (with_reducible refine Calls.mono (HS.out _) ?_); rintro e w1 ⟨rfl, hb⟩; have HB1 := Lib.hid hb; clear hb)
            go_ret
            exact ⟨rfl, HB1.out⟩
          · have g4 := Int.not_lt.1 h4
            by_cases h5 : 12 < p
            · go_enter Tryz.func7, Tryz.ntmps7
              go_wp2_with (go_at_call 14; (with_reducible refine Calls.mono (HS.out _) ?_); rintro e w1 ⟨rfl, hb⟩; have HB1 := Lib.hid hb; clear hb)
              go_ret
              exact ⟨rfl, HB1.out⟩
            · have h6 : (10 : Int) < (l.length : Int) := by have := HNO.out; omega
              go_enter Tryz.func7, Tryz.ntmps7
              go_wp2_with (go_at_call 14; (with_reducible refine Calls.mono (HS.out _) ?_); rintro e w1 ⟨rfl, hb⟩; have HB1 := Lib.hid hb; clear hb)
              go_ret
              exact ⟨rfl, HB1.out⟩
theorem wrap_small (x : Int) (h1 : -1000 ≤ x) (h2 : x ≤ 1000) : wrap64 x = x := by unfold wrap64; omega
theorem wrap_two (z : Nat) (h : z ≤ 960) : wrap64 (wrap64 (z : Int) - 4) = (z : Int) - 4 := by
  have e1 : wrap64 (z : Int) = z := wrap_small _ (by omega) (by omega)
  rw [e1]
  exact wrap_small _ (by omega) (by omega)
theorem room_int (m k : Nat) (hk : 1 ≤ k) (hm : 2 ≤ m) : ((roomF m k : Nat) : Int) = min (40 * (k : Int) * ((m : Int) / 2) - 4) 4000 := by
  unfold roomF
  have h1 : 4 ≤ 40 * k * (m / 2) := by
    calc 4 ≤ 40 * 1 * 1 := by omega
      _ ≤ 40 * k * (m / 2) := Nat.mul_le_mul (Nat.mul_le_mul_left 40 hk) (by omega)
  have e : ((40 * k * (m / 2) : Nat) : Int) = 40 * (k : Int) * ((m : Int) / 2) := by rw [Int.natCast_mul, Int.natCast_mul, Int.natCast_ediv]; rfl
  rw [← e]
  omega
set_option maxHeartbeats 4000000 in
theorem texts_yes {A : Option Addr} {c N K M J : Nat} {l : List ByteArray} {w : World} (hl : TL w A c l) (hJ : l.length = J) (hJ10 : J ≤ 10) (hK1 : 1 ≤ K) (hKN : K ≤ N) (hN4 : N ≤ 4) (hM2 : 2 ≤ M) (hM12 : M ≤ 12) :
    Calls Tryz.prog 7 #[.int .i64 (N : Int), .int .i64 (K : Int), .int .i64 (M : Int), .slice A J c] w fun e w' => e = .returned (.bool true) ∧ Below w.heap.size w w' := by
  have HS : Hid (∀ W, Calls Tryz.prog 14 #[] W fun e w' => e = .returned (.bool true) ∧ Below W.heap.size W w') := Lib.hid sane_any
  have HL := Lib.hid hl
  have HJ := Lib.hid hJ
  obtain ⟨R, hR⟩ : ∃ R, R = roomF M K := ⟨_, rfl⟩
  have hRI : (R : Int) = min (40 * (K : Int) * ((M : Int) / 2) - 4) 4000 := by rw [hR]; exact room_int M K hK1 hM2
  have hR4 : R ≤ 4000 := by rw [hR]; exact Nat.min_le_right _ _
  have HR := Lib.hid (And.intro hR hRI)
  have HNW : Hid (∀ W, Calls Tryz.prog 38 #[.int .i64 (N : Int), .int .i64 (M : Int)] W fun e w' => ∃ d P B c, e = .returned (.tuple #[.pointer (some ⟨d, 0, none⟩), .int .i64 0]) ∧ B.length = N ∧ DAt w' d P B c M (newDS N M) ∧ Below W.heap.size W w' ∧ W.heap.size ≤ d ∧ ∀ b ∈ B, W.heap.size ≤ b) := Lib.hid (fun W => by
    refine (New_ok N M W (by omega) (by omega) hM2 (by omega)).mono ?_
    rintro e w' ⟨P, B, c, rfl, h1, h2, h3, h4, h5⟩
    exact ⟨_, P, B, c, rfl, h1, h2, h3, Nat.le_refl _, h5⟩)
  have hRB : ((R : Int) != min (wrap64 (wrap64 (40 * (K : Int) * ((M : Int) / 2)) - 4)) 4000) = false := by
    have h1 : 40 * K * (M / 2) ≤ 960 := Nat.le_trans (Nat.mul_le_mul (Nat.mul_le_mul_left 40 (show K ≤ 4 by omega)) (show M / 2 ≤ 6 by omega)) (by decide)
    have e : ((40 * K * (M / 2) : Nat) : Int) = 40 * (K : Int) * ((M : Int) / 2) := by rw [Int.natCast_mul, Int.natCast_mul, Int.natCast_ediv]; rfl
    rw [hRI, ← e]
    rw [wrap_two _ h1]
    simp
  clear hl hJ hR hRI
  have hk0 : (1 : Int) ≤ (K : Int) := by omega
  have hn0 : (1 : Int) ≤ (N : Int) := by omega
  have hn4 : (N : Int) ≤ 4 := by omega
  have hkn : (K : Int) ≤ (N : Int) := by omega
  have hm0 : (2 : Int) ≤ (M : Int) := by omega
  have hm1 : (M : Int) ≤ 12 := by omega
  have hj1 : (J : Int) ≤ 10 := by omega
  go_enter Tryz.func7, Tryz.ntmps7
  go_upto_region 8 with (first
    | (go_at_call 14; (with_reducible refine Calls.mono (HS.out _) ?_); rintro e w1 ⟨rfl, hb⟩; have HB1 := Lib.hid hb; clear hb)
    | (go_at_call 38; (with_reducible refine Calls.mono (HNW.out _) ?_); rintro e w2 ⟨d, P, B, cB, rfl, hBl, hda, hb, hod, hoB⟩; have HD2 := Lib.hid (And.intro hBl (And.intro hda (And.intro hod hoB))); have HB2 := Lib.hid hb; clear hBl hda hb hod hoB))
  have HMK : Hid (Calls Tryz.prog 39 #[.pointer (some ⟨d, 0, none⟩), .int .i64 (K : Int)] w2 fun e w' => ∃ v, e = .returned (.tuple #[.pointer (some ⟨v, 0, none⟩), .int .i64 0]) ∧ St w d v P cB B N M K 1 ⟨#[]⟩ w') := Lib.hid (by
    obtain ⟨h1, h2, h3, h4⟩ := HD2.out
    have hs := HB1.out.size
    exact st_make h2 h1 hK1 hKN (belt HB1.out HB2.out) (by omega) (fun b hb => by have := h4 b hb; omega))
  have HRM : Hid (∀ v life text W, St w d v P cB B N M K life text W → Calls Tryz.prog 40 #[.pointer (some ⟨v, 0, none⟩)] W fun e w' => e = .returned (.int .i64 (R : Int)) ∧ St w d v P cB B N M K life text w') := Lib.hid (fun v life text W h => by rw [HR.out.1]; exact st_room h)
  have HLF : Hid (∀ v life text W, St w d v P cB B N M K life text W → Calls Tryz.prog 41 #[.pointer (some ⟨v, 0, none⟩)] W fun e w' => e = .returned (.int .i64 (life : Int)) ∧ W = w') := Lib.hid (fun v life text W h => Life_any W h.va)
  have HTX : Hid (∀ v life text W, St w d v P cB B N M K life text W → Calls Tryz.prog 43 #[.pointer (some ⟨v, 0, none⟩)] W fun e w' => e = .returned (.string text) ∧ W = w') := Lib.hid (fun v life text W h => Text_any W h.va)
  have HEN : Hid (∀ v life text W, St w d v P cB B N M K life text W → Calls Tryz.prog 45 #[.pointer (some ⟨v, 0, none⟩)] W fun e w' => e = .returned (.int .i64 (K : Int)) ∧ W = w') := Lib.hid (fun v life text W h => Enough_any W h.va)
  have HOP : Hid (∀ v life text W, St w d v P cB B N M K life text W → Calls Tryz.prog 44 #[.pointer (some ⟨d, 0, none⟩)] W fun e w' => ∃ u, e = .returned (.tuple #[.pointer (some ⟨u, 0, none⟩), .int .i64 0]) ∧ St w d v P cB B N M K life text w' ∧ St w d u P cB B N M K life text w') := Lib.hid (fun v life text W h => st_open h)
  go_wp2_with (first
    | (go_at_call 39; (with_reducible refine Calls.mono HMK.out ?_); rintro e w3 ⟨v, rfl, hst⟩; have HT3 := Lib.hid hst; clear hst)
    | (go_at_call 40; (with_reducible refine Calls.mono (HRM.out _ _ _ _ HT3.out) ?_); rintro e w4 ⟨rfl, hst⟩; have HT4 := Lib.hid hst; clear hst)
    | (go_at_call 41; (with_reducible refine Calls.mono (HLF.out _ _ _ _ HT4.out) ?_); rintro e w5 ⟨rfl, rfl⟩))
  clear hRB HMK HNW HS
  go_loopw [12, 13, 89] (fun a b i wr => ∃ (j life : Nat) (text : ByteArray), j ≤ J ∧ i = .int .i64 j ∧ a = .string text ∧ b = .int .i64 life ∧ life ≤ j + 1 ∧ Hid (St w d v P cB B N M K life text wr)) (fun _ _ i _ => J - (intOf i).toNat)
  case atStart => exact ⟨0, 1, _, by omega, rfl, rfl, rfl, by omega, HT4⟩
  case round =>
    obtain ⟨j, life, text, hj, rfl, rfl, rfl, hlf, HT⟩ := hrel
    by_cases hlt : j < J
    · have HLw := HL.out.below HT.out.below
      obtain ⟨g1, o1, eA, hx⟩ := HLw.at j (by have := HJ.out; omega)
      obtain ⟨s, hs⟩ : ∃ s, s = vs l j := ⟨_, rfl⟩
      rw [← hs] at hx
      have hj0 : (0 : Int) ≤ (j : Int) := by omega
      have hjJ : (j : Int) < (J : Int) := by omega
      clear HLw hs
      subst eA
      by_cases h5 : s.size ≤ 5000
      · have h5' : (s.size : Int) ≤ 5000 := by omega
        by_cases hr : s.size ≤ R
        · have hr' : (s.size : Int) ≤ (R : Int) := by omega
          have HSV : Hid (∀ v W, St w d v P cB B N M K life text W → Calls Tryz.prog 42 #[.pointer (some ⟨v, 0, none⟩), .string s] W fun e w' => e = .returned (.int .i64 0) ∧ St w d v P cB B N M K (life + 1) s w') := Lib.hid (fun v W h => st_save h (by rw [← HR.out.1]; exact hr) (by omega))
          have hl1 : (life : Int) < ((life + 1 : Nat) : Int) := by omega
          go_wp2_with (first
            | (go_at_call 42; (with_reducible refine Calls.mono (HSV.out _ _ HT.out) ?_); rintro e w6 ⟨rfl, hst⟩; have HT6 := Lib.hid hst; clear hst)
            | (go_at_call 40; (with_reducible refine Calls.mono (HRM.out _ _ _ _ HT6.out) ?_); rintro e w7 ⟨rfl, hst⟩; have HT7 := Lib.hid hst; clear hst)
            | (go_at_call 41; (with_reducible refine Calls.mono (HLF.out _ _ _ _ HT7.out) ?_); rintro e wz ⟨rfl, rfl⟩)
            | (go_at_call 43; (with_reducible refine Calls.mono (HTX.out _ _ _ _ HT7.out) ?_); rintro e wz ⟨rfl, rfl⟩)
            | (go_at_call 44; (with_reducible refine Calls.mono (HOP.out _ _ _ _ HT7.out) ?_); rintro e w8 ⟨u, rfl, hst, hsu⟩; have HT8 := Lib.hid hst; have HU8 := Lib.hid hsu; clear hst hsu)
            | (go_at_call 41; (with_reducible refine Calls.mono (HLF.out _ _ _ _ HU8.out) ?_); rintro e wz ⟨rfl, rfl⟩)
            | (go_at_call 43; (with_reducible refine Calls.mono (HTX.out _ _ _ _ HU8.out) ?_); rintro e wz ⟨rfl, rfl⟩)
            | (go_at_call 45; (with_reducible refine Calls.mono (HEN.out _ _ _ _ HU8.out) ?_); rintro e wz ⟨rfl, rfl⟩))
          go_roundw
          case rel => exact ⟨j + 1, life + 1, s, by omega, by go_num, rfl, rfl, by omega, HT8⟩
          case measure => simp [intOf]; omega
        · have hr' : ¬ (s.size : Int) ≤ (R : Int) := by omega
          have HSV : Hid (∀ v W, St w d v P cB B N M K life text W → Calls Tryz.prog 42 #[.pointer (some ⟨v, 0, none⟩), .string s] W fun e w' => e = .returned (.int .i64 2) ∧ St w d v P cB B N M K life text w') := Lib.hid (fun v W h => st_limit h (by rw [← HR.out.1]; omega) (by omega))
          go_wp2_with (first
            | (go_at_call 42; (with_reducible refine Calls.mono (HSV.out _ _ HT.out) ?_); rintro e w6 ⟨rfl, hst⟩; have HT6 := Lib.hid hst; clear hst)
            | (go_at_call 40; (with_reducible refine Calls.mono (HRM.out _ _ _ _ HT6.out) ?_); rintro e w7 ⟨rfl, hst⟩; have HT7 := Lib.hid hst; clear hst)
            | (go_at_call 41; (with_reducible refine Calls.mono (HLF.out _ _ _ _ HT7.out) ?_); rintro e wz ⟨rfl, rfl⟩)
            | (go_at_call 43; (with_reducible refine Calls.mono (HTX.out _ _ _ _ HT7.out) ?_); rintro e wz ⟨rfl, rfl⟩)
            | (go_at_call 44; (with_reducible refine Calls.mono (HOP.out _ _ _ _ HT7.out) ?_); rintro e w8 ⟨u, rfl, hst, hsu⟩; have HT8 := Lib.hid hst; have HU8 := Lib.hid hsu; clear hst hsu)
            | (go_at_call 41; (with_reducible refine Calls.mono (HLF.out _ _ _ _ HU8.out) ?_); rintro e wz ⟨rfl, rfl⟩)
            | (go_at_call 43; (with_reducible refine Calls.mono (HTX.out _ _ _ _ HU8.out) ?_); rintro e wz ⟨rfl, rfl⟩)
            | (go_at_call 45; (with_reducible refine Calls.mono (HEN.out _ _ _ _ HU8.out) ?_); rintro e wz ⟨rfl, rfl⟩))
          go_roundw
          case rel => exact ⟨j + 1, life, text, by omega, by go_num, rfl, rfl, by omega, HT8⟩
          case measure => simp [intOf]; omega
      · have h5' : (5000 : Int) < (s.size : Int) := by omega
        go_wp2_with fail
        go_ret
        exact ⟨rfl, HT.out.below⟩
    · clear HRM HLF HTX HEN HOP
      go_wp2_with fail
      go_ret
      exact ⟨rfl, HT.out.below⟩
end Go.Proofs.YtkdjibejnncmfaaGreatDoor.Co
