/- The walks of the reference's fits, Fits. -/
import Derived.Test.YtkdjibejnncmfaaGreatDoorZN27
import Derived.Test.YtkdjibejnncmfaaGreatDoorZN12
namespace Go.Proofs.YtkdjibejnncmfaaGreatDoor.Co
open Go.RowKit Go.Proofs.YtkdjibejnncmfaaGreatDoorW.PrintWords Go.Proofs.YtkdjibejnncmfaaGreatDoorW.PrintLast Go.Proofs.YtkdjibejnncmfaaGreatDoorW.PrintMore
set_option linter.unusedVariables false
set_option linter.unusedSimpArgs false
set_option maxRecDepth 100000
theorem ne_l {a b : ByteArray} (h : a ≠ b) : (a.toList == b.toList) = false := by
  cases hh : (a.toList == b.toList) with
  | false => rfl
  | true => exact absurd (toList_eq hh) h
set_option maxHeartbeats 2000000 in
theorem refFits1_any {A Aa : Option Addr} {c ca N K : Nat} {l : List ByteArray} {at_ : List Int} {w : World} (hl : TL w A c l) (hI : IL w Aa ca at_) (hN : l.length = N) (hM : at_.length = N) (hK1 : 1 ≤ K) (hKN : K ≤ N) (hN12 : N ≤ 12) (hP : Pts at_) (hL : Len l (vs l 0).size) (hS : (vs l 0).size ≤ 4096) :
    Calls Tryz.prog 88 #[.int .i64 (K : Int), .slice Aa N ca, .slice A N c] w fun e w' => e = .returned (.bool (fitsF K at_ l)) ∧ Below w.heap.size w w' := by
  obtain ⟨g, o, eA, _⟩ := hl.at 0 (by omega)
  obtain ⟨ga, oa, eB, _⟩ := CI_at hI.C 0 (by omega)
  subst eA eB
  obtain ⟨b, hb⟩ : ∃ b, b = fitsF K at_ l := ⟨_, rfl⟩
  rw [← hb]
  have hv0 : vs (l.take K) 0 = vs l 0 := vs_take l K 0 (by omega)
  have HPC : Hid (∀ (i : Nat) W, i < N → Below w.heap.size w W → Calls Tryz.prog 128 #[.slice (some ⟨ga, oa, none⟩) K ca, .slice (some ⟨g, o, none⟩) K c, .int .i64 (rd at_ i)] W fun e w' => e = .returned (.string (pieceF (at_.take K) (l.take K) (rd at_ i))) ∧ Below W.heap.size W w') := Lib.hid (fun i W hi hW =>
    refPiece_any ((hI.below hW).take (by omega)) ((hl.below hW).take (by omega)) (pts_take hP K) (by rw [List.length_take]; omega) (by rw [List.length_take]; omega) hK1 (by omega) (hP.b i (by omega)) (by rw [hv0]; exact len_take hL K) (by rw [hv0]; omega))
  have HL := Lib.hid hl
  have HI := Lib.hid hI
  have HE := Lib.hid (And.intro hN (And.intro hM hb))
  have hNc : (N : Int) ≤ (c : Int) := by have := hl.cap; omega
  have hNca : (N : Int) ≤ (ca : Int) := by have := hI.cap; omega
  clear hl hI hN hM hP hL hS hb hv0
  go_enter Tryz.func88, Tryz.ntmps88
  go_wp2_with fail
  go_loopw [7] (fun i wr => ∃ k : Nat, K ≤ k ∧ k ≤ N ∧ i = .int .i64 k ∧ Hid (∀ j : Nat, K ≤ j → j < k → fitAt K at_ l j = true) ∧ Hid (Below w.heap.size w wr)) (fun i _ => N - (intOf i).toNat)
  case atStart => exact ⟨K, by omega, by omega, rfl, Lib.hid (fun j h1 h2 => by omega), Lib.hid (Below.refl _ _)⟩
  case round =>
    obtain ⟨W, rfl⟩ : ∃ W : World, W = wr := ⟨_, rfl⟩
    obtain ⟨k, hk0, hk, rfl, HA, HB⟩ := hrel
    by_cases hlt : k < N
    · obtain ⟨x, hx⟩ : ∃ x, x = rd at_ k := ⟨_, rfl⟩
      obtain ⟨s, hs⟩ : ∃ s, s = vs l k := ⟨_, rfl⟩
      obtain ⟨q, hq⟩ : ∃ q, q = pieceF (at_.take K) (l.take K) (rd at_ k) := ⟨_, rfl⟩
      have r1 : ∀ V : BW W, V.val.cell? ⟨ga, oa + k, none⟩ = some (.int .i64 x) := BW.cell (by rw [hx]; exact (HI.out.below HB.out).cell k (by have := HE.out.2.1; omega))
      have r2 : ∀ V : BW W, V.val.cell? ⟨g, o + k, none⟩ = some (.string s) := BW.cell (by rw [hs]; exact (HL.out.below HB.out).cell k (by have := HE.out.1; omega))
      have H128 : Hid (∀ V : BW W, Calls Tryz.prog 128 #[.slice (some ⟨ga, oa, none⟩) K ca, .slice (some ⟨g, o, none⟩) K c, .int .i64 x] V.val fun e w'' => e = .returned (.string q) ∧ ∃ W2 : BW W, w'' = W2.val) := Lib.hid (fun V => by
        rw [hx, hq]
        exact BW.call (HPC.out k V.val hlt (belt HB.out V.property)))
      have HFA : Hid (fitAt K at_ l k = (q.toList == s.toList)) := Lib.hid (by rw [hq, hs]; rfl)
      have hk1 : (0 : Int) ≤ (k : Int) := by omega
      have hkN : (k : Int) < (N : Int) := by omega
      have hK0 : (0 : Int) ≤ (K : Int) := by omega
      have hKc : (K : Int) ≤ (c : Int) := by omega
      have hKca : (K : Int) ≤ (ca : Int) := by omega
      have hKNi : (K : Int) ≤ (N : Int) := by omega
      clear hx hs hq
      by_cases he : q = s
      · have HA2 : Hid (∀ j : Nat, K ≤ j → j < k + 1 → fitAt K at_ l j = true) := Lib.hid (fun j h1 h2 => by
          by_cases h : j = k
          · rw [h, HFA.out, he]; exact beq_self _
          · exact HA.out j h1 (by omega))
        subst he
        go_upto_region 4 with fail
        refine wp_region_bw (by kernel_rfl) (by kernel_rfl) ?_
        repeat (go_big_quiet_step ((with_reducible exact H128.out _)))
        refine wpQuiet_nil ?_
        rintro W2 ⟨⟨_, hBW2⟩, rfl⟩
        have HBW2 := Lib.hid hBW2
        clear hBW2 r1 r2 H128
        go_wp2_with fail
        go_roundw
        case rel => exact ⟨k + 1, by omega, by omega, by go_num, HA2, Lib.hid (belt HB.out HBW2.out)⟩
        case measure => simp [intOf]; omega
      · have e3 : (q.toList == s.toList) = false := ne_l he
        have HB2 : Hid (b = false) := Lib.hid (by rw [HE.out.2.2]; exact fitsF_false k hk0 (by have := HE.out.1; omega) (by rw [HFA.out, e3]))
        go_upto_region 4 with fail
        refine wp_region_bw (by kernel_rfl) (by kernel_rfl) ?_
        repeat (go_big_quiet_step ((with_reducible exact H128.out _)))
        refine wpQuiet_nil ?_
        rintro W2 ⟨⟨_, hBW2⟩, rfl⟩
        have HBW2 := Lib.hid hBW2
        clear hBW2 r1 r2 H128
        go_wp2_with fail
        go_ret
        exact ⟨by rw [HB2.out]; rfl, belt HB.out HBW2.out⟩
    · have hkN : k = N := by omega
      subst hkN
      have HB2 : Hid (b = true) := Lib.hid (by rw [HE.out.2.2]; exact fitsF_true (fun i h1 h2 => HA.out i h1 (by have := HE.out.1; omega)))
      go_wp2_with fail
      go_ret
      exact ⟨by rw [HB2.out]; rfl, HB.out⟩
set_option maxHeartbeats 1000000 in
theorem refFits_any {A Aa : Option Addr} {c ca N M : Nat} {l : List ByteArray} {at_ : List Int} {k : Int} {w : World} (hl : TL w A c l) (hI : IL w Aa ca at_) (hN : l.length = N) (hM : at_.length = M) (hM2 : M ≤ 1000) :
    Calls Tryz.prog 31 #[.int .i64 k, .slice Aa M ca, .slice A N c] w fun e w' => e = .returned (.tuple #[.bool (FitsF k at_ l).1, .int .i64 (FitsF k at_ l).2]) ∧ Below w.heap.size w w' := by
  by_cases h0 : k < 1
  · have hE : FitsF k at_ l = (false, 1) := by unfold FitsF fitOk; rw [show decide (1 ≤ k ∧ k ≤ 12) = false by simp; omega]; rfl
    rw [hE]
    clear hl hI hN hM hE
    go_enter Tryz.func31, Tryz.ntmps31
    go_wp2_with fail
    go_ret2
    exact ⟨rfl, Below.refl _ _⟩
  · by_cases h1 : 12 < k
    · have hE : FitsF k at_ l = (false, 1) := by unfold FitsF fitOk; rw [show decide (1 ≤ k ∧ k ≤ 12) = false by simp; omega]; rfl
      rw [hE]
      clear hl hI hN hM hE
      go_enter Tryz.func31, Tryz.ntmps31
      go_wp2_with fail
      go_ret2
      exact ⟨rfl, Below.refl _ _⟩
    · have hd : decide (1 ≤ k ∧ k ≤ 12) = true := by simp; omega
      cases hal : alikeF l k 4096 with
      | false =>
        have HT := Lib.hid (refTexts_b hl hN (by omega) hal)
        have hE : FitsF k at_ l = (false, 1) := by unfold FitsF fitOk; rw [hd, hal]; rfl
        rw [hE]
        clear hl hI hN hM hal hE hd
        go_enter Tryz.func31, Tryz.ntmps31
        go_wp2_with (go_at_call 81; (with_reducible refine Calls.mono (HT.out _ (Below.refl _ _)) ?_); rintro e w1 ⟨rfl, hb⟩; have HB1 := Lib.hid hb; clear hb)
        go_ret2
        exact ⟨rfl, HB1.out⟩
      | true =>
        have HT := Lib.hid (refTexts_b hl hN (by omega) hal)
        cases hnu : numF at_ N with
        | false =>
          have HU := Lib.hid (refNumbers_b hI hM hM2 hnu)
          have hE : FitsF k at_ l = (false, 1) := by unfold FitsF fitOk; rw [hd, hal, hN, hnu]; rfl
          rw [hE]
          clear hl hI hN hM hal hE hnu hd
          go_enter Tryz.func31, Tryz.ntmps31
          go_wp2_with (first
            | (go_at_call 81; (with_reducible refine Calls.mono (HT.out _ (Below.refl _ _)) ?_); rintro e w1 ⟨rfl, hb⟩; have HB1 := Lib.hid hb; clear hb)
            | (go_at_call 85; (with_reducible refine Calls.mono (HU.out _ HB1.out) ?_); rintro e w2 ⟨rfl, hb⟩; have HB2 := Lib.hid (belt HB1.out hb); clear hb))
          go_ret2
          exact ⟨rfl, HB2.out⟩
        | true =>
          have HU := Lib.hid (refNumbers_b hI hM hM2 hnu)
          obtain ⟨q1, q2, q3, q4⟩ := alike_iff (by omega) hal
          have hml := (num_at hnu).1
          have hMN : M = N := by omega
          subst hMN
          obtain ⟨K, rfl⟩ := Int.eq_ofNat_of_zero_le (show 0 ≤ k by omega)
          have hE : FitsF (K : Int) at_ l = (fitsF K at_ l, 0) := by unfold FitsF fitOk; rw [hd, hal, hN, hnu]; rfl
          rw [hE]
          obtain ⟨b, hb⟩ : ∃ b, b = fitsF K at_ l := ⟨_, rfl⟩
          have HFI : Hid (∀ W, Below w.heap.size w W → Calls Tryz.prog 88 #[.int .i64 (K : Int), .slice Aa M ca, .slice A M c] W fun e w' => e = .returned (.bool b) ∧ Below W.heap.size W w') := Lib.hid (fun W hW => by
            rw [hb]
            exact refFits1_any (hl.below hW) (hI.below hW) hN hM (by omega) (by omega) (by omega) (num_pts hnu) q4 (by omega))
          rw [← hb]
          clear hl hI hN hM hal hE hnu hd hml q1 q2 q3 q4 hb
          go_enter Tryz.func31, Tryz.ntmps31
          go_wp2_with (first
            | (go_at_call 81; (with_reducible refine Calls.mono (HT.out _ (Below.refl _ _)) ?_); rintro e w1 ⟨rfl, hb⟩; have HB1 := Lib.hid hb; clear hb)
            | (go_at_call 85; (with_reducible refine Calls.mono (HU.out _ HB1.out) ?_); rintro e w2 ⟨rfl, hb⟩; have HB2 := Lib.hid (belt HB1.out hb); clear hb)
            | (go_at_call 88; (with_reducible refine Calls.mono (HFI.out _ HB2.out) ?_); rintro e w3 ⟨rfl, hb⟩; have HB3 := Lib.hid (belt HB2.out hb); clear hb))
          go_ret2
          exact ⟨rfl, HB3.out⟩
end Go.Proofs.YtkdjibejnncmfaaGreatDoor.Co
