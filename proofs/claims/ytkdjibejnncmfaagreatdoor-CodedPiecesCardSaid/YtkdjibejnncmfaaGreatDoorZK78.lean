/- The walk of CodedPieces. -/
import Derived.Test.YtkdjibejnncmfaaGreatDoorZN31
namespace Go.Proofs.YtkdjibejnncmfaaGreatDoor.Co
open Go.RowKit Go.Proofs.YtkdjibejnncmfaaGreatDoorW.PrintWords Go.Proofs.YtkdjibejnncmfaaGreatDoorW.PrintLast Go.Proofs.YtkdjibejnncmfaaGreatDoorW.PrintMore
set_option linter.unusedVariables false
set_option linter.unusedSimpArgs false
set_option maxRecDepth 100000
/-- A list of texts of this length and a number are returned. -/
def TxF (L : List ByteArray) (N : Nat) (r : Int) (W : World) (e : Ending) (w' : World) : Prop := ∃ A cc, e = .returned (.tuple #[.slice A N cc, .int .i64 r]) ∧ TL w' A cc L ∧ Below W.heap.size W w'
theorem txf_of {L : List ByteArray} {N : Nat} {r : Int} {W w' : World} {v : Value} (hR : Kd.R Kd.string 9 w' W.heap.size (fun _ => True) v L) (hL : L.length = N) (hsz : ∀ s ∈ L, s.size ≤ 9223372036854775807) (hb : Below W.heap.size W w') : TxF L N r W (.returned (.tuple #[v, .int .i64 r])) w' := by
  obtain ⟨A2, c2, rfl, hcc, hC⟩ := Kd.R_reads hR
  obtain ⟨_, inner, hown, _⟩ := hR
  have hcm := own_cap hown
  exact ⟨A2, c2, by rw [hL], ⟨hC, hcc, hcm, hsz⟩, hb⟩
theorem txf_e {L : List ByteArray} {N : Nat} {r : Int} {W w' : World} {e : Ending} (h : TxE L r W e w') (hL : L.length = N) : TxF L N r W e w' := by
  obtain ⟨A, cc, rfl, h1, h2⟩ := h
  exact ⟨A, cc, by rw [hL], h1, h2⟩
theorem enc_small {l : List ByteArray} {n : Int} : (encF l n).1.length ≤ 1000 ∧ ∀ s ∈ (encF l n).1, s.size ≤ 4096 := by
  unfold encF
  by_cases h : encOk l n = true
  · rw [if_pos h]
    unfold encOk at h
    simp only [Bool.and_eq_true, decide_eq_true_eq] at h
    obtain ⟨q1, q2, q3, q4⟩ := alike_iff (by omega) h.1.1
    refine ⟨by rw [someTo_length]; omega, fun s hs => ?_⟩
    have := some_sz _ _ _ s hs
    omega
  · rw [if_neg h]
    exact ⟨by simp, fun s hs => by cases hs⟩
theorem dec_small {l : List ByteArray} {at_ : List Int} : (decF at_ l).1.length ≤ 1000 ∧ ∀ s ∈ (decF at_ l).1, s.size ≤ 4096 := by
  unfold decF
  by_cases h : decOk at_ l = true
  · rw [if_pos h]
    unfold decOk at h
    simp only [Bool.and_eq_true] at h
    obtain ⟨q1, q2, q3, q4⟩ := alike_iff (by omega) h.1
    refine ⟨by rw [someTo_length]; omega, fun s hs => ?_⟩
    have := some_sz _ _ _ s hs
    omega
  · rw [if_neg h]
    exact ⟨by simp, fun s hs => by cases hs⟩
theorem rep_small {l : List ByteArray} {k : Int} (hm : ∀ s ∈ l, s.size ≤ 9223372036854775807) : (repF k l).1.length ≤ 1000 ∧ ∀ s ∈ (repF k l).1, s.size ≤ 9223372036854775807 := by
  unfold repF
  by_cases h : repOk k l = true
  · rw [if_pos h]
    have hk := h
    unfold repOk at hk
    simp only [Bool.and_eq_true, decide_eq_true_eq] at hk
    cases ht : repTry k.toNat l with
    | none => exact ⟨by simp, fun s hs => by cases hs⟩
    | some a =>
      refine ⟨by rw [someTo_length]; omega, fun s hs => ?_⟩
      rw [some_sz _ _ _ s hs]
      by_cases ha : 0 < (ownF l a).length
      · have h1 := vs_mem (ownF l a) 0 ha
        unfold ownF at h1
        obtain ⟨x, hx, e⟩ := List.mem_map.1 h1
        have h2 : vs (ownF l a) ((0 : Nat) : Int) = vs l x := e.symm
        have h3 : vs (ownF l a) (0 : Int) = vs l x := h2
        rw [h3]
        by_cases hxl : x.toNat < l.length
        · have h4 : vs l x ∈ l := by unfold vs rdOf; rw [List.getD_eq_getElem?_getD, List.getElem?_eq_getElem hxl]; exact List.getElem_mem _
          exact hm _ h4
        · have h4 : vs l x = ByteArray.empty := by unfold vs rdOf; rw [List.getD_eq_getElem?_getD, List.getElem?_eq_none (by omega)]; rfl
          rw [h4]
          exact Nat.zero_le _
      · have h4 : vs (ownF l a) 0 = ByteArray.empty := by unfold vs rdOf; rw [List.getD_eq_getElem?_getD, List.getElem?_eq_none (by simpa using ha)]; rfl
        rw [h4]
        exact Nat.zero_le _
  · rw [if_neg h]
    exact ⟨by simp, fun s hs => by cases hs⟩
set_option maxHeartbeats 4000000 in
/-- CodedPieces returns true, whatever comes in. -/
theorem pieces_any {A Aa : Option Addr} {c ca N M : Nat} {l : List ByteArray} {at_ : List Int} {n k : Int} {w : World} (hl : TL w A c l) (hI : IL w Aa ca at_) (hN : l.length = N) (hM : at_.length = M) :
    Calls Tryz.prog 4 #[.slice A N c, .int .i64 n, .int .i64 k, .slice Aa M ca] w fun e w' => e = .returned (.bool true) ∧ Below w.heap.size w w' := by
  have HS : Hid (∀ W, Calls Tryz.prog 14 #[] W fun e w' => e = .returned (.bool true) ∧ Below W.heap.size W w') := Lib.hid sane_any
  have HL := Lib.hid hl
  have HI := Lib.hid hI
  obtain ⟨b1, hb1⟩ : ∃ b1, b1 = briefB l 24 := ⟨_, rfl⟩
  obtain ⟨b2, hb2⟩ : ∃ b2, b2 = briefB l 4 := ⟨_, rfl⟩
  have HBR1 : Hid (∀ W, Below w.heap.size w W → Calls Tryz.prog 25 #[.slice A N c, .int .i64 24] W fun e w' => e = .returned (.bool b1) ∧ Below W.heap.size W w') := Lib.hid (fun W hW => by rw [hb1]; exact brief_any 24 (HL.out.below hW) hN)
  have HBR2 : Hid (∀ W, Below w.heap.size w W → Calls Tryz.prog 25 #[.slice A N c, .int .i64 4] W fun e w' => e = .returned (.bool b2) ∧ Below W.heap.size W w') := Lib.hid (fun W hW => by rw [hb2]; exact brief_any 4 (HL.out.below hW) hN)
  by_cases hM2 : M ≤ 100
  · obtain ⟨LE, rE, hE⟩ : ∃ LE rE, encF l n = (LE, rE) := ⟨_, _, rfl⟩
    obtain ⟨LD, rD, hD⟩ : ∃ LD rD, decF at_ l = (LD, rD) := ⟨_, _, rfl⟩
    obtain ⟨bF, rF, hF⟩ : ∃ bF rF, FitsF k at_ l = (bF, rF) := ⟨_, _, rfl⟩
    obtain ⟨LR, rR, hR⟩ : ∃ LR rR, repF k l = (LR, rR) := ⟨_, _, rfl⟩
    have zE := enc_small (l := l) (n := n)
    have zD := dec_small (l := l) (at_ := at_)
    have zR := rep_small (l := l) (k := k) hl.sz
    rw [hE] at zE
    rw [hD] at zD
    rw [hR] at zR
    obtain ⟨NE, hNE⟩ : ∃ NE, NE = LE.length := ⟨_, rfl⟩
    obtain ⟨ND, hND⟩ : ∃ ND, ND = LD.length := ⟨_, rfl⟩
    obtain ⟨NR, hNR⟩ : ∃ NR, NR = LR.length := ⟨_, rfl⟩
    have C26 : Hid (∀ W, Below w.heap.size w W → Calls Tryz.prog 26 #[.slice A N c, .int .i64 n] W (TxF LE NE rE W)) := Lib.hid (fun W hW => by
      have h2 := HL.out.below hW
      have hh := Encode_any A c l n W h2.C h2.cap h2.sz h2.capm
      rw [hN, hE] at hh
      refine hh.mono ?_
      rintro e w' ⟨v, rfl, hR, hb⟩
      exact txf_of hR hNE.symm (fun s hs => by have := zE.2 s hs; omega) hb)
    have C27 : Hid (∀ W, Below w.heap.size w W → Calls Tryz.prog 27 #[.slice A N c, .int .i64 n] W (TxF LE NE rE W)) := Lib.hid (fun W hW => by
      have hh := refEncode_any (n := n) (HL.out.below hW) hN
      rw [hE] at hh
      exact hh.mono fun e w' h => txf_e h hNE.symm)
    have C28 : Hid (∀ W, Below w.heap.size w W → Calls Tryz.prog 28 #[.slice Aa M ca, .slice A N c] W (TxF LD ND rD W)) := Lib.hid (fun W hW => by
      have h2 := HL.out.below hW
      have h3 := HI.out.below hW
      have hh := Decode_any A c l Aa ca at_ W h2.C h2.cap h2.sz h3.C h3.cap h3.capm
      rw [hN, hM, hD] at hh
      refine hh.mono ?_
      rintro e w' ⟨v, rfl, hR, hb⟩
      exact txf_of hR hND.symm (fun s hs => by have := zD.2 s hs; omega) hb)
    have C29 : Hid (∀ W, Below w.heap.size w W → Calls Tryz.prog 29 #[.slice Aa M ca, .slice A N c] W (TxF LD ND rD W)) := Lib.hid (fun W hW => by
      have hh := refDecode_any (HL.out.below hW) (HI.out.below hW) hN hM (by omega)
      rw [hD] at hh
      exact hh.mono fun e w' h => txf_e h hND.symm)
    have C30 : Hid (∀ W, Below w.heap.size w W → Calls Tryz.prog 30 #[.int .i64 k, .slice Aa M ca, .slice A N c] W fun e w' => e = .returned (.tuple #[.bool bF, .int .i64 rF]) ∧ Below W.heap.size W w') := Lib.hid (fun W hW => by
      have h2 := HL.out.below hW
      have h3 := HI.out.below hW
      have hh := Fits_any k A c l Aa ca at_ W h2.C h2.cap h2.sz h3.C h3.cap h3.capm h2.capm
      rw [hN, hM, hF] at hh
      exact hh)
    have C31 : Hid (∀ W, Below w.heap.size w W → Calls Tryz.prog 31 #[.int .i64 k, .slice Aa M ca, .slice A N c] W fun e w' => e = .returned (.tuple #[.bool bF, .int .i64 rF]) ∧ Below W.heap.size W w') := Lib.hid (fun W hW => by
      have hh := refFits_any (k := k) (HL.out.below hW) (HI.out.below hW) hN hM (by omega)
      rw [hF] at hh
      exact hh)
    have C33 : Hid (∀ W, Below w.heap.size w W → Calls Tryz.prog 33 #[.int .i64 k, .slice A N c] W (TxF LR NR rR W)) := Lib.hid (fun W hW => by
      have h2 := HL.out.below hW
      have hh := Repair_any k A c l W h2.C h2.cap h2.sz
      rw [hN, hR] at hh
      refine hh.mono ?_
      rintro e w' ⟨v, rfl, hR, hb⟩
      exact txf_of hR hNR.symm zR.2 hb)
    have C34 : Hid (∀ W, Below w.heap.size w W → Calls Tryz.prog 34 #[.int .i64 k, .slice A N c] W (TxF LR NR rR W)) := Lib.hid (fun W hW => by
      have hh := refRepair_any (k := k) (HL.out.below hW) hN
      rw [hR] at hh
      exact hh.mono fun e w' h => txf_e h hNR.symm)
    have C32 : Hid (∀ W L NL A1 c1 A2 c2, TL W A1 c1 L → TL W A2 c2 L → L.length = NL → NL ≤ 1000 → Calls Tryz.prog 32 #[.slice A1 NL c1, .slice A2 NL c2] W fun e w' => e = .returned (.bool true) ∧ Below W.heap.size W w') := Lib.hid (fun W L NL A1 c1 A2 c2 h1 h2 h3 h4 => (refSame_any h1 h2 h3 h4).mono fun e w' h => ⟨h.1, by obtain ⟨m, hm⟩ := h.2; rw [hm]; exact below_drN (Below.refl _ _) _⟩)
    have HZ : Hid (LE.length = NE ∧ LD.length = ND ∧ LR.length = NR ∧ NE ≤ 1000 ∧ ND ≤ 1000 ∧ NR ≤ 1000) := Lib.hid ⟨hNE.symm, hND.symm, hNR.symm, by rw [hNE]; exact zE.1, by rw [hND]; exact zD.1, by rw [hNR]; exact zR.1⟩
    have hM3 : ¬ (100 : Int) < (M : Int) := by omega
    clear hl hI hN hM hb1 hb2 hE hD hF hR zE zD zR hNE hND hNR
    cases b1 with
    | false =>
      go_enter Tryz.func4, Tryz.ntmps4
      go_wp2_with (first
        | (go_at_call 14; (with_reducible refine Calls.mono (HS.out _) ?_); rintro e w1 ⟨rfl, hb⟩; have HB1 := Lib.hid hb; clear hb)
        | (go_at_call 25; (with_reducible refine Calls.mono (HBR1.out _ HB1.out) ?_); rintro e w2 ⟨rfl, hb⟩; have HB2 := Lib.hid (belt HB1.out hb); clear hb))
      go_ret
      exact ⟨rfl, HB2.out⟩
    | true =>
      go_enter Tryz.func4, Tryz.ntmps4
      go_upto_region 13 with (first
        | (go_at_call 14; (with_reducible refine Calls.mono (HS.out _) ?_); rintro e w1 ⟨rfl, hb⟩; have HB1 := Lib.hid hb; clear hb)
        | (go_at_call 25; (with_reducible refine Calls.mono (HBR1.out _ HB1.out) ?_); rintro e w2 ⟨rfl, hb⟩; have HB2 := Lib.hid (belt HB1.out hb); clear hb)
        | (go_at_call 26; (with_reducible refine Calls.mono (C26.out _ HB2.out) ?_); rintro e w3 ⟨A3, c3, rfl, ht, hb⟩; have HT3 := Lib.hid ht; have HB3 := Lib.hid (belt HB2.out hb); clear hb ht)
        | (go_at_call 27; (with_reducible refine Calls.mono (C27.out _ HB3.out) ?_); rintro e w4 ⟨A4, c4, rfl, ht, hb⟩; have HT4 := Lib.hid ht; have HT3b := Lib.hid (HT3.out.below hb); have HB4 := Lib.hid (belt HB3.out hb); clear hb ht)
        | (go_at_call 28; (with_reducible refine Calls.mono (C28.out _ HB4.out) ?_); rintro e w5 ⟨A5, c5, rfl, ht, hb⟩; have HT5 := Lib.hid ht; have HT3c := Lib.hid (HT3b.out.below hb); have HT4c := Lib.hid (HT4.out.below hb); have HB5 := Lib.hid (belt HB4.out hb); clear hb ht)
        | (go_at_call 29; (with_reducible refine Calls.mono (C29.out _ HB5.out) ?_); rintro e w6 ⟨A6, c6, rfl, ht, hb⟩; have HT6 := Lib.hid ht; have HT3d := Lib.hid (HT3c.out.below hb); have HT4d := Lib.hid (HT4c.out.below hb); have HT5d := Lib.hid (HT5.out.below hb); have HB6 := Lib.hid (belt HB5.out hb); clear hb ht)
        | (go_at_call 30; (with_reducible refine Calls.mono (C30.out _ HB6.out) ?_); rintro e w7 ⟨rfl, hb⟩; have HX7 := Lib.hid hb; have HB7 := Lib.hid (belt HB6.out hb); clear hb)
        | (go_at_call 31; (with_reducible refine Calls.mono (C31.out _ HB7.out) ?_); rintro e w8 ⟨rfl, hb⟩; have HX8 := Lib.hid (belt HX7.out hb); have HB8 := Lib.hid (belt HB7.out hb); clear hb)
        | (go_at_call 32; (with_reducible refine Calls.mono (C32.out _ _ _ _ _ _ _ (HT3d.out.below HX8.out) (HT4d.out.below HX8.out) HZ.out.1 HZ.out.2.2.2.1) ?_); rintro e w9 ⟨rfl, hb⟩; have HX9 := Lib.hid (belt HX8.out hb); have HB9 := Lib.hid (belt HB8.out hb); clear hb)
        | (go_at_call 32; (with_reducible refine Calls.mono (C32.out _ _ _ _ _ _ _ (HT5d.out.below HX9.out) (HT6.out.below HX9.out) HZ.out.2.1 HZ.out.2.2.2.2.1) ?_); rintro e w10 ⟨rfl, hb⟩; have HB10 := Lib.hid (belt HB9.out hb); clear hb))
      have HB11 : Hid (Below w.heap.size w w10) := HB10
      cases b2 with
      | false =>
        go_wp2_with (go_at_call 25; (with_reducible refine Calls.mono (HBR2.out _ HB11.out) ?_); rintro e w11 ⟨rfl, hb⟩; have HB12 := Lib.hid (belt HB11.out hb); clear hb)
        go_ret
        exact ⟨rfl, HB12.out⟩
      | true =>
        clear HS HBR1 C26 C27 C28 C29 C30 C31 HT3 HT4 HT5 HT6 HT3b HT3c HT3d HT4c HT4d HT5d HX7 HX8 HX9 HB1 HB2 HB3 HB4 HB5 HB6 HB7 HB8 HB9 HB10
        by_cases hn8 : 8 < N ∧ N ≤ 12
        · have h8 : (8 : Int) < (N : Int) := by omega
          have h12 : (N : Int) ≤ 12 := by omega
          go_wp2_with (go_at_call 25; (with_reducible refine Calls.mono (HBR2.out _ HB11.out) ?_); rintro e w11 ⟨rfl, hb⟩; have HB12 := Lib.hid (belt HB11.out hb); clear hb)
          go_ret
          exact ⟨rfl, HB12.out⟩
        · by_cases h8 : (8 : Int) < (N : Int)
          · have h12 : ¬ (N : Int) ≤ 12 := by omega
            go_wp2_with (first
              | (go_at_call 25; (with_reducible refine Calls.mono (HBR2.out _ HB11.out) ?_); rintro e w11 ⟨rfl, hb⟩; have HB12 := Lib.hid (belt HB11.out hb); clear hb)
              | (go_at_call 33; (with_reducible refine Calls.mono (C33.out _ HB12.out) ?_); rintro e w13 ⟨A3, c3, rfl, ht, hb⟩; have HT3 := Lib.hid ht; have HB13 := Lib.hid (belt HB12.out hb); clear hb ht)
              | (go_at_call 34; (with_reducible refine Calls.mono (C34.out _ HB13.out) ?_); rintro e w14 ⟨A4, c4, rfl, ht, hb⟩; have HT4 := Lib.hid ht; have HT3b := Lib.hid (HT3.out.below hb); have HB14 := Lib.hid (belt HB13.out hb); clear hb ht)
              | (go_at_call 32; (with_reducible refine Calls.mono (C32.out _ _ _ _ _ _ _ HT3b.out HT4.out HZ.out.2.2.1 HZ.out.2.2.2.2.2) ?_); rintro e w15 ⟨rfl, hb⟩; have HB15 := Lib.hid (belt HB14.out hb); clear hb))
            go_ret
            exact ⟨rfl, HB15.out⟩
          · go_wp2_with (first
              | (go_at_call 25; (with_reducible refine Calls.mono (HBR2.out _ HB11.out) ?_); rintro e w11 ⟨rfl, hb⟩; have HB12 := Lib.hid (belt HB11.out hb); clear hb)
              | (go_at_call 33; (with_reducible refine Calls.mono (C33.out _ HB12.out) ?_); rintro e w13 ⟨A3, c3, rfl, ht, hb⟩; have HT3 := Lib.hid ht; have HB13 := Lib.hid (belt HB12.out hb); clear hb ht)
              | (go_at_call 34; (with_reducible refine Calls.mono (C34.out _ HB13.out) ?_); rintro e w14 ⟨A4, c4, rfl, ht, hb⟩; have HT4 := Lib.hid ht; have HT3b := Lib.hid (HT3.out.below hb); have HB14 := Lib.hid (belt HB13.out hb); clear hb ht)
              | (go_at_call 32; (with_reducible refine Calls.mono (C32.out _ _ _ _ _ _ _ HT3b.out HT4.out HZ.out.2.2.1 HZ.out.2.2.2.2.2) ?_); rintro e w15 ⟨rfl, hb⟩; have HB15 := Lib.hid (belt HB14.out hb); clear hb))
            go_ret
            exact ⟨rfl, HB15.out⟩
  · have hM3 : (100 : Int) < (M : Int) := by omega
    clear hl hI hN hM hb1 hb2
    cases b1 with
    | false =>
      go_enter Tryz.func4, Tryz.ntmps4
      go_wp2_with (first
        | (go_at_call 14; (with_reducible refine Calls.mono (HS.out _) ?_); rintro e w1 ⟨rfl, hb⟩; have HB1 := Lib.hid hb; clear hb)
        | (go_at_call 25; (with_reducible refine Calls.mono (HBR1.out _ HB1.out) ?_); rintro e w2 ⟨rfl, hb⟩; have HB2 := Lib.hid (belt HB1.out hb); clear hb))
      go_ret
      exact ⟨rfl, HB2.out⟩
    | true =>
      go_enter Tryz.func4, Tryz.ntmps4
      go_wp2_with (first
        | (go_at_call 14; (with_reducible refine Calls.mono (HS.out _) ?_); rintro e w1 ⟨rfl, hb⟩; have HB1 := Lib.hid hb; clear hb)
        | (go_at_call 25; (with_reducible refine Calls.mono (HBR1.out _ HB1.out) ?_); rintro e w2 ⟨rfl, hb⟩; have HB2 := Lib.hid (belt HB1.out hb); clear hb))
      go_ret
      exact ⟨rfl, HB2.out⟩
end Go.Proofs.YtkdjibejnncmfaaGreatDoor.Co
