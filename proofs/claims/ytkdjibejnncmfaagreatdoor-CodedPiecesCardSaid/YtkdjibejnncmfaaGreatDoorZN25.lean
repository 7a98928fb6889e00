/- The walks of the reference's Encode, numbers, Decode. -/
import Derived.Test.YtkdjibejnncmfaaGreatDoorZN24
namespace Go.Proofs.YtkdjibejnncmfaaGreatDoor.Co
open Go.RowKit Go.Proofs.YtkdjibejnncmfaaGreatDoorW.PrintWords Go.Proofs.YtkdjibejnncmfaaGreatDoorW.PrintLast Go.Proofs.YtkdjibejnncmfaaGreatDoorW.PrintMore
set_option linter.unusedVariables false
set_option linter.unusedSimpArgs false
set_option maxRecDepth 100000
/-- A list of texts and a number are returned. -/
def TxE (L : List ByteArray) (r : Int) (W : World) (e : Ending) (w' : World) : Prop := ∃ A cc, e = .returned (.tuple #[.slice A L.length cc, .int .i64 r]) ∧ TL w' A cc L ∧ Below W.heap.size W w'
theorem alike_iff {l : List ByteArray} {least most : Int} (h1 : 1 ≤ least) (h : alikeF l least most = true) : least ≤ l.length ∧ l.length ≤ 12 ∧ ((vs l 0).size : Int) ≤ most ∧ Len l (vs l 0).size := by
  unfold alikeF at h
  split at h
  · cases h
  · split at h
    · cases h
    · split at h
      · cases h
      · rename_i g1 g2 g3
        simp only [Bool.not_eq_true', List.any_eq_false] at h
        refine ⟨by omega, by omega, by omega, fun i hi => ?_⟩
        have e : vs l i = l[i] := by unfold vs rdOf; simp [hi]
        rw [e]
        simpa using h l[i] (List.getElem_mem hi)
theorem nil_tl (w : World) : TL w none 0 [] := ⟨Kd.C_of_reads (d := ByteArray.empty) ⟨rfl, by simp, fun h => absurd h (by simp)⟩, by simp, by omega, fun s hs => by cases hs⟩
set_option maxHeartbeats 1000000 in
theorem refEncode_any {A : Option Addr} {c N : Nat} {l : List ByteArray} {n : Int} {w : World} (hl : TL w A c l) (hN : l.length = N) :
    Calls Tryz.prog 27 #[.slice A N c, .int .i64 n] w (TxE (encF l n).1 (encF l n).2 w) := by
  have HT : Hid (∀ W, Below w.heap.size w W → Calls Tryz.prog 81 #[.slice A N c, .int .i64 1, .int .i64 4096] W fun e w' => e = .returned (.bool (alikeF l 1 4096)) ∧ Below W.heap.size W w') := Lib.hid (fun W hW => (refTexts_any (hl.below hW) hN (by omega)).mono fun e w' h => ⟨h.1, by obtain ⟨m, hm⟩ := h.2; rw [hm]; exact below_drN (Below.refl _ _) _⟩)
  by_cases hok : encOk l n = true
  · have hal : alikeF l 1 4096 = true ∧ (N : Int) ≤ n ∧ n ≤ 12 := by
      unfold encOk at hok
      simp only [Bool.and_eq_true, decide_eq_true_eq] at hok
      exact ⟨hok.1.1, by have := hok.1.2; omega, hok.2⟩
    obtain ⟨q1, q2, q3, q4⟩ := alike_iff (by omega) hal.1
    obtain ⟨M, rfl⟩ := Int.eq_ofNat_of_zero_le (show 0 ≤ n by omega)
    have hM : (encF l (M : Int)) = (someTo (firstL N) l M, 0) := by rw [enc_eq hok, hN]; rfl
    rw [hM]
    rw [hal.1] at HT
    have HF : Hid (∀ W, Calls Tryz.prog 83 #[.int .i64 (N : Int)] W fun e w' => ∃ Aa ca, e = .returned (.slice Aa N ca) ∧ IL w' Aa ca (firstL N) ∧ Below W.heap.size W w') := Lib.hid (fun W => by
      refine (refFirst_any N W (by omega)).mono ?_
      rintro e w' ⟨v, rfl, ho, hb⟩
      obtain ⟨Aa, ca, rfl, hil⟩ := OI.il ho
      rw [firstL_length]
      exact ⟨Aa, ca, rfl, hil, hb⟩)
    have HPS : Hid (∀ W Aa ca, Below w.heap.size w W → IL W Aa ca (firstL N) → Calls Tryz.prog 82 #[.slice Aa N ca, .slice A N c, .int .i64 (M : Int)] W fun e w' => ∃ A2 c2, e = .returned (.slice A2 M c2) ∧ TL w' A2 c2 (someTo (firstL N) l M) ∧ Below W.heap.size W w') := Lib.hid (fun W Aa ca hW hI => by
      refine (refPieces_any hI (hl.below hW) (firstL_pts N (by omega)) (firstL_length N) hN (by omega) (by omega) (by omega) q4 (by omega)).mono ?_
      rintro e w' ⟨v, rfl, ho, hb⟩
      obtain ⟨A2, c2, rfl, htl⟩ := OT.tl ho (fun s hs => by rw [some_sz _ _ _ s hs]; omega)
      rw [someTo_length]
      exact ⟨A2, c2, rfl, htl, hb⟩)
    have h2 : (N : Int) ≤ (M : Int) := hal.2.1
    have h3 : (M : Int) ≤ 12 := hal.2.2
    have hml : (someTo (firstL N) l M).length = M := someTo_length _ _ _
    show Calls Tryz.prog 27 _ w (TxE (someTo (firstL N) l M) 0 w)
    have HML := Lib.hid hml
    clear hl hok hal q1 q2 q3 q4 hM hml
    go_enter Tryz.func27, Tryz.ntmps27
    go_wp2_with (first
      | (go_at_call 81; (with_reducible refine Calls.mono (HT.out _ (Below.refl _ _)) ?_); rintro e w1 ⟨rfl, hb⟩; have HB1 := Lib.hid hb; clear hb)
      | (go_at_call 83; (with_reducible refine Calls.mono (HF.out _) ?_); rintro e w2 ⟨Aa, ca, rfl, hil, hb⟩; have HI2 := Lib.hid hil; have HB2 := Lib.hid (belt HB1.out hb); clear hil hb)
      | (go_at_call 82; (with_reducible refine Calls.mono (HPS.out _ _ _ HB2.out HI2.out) ?_); rintro e w3 ⟨A2, c2, rfl, htl, hb⟩; have HT3 := Lib.hid htl; have HB3 := Lib.hid (belt HB2.out hb); clear htl hb))
    go_ret2
    exact ⟨A2, c2, by rw [HML.out]; rfl, HT3.out, HB3.out⟩
  · have hE : encF l n = ([], 1) := by unfold encF; rw [if_neg hok]
    rw [hE]
    show Calls Tryz.prog 27 _ w (TxE [] 1 w)
    have hlc := hl.cap
    cases hal : alikeF l 1 4096 with
    | false =>
      rw [hal] at HT
      clear hl hok hE hal
      go_enter Tryz.func27, Tryz.ntmps27
      go_wp2_with (go_at_call 81; (with_reducible refine Calls.mono (HT.out _ (Below.refl _ _)) ?_); rintro e w1 ⟨rfl, hb⟩; have HB1 := Lib.hid hb; clear hb)
      go_ret2
      exact ⟨none, 0, rfl, nil_tl _, HB1.out⟩
    | true =>
      rw [hal] at HT
      by_cases h2 : n < (N : Int)
      · clear hl hok hE hal
        go_enter Tryz.func27, Tryz.ntmps27
        go_wp2_with (go_at_call 81; (with_reducible refine Calls.mono (HT.out _ (Below.refl _ _)) ?_); rintro e w1 ⟨rfl, hb⟩; have HB1 := Lib.hid hb; clear hb)
        go_ret2
        exact ⟨none, 0, rfl, nil_tl _, HB1.out⟩
      · have h3 : (12 : Int) < n := by
          refine Int.not_le.1 (fun h3 => hok ?_)
          unfold encOk
          rw [hal]
          simp
          omega
        clear hl hok hE hal
        go_enter Tryz.func27, Tryz.ntmps27
        go_wp2_with (go_at_call 81; (with_reducible refine Calls.mono (HT.out _ (Below.refl _ _)) ?_); rintro e w1 ⟨rfl, hb⟩; have HB1 := Lib.hid hb; clear hb)
        go_ret2
        exact ⟨none, 0, rfl, nil_tl _, HB1.out⟩
end Go.Proofs.YtkdjibejnncmfaaGreatDoor.Co
