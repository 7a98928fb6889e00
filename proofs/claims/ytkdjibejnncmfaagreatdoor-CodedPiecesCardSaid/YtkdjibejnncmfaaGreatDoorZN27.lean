/- The walks of the reference's Decode, fits, Fits. -/
import Derived.Test.YtkdjibejnncmfaaGreatDoorZN26
namespace Go.Proofs.YtkdjibejnncmfaaGreatDoor.Co
open Go.RowKit Go.Proofs.YtkdjibejnncmfaaGreatDoorW.PrintWords Go.Proofs.YtkdjibejnncmfaaGreatDoorW.PrintLast Go.Proofs.YtkdjibejnncmfaaGreatDoorW.PrintMore
set_option linter.unusedVariables false
set_option linter.unusedSimpArgs false
set_option maxRecDepth 100000
theorem num_at {l : List Int} {m : Nat} (h : numF l m = true) : l.length = m ∧ ∀ i : Nat, i < l.length → (0 ≤ rd l i ∧ rd l i < 12) ∧ ∀ j : Nat, j < i → rd l j ≠ rd l i := by
  unfold numF at h
  rw [Bool.and_eq_true, decide_eq_true_eq, List.all_eq_true] at h
  exact ⟨h.1, fun i hi => (numAt_iff hi).1 (h.2 i (List.mem_range.2 hi))⟩
theorem num_pts {l : List Int} {m : Nat} (h : numF l m = true) : Pts l := by
  obtain ⟨h1, h2⟩ := num_at h
  refine ⟨fun i hi => ⟨(h2 i hi).1.1, by have := (h2 i hi).1.2; omega⟩, fun i j hi hj hij => ?_⟩
  rcases Nat.lt_or_ge i j with h | h
  · exact (h2 j hj).2 i h
  · exact fun e => (h2 i hi).2 j (by omega) e.symm
theorem pts_take {l : List Int} (h : Pts l) (k : Nat) : Pts (l.take k) := by
  have e : ∀ i : Nat, i < (l.take k).length → i < l.length ∧ i < k ∧ rd (l.take k) i = rd l i := fun i hi => by
    rw [List.length_take] at hi
    exact ⟨by omega, by omega, rd_take l k i (by omega)⟩
  refine ⟨fun i hi => ?_, fun i j hi hj hij => ?_⟩
  · obtain ⟨h1, h2, h3⟩ := e i hi; rw [h3]; exact h.b i h1
  · obtain ⟨h1, h2, h3⟩ := e i hi
    obtain ⟨g1, g2, g3⟩ := e j hj
    rw [h3, g3]
    exact h.ne i j h1 g1 hij
theorem len_take {l : List ByteArray} {S : Nat} (h : Len l S) (k : Nat) : Len (l.take k) S := fun i hi => by
  rw [List.length_take] at hi
  rw [vs_take l k i (by omega)]
  exact h i (by omega)
theorem IL.take {w : World} {A : Option Addr} {c : Nat} {l : List Int} (h : IL w A c l) {k : Nat} (hk : k ≤ l.length) : IL w A c (l.take k) := by
  have hl : (l.take k).length = k := by rw [List.length_take]; omega
  have hc := C_take h.C k hk
  rw [← hl] at hc
  have e : (l.take (l.take k).length) = l.take k := by rw [hl]
  rw [e] at hc
  exact ⟨hc, by have := h.cap; omega, h.capm⟩
theorem TL.take {w : World} {A : Option Addr} {c : Nat} {l : List ByteArray} (h : TL w A c l) {k : Nat} (hk : k ≤ l.length) : TL w A c (l.take k) := by
  have hl : (l.take k).length = k := by rw [List.length_take]; omega
  have hc := C_take h.C k hk
  rw [← hl] at hc
  have e : (l.take (l.take k).length) = l.take k := by rw [hl]
  rw [e] at hc
  exact ⟨hc, by have := h.cap; omega, h.capm, fun s hs => h.sz s (List.mem_of_mem_take hs)⟩
theorem refTexts_b {A : Option Addr} {c N : Nat} {l : List ByteArray} {least long : Int} {w : World} (hl : TL w A c l) (hN : l.length = N) (h1 : 1 ≤ least) {b : Bool} (hb : alikeF l least long = b) :
    ∀ W, Below w.heap.size w W → Calls Tryz.prog 81 #[.slice A N c, .int .i64 least, .int .i64 long] W fun e w' => e = .returned (.bool b) ∧ Below W.heap.size W w' := fun W hW => by
  rw [← hb]
  exact (refTexts_any (hl.below hW) hN h1).mono fun e w' h => ⟨h.1, by obtain ⟨m, hm⟩ := h.2; rw [hm]; exact below_drN (Below.refl _ _) _⟩
theorem refNumbers_b {A : Option Addr} {c N m : Nat} {l : List Int} {w : World} (hI : IL w A c l) (hN : l.length = N) (hN2 : N ≤ 1000) {b : Bool} (hb : numF l m = b) :
    ∀ W, Below w.heap.size w W → Calls Tryz.prog 85 #[.slice A N c, .int .i64 (m : Int)] W fun e w' => e = .returned (.bool b) ∧ Below W.heap.size W w' := fun W hW => by
  rw [← hb]
  exact (refNumbers_any (hI.below hW) hN hN2).mono fun e w' h => ⟨h.1, by obtain ⟨m, hm⟩ := h.2; rw [hm]; exact below_drN (Below.refl _ _) _⟩
set_option maxHeartbeats 1000000 in
theorem refDecode_any {A Aa : Option Addr} {c ca N M : Nat} {l : List ByteArray} {at_ : List Int} {w : World} (hl : TL w A c l) (hI : IL w Aa ca at_) (hN : l.length = N) (hM : at_.length = M) (hM2 : M ≤ 1000) :
    Calls Tryz.prog 29 #[.slice Aa M ca, .slice A N c] w (TxE (decF at_ l).1 (decF at_ l).2 w) := by
  cases hal : alikeF l 1 4096 with
  | false =>
    have HT := Lib.hid (refTexts_b hl hN (by omega) hal)
    have hE : decF at_ l = ([], 1) := by unfold decF decOk; rw [hal]; rfl
    rw [hE]
    show Calls Tryz.prog 29 _ w (TxE [] 1 w)
    clear hl hI hN hM hal hE
    go_enter Tryz.func29, Tryz.ntmps29
    go_wp2_with (go_at_call 81; (with_reducible refine Calls.mono (HT.out _ (Below.refl _ _)) ?_); rintro e w1 ⟨rfl, hb⟩; have HB1 := Lib.hid hb; clear hb)
    go_ret2
    exact ⟨none, 0, rfl, nil_tl _, HB1.out⟩
  | true =>
    have HT := Lib.hid (refTexts_b hl hN (by omega) hal)
    cases hnu : numF at_ N with
    | false =>
      have HU := Lib.hid (refNumbers_b hI hM hM2 hnu)
      have hE : decF at_ l = ([], 1) := by unfold decF decOk; rw [hal, hN, hnu]; rfl
      rw [hE]
      show Calls Tryz.prog 29 _ w (TxE [] 1 w)
      clear hl hI hN hM hal hE hnu
      go_enter Tryz.func29, Tryz.ntmps29
      go_wp2_with (first
        | (go_at_call 81; (with_reducible refine Calls.mono (HT.out _ (Below.refl _ _)) ?_); rintro e w1 ⟨rfl, hb⟩; have HB1 := Lib.hid hb; clear hb)
        | (go_at_call 85; (with_reducible refine Calls.mono (HU.out _ HB1.out) ?_); rintro e w2 ⟨rfl, hb⟩; have HB2 := Lib.hid (belt HB1.out hb); clear hb))
      go_ret2
      exact ⟨none, 0, rfl, nil_tl _, HB2.out⟩
    | true =>
      have HU := Lib.hid (refNumbers_b hI hM hM2 hnu)
      obtain ⟨q1, q2, q3, q4⟩ := alike_iff (by omega) hal
      have hml := (num_at hnu).1
      have hMN : M = N := by omega
      subst hMN
      have hE : decF at_ l = (someTo at_ l M, 0) := by unfold decF decOk; rw [hal, hN, hnu]; rfl
      rw [hE]
      show Calls Tryz.prog 29 _ w (TxE (someTo at_ l M) 0 w)
      have HPS : Hid (∀ W, Below w.heap.size w W → Calls Tryz.prog 82 #[.slice Aa M ca, .slice A M c, .int .i64 (M : Int)] W fun e w' => ∃ A2 c2, e = .returned (.slice A2 M c2) ∧ TL w' A2 c2 (someTo at_ l M) ∧ Below W.heap.size W w') := Lib.hid (fun W hW => by
        refine (refPieces_any (hI.below hW) (hl.below hW) (num_pts hnu) hM hN (by omega) (by omega) (by omega) q4 (by omega)).mono ?_
        rintro e w' ⟨v, rfl, ho, hb⟩
        obtain ⟨A2, c2, rfl, htl⟩ := OT.tl ho (fun s hs => by rw [some_sz _ _ _ s hs]; omega)
        rw [someTo_length]
        exact ⟨A2, c2, rfl, htl, hb⟩)
      have HML : Hid ((someTo at_ l M).length = M) := Lib.hid (someTo_length _ _ _)
      clear hl hI hN hM hal hE hnu hml q1 q2 q3 q4
      go_enter Tryz.func29, Tryz.ntmps29
      go_wp2_with (first
        | (go_at_call 81; (with_reducible refine Calls.mono (HT.out _ (Below.refl _ _)) ?_); rintro e w1 ⟨rfl, hb⟩; have HB1 := Lib.hid hb; clear hb)
        | (go_at_call 85; (with_reducible refine Calls.mono (HU.out _ HB1.out) ?_); rintro e w2 ⟨rfl, hb⟩; have HB2 := Lib.hid (belt HB1.out hb); clear hb)
        | (go_at_call 82; (with_reducible refine Calls.mono (HPS.out _ HB2.out) ?_); rintro e w3 ⟨A2, c2, rfl, htl, hb⟩; have HT3 := Lib.hid htl; have HB3 := Lib.hid (belt HB2.out hb); clear htl hb))
      go_ret2
      exact ⟨A2, c2, by rw [HML.out]; rfl, HT3.out, HB3.out⟩
end Go.Proofs.YtkdjibejnncmfaaGreatDoor.Co
