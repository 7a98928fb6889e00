/- Contracts of package coded, part 7. -/
import Derived.Test.YtkdjibejnncmfaaGreatDoorB6
import Derived.Sort.Grow
import Derived.Deep.Draws
import Derived.RangeFuncGives
import Derived.RangeFuncSeq
import Derived.Sort.MapsRangeIn
import Derived.WalkKit
import Derived.OwnWalkIn
import Derived.TacticsInMore
import Derived.RegionIn
import Derived.LoopNIn
import Derived.LoopIn
import Derived.Maps.AppendAt
import Derived.Shelf.Abstract
import Derived.Shelf.SlSortCmp.WholeK
import Derived.Ground.SlsfProg
import Derived.Test.YtkdjibejnncmfaaGreatDoorProg
import Derived.Shelf.SlSortCmp.NoneTotal
/- The walk of Save. -/
namespace Go.Proofs.YtkdjibejnncmfaaGreatDoor.Co
open Go.RowKit Go.Proofs.YtkdjibejnncmfaaGreatDoorW.PrintWords Go.Proofs.YtkdjibejnncmfaaGreatDoorW.PrintLast Go.Proofs.YtkdjibejnncmfaaGreatDoorW.PrintMore
set_option linter.unusedVariables false
set_option linter.unusedSimpArgs false
set_option maxRecDepth 100000
/-- What Save answers, and what it leaves. -/
def saveF (n m : Nat) (D : DS) (V : VS) (s : ByteArray) : Int × DS × VS :=
  if downF D V then (91, D, V) else
    if roomF m V.enough < s.size then (2, D, V) else
      if 1099511627776 < nextF D n m V.life then (92, D, V) else
        if (allF n m D (imageF n m s (nextF D n m V.life) V.enough)).2 = 0 then (0, (allF n m D (imageF n m s (nextF D n m V.life) V.enough)).1, { V with text := s, life := nextF D n m V.life })
        else ((allF n m D (imageF n m s (nextF D n m V.life) V.enough)).2, (allF n m D (imageF n m s (nextF D n m V.life) V.enough)).1, V)
theorem room_needed {m k len : Nat} (hk : 1 ≤ k) (hm : 2 ≤ m) (h : len ≤ roomF m k) : neededF len k ≤ m / 2 := by
  unfold roomF at h
  unfold neededF
  have h1 : len ≤ 40 * k * (m / 2) - 4 := Nat.le_trans h (Nat.min_le_left _ _)
  have h2 : 1 ≤ m / 2 := by omega
  have h3 : 40 ≤ 40 * k * (m / 2) := by
    calc 40 = 40 * 1 * 1 := rfl
      _ ≤ 40 * k * (m / 2) := Nat.mul_le_mul (Nat.mul_le_mul_left 40 hk) h2
  have h4 : 4 + len + 40 * k - 1 < 40 * k * (m / 2 + 1) := by
    rw [Nat.mul_add, Nat.mul_one]
    omega
  have h5 : (4 + len + 40 * k - 1) / (40 * k) < m / 2 + 1 := (Nat.div_lt_iff_lt_mul (by omega)).2 (by rw [Nat.mul_comm (m / 2 + 1)]; exact h4)
  omega
theorem nextF_le {D : DS} {n m vl : Nat} (h : vl ≤ 1099511627776) : nextF D n m vl ≤ 1099511627778 := by
  have := lifeMax_le (D := D) (n := n) (m := m) h
  unfold nextF
  split <;> omega
theorem nextF_pos {D : DS} {n m vl : Nat} : 1 ≤ nextF D n m vl := by
  unfold nextF
  split <;> omega
theorem Fr.more {d : Nat} {B : List Nat} {w w' : World} (h : Fr d B w w') (v : Nat) : Fr d (v :: B) w w' :=
  ⟨h.os, h.tape, h.output, h.size, fun i hi h1 h2 => h.block i hi h1 (fun hm => h2 (List.mem_cons_of_mem _ hm))⟩
theorem DAt.far {w : World} {d P c m : Nat} {B : List Nat} {D : DS} (h : DAt w d P B c m D) {p : Addr} (h1 : d ≠ p.block) (h2 : P ≠ p.block) (h3 : p.block ∉ B) (x : Value) : DAt (w.setCell p x) d P B c m D :=
  { h with
    box := h.box.far h1 x
    rows := by obtain ⟨cs, hb, hr⟩ := h.rows; exact ⟨cs, hb.far h2 x, hr⟩
    disk := fun i b l hb hl => (h.disk i b l hb hl).far (fun e => h3 (e ▸ List.mem_of_getElem? hb)) x }
/-- A vault's block is none of the disks'. -/
theorem VAt.ne {w : World} {v d d' P c m : Nat} {B : List Nat} {D : DS} {V : VS} (h : VAt w v d' V) (hD : DAt w d P B c m D) : v ≠ d ∧ v ≠ P ∧ v ∉ B := by
  refine ⟨h.box.ne hD.box (by decide), ?_, fun hm => ?_⟩
  · obtain ⟨cs, h1, _⟩ := hD.rows
    exact h.box.ne h1 (by decide)
  · obtain ⟨i, hi, rfl⟩ := List.getElem_of_mem hm
    have := hD.dsk i hi
    rw [List.getD_eq_getElem?_getD, List.getElem?_eq_getElem hi] at this
    exact h.box.ne this (by decide) rfl
def SaveP (v d P c m : Nat) (B : List Nat) (sv : Int × DS × VS) (w : World) (e : Ending) (w' : World) : Prop :=
  e = .returned (.int .i64 sv.1) ∧ DAt w' d P B c m sv.2.1 ∧ VAt w' v d sv.2.2 ∧ Fr d (v :: B) w w'
set_option maxHeartbeats 4000000 in
theorem Save_any {v d P c m : Nat} {B : List Nat} {D : DS} {V : VS} (s : ByteArray) (w : World) (h : VAt w v d V) (hD : DAt w d P B c m D) (hV : VOk B.length m V) (hs : s.size ≤ 1000000000) (hfa : 0 ≤ D.falls) (hfb : D.falls < 9223372036854775807) :
    Calls Tryz.prog 42 #[.pointer (some ⟨v, 0, none⟩), .string s] w (SaveP v d P c m B (saveF B.length m D V s) w) := by
  have H := Lib.hid h
  have HD := Lib.hid hD
  have HDN := Lib.hid (down_any w h hD)
  have HNE := Lib.hid (h.ne hD)
  have hmost := hD.most
  have hfew := hD.few
  have htwo := hD.two
  have hen := hV.e1
  have hen2 := hV.e2
  have hli := hV.l2
  clear hV
  have HRM : Hid (∀ W, Below w.heap.size w W → Calls Tryz.prog 40 #[.pointer (some ⟨v, 0, none⟩)] W fun e w' => e = .returned (.int .i64 (roomF m V.enough : Nat)) ∧ Below W.heap.size W w') := Lib.hid (fun W hW => Room_any W (h.below hW) (hD.below hW) hen)
  have HNX : Hid (∀ W, Below w.heap.size w W → Calls Tryz.prog 97 #[.pointer (some ⟨v, 0, none⟩)] W fun e w' => e = .returned (.int .i64 (nextF D B.length m V.life : Nat)) ∧ Below W.heap.size W w') := Lib.hid (fun W hW => next_any W (h.below hW) (hD.below hW) hli)
  have hnx := nextF_le (D := D) (n := B.length) (m := m) hli
  have hnp := nextF_pos (D := D) (n := B.length) (m := m) (vl := V.life)
  cases hd : downF D V with
  | true =>
    rw [hd] at HDN
    have HR : Hid (saveF B.length m D V s = (91, D, V)) := Lib.hid (by unfold saveF; rw [hd]; rfl)
    clear hd h hD
    go_enter Tryz.func42, Tryz.ntmps42
    go_wp2_with (go_at_call 96; refine HDN.out.mono ?_; rintro e w2 ⟨rfl, hb2⟩; have HB2 := Lib.hid hb2; clear hb2)
    go_ret
    exact ⟨by rw [HR.out] <;> rfl, by rw [HR.out]; exact HD.out.below HB2.out, by rw [HR.out]; exact H.out.below HB2.out, (Fr.of_below HB2.out)⟩
  | false =>
    rw [hd] at HDN
    obtain ⟨rm, hrm⟩ : ∃ rm, rm = roomF m V.enough := ⟨_, rfl⟩
    obtain ⟨nx, hnx'⟩ : ∃ nx, nx = nextF D B.length m V.life := ⟨_, rfl⟩
    have HR : Hid (saveF B.length m D V s = if rm < s.size then (2, D, V) else if 1099511627776 < nx then (92, D, V) else
        if (allF B.length m D (imageF B.length m s nx V.enough)).2 = 0 then (0, (allF B.length m D (imageF B.length m s nx V.enough)).1, { V with text := s, life := nx })
        else ((allF B.length m D (imageF B.length m s nx V.enough)).2, (allF B.length m D (imageF B.length m s nx V.enough)).1, V)) := Lib.hid (by unfold saveF; rw [hd, ← hrm, ← hnx']; rfl)
    have HRN : Hid (s.size ≤ rm → neededF s.size V.enough ≤ m / 2) := Lib.hid (fun hle => room_needed hen htwo (by rw [← hrm]; exact hle))
    rw [← hrm] at HRM
    rw [← hnx'] at HNX hnx hnp
    clear hd hrm hnx'
    by_cases hlen : rm < s.size
    · have HR2 : Hid (saveF B.length m D V s = (2, D, V)) := Lib.hid (by rw [HR.out, if_pos hlen])
      clear h hD
      go_enter Tryz.func42, Tryz.ntmps42
      go_wp2_with (first
        | (go_at_call 96; refine HDN.out.mono ?_; rintro e w2 ⟨rfl, hb2⟩; have HB2 := Lib.hid hb2; clear hb2)
        | (go_at_call 40; refine (HRM.out _ HB2.out).mono ?_; rintro e w3 ⟨rfl, hb3⟩; have HB3 := Lib.hid (belt HB2.out hb3); clear hb3))
      go_ret
      exact ⟨by rw [HR2.out] <;> rfl, by rw [HR2.out]; exact HD.out.below HB3.out, by rw [HR2.out]; exact H.out.below HB3.out, (Fr.of_below HB3.out)⟩
    · have hle : s.size ≤ rm := by omega
      have hned := HRN.out hle
      by_cases hbig : 1099511627776 < nx
      · have HR2 : Hid (saveF B.length m D V s = (92, D, V)) := Lib.hid (by rw [HR.out, if_neg hlen, if_pos hbig])
        clear h hD
        go_enter Tryz.func42, Tryz.ntmps42
        go_wp2_with (first
          | (go_at_call 96; refine HDN.out.mono ?_; rintro e w2 ⟨rfl, hb2⟩; have HB2 := Lib.hid hb2; clear hb2)
          | (go_at_call 40; refine (HRM.out _ HB2.out).mono ?_; rintro e w3 ⟨rfl, hb3⟩; have HB3 := Lib.hid (belt HB2.out hb3); clear hb3)
          | (go_at_call 97; refine (HNX.out _ HB3.out).mono ?_; rintro e w4 ⟨rfl, hb4⟩; have HB4 := Lib.hid (belt HB3.out hb4); clear hb4))
        go_ret
        exact ⟨by rw [HR2.out] <;> rfl, by rw [HR2.out]; exact HD.out.below HB4.out, by rw [HR2.out]; exact H.out.below HB4.out, Fr.of_below HB4.out⟩
      · obtain ⟨im, him⟩ : ∃ im, im = imageF B.length m s nx V.enough := ⟨_, rfl⟩
        obtain ⟨r, hr⟩ : ∃ r, r = allF B.length m D im := ⟨_, rfl⟩
        have HR1 : Hid (saveF B.length m D V s = if r.2 = 0 then (0, r.1, { V with text := s, life := nx }) else (r.2, r.1, V)) := Lib.hid (by rw [HR.out, if_neg hlen, if_neg hbig, ← him, ← hr])
        have HLI : Hid (im.length ≤ 6144) := Lib.hid (by rw [him]; exact image_len_le hmost hfew hned)
        have HIM : Hid (∀ W, Below w.heap.size w W → Calls Tryz.prog 94 #[.pointer (some ⟨d, 0, none⟩), .string s, .int .i64 nx, .int .i64 V.enough] W fun e w' => ∃ u, e = .returned u ∧ PL w' W.heap.size u im ∧ Below W.heap.size W w') := Lib.hid (fun W hW => by
          rw [him]
          exact image_pl s nx V.enough W (hD.below hW) hen hen2 (by omega) hned)
        have HAL : Hid (∀ W base u, Below w.heap.size w W → w.heap.size ≤ base → PL W base u im → Calls Tryz.prog 93 #[.pointer (some ⟨d, 0, none⟩), u] W fun e w' => e = .returned (.int .i64 r.2) ∧ DAt w' d P B c m r.1 ∧ Fr d B w w') := Lib.hid (fun W base u hW hb hp => by
          rw [hr]
          refine (all_pl base u _ W (hD.below hW) hp (by have := HLI.out; omega) (by have := hD.lt_d; omega) (fun b hb2 => by have := hD.B_lt b hb2; omega) hfa hfb).mono ?_
          rintro e w' ⟨h1, h2, h3⟩
          exact ⟨h1, h2, (Fr.of_below hW).trans h3⟩)
        obtain ⟨en, hen'⟩ : ∃ en, en = V.enough := ⟨_, rfl⟩
        have g0 : ∀ W, Below w.heap.size w W → W.cell? ⟨v, 0, none⟩ = some (.pointer (some ⟨d, 0, none⟩)) := fun W hW => (H.out.below hW).g0
        have g4 : ∀ W, Below w.heap.size w W → W.cell? ⟨v, 4, none⟩ = some (.int .i64 en) := fun W hW => by rw [hen']; exact (H.out.below hW).g4
        rw [← hen'] at HIM
        have HEN := Lib.hid hen'
        have HG0 := Lib.hid g0
        have HG4 := Lib.hid g4
        clear h hD him hr hen' g0 g4 HR HRN
        go_enter Tryz.func42, Tryz.ntmps42
        go_upto_region 8 with (first
          | (go_at_call 96; refine HDN.out.mono ?_; rintro e w2 ⟨rfl, hb2⟩; have HB2 := Lib.hid hb2; clear hb2)
          | (go_at_call 40; refine (HRM.out _ HB2.out).mono ?_; rintro e w3 ⟨rfl, hb3⟩; have HB3 := Lib.hid (belt HB2.out hb3); clear hb3)
          | (go_at_call 97; refine (HNX.out _ HB3.out).mono ?_; rintro e w4 ⟨rfl, hb4⟩; have HB4 := Lib.hid (belt HB3.out hb4); clear hb4))
        have q0 : w4.drew.cell? ⟨v, 0, none⟩ = some (.pointer (some ⟨d, 0, none⟩)) := HG0.out w4 HB4.out
        have q4 : w4.drew.cell? ⟨v, 4, none⟩ = some (.int .i64 en) := HG4.out w4 HB4.out
        have HB4' := Lib.hid HB4.out.drew
        go_region_held3 (fun W => W.cell? ⟨v, 0, none⟩ = some (.pointer (some ⟨d, 0, none⟩)) ∧ W.cell? ⟨v, 4, none⟩ = some (.int .i64 en)) (first | exact ⟨q0, q4⟩ | exact ⟨q02, q42⟩ | exact ⟨q03, q43⟩ | assumption) (first
          | ((go_at_call 94; refine (HIM.out _ HB4'.out).mono ?_; rintro e w5 ⟨u, rfl, hP5, hb5⟩; have HP5 := Lib.hid hP5; have HB5 := Lib.hid (belt HB4'.out hb5); have q02 := HG0.out w5 HB5.out; have q42 := HG4.out w5 HB5.out; clear hP5 hb5))
          | ((go_at_call 93; refine (HAL.out _ _ _ HB5.out (by exact HB4'.out.size) HP5.out).mono ?_; rintro e w6 ⟨rfl, hD6, hf6⟩; have HD6 := Lib.hid hD6; have HF6 := Lib.hid hf6; have hv6 := H.out.fr hf6 HNE.out.1 HNE.out.2.2; have q03 := hv6.g0; have q43 : w6.cell? ⟨v, 4, none⟩ = some (.int .i64 en) := HEN.out.symm ▸ hv6.g4; clear hD6 hf6 hv6)))
        have hv6 := H.out.fr HF6.out HNE.out.1 HNE.out.2.2
        have HV6 := Lib.hid hv6
        by_cases hr0 : r.2 = 0
        · have HR3 : Hid (saveF B.length m D V s = (0, r.1, { V with text := s, life := nx })) := Lib.hid (by rw [HR1.out, if_pos hr0])
          have e0 : ((r.2 : Int) == 0) = true := by simpa using hr0
          have hb1 := hv6.box.set 2 (.string s)
          have hb2 := hb1.set 3 (.int .i64 nx)
          have f1 : w6.cell? ⟨v, 2, none⟩ = some (.string V.text) := hv6.g2
          have f2 : (w6.setCell ⟨v, 2, none⟩ (.string s)).cell? ⟨v, 3, none⟩ = some (.int .i64 V.life) := hb1.cell 3
          have fz1 := hv6.box.frozen 2
          have fz2 := hb1.frozen 3
          have HB := Lib.hid hb2
          obtain ⟨tx, htx⟩ : ∃ tx, tx = V.text := ⟨_, rfl⟩
          obtain ⟨li, hli'⟩ : ∃ li, li = V.life := ⟨_, rfl⟩
          rw [← htx] at f1
          rw [← hli'] at f2
          clear hb1 hb2 hv6 htx hli' hr0
          go_wp2_with fail
          go_ret
          refine ⟨by rw [HR3.out] <;> rfl, ?_, ?_, ((HF6.out.more v).set _ _ (.inr List.mem_cons_self)).set _ _ (.inr List.mem_cons_self)⟩
          · rw [HR3.out]
            exact (HD6.out.far (p := ⟨v, 2, none⟩) (Ne.symm HNE.out.1) (Ne.symm HNE.out.2.1) HNE.out.2.2 _).far (p := ⟨v, 3, none⟩) (Ne.symm HNE.out.1) (Ne.symm HNE.out.2.1) HNE.out.2.2 _
          · rw [HR3.out]
            exact ⟨HB.out, H.out.en, by show nx ≤ 1099511627776; omega⟩
        · have HR3 : Hid (saveF B.length m D V s = (r.2, r.1, V)) := Lib.hid (by rw [HR1.out, if_neg hr0])
          have e0 : ((r.2 : Int) == 0) = false := by simpa using hr0
          clear hr0 hv6
          go_wp2_with fail
          go_ret
          exact ⟨by rw [HR3.out] <;> rfl, by rw [HR3.out]; exact HD6.out, by rw [HR3.out]; exact HV6.out, HF6.out.more v⟩
end Go.Proofs.YtkdjibejnncmfaaGreatDoor.Co

/- The walks of cmp.Compare and cmp.Or, and of best's closure. -/
namespace Go.Proofs.YtkdjibejnncmfaaGreatDoor.Co
open Go.RowKit Go.Sort Go.Proofs.YtkdjibejnncmfaaGreatDoorW.PrintWords Go.Proofs.YtkdjibejnncmfaaGreatDoorW.PrintLast Go.Proofs.YtkdjibejnncmfaaGreatDoorW.PrintMore
set_option linter.unusedVariables false
set_option linter.unusedSimpArgs false
set_option maxRecDepth 100000
theorem isNaN_any (a : Int) (w : World) : Calls Tryz.prog 154 #[.int .i64 a] w fun e w' => e = .returned (.bool false) ∧ w = w' := by
  go_enter Tryz.func154, Tryz.ntmps154
  go_wp2_with fail
  go_ret
  exact ⟨by simp, rfl⟩
def cmpI (a b : Int) : Int := if a < b then -1 else if b < a then 1 else 0
theorem compare_any (a b : Int) (w : World) : Calls Tryz.prog 139 #[.int .i64 a, .int .i64 b] w fun e w' => e = .returned (.int .i64 (cmpI a b)) ∧ w = w' := by
  have HN : Hid (∀ (a : Int) (w : World), Calls Tryz.prog 154 #[.int .i64 a] w fun e w' => e = .returned (.bool false) ∧ w = w') := Lib.hid isNaN_any
  have HC : Hid (cmpI a b = if a < b then -1 else if b < a then 1 else 0) := Lib.hid rfl
  by_cases h1 : a < b
  · have HD : Hid (cmpI a b = -1) := Lib.hid (by rw [HC.out, if_pos h1])
    go_enter Tryz.func139, Tryz.ntmps139
    go_wp2_with (go_at_call 154; refine (HN.out _ _).mono ?_; rintro e w' ⟨rfl, rfl⟩)
    go_ret
    exact ⟨by rw [HD.out] <;> rfl, rfl⟩
  · by_cases h2 : b < a
    · have HD : Hid (cmpI a b = 1) := Lib.hid (by rw [HC.out, if_neg h1, if_pos h2])
      go_enter Tryz.func139, Tryz.ntmps139
      go_wp2_with (go_at_call 154; refine (HN.out _ _).mono ?_; rintro e w' ⟨rfl, rfl⟩)
      go_ret
      exact ⟨by rw [HD.out] <;> rfl, rfl⟩
    · have HD : Hid (cmpI a b = 0) := Lib.hid (by rw [HC.out, if_neg h1, if_neg h2])
      go_enter Tryz.func139, Tryz.ntmps139
      go_wp2_with (go_at_call 154; refine (HN.out _ _).mono ?_; rintro e w' ⟨rfl, rfl⟩)
      go_ret
      exact ⟨by rw [HD.out] <;> rfl, rfl⟩
/-- The first number that is not 0. -/
def orF : List Int → Int
  | [] => 0
  | x :: l => if x = 0 then orF l else x
theorem orF_at (l : List Int) : ∀ k, k < l.length → (∀ i, i < k → rd l i = 0) → rd l k ≠ 0 → orF l = rd l k := by
  induction l with
  | nil => intro k hk; simp at hk
  | cons x l ih =>
    intro k hk h h2
    cases k with
    | zero =>
      have h2' : x ≠ 0 := h2
      unfold orF; rw [if_neg h2']; rfl
    | succ k =>
      have h0 : x = 0 := h 0 (by omega)
      unfold orF
      rw [if_pos h0]
      exact ih k (by simpa using hk) (fun i hi => h (i + 1) (by omega)) h2
theorem orF_zero (l : List Int) : (∀ i, i < l.length → rd l i = 0) → orF l = 0 := by
  induction l with
  | nil => intro _; rfl
  | cons x l ih =>
    intro h
    have h0 : x = 0 := h 0 (by simp)
    unfold orF
    rw [if_pos h0]
    exact ih fun i hi => h (i + 1) (by simpa using hi)
set_option maxHeartbeats 1000000 in
theorem or_any (l : List Int) (b c : Nat) (w : World) (hc : ∀ i, i < l.length → w.cell? ⟨b, i, none⟩ = some (.int .i64 (rd l i))) (hl : l.length ≤ c) (hl2 : l.length ≤ 100) :
    Calls Tryz.prog 138 #[.slice (some ⟨b, 0, none⟩) l.length c] w fun e w' => e = .returned (.int .i64 (orF l)) ∧ w = w' := by
  have HC := Lib.hid hc
  clear hc
  have hlc : ((l.length : Nat) : Int) ≤ (c : Int) := by omega
  go_enter Tryz.func138, Tryz.ntmps138
  go_wp2_with fail
  go_loopw [8] (fun j wr => ∃ k : Nat, k ≤ l.length ∧ j = .int .i64 k ∧ Hid (∀ i, i < k → rd l i = 0) ∧ w = wr) (fun j _ => l.length - (intOf j).toNat)
  case atStart => exact ⟨0, Nat.zero_le _, rfl, Lib.hid (fun i hi => by omega), rfl⟩
  case round =>
    obtain ⟨k, hk, rfl, HZ, rfl⟩ := hrel
    by_cases hlt : k < l.length
    · have hcell := HC.out k hlt
      obtain ⟨x, hx⟩ : ∃ x, x = rd l k := ⟨_, rfl⟩
      rw [← hx] at hcell
      have HX := Lib.hid hx
      clear hx
      by_cases hx0 : x = 0
      · subst hx0
        go_wp2_with fail
        go_roundw
        case rel =>
          refine ⟨k + 1, by omega, by simp, Lib.hid (fun i hi => ?_), by first | rfl | trivial⟩
          by_cases hik : i = k
          · rw [hik]; exact HX.out.symm
          · exact HZ.out i (by omega)
        case measure => simp [intOf]; omega
      · have e0 : (x == 0) = false := by simpa using hx0
        go_wp2_with fail
        go_ret
        exact ⟨by rw [orF_at l k hlt HZ.out (by rw [← HX.out]; exact hx0), ← HX.out] <;> rfl, rfl⟩
    · have hkl : k = l.length := by omega
      subst hkl
      go_wp2_with fail
      go_ret
      exact ⟨by rw [orF_zero l HZ.out] <;> rfl, rfl⟩
def kcmp (x y : Int × Int × Int) : Int := orF [cmpI y.1 x.1, cmpI x.2.1 y.2.1, cmpI x.2.2 y.2.2]
set_option maxHeartbeats 2000000 in
theorem best1_any (x y : Int × Int × Int) (W : World) : Calls Tryz.prog 137 #[.agg #[.int .i64 x.1, .int .i64 x.2.1, .int .i64 x.2.2], .agg #[.int .i64 y.1, .int .i64 y.2.1, .int .i64 y.2.2]] W fun e w' => e = .returned (.int .i64 (kcmp x y)) ∧ ∃ q os', w' = grow (W.drewN q) os' := by
  have HC : Hid (∀ (a b : Int) (w : World), Calls Tryz.prog 139 #[.int .i64 a, .int .i64 b] w fun e w' => e = .returned (.int .i64 (cmpI a b)) ∧ w = w') := Lib.hid compare_any
  obtain ⟨x1, x2, x3⟩ := x
  obtain ⟨y1, y2, y3⟩ := y
  have HK : Hid (kcmp (x1, x2, x3) (y1, y2, y3) = orF [cmpI y1 x1, cmpI x2 y2, cmpI x3 y3]) := Lib.hid rfl
  obtain ⟨r1, hr1⟩ : ∃ r1, r1 = cmpI y1 x1 := ⟨_, rfl⟩
  obtain ⟨r2, hr2⟩ : ∃ r1, r1 = cmpI x2 y2 := ⟨_, rfl⟩
  obtain ⟨r3, hr3⟩ : ∃ r1, r1 = cmpI x3 y3 := ⟨_, rfl⟩
  have HC1 : Hid (∀ (w : World), Calls Tryz.prog 139 #[.int .i64 y1, .int .i64 x1] w fun e w' => e = .returned (.int .i64 r1) ∧ w = w') := Lib.hid (by rw [hr1]; exact HC.out y1 x1)
  have HC2 : Hid (∀ (w : World), Calls Tryz.prog 139 #[.int .i64 x2, .int .i64 y2] w fun e w' => e = .returned (.int .i64 r2) ∧ w = w') := Lib.hid (by rw [hr2]; exact HC.out x2 y2)
  have HC3 : Hid (∀ (w : World), Calls Tryz.prog 139 #[.int .i64 x3, .int .i64 y3] w fun e w' => e = .returned (.int .i64 r3) ∧ w = w') := Lib.hid (by rw [hr3]; exact HC.out x3 y3)
  rw [← hr1, ← hr2, ← hr3] at HK
  clear hr1 hr2 hr3 HC
  go_enter Tryz.func137, Tryz.ntmps137
  go_upto_region 1 with fail
  obtain ⟨W0, hW0⟩ : ∃ W0, W0 = (W.alloc (Obj.cells #[Value.int IntKind.i64 x1, Value.int IntKind.i64 x2, Value.int IntKind.i64 x3] 139)).alloc (Obj.cells #[Value.int IntKind.i64 y1, Value.int IntKind.i64 y2, Value.int IntKind.i64 y3] 139) := ⟨_, rfl⟩
  refine at_world (W0 := W0) _ hW0.symm ?_
  have hbx : Box W0 W.heap.size 139 #[Value.int IntKind.i64 x1, Value.int IntKind.i64 x2, Value.int IntKind.i64 x3] := by rw [hW0]; exact (Box.new _ _ _).alloc _
  have hby : Box W0 (W.heap.size + 1) 139 #[Value.int IntKind.i64 y1, Value.int IntKind.i64 y2, Value.int IntKind.i64 y3] := by
    rw [hW0]
    have := Box.new (W.alloc (Obj.cells #[Value.int IntKind.i64 x1, Value.int IntKind.i64 x2, Value.int IntKind.i64 x3] 139)) #[Value.int IntKind.i64 y1, Value.int IntKind.i64 y2, Value.int IntKind.i64 y3] 139
    rwa [show (W.alloc (Obj.cells #[Value.int IntKind.i64 x1, Value.int IntKind.i64 x2, Value.int IntKind.i64 x3] 139)).heap.size = W.heap.size + 1 by simp] at this
  have HX := Lib.hid hbx
  have HY := Lib.hid hby
  have HG : Hid (∃ os, W0 = grow W os) := Lib.hid ⟨_, by rw [hW0, alloc_eq_grow, alloc_eq_grow, grow_grow]⟩
  have c0 : W0.drew.cell? ⟨W.heap.size, 0, none⟩ = some (.int .i64 x1) := hbx.cell 0
  have c1 : W0.drew.cell? ⟨W.heap.size, 1, none⟩ = some (.int .i64 x2) := hbx.cell 1
  have c2 : W0.drew.cell? ⟨W.heap.size, 2, none⟩ = some (.int .i64 x3) := hbx.cell 2
  have d0 : W0.drew.cell? ⟨W.heap.size + 1, 0, none⟩ = some (.int .i64 y1) := hby.cell 0
  have d1 : W0.drew.cell? ⟨W.heap.size + 1, 1, none⟩ = some (.int .i64 y2) := hby.cell 1
  have d2 : W0.drew.cell? ⟨W.heap.size + 1, 2, none⟩ = some (.int .i64 y3) := hby.cell 2
  clear hbx hby hW0
  generalize hb2 : W.heap.size + 1 = b2 at c0 c1 c2 d0 d1 d2 HX HY ⊢
  generalize hb1 : W.heap.size = b1 at c0 c1 c2 d0 d1 d2 HX HY ⊢
  clear hb1 hb2
  have HS2 : Hid (((W0.drew.alloc (.cells #[.int .i64 r1, .int .i64 r2, .int .i64 r3] 3)).cell? ⟨b1, 0, none⟩ = some (.int .i64 x1) ∧ (W0.drew.alloc (.cells #[.int .i64 r1, .int .i64 r2, .int .i64 r3] 3)).cell? ⟨b1, 1, none⟩ = some (.int .i64 x2) ∧ (W0.drew.alloc (.cells #[.int .i64 r1, .int .i64 r2, .int .i64 r3] 3)).cell? ⟨b1, 2, none⟩ = some (.int .i64 x3)) ∧ (W0.drew.alloc (.cells #[.int .i64 r1, .int .i64 r2, .int .i64 r3] 3)).cell? ⟨b2, 0, none⟩ = some (.int .i64 y1) ∧ (W0.drew.alloc (.cells #[.int .i64 r1, .int .i64 r2, .int .i64 r3] 3)).cell? ⟨b2, 1, none⟩ = some (.int .i64 y2) ∧ (W0.drew.alloc (.cells #[.int .i64 r1, .int .i64 r2, .int .i64 r3] 3)).cell? ⟨b2, 2, none⟩ = some (.int .i64 y3)) := Lib.hid (by
    have hb : Below W0.drew.heap.size W0.drew (W0.drew.alloc (.cells #[.int .i64 r1, .int .i64 r2, .int .i64 r3] 3)) := below_al (Below.refl _ _) _
    exact ⟨⟨cell_below hb c0, cell_below hb c1, cell_below hb c2⟩, cell_below hb d0, cell_below hb d1, cell_below hb d2⟩)
  have HOR : Hid (Calls Tryz.prog 138 #[.slice (some ⟨W0.drew.heap.size, 0, none⟩) 3 3] (W0.drew.alloc (.cells #[.int .i64 r1, .int .i64 r2, .int .i64 r3] 3)) fun e w' => e = .returned (.int .i64 (orF [r1, r2, r3])) ∧ (W0.drew.alloc (.cells #[.int .i64 r1, .int .i64 r2, .int .i64 r3] 3)) = w') := Lib.hid (by
    have hb := Box.new W0.drew #[.int .i64 r1, .int .i64 r2, .int .i64 r3] 3
    exact or_any [r1, r2, r3] W0.drew.heap.size 3 _ (fun i hi => by
      rw [hb.cell i]
      match i, hi with
      | 0, _ => rfl
      | 1, _ => rfl
      | 2, _ => rfl) (by simp) (by simp))
  refine wp_region_held_drew (S := fun W' => (W'.cell? ⟨b1, 0, none⟩ = some (.int .i64 x1) ∧ W'.cell? ⟨b1, 1, none⟩ = some (.int .i64 x2) ∧ W'.cell? ⟨b1, 2, none⟩ = some (.int .i64 x3)) ∧ W'.cell? ⟨b2, 0, none⟩ = some (.int .i64 y1) ∧ W'.cell? ⟨b2, 1, none⟩ = some (.int .i64 y2) ∧ W'.cell? ⟨b2, 2, none⟩ = some (.int .i64 y3)) (by kernel_rfl) (by exact ⟨⟨c0, c1, c2⟩, d0, d1, d2⟩) (fun hS => ?_)
  refine wpAnyH_take (i := 0) (oi := { dst := some 5, op := Op.fieldAddr 139 (Operand.tmp 3) 0, type := 0, pos := "vault.go:219", after := #[], guard := none }) (v := ?v0) rfl (by kernel_rfl) (by kernel_rfl) (by kernel_rfl) (fun _ _ _ h => h) (Or.inl ⟨by rfl, ?y0⟩) hS ?r0
  case y0 =>
    intro w' hSw
    obtain ⟨⟨q1, q2, q3⟩, q4, q5, q6⟩ := hSw
    go_simp
    try with_reducible rfl
  try simp only [Act.put, List.setIfInBounds_toArray, List.set_cons_zero, List.set_cons_succ]
  refine wpAnyH_take (i := 1) (oi := { dst := some 6, op := Op.load 3 (Operand.tmp 5), type := 3, pos := "vault.go:219", after := #[{ on := 0, ground := Ground.data }], guard := none }) (v := ?v1) rfl (by kernel_rfl) (by kernel_rfl) (by kernel_rfl) (fun _ _ _ h => h) (Or.inl ⟨by rfl, ?y1⟩) hS ?r1
  case y1 =>
    intro w' hSw
    obtain ⟨⟨q1, q2, q3⟩, q4, q5, q6⟩ := hSw
    go_simp
    try with_reducible rfl
  try simp only [Act.put, List.setIfInBounds_toArray, List.set_cons_zero, List.set_cons_succ]
  refine wpAnyH_take (i := 2) (oi := { dst := some 7, op := Op.fieldAddr 139 (Operand.tmp 2) 0, type := 0, pos := "vault.go:219", after := #[], guard := none }) (v := ?v2) rfl (by kernel_rfl) (by kernel_rfl) (by kernel_rfl) (fun _ _ _ h => h) (Or.inl ⟨by rfl, ?y2⟩) hS ?r2
  case y2 =>
    intro w' hSw
    obtain ⟨⟨q1, q2, q3⟩, q4, q5, q6⟩ := hSw
    go_simp
    try with_reducible rfl
  try simp only [Act.put, List.setIfInBounds_toArray, List.set_cons_zero, List.set_cons_succ]
  refine wpAnyH_take (i := 3) (oi := { dst := some 8, op := Op.load 3 (Operand.tmp 7), type := 3, pos := "vault.go:219", after := #[{ on := 2, ground := Ground.data }], guard := none }) (v := ?v3) rfl (by kernel_rfl) (by kernel_rfl) (by kernel_rfl) (fun _ _ _ h => h) (Or.inl ⟨by rfl, ?y3⟩) hS ?r3
  case y3 =>
    intro w' hSw
    obtain ⟨⟨q1, q2, q3⟩, q4, q5, q6⟩ := hSw
    go_simp
    try with_reducible rfl
  try simp only [Act.put, List.setIfInBounds_toArray, List.set_cons_zero, List.set_cons_succ]
  refine wpAnyH_take (i := 5) (oi := { dst := some 10, op := Op.fieldAddr 139 (Operand.tmp 2) 1, type := 0, pos := "vault.go:219", after := #[], guard := none }) (v := ?v5) rfl (by kernel_rfl) (by kernel_rfl) (by kernel_rfl) (fun _ _ _ h => h) (Or.inl ⟨by rfl, ?y5⟩) hS ?r5
  case y5 =>
    intro w' hSw
    obtain ⟨⟨q1, q2, q3⟩, q4, q5, q6⟩ := hSw
    go_simp
    try with_reducible rfl
  try simp only [Act.put, List.setIfInBounds_toArray, List.set_cons_zero, List.set_cons_succ]
  refine wpAnyH_take (i := 6) (oi := { dst := some 11, op := Op.load 3 (Operand.tmp 10), type := 3, pos := "vault.go:219", after := #[{ on := 5, ground := Ground.data }], guard := none }) (v := ?v6) rfl (by kernel_rfl) (by kernel_rfl) (by kernel_rfl) (fun _ _ _ h => h) (Or.inl ⟨by rfl, ?y6⟩) hS ?r6
  case y6 =>
    intro w' hSw
    obtain ⟨⟨q1, q2, q3⟩, q4, q5, q6⟩ := hSw
    go_simp
    try with_reducible rfl
  try simp only [Act.put, List.setIfInBounds_toArray, List.set_cons_zero, List.set_cons_succ]
  refine wpAnyH_take (i := 7) (oi := { dst := some 12, op := Op.fieldAddr 139 (Operand.tmp 3) 1, type := 0, pos := "vault.go:219", after := #[], guard := none }) (v := ?v7) rfl (by kernel_rfl) (by kernel_rfl) (by kernel_rfl) (fun _ _ _ h => h) (Or.inl ⟨by rfl, ?y7⟩) hS ?r7
  case y7 =>
    intro w' hSw
    obtain ⟨⟨q1, q2, q3⟩, q4, q5, q6⟩ := hSw
    go_simp
    try with_reducible rfl
  try simp only [Act.put, List.setIfInBounds_toArray, List.set_cons_zero, List.set_cons_succ]
  refine wpAnyH_take (i := 8) (oi := { dst := some 13, op := Op.load 3 (Operand.tmp 12), type := 3, pos := "vault.go:219", after := #[{ on := 7, ground := Ground.data }], guard := none }) (v := ?v8) rfl (by kernel_rfl) (by kernel_rfl) (by kernel_rfl) (fun _ _ _ h => h) (Or.inl ⟨by rfl, ?y8⟩) hS ?r8
  case y8 =>
    intro w' hSw
    obtain ⟨⟨q1, q2, q3⟩, q4, q5, q6⟩ := hSw
    go_simp
    try with_reducible rfl
  try simp only [Act.put, List.setIfInBounds_toArray, List.set_cons_zero, List.set_cons_succ]
  refine wpAnyH_take (i := 10) (oi := { dst := some 15, op := Op.fieldAddr 139 (Operand.tmp 2) 2, type := 0, pos := "vault.go:219", after := #[], guard := none }) (v := ?v10) rfl (by kernel_rfl) (by kernel_rfl) (by kernel_rfl) (fun _ _ _ h => h) (Or.inl ⟨by rfl, ?y10⟩) hS ?r10
  case y10 =>
    intro w' hSw
    obtain ⟨⟨q1, q2, q3⟩, q4, q5, q6⟩ := hSw
    go_simp
    try with_reducible rfl
  try simp only [Act.put, List.setIfInBounds_toArray, List.set_cons_zero, List.set_cons_succ]
  refine wpAnyH_take (i := 11) (oi := { dst := some 16, op := Op.load 3 (Operand.tmp 15), type := 3, pos := "vault.go:219", after := #[{ on := 10, ground := Ground.data }], guard := none }) (v := ?v11) rfl (by kernel_rfl) (by kernel_rfl) (by kernel_rfl) (fun _ _ _ h => h) (Or.inl ⟨by rfl, ?y11⟩) hS ?r11
  case y11 =>
    intro w' hSw
    obtain ⟨⟨q1, q2, q3⟩, q4, q5, q6⟩ := hSw
    go_simp
    try with_reducible rfl
  try simp only [Act.put, List.setIfInBounds_toArray, List.set_cons_zero, List.set_cons_succ]
  refine wpAnyH_take (i := 12) (oi := { dst := some 17, op := Op.fieldAddr 139 (Operand.tmp 3) 2, type := 0, pos := "vault.go:219", after := #[], guard := none }) (v := ?v12) rfl (by kernel_rfl) (by kernel_rfl) (by kernel_rfl) (fun _ _ _ h => h) (Or.inl ⟨by rfl, ?y12⟩) hS ?r12
  case y12 =>
    intro w' hSw
    obtain ⟨⟨q1, q2, q3⟩, q4, q5, q6⟩ := hSw
    go_simp
    try with_reducible rfl
  try simp only [Act.put, List.setIfInBounds_toArray, List.set_cons_zero, List.set_cons_succ]
  refine wpAnyH_take (i := 13) (oi := { dst := some 18, op := Op.load 3 (Operand.tmp 17), type := 3, pos := "vault.go:219", after := #[{ on := 12, ground := Ground.data }], guard := none }) (v := ?v13) rfl (by kernel_rfl) (by kernel_rfl) (by kernel_rfl) (fun _ _ _ h => h) (Or.inl ⟨by rfl, ?y13⟩) hS ?r13
  case y13 =>
    intro w' hSw
    obtain ⟨⟨q1, q2, q3⟩, q4, q5, q6⟩ := hSw
    go_simp
    try with_reducible rfl
  try simp only [Act.put, List.setIfInBounds_toArray, List.set_cons_zero, List.set_cons_succ]
  refine wpAnyH_all (rs := [4]) (by kernel_rfl) (by decide) ?_
  intro i hi
  rw [List.mem_singleton] at hi
  subst hi
  refine wpOp_step (o := { dst := some 9, op := Op.call { callee := Callee.value (Operand.func 139), args := #[Operand.tmp 6, Operand.tmp 8], argTypes := #[3, 3] }, type := 3, pos := "vault.go:219", after := #[{ on := 1, ground := Ground.data }, { on := 3, ground := Ground.data }], guard := none }) rfl (fun K hK => ?_)
  rw [if_pos (by rfl)]
  go_simp
  refine (HC1.out _).mono ?_
  rintro e w' ⟨rfl, rfl⟩
  refine hK _ _ ⟨hS, ?_⟩
  clear hK K
  try simp only [Act.put, List.setIfInBounds_toArray, List.set_cons_zero, List.set_cons_succ]
  refine wpAnyH_all (rs := [9]) (by kernel_rfl) (by decide) ?_
  intro i hi
  rw [List.mem_singleton] at hi
  subst hi
  refine wpOp_step (o := { dst := some 14, op := Op.call { callee := Callee.value (Operand.func 139), args := #[Operand.tmp 11, Operand.tmp 13], argTypes := #[3, 3] }, type := 3, pos := "vault.go:219", after := #[{ on := 6, ground := Ground.data }, { on := 8, ground := Ground.data }, { on := 4, ground := Ground.chain }], guard := none }) rfl (fun K hK => ?_)
  rw [if_pos (by rfl)]
  go_simp
  refine (HC2.out _).mono ?_
  rintro e w' ⟨rfl, rfl⟩
  refine hK _ _ ⟨hS, ?_⟩
  clear hK K
  try simp only [Act.put, List.setIfInBounds_toArray, List.set_cons_zero, List.set_cons_succ]
  refine wpAnyH_all (rs := [14]) (by kernel_rfl) (by decide) ?_
  intro i hi
  rw [List.mem_singleton] at hi
  subst hi
  refine wpOp_step (o := { dst := some 19, op := Op.call { callee := Callee.value (Operand.func 139), args := #[Operand.tmp 16, Operand.tmp 18], argTypes := #[3, 3] }, type := 3, pos := "vault.go:219", after := #[{ on := 11, ground := Ground.data }, { on := 13, ground := Ground.data }, { on := 9, ground := Ground.chain }], guard := none }) rfl (fun K hK => ?_)
  rw [if_pos (by rfl)]
  go_simp
  refine (HC3.out _).mono ?_
  rintro e w' ⟨rfl, rfl⟩
  refine hK _ _ ⟨hS, ?_⟩
  clear hK K
  try simp only [Act.put, List.setIfInBounds_toArray, List.set_cons_zero, List.set_cons_succ]
  refine wpAnyH_all (rs := [15]) (by kernel_rfl) (by decide) ?_
  intro i hi
  rw [List.mem_singleton] at hi
  subst hi
  refine wpOp_step (o := { dst := some 20, op := Op.buildSlice 34 3 #[(0, Operand.tmp 9), (1, Operand.tmp 14), (2, Operand.tmp 19)], type := 34, pos := "vault.go:219", after := #[{ on := 4, ground := Ground.data }, { on := 9, ground := Ground.data }, { on := 14, ground := Ground.data }], guard := none }) rfl (fun K hK => ?_)
  rw [if_pos (by rfl)]
  go_simp
  refine hK _ _ ⟨?s15, ?_⟩
  case s15 => exact HS2.out
  clear hK K
  try simp only [Act.put, List.setIfInBounds_toArray, List.set_cons_zero, List.set_cons_succ]
  refine wpAnyH_all (rs := [16]) (by kernel_rfl) (by decide) ?_
  intro i hi
  rw [List.mem_singleton] at hi
  subst hi
  refine wpOp_step (o := { dst := some 21, op := Op.call { callee := Callee.value (Operand.func 138), args := #[Operand.tmp 20], argTypes := #[34] }, type := 3, pos := "vault.go:219", after := #[{ on := 15, ground := Ground.data }, { on := 14, ground := Ground.chain }], guard := none }) rfl (fun K hK => ?_)
  rw [if_pos (by rfl)]
  go_simp
  refine HOR.out.mono ?_
  rintro e w' ⟨rfl, rfl⟩
  refine hK _ _ ⟨HS2.out, ?_⟩
  clear hK K
  try simp only [Act.put, List.setIfInBounds_toArray, List.set_cons_zero, List.set_cons_succ]
  refine wpAnyH_all (rs := [17]) (by kernel_rfl) (by decide) ?_
  intro i hi
  rw [List.mem_singleton] at hi
  subst hi
  refine wpOp_step (o := { dst := some 4, op := Op.assign (Operand.tmp 21), type := 3, pos := "vault.go:219", after := #[{ on := 16, ground := Ground.data }, { on := 16, ground := Ground.chain }, { on := 0, ground := Ground.phase }, { on := 1, ground := Ground.phase }, { on := 2, ground := Ground.phase }, { on := 3, ground := Ground.phase }, { on := 4, ground := Ground.phase }, { on := 5, ground := Ground.phase }, { on := 6, ground := Ground.phase }, { on := 7, ground := Ground.phase }, { on := 8, ground := Ground.phase }, { on := 9, ground := Ground.phase }, { on := 10, ground := Ground.phase }, { on := 11, ground := Ground.phase }, { on := 12, ground := Ground.phase }, { on := 13, ground := Ground.phase }, { on := 14, ground := Ground.phase }, { on := 15, ground := Ground.phase }, { on := 16, ground := Ground.phase }], guard := none }) rfl (fun K hK => ?_)
  rw [if_pos (by rfl)]
  go_simp
  refine hK _ _ ⟨HS2.out, ?_⟩
  clear hK K
  try simp only [Act.put, List.setIfInBounds_toArray, List.set_cons_zero, List.set_cons_succ]
  refine wpAnyH_done (by kernel_rfl) ?_ _
  go_wp2_with fail
  go_ret
  obtain ⟨os, hos⟩ := HG.out
  exact ⟨by rw [HK.out] <;> rfl, 1, _, by rw [hos, alloc_eq_grow]; show grow (grow (W.drewN 1) os) _ = _; exact grow_grow _ _ _⟩
end Go.Proofs.YtkdjibejnncmfaaGreatDoor.Co

/- The walks of maps.Keys, slices.AppendSeq and slices.Collect, at kinds. -/
namespace Go.Proofs.YtkdjibejnncmfaaGreatDoor.Co
open Go.RowKit Go.Maps Go.Shelf Go.Proofs.YtkdjibejnncmfaaGreatDoorW.PrintWords Go.Proofs.YtkdjibejnncmfaaGreatDoorW.PrintLast Go.Proofs.YtkdjibejnncmfaaGreatDoorW.PrintMore
set_option linter.unusedVariables false
set_option linter.unusedSimpArgs false
set_option maxRecDepth 100000
/-- What has come so far of a map's kinds. -/
structure Came (F : FK) (left : Lit → Bool) (ss : List Kn) : Prop where
  nodup : ss.Nodup
  mem : ∀ x ∈ ss, OkK x ∧ F x ≠ [] ∧ left (klit x) = false
  all : ∀ x, F x ≠ [] → left (klit x) = false → x ∈ ss
theorem Came.step {F : FK} {left : Lit → Bool} {ss : List Kn} (h : Came F left ss) {x : Kn} (hx : OkK x) (hF : F x ≠ []) (hl : left (klit x) = true) (hok : ∀ x, F x ≠ [] → OkK x) :
    Came F (fun z => left z && !z.sameKey (klit x)) (ss ++ [x]) := by
  have hself : (klit x).sameKey (klit x) = true := by simp [klit, Lit.sameKey]
  refine ⟨?_, fun y hy => ?_, fun y hy hly => ?_⟩
  · rw [List.nodup_append]
    refine ⟨h.nodup, by simp, fun a ha b hb e => ?_⟩
    rw [List.mem_singleton] at hb
    subst hb
    subst e
    have := (h.mem a ha).2.2
    rw [hl] at this
    cases this
  · rcases List.mem_append.1 hy with hy | hy
    · obtain ⟨h1, h2, h3⟩ := h.mem y hy
      exact ⟨h1, h2, by simp [h3]⟩
    · rw [List.mem_singleton] at hy
      subst hy
      exact ⟨hx, hF, by simp [hself]⟩
  · cases hz : left (klit y) with
    | false => exact List.mem_append_left _ (h.all y hy hz)
    | true =>
      rw [hz] at hly
      have e : klit y = klit x := by
        have : (klit y).sameKey (klit x) = true := by simpa using hly
        simpa [klit, Lit.sameKey] using this
      rw [klit_inj (hok y hy) hx e]
      simp
/-- All kinds of a map, each once. -/
def KindsOf (F : FK) (ss : List Kn) : Prop := ss.Nodup ∧ ∀ x, x ∈ ss ↔ F x ≠ []
set_option maxHeartbeats 1000000 in
theorem keys1_in (F : Fence) (n : Nat) (h10 : F.fn 153) (hro : F.round = none) (hn : 1 ≤ n) (l Bm b nn : Nat) (D0 : DataW Value) (FF : FK) (hok : ∀ x, FF x ≠ [] → OkK x) (hhas : ∀ x, FF x ≠ [] → has D0 (klit x) = true)
    (hhas2 : ∀ kl, has D0 kl = true → ∃ x, OkK x ∧ kl = klit x ∧ FF x ≠ []) (J : List Kn → World → Prop)
    (hY : ∀ pre x W, J pre W → pre.length < Maps.size D0 → YieldAt F (n - 1) Tryz.prog l #[kV x] W fun e W' => e = .returned (.bool true) ∧ J (pre ++ [x]) W' ∧ KeepsWalks W W')
    (W : World) (hJ : AbidesFrom W.heap.size J) (hm : W.cell? ⟨Bm, 0, none⟩ = some (.map (some b))) (hown : W.ownsMap Tryz.prog 139 RH b nn D0) (h0 : J [] W) :
    CallsIn F n Tryz.prog 153 #[.func (.yield l) #[] #[], .pointer (some ⟨Bm, 0, none⟩)] W fun e W' => (∃ v, e = .returned v) ∧ ∃ ss : List Kn, KindsOf FF ss ∧ J ss W' := by
  have HOK := Lib.hid hok
  have HH := Lib.hid hhas
  have HH2 := Lib.hid hhas2
  have HY := Lib.hid hY
  have HJ := Lib.hid hJ
  clear hok hhas hhas2 hY hJ
  refine callsIn_of_wp Tryz.func153 rfl h10 ?_ hro
  simp only [Tryz.ntmps153, List.size_toArray, List.length_cons, List.length_nil, Nat.reduceAdd, Nat.reduceSub, Array.replicate_succ, Array.replicate_zero, List.push_toArray, List.append_toArray, List.nil_append, List.cons_append]
  gi_wp2_with (first
    | (gi_at_range; refine wpListIn_range_own _ rfl _ 176 rfl 139 166 law139 Tryz.underlying176 RH b nn _ rfl hown ?_; intro w0 hrg0 hg0 hs0)
    | gi_in)
  go_frame
  gi_loopw [3] (fun _ wr => ∃ (left : Lit → Bool) (cnt : Nat) (ss : List Kn), wr.ranges Tryz.prog 139 RH b W.heap.size nn D0 left cnt ∧ ss.length + cnt ≤ Maps.size D0 ∧ (∀ kl, left kl = true → has D0 kl = true) ∧ Came FF left ss ∧ J ss wr)
    (fun _ wr => wr.rangeLeft b W.heap.size)
  case atStart =>
    refine ⟨_, _, [], hrg0, by simp, fun _ h => h, ⟨by simp, by simp, fun x hx hl => ?_⟩, HJ.out [] W w0 none h0 hg0 (fun r e => by cases e)⟩
    rw [HH.out x hx] at hl
    cases hl
  case round =>
    obtain ⟨left, cnt, ss, hrg, hcs, hl, hC, hJs⟩ := hrel
    have HL := Lib.hid hl
    have HC := Lib.hid hC
    clear hl hC
    gi_wp2_with (first
      | (gi_at_next; refine wpListIn_next_ranges _ rfl _ rfl 139 law139 RH mkK id (fun key kl hk => kinv hk) (fun v y _ => ⟨v, rfl⟩) b W.heap.size nn _ _ _ rfl hrg ?_ ?_)
      | gi_in)
    · intro hc0 hl0
      have HL0 := Lib.hid hl0
      clear hl0
      gi_wp2
      go_end0
      exact ⟨⟨_, rfl⟩, ss, ⟨HC.out.nodup, fun x => ⟨fun hx => (HC.out.mem x hx).2.1, fun hx => HC.out.all x hx (HL0.out _)⟩⟩, hJs⟩
    · intro x1 x2 x3 c kl y1 y2 w2 cnt2 hkey hlk hry hry2 hat hrg2 hlt hg2 hs2 hen
      obtain ⟨x, hx1, rfl, hx2⟩ := HH2.out kl (HL.out kl hlk)
      obtain ⟨rfl, rfl, rfl⟩ : x1 = (x.1 : Int) ∧ x2 = (x.2.1 : Int) ∧ x3 = (x.2.2 : Int) := by
        have := key_of (x := (x1, x2, x3)) hkey hx1 rfl
        simpa using this
      have hJ2 : J ss w2 := HJ.out ss wr w2 (some W.heap.size) hJs hg2 (fun r e => by cases e; exact ⟨Nat.le_refl _, hrg.iter_walk⟩)
      have hJ3 : J ss (w2.alloc (.cells #[.int .i64 x.1, .int .i64 x.2.1, .int .i64 x.2.2] 139)) := HJ.out ss w2 _ none hJ2 (World.grownBy_alloc w2 _ none) (fun r e => by cases e)
      obtain ⟨fn, tmps, assign, body, hy, hR⟩ := HY.out ss x _ hJ3 (by omega)
      have hrl := hrg.left_eq
      have HRG3 := Lib.hid (hrg2.alloc (.cells #[.int .i64 x.1, .int .i64 x.2.1, .int .i64 x.2.2] 139))
      have HR := Lib.hid hR
      have HS := Lib.hid (HC.out.step hx1 hx2 hlk HOK.out)
      clear hs2 hat hrg2 hkey hry hry2 hJ2 hJ3 hrg hR hx2 hg2
      gi_wp2
      refine HR.out.mono ?_
      rintro e W3 ⟨rfl, hJ4, hk3⟩
      have hrg4 := HRG3.out.of_walks hk3
      have HRG4 := Lib.hid hrg4
      have HJ4 := Lib.hid hJ4
      clear hk3 hrg4 hJ4
      gi_wp2
      go_roundw
      case rel => exact ⟨_, cnt2, ss ++ [x], HRG4.out, by simp; omega, fun kl hk => HL.out kl (by simp at hk; exact hk.1), HS.out, HJ4.out⟩
      case measure => rw [HRG4.out.left_eq, hrl]; exact hlt
end Go.Proofs.YtkdjibejnncmfaaGreatDoor.Co

/- The walks of maps.Keys, slices.AppendSeq and slices.Collect, at kinds. (Turned from the worked proof GgCollectAtTheDump by wip/mk55.py.) -/
namespace Go.Proofs.YtkdjibejnncmfaaGreatDoor.Co
open Go.RowKit Go.Maps Go.Shelf Go.Proofs.YtkdjibejnncmfaaGreatDoorW.PrintWords Go.Proofs.YtkdjibejnncmfaaGreatDoorW.PrintLast Go.Proofs.YtkdjibejnncmfaaGreatDoorW.PrintMore
set_option linter.unusedVariables false
set_option linter.unusedSimpArgs false
set_option maxRecDepth 100000
section
attribute [local go_sem] Oper.semAt_some
set_option maxHeartbeats 1000000 in
theorem keys_in (F : Fence) (n : Nat) (h7 : F.fn 136) (hro : F.round = none) (mb : Option Nat) (w : World) :
    CallsIn F n Tryz.prog 136 #[.map mb] w fun e w' => e = .returned (.func (.func 153) #[] #[.pointer (some ⟨w.heap.size, 0, none⟩)]) ∧ w' = w.alloc (.cells #[.map mb] 176) := by
  refine callsIn_of_wp Tryz.func136 rfl h7 ?_ hro
  simp only [Tryz.ntmps136, List.size_toArray, List.length_cons, List.length_nil, Nat.reduceAdd, Nat.reduceSub, Array.replicate_succ, Array.replicate_zero, List.push_toArray, List.append_toArray, List.nil_append, List.cons_append]
  gi_wp2
  go_ret
  exact ⟨rfl, rfl⟩
theorem keys_gives (F : Fence) (n : Nat) (h10 : F.fn 153) (hro : F.round = none) (hn : 1 ≤ n) (Bm b nn : Nat) (D0 : DataW Value) (FF : FK) (hok : ∀ x, FF x ≠ [] → OkK x) (hhas : ∀ x, FF x ≠ [] → has D0 (klit x) = true)
    (hhas2 : ∀ kl, has D0 kl = true → ∃ x, OkK x ∧ kl = klit x ∧ FF x ≠ []) (w : World) (hBm : Bm < w.heap.size)
    (hm : w.cell? ⟨Bm, 0, none⟩ = some (.map (some b))) (hown : w.ownsMap Tryz.prog 139 RH b nn D0) :
    SeqGives F n Tryz.prog 153 #[.pointer (some ⟨Bm, 0, none⟩)] kV (KindsOf FF) (Maps.size D0) w := fun l J W hW hJ hY h0 => by
  have hown' : W.ownsMap Tryz.prog 139 RH b nn D0 := by
    have hbl := hown.lt
    obtain ⟨es, clock, hb, Ft, hs, hD⟩ := hown
    exact ⟨es, clock, (hW.block b hbl).trans hb, Ft, hs, hD⟩
  exact keys1_in F n h10 hro hn l Bm b nn D0 FF hok hhas hhas2 J hY W hJ ((hW.cell (p := ⟨Bm, 0, none⟩) hBm).trans hm) hown' h0
def kcells (x : Kn) : List Value := [.int .i64 x.1, .int .i64 x.2.1, .int .i64 x.2.2]
def flatK (ss : List Kn) : List Value := ss.flatMap kcells
def apAssign : Code := (Code.region 2 #[{ dst := some 5, op := Op.alloc 139, type := 0, pos := "iter.go:51", after := #[], guard := none }, { dst := none, op := Op.store 139 (Operand.tmp 5) (Operand.tmp 7), type := 0, pos := "iter.go:51", after := #[{ on := 0, ground := Ground.data }, { on := 0, ground := Ground.phase }], guard := none }] false)
def apBody : Code := (Code.block 1 (Code.region 3 #[{ dst := some 8, op := Op.load 178 (Operand.tmp 2), type := 178, pos := "iter.go:52", after := #[], guard := none }, { dst := some 9, op := Op.load 139 (Operand.tmp 5), type := 139, pos := "iter.go:52", after := #[], guard := none }, { dst := some 10, op := Op.buildSlice 178 1 #[(0, Operand.tmp 9)], type := 178, pos := "iter.go:52", after := #[{ on := 1, ground := Ground.data }], guard := none }, { dst := some 11, op := Op.call { callee := Callee.builtin Builtin.append, args := #[Operand.tmp 8, Operand.tmp 10], argTypes := #[178, 178] }, type := 178, pos := "iter.go:52", after := #[{ on := 0, ground := Ground.data }, { on := 2, ground := Ground.data }], guard := none }, { dst := none, op := Op.store 178 (Operand.tmp 2) (Operand.tmp 11), type := 0, pos := "iter.go:52", after := #[{ on := 3, ground := Ground.data }, { on := 3, ground := Ground.chain }, { on := 0, ground := Ground.phase }, { on := 1, ground := Ground.phase }, { on := 2, ground := Ground.phase }, { on := 3, ground := Ground.phase }], guard := none }] false))
def apRec (fn : FuncId) (sv : Value) (Bs D : Nat) (st : LoopState) (pend : Option Code) : Loop :=
  { state := st, pending := pend, fn, tmps := #[.slice none 0 0, sv, .pointer (some ⟨Bs, 0, none⟩), undef, .slice none 0 0, undef, sv, undef, undef, undef, undef, undef, undef], params := #[7], assign := apAssign, body := apBody, defers := D }
structure ApAt (w0 : World) (fn : FuncId) (sv : Value) (Bs l D : Nat) (ss : List Kn) (W : World) : Prop where
  box : ∃ v, W.heap[Bs]? = some (.cells #[v] 178 (0, 0)) ∧ W.ownsRow w0.heap.size 139 3 v ss.length (flatK ss) ∧ (v = .slice none 0 0 ↔ ss = [])
  L : W.heap[l]? = some (.loop (apRec fn sv Bs D .ready none))
  K : W.heap[D]? = some (.deferred (some []))
  below : Below w0.heap.size w0 W
/-- A slice's own row is no walk's object: it abides an iterator's step. -/
theorem ownsRow_abides {W W' : World} {row : Option Nat} {base : Nat} {e : TypeId} {size : Nat} {v : Value} {k : Nat} {xs : List Value} (h : W.ownsRow base e size v k xs) (hg : W.grownBy W' row)
    (hrow : ∀ r, row = some r → ∃ o : Obj, W.heap[r]? = some o ∧ o.isWalk = true) : W'.ownsRow base e size v k xs := by
  refine h.kept hg ?_
  rcases h.2 with ⟨rfl, _⟩ | ⟨g, cap, cur, rfl, _, hgb, _⟩
  · exact .inl rfl
  · refine .inr fun e' => ?_
    obtain ⟨o, ho, hw⟩ := hrow g (by simpa [Value.ownBlock] using e'.symm)
    rw [hgb] at ho; cases ho; cases hw

theorem ap_abides (w0 : World) (fn : FuncId) (sv : Value) (Bs l D B : Nat) (hB : w0.heap.size ≤ B) : AbidesFrom B (ApAt w0 fn sv Bs l D) := fun s W W' row h hg hrow => by
  have hrow' : ∀ r, row = some r → ∃ o : Obj, W.heap[r]? = some o ∧ o.isWalk = true := fun r e => (hrow r e).2
  obtain ⟨v, hv, hr, hn⟩ := h.box
  exact ⟨⟨v, (grownBy_keeps hg hrow' hv rfl).trans hv, ownsRow_abides hr hg hrow', hn⟩, (grownBy_keeps hg hrow' h.L rfl).trans h.L, (grownBy_keeps hg hrow' h.K rfl).trans h.K,
    h.below.grown hg h.below.size (fun k e => Nat.le_trans hB (hrow k e).1)⟩

theorem grownBy_putObj (W : World) (l : Nat) (o : Obj) : W.grownBy (W.putObj l o) (some l) :=
  ⟨rfl, rfl, rfl, by simp, fun k _ hk => World.putObj_heap_other (fun e => hk (by rw [e]))⟩
theorem grownBy_setCell0 (W : World) (b : Nat) (v : Value) : W.grownBy (W.setCell ⟨b, 0, none⟩ v) (some b) :=
  ⟨rfl, rfl, rfl, (KeepsWalks.setCell W _ v).size, fun k _ hk => Below.heap_setCell _ _ _ k (fun e => hk (by rw [e]))⟩
/-- A slice's own row is not a block that holds something else than cells of its element's type. -/
theorem ownsRow_ne {W : World} {base : Nat} {e : TypeId} {size : Nat} {v : Value} {k : Nat} {xs : List Value} (h : W.ownsRow base e size v k xs) {j : Nat} {o : Obj} (hj : W.heap[j]? = some o) (hno : ∀ cur, o ≠ .cells cur e (0, 0)) :
    v.ownBlock = none ∨ v.ownBlock ≠ some j := by
  rcases h.2 with ⟨rfl, _⟩ | ⟨g, cap, cur, rfl, _, hgb, _⟩
  · exact .inl rfl
  · refine .inr fun e' => ?_
    have : g = j := by simpa [Value.ownBlock] using e'
    subst this; rw [hgb] at hj; cases hj; exact hno cur rfl
theorem cell_of_box {W : World} {B : Nat} {v : Value} {t : TypeId} (h : W.heap[B]? = some (.cells #[v] t (0, 0))) : W.cell? ⟨B, 0, none⟩ = some v ∧ W.frozen? ⟨B, 0, none⟩ = false := by
  constructor <;> simp [World.cell?, World.frozen?, h]

theorem heap_setCell_box {W : World} {B : Nat} {v : Value} {t : TypeId} (v' : Value) (h : W.heap[B]? = some (.cells #[v] t (0, 0))) : (W.setCell ⟨B, 0, none⟩ v').heap[B]? = some (.cells #[v'] t (0, 0)) := by
  obtain ⟨hlt, hk⟩ := Array.getElem?_eq_some_iff.1 h
  show (W.heap.modify B _)[B]? = _
  rw [Array.getElem?_eq_getElem (by rw [Array.size_modify]; exact hlt), Array.getElem_modify_self, hk]
  rfl
theorem ownsRow_not_walk {W : World} {base : Nat} {e : TypeId} {size : Nat} {v : Value} {k : Nat} {xs : List Value} (h : W.ownsRow base e size v k xs) : ∀ (j : Nat) (o : Obj), v.ownBlock = some j → W.heap[j]? = some o → o.isWalk = false := by
  intro j o hj ho
  rcases h.2 with ⟨rfl, _⟩ | ⟨g, cap, cur, rfl, _, hgb, _⟩
  · simp [Value.ownBlock] at hj
  · have : g = j := by simpa [Value.ownBlock] using hj
    subst this; rw [hgb] at ho; cases ho; rfl

theorem info139 : (Tryz.prog.info? 139).map (fun i => (i.zero, i.size, i.bytes)) = some (some (.agg #[.int .i64 0, .int .i64 0, .int .i64 0]), 3, 24) := by kernel_rfl
theorem flatK_append (ss : List Kn) (x : Kn) : flatK (ss ++ [x]) = flatK ss ++ kcells x := by simp [flatK]
theorem flatK_length (ss : List Kn) : (flatK ss).length = ss.length * 3 := by
  induction ss with
  | nil => rfl
  | cons x l ih => simp only [flatK, List.flatMap_cons, List.length_append, List.length_cons] at ih ⊢; rw [ih]; simp [kcells]; omega
theorem kcells_new (w : World) (x : Kn) (j : Nat) (u : Value) (h : (kcells x)[j]? = some u) : (w.alloc (.cells #[.int .i64 x.1, .int .i64 x.2.1, .int .i64 x.2.2] 139)).cell? ((⟨w.heap.size, 0, none⟩ : Addr).add j) = some u := by
  have hb := Box.new w #[.int .i64 x.1, .int .i64 x.2.1, .int .i64 x.2.2] 139
  have := hb.cell j
  rw [show (⟨w.heap.size, 0, none⟩ : Addr).add j = ⟨w.heap.size, j, none⟩ by simp [Addr.add]; exact fun h => h.symm, this]
  unfold kcells at h
  simpa using h
theorem kcells_one (x : Kn) : ∀ u ∈ kcells x, u.oneCell' = true := by
  intro u hu
  simp [kcells] at hu
  rcases hu with rfl | rfl | rfl <;> rfl
set_option maxRecDepth 100000 in
set_option maxHeartbeats 2000000 in
theorem apYield (F : Fence) (m : Nat) (w0 : World) (fn : FuncId) (hfn : F.fn fn) (sv : Value) (Bs l D : Nat) (hBl : Bs ≠ l) (hDl : D ≠ l) (hDB : D ≠ Bs) (h0B : w0.heap.size ≤ Bs) (h0l : w0.heap.size ≤ l)
    (N : Nat) (hN : N ≤ maxLen) (hNb : N * 24 ≤ 140737488355328) (ss : List Kn) (x : Kn) (W : World) (h : ApAt w0 fn sv Bs l D ss W) (hlen : ss.length < N) :
    YieldAt F m Tryz.prog l #[kV x] W fun e W' => e = .returned (.bool true) ∧ ApAt w0 fn sv Bs l D (ss ++ [x]) W' ∧ KeepsWalks W W' := by
  obtain ⟨i0, hi, hz0, hz1, hz2⟩ := info_parts info139
  refine ⟨fn, #[.slice none 0 0, sv, .pointer (some ⟨Bs, 0, none⟩), undef, .slice none 0 0, undef, sv, kV x, undef, undef, undef, undef, undef], apAssign, apBody, by simpa [apRec] using run_yield (P := Tryz.prog) (args := #[kV x]) h.L rfl, roundIn_of_wpIn hfn ?_⟩
  have hA : ApAt w0 fn sv Bs l D ss (W.alloc (.cells #[.int .i64 x.1, .int .i64 x.2.1, .int .i64 x.2.2] 139)) := ap_abides w0 fn sv Bs l D w0.heap.size (Nat.le_refl _) ss W _ none h (World.grownBy_alloc W _ none) (fun r e => by cases e)
  have hkA : KeepsWalks W (W.alloc (.cells #[.int .i64 x.1, .int .i64 x.2.1, .int .i64 x.2.2] 139)) := KeepsWalks.alloc _ _
  have hbx : Box (W.alloc (.cells #[.int .i64 x.1, .int .i64 x.2.1, .int .i64 x.2.2] 139)) W.heap.size 139 #[.int .i64 x.1, .int .i64 x.2.1, .int .i64 x.2.2] := Box.new _ _ _
  have hlW : l < W.heap.size := (Array.getElem?_eq_some_iff.1 h.L).1
  obtain ⟨Wa, hWa⟩ : ∃ Wa, W.alloc (.cells #[.int .i64 x.1, .int .i64 x.2.1, .int .i64 x.2.2] 139) = Wa := ⟨_, rfl⟩
  rw [hWa] at hA hkA hbx
  obtain ⟨v, hvA, hrowA, _⟩ := hA.box
  have hl : l < Wa.heap.size := (Array.getElem?_eq_some_iff.1 hA.L).1
  have hbr := run_beginRound (P := Tryz.prog) hA.L rfl
  obtain ⟨W2, hW2⟩ : ∃ W2, Wa.putObj l (.loop { apRec fn sv Bs D .ready none with state := .busy }) = W2 := ⟨_, rfl⟩
  rw [hW2] at hbr
  have hg2 : Wa.grownBy W2 (some l) := by rw [← hW2]; exact grownBy_putObj _ _ _
  have hk2 : KeepsWalks Wa W2 := by rw [← hW2]; exact KeepsWalks.putObj _ hA.L rfl
  have hv2 : W2.heap[Bs]? = some (.cells #[v] 178 (0, 0)) := by rw [← hW2]; exact (World.putObj_heap_other hBl).trans hvA
  have hK2 : W2.heap[D]? = some (.deferred (some [])) := by rw [← hW2]; exact (World.putObj_heap_other hDl).trans hA.K
  have hL2 : W2.heap[l]? = some (.loop { apRec fn sv Bs D .ready none with state := .busy }) := by rw [← hW2]; exact World.putObj_heap_same hl
  have hrow2 : W2.ownsRow w0.heap.size 139 3 v ss.length (flatK ss) := hrowA.kept hg2 (ownsRow_ne hrowA hA.L (fun cur e => by cases e))
  have hb2 : Below w0.heap.size w0 W2 := hA.below.grown hg2 hA.below.size (fun k e => by cases e; exact h0l)
  have hbx2 : Box W2 W.heap.size 139 #[.int .i64 x.1, .int .i64 x.2.1, .int .i64 x.2.2] := hbx.grown hg2 (by intro e; injection e with e; omega)
  have e0 : W2.cell? ⟨W.heap.size, 0, none⟩ = some (.int .i64 x.1) := hbx2.cell 0
  have e1 : W2.cell? ⟨W.heap.size, 1, none⟩ = some (.int .i64 x.2.1) := hbx2.cell 1
  have e2 : W2.cell? ⟨W.heap.size, 2, none⟩ = some (.int .i64 x.2.2) := hbx2.cell 2

  obtain ⟨hc2, hf2⟩ := cell_of_box hv2
  have hBlt : Bs < W2.heap.size := (Array.getElem?_eq_some_iff.1 hv2).1
  have hl2 : l < W2.heap.size := (Array.getElem?_eq_some_iff.1 hL2).1
  have hDlt : D < W2.heap.size := (Array.getElem?_eq_some_iff.1 hK2).1
  have ne_of : ∀ {j : Nat} {o : Obj}, W2.heap[j]? = some o → (∀ cur, o ≠ .cells cur 139 (0, 0)) → some j ≠ v.ownBlock := fun hj hno => by
    rcases ownsRow_ne hrow2 hj hno with e | e
    · rw [e]; simp
    · exact fun e' => e e'.symm
  clear hW2
  unfold apAssign
  gi_wp2_with (rw [Oper.semAt_eq _ _ _ (fun c h => by cases h)]; go_simp; try go_bits)
  unfold apBody
  gi_wp2_with (first
    | (gi_at_builtin; refine wpListIn_append_own _ rfl _ _ 178 rfl w0.heap.size 139 i0 (.agg #[.int .i64 0, .int .i64 0, .int .i64 0]) 3 24 Tryz.underlying178 hi hz0 hz1 hz2 rfl (by decide) _ _ _ rfl (hrow2.alloc _) ⟨W2.heap.size, 0, none⟩ 1 1 (kcells x) rfl rfl (kcells_new _ x) (kcells_one x) (by omega) (by omega) (by have := hb2.size; simp; omega) ?_; intro v' w3 hown' hg3 hnil3
       have hv3 : w3.heap[Bs]? = some (.cells #[v] 178 (0, 0)) := (hg3.block Bs (by simp; omega) (ne_of hv2 (fun cur e => by cases e))).trans ((Below.heap_alloc _ _ Bs hBlt).trans hv2)
       obtain ⟨hc3, hf3⟩ := cell_of_box hv3
       obtain ⟨g', cap', cur', rfl, hbase', hgb', hr1, hr2, hr3, hr4⟩ : ∃ g' cap' cur', v' = .slice (some ⟨g', 0, none⟩) (ss.length + 1) cap' ∧ w0.heap.size ≤ g' ∧ w3.heap[g']? = some (.cells cur' 139 (0, 0)) ∧ ss.length + 1 ≤ cap' ∧ cap' ≤ maxLen ∧ cur'.size = cap' * 3 ∧ cur'.toList.take ((ss.length + 1) * 3) = flatK ss ++ kcells x := by
         rcases hown'.2 with ⟨_, h0⟩ | h'
         · exact absurd h0 (by omega)
         · exact h'
       go_frame)
    | (rw [Oper.semAt_eq _ _ _ (fun c h => by cases h)]; go_simp; try go_bits))
  have hg3' : (W2.alloc (.cells #[.int .i64 x.1, .int .i64 x.2.1, .int .i64 x.2.2] 139)).grownBy w3 v.ownBlock := hg3
  have hL3 : w3.heap[l]? = some (.loop { apRec fn sv Bs D .ready none with state := .busy }) := (hg3'.block l (by simp; omega) (ne_of hL2 (fun cur e => by cases e))).trans ((Below.heap_alloc _ _ l hl2).trans hL2)
  have hK3 : w3.heap[D]? = some (.deferred (some [])) := (hg3'.block D (by simp; omega) (ne_of hK2 (fun cur e => by cases e))).trans ((Below.heap_alloc _ _ D hDlt).trans hK2)
  obtain ⟨w4, hw4⟩ : ∃ w4, w3.setCell ⟨Bs, 0, none⟩ (.slice (some ⟨g', 0, none⟩) (ss.length + 1) cap') = w4 := ⟨_, rfl⟩
  rw [hw4]
  have hg4 : w3.grownBy w4 (some Bs) := by rw [← hw4]; exact grownBy_setCell0 _ _ _
  have hv4 : w4.heap[Bs]? = some (.cells #[.slice (some ⟨g', 0, none⟩) (ss.length + 1) cap'] 178 (0, 0)) := by rw [← hw4]; exact heap_setCell_box _ hv3
  have hL4 : w4.heap[l]? = some (.loop { apRec fn sv Bs D .ready none with state := .busy }) := (hg4.block l (Array.getElem?_eq_some_iff.1 hL3).1 (fun e => hBl (by cases e; rfl))).trans hL3
  have hK4 : w4.heap[D]? = some (.deferred (some [])) := (hg4.block D (Array.getElem?_eq_some_iff.1 hK3).1 (fun e => hDB (by cases e; rfl))).trans hK3
  have hrow4 := hown'.kept hg4 (ownsRow_ne hown' hv3 (fun cur e => by cases e))
  have hl4 : l < w4.heap.size := (Array.getElem?_eq_some_iff.1 hL4).1
  have hb3 : Below w0.heap.size w0 w3 := (hb2.alloc hb2.size _).grown hg3' (by have := hb2.size; simp; omega) (fun k e => (hrow2.lt k e).1)
  have hb4 : Below w0.heap.size w0 w4 := hb3.grown hg4 hb3.size (fun k e => by cases e; exact h0B)
  have hk4 : KeepsWalks W w4 := (((hkA.trans hk2).trans (KeepsWalks.alloc _ _)).trans (KeepsWalks.of_grownBy hg3' (ownsRow_not_walk (hrow2.alloc _)))).trans (by rw [← hw4]; exact KeepsWalks.setCell _ _ _)
  clear hw4
  refine ⟨_, _, run_endRound none hL4, rfl, ⟨⟨_, (World.putObj_heap_other hBl).trans hv4, ?_, by simp⟩, World.putObj_heap_same hl4, (World.putObj_heap_other hDl).trans hK4, hb4.grown (grownBy_putObj _ _ _) hb4.size (fun k e => by cases e; exact h0l)⟩, hk4.trans (KeepsWalks.putObj _ hL4 rfl)⟩
  have := hrow4.kept (grownBy_putObj w4 l (.loop { { apRec fn sv Bs D .ready none with state := .busy } with state := if (none : Option Code).isNone then .ready else .done, pending := none })) (ownsRow_ne hrow4 hL4 (fun cur e => by cases e))
  rw [List.length_append, flatK_append]
  simpa using this

--  apYield

set_option maxRecDepth 100000 in
set_option maxHeartbeats 2000000 in
/-- **slices.AppendSeq(nil, seq), AGAINST WHATEVER ITERATOR VALUE THAT 'SeqGives'**: it hands back a slice that owns, in a block of the call's own, JUST WHAT THE ITERATOR GAVE, IN THAT ORDER; nil JUST WHERE IT GAVE NOTHING (as Go: 'slices.Collect' of nothing is nil); nothing that lay before the call has turned. -/
theorem appendSeq_in (F : Fence) (n : Nat) (h11 : F.fn 160) (hro : F.round = none) (hn : 2 ≤ n) (g : Nat) (lb : Array Value) (hFg : F.fn g) (eg : ∀ args w, (callFunc g args).run Tryz.prog w = .ok (.enter g args) w)
    (S : List Kn → Prop) (N : Nat) (hN : N ≤ maxLen) (hNb : N * 24 ≤ 140737488355328) (w : World) (hseq : SeqGives F (n - 1) Tryz.prog g lb kV S N w) :
    CallsIn F n Tryz.prog 160 #[.slice none 0 0, .func (.func g) #[] lb] w fun e w' => ∃ (v : Value) (ss : List Kn), e = .returned v ∧ S ss ∧ w'.ownsRow w.heap.size 139 3 v ss.length (flatK ss) ∧ (v = .slice none 0 0 ↔ ss = []) ∧ Below w.heap.size w w' := by
  have h1 : 1 ≤ n := by omega
  refine callsIn_of_wp_marks Tryz.func160 rfl h11 ?_ hro
  simp only [Tryz.ntmps160, List.size_toArray, List.length_cons, List.length_nil, Nat.reduceAdd, Nat.reduceSub, Array.replicate_succ, Array.replicate_zero, List.push_toArray, List.append_toArray, List.nil_append, List.cons_append]
  gi_wp2
  refine wpIn_rangeFunc ?_
  intro fn hfn
  rw [hro]
  obtain ⟨W0, hW0⟩ : ∃ W0, w.alloc (.cells #[.slice none 0 0] 178) = W0 := ⟨_, rfl⟩
  have hs0 : W0.heap.size = w.heap.size + 1 := by rw [← hW0]; simp
  have hv0 : W0.heap[w.heap.size]? = some (.cells #[.slice none 0 0] 178 (0, 0)) := by rw [← hW0]; exact World.alloc_heap_new w _
  have hb0 : Below w.heap.size w W0 := by rw [← hW0]; exact (Below.refl _ w).alloc (Nat.le_refl _) _
  rw [hW0]
  obtain ⟨W1, hW1⟩ : ∃ W1, (W0.alloc (.deferred (some []))).alloc (.loop (apRec fn (.func (.func g) #[] lb) w.heap.size W0.heap.size .ready none)) = W1 := ⟨_, rfl⟩
  have hold : ∀ k, k < W0.heap.size → W1.heap[k]? = W0.heap[k]? := fun k hk => by
    rw [← hW1]; exact (Below.heap_alloc _ _ k (by simp; omega)).trans (Below.heap_alloc _ _ k hk)
  have hb1 : Below w.heap.size w W1 := by rw [← hW1]; exact (hb0.alloc hb0.size _).alloc (by have := hb0.size; simp; omega) _
  have hs1 : W1.heap.size = W0.heap.size + 2 := by rw [← hW1]; simp
  have hM : ApAt w fn (.func (.func g) #[] lb) w.heap.size (W0.heap.size + 1) W0.heap.size [] W1 :=
    ⟨⟨_, (hold w.heap.size (by omega)).trans hv0, ⟨rfl, .inl ⟨rfl, rfl⟩⟩, by simp⟩,
     by rw [← hW1]; have := World.alloc_heap_new (W0.alloc (.deferred (some []))) (.loop (apRec fn (.func (.func g) #[] lb) w.heap.size W0.heap.size .ready none)); rwa [World.size_alloc] at this,
     by rw [← hW1]; exact (Below.heap_alloc _ _ _ (by simp)).trans (World.alloc_heap_new W0 _), hb1⟩
  refine ⟨W0.heap.size + 1, [{ target := .collected W0.heap.size, args := #[] }], W1, { target := .fn (.func g) lb, args := #[.func (.yield (W0.heap.size + 1)) #[] #[]] }, W1, g,
    #[.func (.yield (W0.heap.size + 1)) #[] #[]] ++ lb, W1, ?_, ?_, ?_, ?_, fun _ => h1, ?_⟩
  · rw [← hW1]; exact run_enterLoop_outer _ _ _ _ _
  · simp [resolve, go_sem]
  · intro f' hf'; simp [Target.leads] at hf'; subst hf'; exact hFg
  · simp [invoke, go_sem, eg]
  · refine (hseq (W0.heap.size + 1) (ApAt w fn (.func (.func g) #[] lb) w.heap.size (W0.heap.size + 1) W0.heap.size) W1 hb1 (ap_abides _ _ _ _ _ _ _ hb1.size)
      (fun pre x W hJ hl => apYield F (n - 1 - 1) w fn hfn _ w.heap.size (W0.heap.size + 1) W0.heap.size (by omega) (by omega) (by omega) (Nat.le_refl _) (by omega) N hN hNb pre x W hJ hl) hM).mono ?_
    rintro e W2 ⟨⟨v0, rfl⟩, ss, hS, h2⟩
    obtain ⟨v, hv, hrow, hnil⟩ := h2.box
    have hend := run_endLoop (P := Tryz.prog) h2.L (by simp [apRec])
    obtain ⟨W3, hW3⟩ : ∃ W3, W2.putObj (W0.heap.size + 1) (.loop { apRec fn (.func (.func g) #[] lb) w.heap.size W0.heap.size .ready none with state := .exhausted }) = W3 := ⟨_, rfl⟩
    rw [hW3] at hend
    have hg3 : W2.grownBy W3 (some (W0.heap.size + 1)) := by rw [← hW3]; exact grownBy_putObj _ _ _
    have hv3 : W3.heap[w.heap.size]? = some (.cells #[v] 178 (0, 0)) := by rw [← hW3]; exact (World.putObj_heap_other (by omega)).trans hv
    have hK3 : W3.heap[W0.heap.size]? = some (.deferred (some [])) := by rw [← hW3]; exact (World.putObj_heap_other (by omega)).trans h2.K
    have hrow3 := hrow.kept hg3 (ownsRow_ne hrow h2.L (fun cur e => by cases e))
    have hb3 : Below w.heap.size w W3 := h2.below.grown hg3 h2.below.size (fun k e => by cases e; omega)
    obtain ⟨hc3, hf3⟩ := cell_of_box hv3
    clear hW3
    refine ⟨none, W3, hend, ?_⟩
    gi_wp2
    rw [← hs0]
    refine ⟨by simp, .inl ⟨_, _, rfl, run_takeDeferred hK3, ?_⟩⟩
    exact ⟨_, results_tmp rfl _ _ _, v, ss, rfl, hS, hrow3.kept (grownBy_putObj _ _ _) (ownsRow_ne hrow3 hK3 (fun cur e => by cases e)), hnil, hb3.grown (grownBy_putObj _ _ _) hb3.size (fun k e => by cases e; omega)⟩

--  appendSeq_in

set_option maxHeartbeats 1000000 in
/-- **slices.Collect(seq), AGAINST WHATEVER ITERATOR VALUE.** -/
theorem collect_in (F : Fence) (n : Nat) (h8 : F.fn 151) (h11 : F.fn 160) (hro : F.round = none) (hn : 3 ≤ n) (g : Nat) (lb : Array Value) (hFg : F.fn g) (eg : ∀ args w, (callFunc g args).run Tryz.prog w = .ok (.enter g args) w)
    (S : List Kn → Prop) (N : Nat) (hN : N ≤ maxLen) (hNb : N * 24 ≤ 140737488355328) (w : World) (hseq : SeqGives F (n - 1 - 1) Tryz.prog g lb kV S N w) :
    CallsIn F n Tryz.prog 151 #[.func (.func g) #[] lb] w fun e w' => ∃ (v : Value) (ss : List Kn), e = .returned v ∧ S ss ∧ w'.ownsRow w.heap.size 139 3 v ss.length (flatK ss) ∧ (v = .slice none 0 0 ↔ ss = []) ∧ Below w.heap.size w w' := by
  have h1 : 1 ≤ n := by omega
  refine callsIn_of_wp Tryz.func151 rfl h8 ?_ hro
  simp only [Tryz.ntmps151, List.size_toArray, List.length_cons, List.length_nil, Nat.reduceAdd, Nat.reduceSub, Array.replicate_succ, Array.replicate_zero, List.push_toArray, List.append_toArray, List.nil_append, List.cons_append]
  gi_wp2_with (gi_at_call 160; refine (appendSeq_in F (n - 1) h11 hro (by omega) g lb hFg eg S N hN hNb _ hseq).mono ?_; rintro e w' ⟨v, ss, rfl, hS, hrow, hnil, hb⟩)
  go_ret
  exact ⟨v, ss, rfl, hS, hrow, hnil, hb⟩

end
end Go.Proofs.YtkdjibejnncmfaaGreatDoor.Co

/-
  DERIVED: THE SHELF's CONTRACTS AT THIS DUMP, IN PLAIN WORDS (tools/lay-plain.mjs out of 'YtkdjibejnncmfaaGreatDoorS0.lean', which tools/lay-shelf.mjs wrote): THE SAME DECLARATIONS UNDER THE SAME NAMES: 'import', 'namespace', 'open', 'def', 'theorem' AND NOTHING ELSE: no command of the shelf's: FOR A HAND-IN. Each laying: the table of numbers ('.._ren') and one theorem, a field a fact of the dump's own or the kernel's comparison; each contract: ONE APPLICATION.
-/
namespace Go.Proofs
open Go.Shelf
def Tryz.sortK_ren : Go.Shelf.Ren := ⟨fun | 6 => 152 | 15 => 162 | 14 => 161 | 28 => 173 | 29 => 174 | 20 => 165 | 21 => 166 | 22 => 167 | 23 => 168 | 24 => 169 | 25 => 170 | 26 => 171 | 27 => 172 | 46 => 183 | 47 => 184 | 48 => 185 | 49 => 186 | 50 => 187 | 57 => 192 | n => n, fun | 22 => 178 | 24 => 139 | 25 => 184 | 3 => 3 | 39 => 191 | 0 => 0 | 53 => 219 | 55 => 30 | 4 => 4 | 46 => 212 | 45 => 211 | 50 => 216 | 5 => 5 | 9 => 9 | 66 => 229 | 70 => 233 | 76 => 239 | 77 => 240 | n => n, fun | n => n⟩
theorem Tryz.sortK : Go.Proofs.SlLaysF0.n6 Tryz.prog Tryz.sortK_ren := {
  mixed := by kernel_rfl
  f6 := ⟨Tryz.f152.name, by decide, Tryz.func152.trans (congrArg some (by kernel_rfl))⟩
  f14 := ⟨Tryz.f161.name, by decide, Tryz.func161.trans (congrArg some (by kernel_rfl))⟩
  f15 := Tryz.func162.trans (congrArg some (by kernel_rfl))
  f20 := ⟨Tryz.f165.name, by decide, Tryz.func165.trans (congrArg some (by kernel_rfl))⟩
  f21 := ⟨Tryz.f166.name, by decide, Tryz.func166.trans (congrArg some (by kernel_rfl))⟩
  f22 := ⟨Tryz.f167.name, by decide, Tryz.func167.trans (congrArg some (by kernel_rfl))⟩
  f23 := ⟨Tryz.f168.name, by decide, Tryz.func168.trans (congrArg some (by kernel_rfl))⟩
  f24 := ⟨Tryz.f169.name, by decide, Tryz.func169.trans (congrArg some (by kernel_rfl))⟩
  f25 := ⟨Tryz.f170.name, by decide, Tryz.func170.trans (congrArg some (by kernel_rfl))⟩
  f26 := ⟨Tryz.f171.name, by decide, Tryz.func171.trans (congrArg some (by kernel_rfl))⟩
  f27 := ⟨Tryz.f172.name, by decide, Tryz.func172.trans (congrArg some (by kernel_rfl))⟩
  f28 := Tryz.func173.trans (congrArg some (by kernel_rfl))
  f29 := Tryz.func174.trans (congrArg some (by kernel_rfl))
  f46 := ⟨Tryz.f183.name, by decide, Tryz.func183.trans (congrArg some (by kernel_rfl))⟩
  f47 := Tryz.func184.trans (congrArg some (by kernel_rfl))
  f48 := Tryz.func185.trans (congrArg some (by kernel_rfl))
  f49 := ⟨Tryz.f186.name, by decide, Tryz.func186.trans (congrArg some (by kernel_rfl))⟩
  f50 := ⟨Tryz.f187.name, by decide, Tryz.func187.trans (congrArg some (by kernel_rfl))⟩
  f57 := ⟨Tryz.f192.name, by decide, Tryz.func192.trans (congrArg some (by kernel_rfl))⟩
  t0 := Tryz.underlying0
  a0 := Tryz.isAgg0
  z0 := Tryz.sizeOf0
  v0 := Tryz.zeroValue0
  t3 := Tryz.underlying3
  a3 := Tryz.isAgg3
  z3 := Tryz.sizeOf3
  v3 := Tryz.zeroValue3
  t4 := Tryz.underlying4
  a4 := Tryz.isAgg4
  z4 := Tryz.sizeOf4
  v4 := Tryz.zeroValue4
  t5 := Tryz.underlying5
  a5 := Tryz.isAgg5
  z5 := Tryz.sizeOf5
  v5 := Tryz.zeroValue5
  t9 := Tryz.underlying9
  a9 := Tryz.isAgg9
  z9 := Tryz.sizeOf9
  v9 := Tryz.zeroValue9
  t22 := Tryz.underlying178
  a22 := Tryz.isAgg178
  z22 := Tryz.sizeOf178
  v22 := Tryz.zeroValue178
  t25 := Tryz.underlying184
  a25 := Tryz.isAgg184
  z25 := Tryz.sizeOf184
  v25 := Tryz.zeroValue184
  t39 := Tryz.underlying191
  a39 := Tryz.isAgg191
  z39 := Tryz.sizeOf191
  v39 := Tryz.zeroValue191
  t45 := Tryz.underlying211
  a45 := Tryz.isAgg211
  z45 := Tryz.sizeOf211
  v45 := Tryz.zeroValue211
  t46 := Tryz.underlying212
  a46 := Tryz.isAgg212
  z46 := Tryz.sizeOf212
  v46 := Tryz.zeroValue212
  t50 := Tryz.underlying216
  a50 := Tryz.isAgg216
  z50 := Tryz.sizeOf216
  v50 := Tryz.zeroValue216
  t53 := Tryz.underlying219
  a53 := Tryz.isAgg219
  z53 := Tryz.sizeOf219
  v53 := Tryz.zeroValue219
  t55 := Tryz.underlying30
  a55 := Tryz.isAgg30
  z55 := Tryz.sizeOf30
  v55 := Tryz.zeroValue30
  t66 := Tryz.underlying229
  a66 := Tryz.isAgg229
  z66 := Tryz.sizeOf229
  v66 := Tryz.zeroValue229
  t70 := Tryz.underlying233
  a70 := Tryz.isAgg233
  z70 := Tryz.sizeOf233
  v70 := Tryz.zeroValue233
  t76 := Tryz.underlying239
  a76 := Tryz.isAgg239
  z76 := Tryz.sizeOf239
  v76 := Tryz.zeroValue239
  t77 := Tryz.underlying240
  a77 := Tryz.isAgg240
  z77 := Tryz.sizeOf240
  v77 := Tryz.zeroValue240 }
end Go.Proofs

/- The kinds sorted: slices.SortFunc, SortedFunc at kinds. -/
namespace Go.Proofs.YtkdjibejnncmfaaGreatDoor.Co
open Go.RowKit Go.Maps Go.Shelf Go.Sort Go.Proofs.YtkdjibejnncmfaaGreatDoorW.PrintWords Go.Proofs.YtkdjibejnncmfaaGreatDoorW.PrintLast Go.Proofs.YtkdjibejnncmfaaGreatDoorW.PrintMore
set_option linter.unusedVariables false
set_option linter.unusedSimpArgs false
set_option maxRecDepth 100000
def kcf (x y : Kn) : Int := kcmp ((x.1 : Int), (x.2.1 : Int), (x.2.2 : Int)) ((y.1 : Int), (y.2.1 : Int), (y.2.2 : Int))
/-- The order: greater lives first, then fewer stripes, then fewer pieces that are enough. -/
def kltB (x y : Kn) : Bool := decide (y.1 < x.1 ∨ (y.1 = x.1 ∧ (x.2.1 < y.2.1 ∨ (x.2.1 = y.2.1 ∧ x.2.2 < y.2.2))))
theorem cmpI_cases (a b : Nat) : (a < b ∧ cmpI a b = -1) ∨ (a = b ∧ cmpI a b = 0) ∨ (b < a ∧ cmpI a b = 1) := by
  unfold cmpI
  by_cases h1 : a < b
  · left; exact ⟨h1, by rw [if_pos (by omega)]⟩
  · by_cases h2 : b < a
    · right; right; exact ⟨h2, by rw [if_neg (by omega), if_pos (by omega)]⟩
    · right; left; exact ⟨by omega, by rw [if_neg (by omega), if_neg (by omega)]⟩
theorem ltOf_kcf (x y : Kn) : ltOf kcf x y = kltB x y := by
  obtain ⟨x1, x2, x3⟩ := x
  obtain ⟨y1, y2, y3⟩ := y
  unfold ltOf kcf kltB kcmp
  rcases cmpI_cases y1 x1 with ⟨h1, e1⟩ | ⟨h1, e1⟩ | ⟨h1, e1⟩ <;> rcases cmpI_cases x2 y2 with ⟨h2, e2⟩ | ⟨h2, e2⟩ | ⟨h2, e2⟩ <;> rcases cmpI_cases x3 y3 with ⟨h3, e3⟩ | ⟨h3, e3⟩ | ⟨h3, e3⟩ <;>
    simp only [e1, e2, e3, orF] <;> simp <;> omega
theorem swo_kcf : SWO (ltOf kcf) where
  irrefl x := by rw [ltOf_kcf]; simp [kltB]
  trans x y z h1 h2 := by rw [ltOf_kcf] at *; simp [kltB] at *; omega
  ntrans x y z h1 h2 := by rw [ltOf_kcf] at *; simp [kltB] at *; omega
theorem total_kcf (x y : Kn) (h1 : ltOf kcf x y = false) (h2 : ltOf kcf y x = false) : x = y := by
  rw [ltOf_kcf] at *
  obtain ⟨x1, x2, x3⟩ := x
  obtain ⟨y1, y2, y3⟩ := y
  simp [kltB] at *
  omega
theorem kcells_flat (l : List Kn) : ∀ t, t < l.length * 3 → (Co.flatK l)[t]? = (kcells (l.getD (t / 3) default))[t % 3]? := by
  induction l with
  | nil => intro t h; simp at h
  | cons x l ih =>
    intro t h
    have e : Co.flatK (x :: l) = kcells x ++ Co.flatK l := by simp [Co.flatK]
    rw [e]
    by_cases ht : t < 3
    · rw [List.getElem?_append_left (by simpa [kcells] using ht), show t / 3 = 0 by omega, show t % 3 = t by omega]
      rfl
    · rw [List.getElem?_append_right (by simp [kcells]; omega), show (kcells x).length = 3 from rfl, ih (t - 3) (by simp at h; omega), show t / 3 = (t - 3) / 3 + 1 by omega, show t % 3 = (t - 3) % 3 by omega]
      rfl
theorem kc_some (x : Kn) (j : Nat) (h : j < 3) : (kcells x)[j]? = some ((kcells x)[j]!) := by
  match j, h with
  | 0, _ => rfl
  | 1, _ => rfl
  | 2, _ => rfl
theorem kc_get (l : List Kn) (t : Nat) (h : t < l.length * 3) : (kcells (l.getD (t / 3) default))[t % 3]? = some ((kcells l.toArray[t / 3]!)[t % 3]!) := by
  have h4 : t / 3 < l.length := by omega
  have e : l.toArray[t / 3]! = l.getD (t / 3) default := by
    rw [getElem!_pos l.toArray (t / 3) (by simpa using h4), List.getD_eq_getElem?_getD, List.getElem?_eq_getElem h4]
    simp
  rw [e]
  exact kc_some _ _ (Nat.mod_lt _ (by omega))
theorem sortworld_row (w : World) (blk : Nat) (cur : Array Value) (e : TypeId) (n : Nat) (d : Array Kn) (os : Array Obj) (hb : w.heap[blk]? = some (.cells cur e (0, 0))) (hs : d.size * 3 ≤ cur.size) :
    ∃ cur', (sortWorldK kcells 3 w blk 0 n d os).heap[blk]? = some (.cells cur' e (0, 0)) ∧ cur'.size = cur.size ∧ cur'.toList.take (d.size * 3) = Co.flatK d.toList := by
  have hlt : blk < w.heap.size := (Array.getElem?_eq_some_iff.1 hb).1
  refine ⟨putCells id 0 (Sort.flatK kcells 3 d) cur, ?_, by simp [putCells], ?_⟩
  · show (w.heap.modify blk _ ++ os)[blk]? = _
    rw [Array.getElem?_append_left (by simpa using hlt), Array.getElem?_modify, if_pos rfl, hb]
    rfl
  · apply List.ext_getElem?
    intro t
    by_cases ht : t < d.size * 3
    · rw [List.getElem?_take_of_lt ht, kcells_flat d.toList t (by simpa using ht)]
      have h1 : t < cur.size := by omega
      have h2 := Sort.get_flatK kcells 3 d t ht
      have h3 : t % 3 < 3 := Nat.mod_lt _ (by omega)
      have h4 : t / 3 < d.size := by omega
      simp only [putCells, Array.getElem?_toList, Array.getElem?_mapIdx, Array.getElem?_eq_getElem h1, Option.map_some, Nat.zero_le, true_and, Sort.size_flatK, Nat.zero_add, ht, if_true, id, Nat.sub_zero, h2]
      exact (kc_get d.toList t (by simpa using ht)).symm
    · rw [List.getElem?_eq_none (by simp; omega), List.getElem?_eq_none (by rw [Co.flatK_length]; simp; omega)]
theorem sortworld_below (w : World) (blk B : Nat) (n : Nat) (d : Array Kn) (os : Array Obj) (hB : B ≤ blk) (hB2 : B ≤ w.heap.size) : RowKit.Below B w (sortWorldK kcells 3 w blk 0 n d os) := by
  refine ⟨rfl, rfl, rfl, ?_, fun k hk => ?_⟩
  · show w.heap.size ≤ (w.heap.modify blk _ ++ os).size
    simp
  · show (w.heap.modify blk _ ++ os)[k]? = _
    rw [Array.getElem?_append_left (by simp; omega), Array.getElem?_modify, if_neg (by omega)]
/-- The kinds in their order. -/
def srt (ss : List Kn) : List Kn := ss.mergeSort fun x y => !(ltOf kcf) y x
theorem isAgg139' (w : World) : (isAgg 139).run Tryz.prog w = .ok true w := Tryz.isAgg139 w
theorem sort_any (base : Nat) (v : Value) (ss : List Kn) (w : World) (hrow : w.ownsRow base 139 3 v ss.length (Co.flatK ss)) (hb : base ≤ w.heap.size) (hlen : ss.length < 4611686018427387904) :
    Calls Tryz.prog 152 #[v, .func (.func 137) #[] #[]] w fun e w' => e = .returned (.tuple #[]) ∧ w'.ownsRow base 139 3 v ss.length (Co.flatK (srt ss)) ∧ RowKit.Below base w w' := by
  have hsl : (srt ss).length = ss.length := by unfold srt; exact List.length_mergeSort _
  rcases hrow.2 with ⟨hv, h0⟩ | ⟨g, cap, cur, hv, hg, hgb, h1, h2, h3, h4⟩
  · subst hv
    rw [h0]
    refine (AnyF.slices_SortFunc_none Tryz.sortK none 0 (.func (.func 137) #[] #[]) w).mono ?_
    rintro e w' ⟨rfl, rfl⟩
    have hn : ss = [] := List.eq_nil_of_length_eq_zero h0
    subst hn
    exact ⟨rfl, by simpa [srt, Co.flatK] using hrow, RowKit.Below.refl _ _⟩
  · subst hv
    have eg : ∀ args w, (callFunc 137 args).run Tryz.prog w = .ok (.enter 137 args) w := enters_of Tryz.func137 (by kernel_rfl) rfl
    have hH : HoldsK kcells 3 w g 0 ss.toArray := by
      intro j hj
      have hj' : j < ss.length * 3 := by simpa using hj
      have hc : w.cell? ⟨g, 0 + j, none⟩ = cur[j]? := by rw [Nat.zero_add]; exact cell_of_row w g j cur 139 (0, 0) hgb
      refine ⟨?_, by simp [World.frozen?, hgb]⟩
      rw [hc, Sort.get_flatK kcells 3 ss.toArray j (by simpa using hj')]
      have h5 := kcells_flat ss j hj'
      rw [← h4, List.getElem?_take_of_lt hj'] at h5
      rw [← Array.getElem?_toList, h5]
      exact kc_get ss j hj'
    have hcon := AnyQ.slices_SortFunc_total Tryz.sortK 3 isAgg139' (fun w => Tryz.sizeOf139 w) kcells (fun _ => rfl) kcells_one kcf swo_kcf 137 #[] g 0 cap ss.toArray w eg
      (fun _ _ _ _ x y => best1_any _ _ _) hH (Array.getElem?_eq_some_iff.1 hgb).1 (by simpa using hlen) total_kcf
    change Calls Tryz.prog 152 #[.slice (some ⟨g, 0, none⟩) ss.length cap, .func (.func 137) #[] #[]] w _ at hcon
    refine hcon.mono ?_
    rintro e w' ⟨rfl, n, os, rfl⟩
    obtain ⟨cur', r1, r2, r3⟩ := sortworld_row w g cur 139 n (srt ss).toArray os hgb (by simp [hsl]; rw [h3]; exact Nat.mul_le_mul_right 3 h1)
    refine ⟨rfl, ⟨?_, .inr ⟨g, cap, cur', rfl, hg, r1, h1, h2, by rw [r2, h3], ?_⟩⟩, sortworld_below w g base n _ os hg hb⟩
    · rw [Co.flatK_length, hsl]
    · simpa [hsl] using r3
end Go.Proofs.YtkdjibejnncmfaaGreatDoor.Co

/- All kinds of the pages, in their order; the walk of SortedFunc. -/
namespace Go.Proofs.YtkdjibejnncmfaaGreatDoor.Co
open Go.RowKit Go.Maps Go.Shelf Go.Proofs.YtkdjibejnncmfaaGreatDoorW.PrintWords Go.Proofs.YtkdjibejnncmfaaGreatDoorW.PrintLast Go.Proofs.YtkdjibejnncmfaaGreatDoorW.PrintMore
set_option linter.unusedVariables false
set_option linter.unusedSimpArgs false
set_option maxRecDepth 100000
def insK (x : Kn) : List Kn → List Kn
  | [] => [x]
  | y :: l => if x = y then y :: l else if kltB x y then x :: y :: l else y :: insK x l
theorem insK_mem (x z : Kn) (l : List Kn) : z ∈ insK x l ↔ z = x ∨ z ∈ l := by
  induction l with
  | nil => simp [insK]
  | cons y l ih =>
    unfold insK
    split
    · rename_i h; subst h; simp
    · split
      · simp
      · rw [List.mem_cons, ih, List.mem_cons]
        constructor
        · rintro (h | h | h)
          · exact .inr (.inl h)
          · exact .inl h
          · exact .inr (.inr h)
        · rintro (h | h | h)
          · exact .inr (.inl h)
          · exact .inl h
          · exact .inr (.inr h)
theorem kltB_trans {x y z : Kn} (h1 : kltB x y = true) (h2 : kltB y z = true) : kltB x z = true := by simp [kltB] at *; omega
theorem kltB_total {x y : Kn} (h1 : x ≠ y) (h2 : kltB x y = false) : kltB y x = true := by
  cases h : kltB y x with
  | true => rfl
  | false => exact absurd (total_kcf x y (by rw [ltOf_kcf]; exact h2) (by rw [ltOf_kcf]; exact h)) h1
theorem kltB_irrefl (x : Kn) : kltB x x = false := by simp [kltB]
theorem insK_sorted (x : Kn) (l : List Kn) (h : l.Pairwise fun a b => kltB a b = true) : (insK x l).Pairwise fun a b => kltB a b = true := by
  induction l with
  | nil => simp [insK]
  | cons y l ih =>
    rw [List.pairwise_cons] at h
    unfold insK
    split
    · exact List.pairwise_cons.2 h
    · rename_i hne
      split
      · rename_i hlt
        refine List.pairwise_cons.2 ⟨fun z hz => ?_, List.pairwise_cons.2 h⟩
        rcases List.mem_cons.1 hz with rfl | hz
        · exact hlt
        · exact kltB_trans hlt (h.1 z hz)
      · rename_i hlt
        refine List.pairwise_cons.2 ⟨fun z hz => ?_, ih h.2⟩
        rcases (insK_mem x z l).1 hz with rfl | hz
        · exact kltB_total hne (by simpa using hlt)
        · exact h.1 z hz
def kindsL (D : DS) (n m : Nat) : List Kn := (List.range n).flatMap fun disk => (List.range m).filterMap fun at_ => soundK D n m disk at_
/-- The kinds of all sound pages, each once, in their order. -/
def kindsF (D : DS) (n m : Nat) : List Kn := (kindsL D n m).foldr insK []
theorem foldr_insK_mem (z : Kn) (l : List Kn) : z ∈ l.foldr insK [] ↔ z ∈ l := by
  induction l with
  | nil => simp
  | cons y l ih => rw [List.foldr_cons, insK_mem, ih, List.mem_cons]
theorem foldr_insK_sorted (l : List Kn) : (l.foldr insK []).Pairwise fun a b => kltB a b = true := by
  induction l with
  | nil => simp
  | cons y l ih => exact insK_sorted y _ ih
theorem kindsL_mem (D : DS) (n m : Nat) (x : Kn) : x ∈ kindsL D n m ↔ foundF D n m x ≠ [] := by
  unfold kindsL
  rw [List.mem_flatMap]
  constructor
  · rintro ⟨disk, h1, h2⟩
    obtain ⟨at_, h3, h4⟩ := List.mem_filterMap.1 h2
    exact (foundTo_ne D n m x n).2 ⟨disk, at_, List.mem_range.1 h1, List.mem_range.1 h3, h4⟩
  · intro hx
    obtain ⟨disk, at_, h1, h2, h3⟩ := (foundTo_ne D n m x n).1 hx
    exact ⟨disk, List.mem_range.2 h1, List.mem_filterMap.2 ⟨at_, List.mem_range.2 h2, h3⟩⟩
theorem kindsF_mem (D : DS) (n m : Nat) (x : Kn) : x ∈ kindsF D n m ↔ foundF D n m x ≠ [] := by
  unfold kindsF
  rw [foldr_insK_mem, kindsL_mem]
theorem nodup_of_sorted {l : List Kn} (h : l.Pairwise fun a b => kltB a b = true) : l.Nodup := by
  refine h.imp ?_
  intro a b hab e
  subst e
  rw [kltB_irrefl] at hab
  cases hab
theorem perm_of_mem {l l' : List Kn} (h : l.Nodup) (h' : l'.Nodup) (hm : ∀ x, x ∈ l ↔ x ∈ l') : l.Perm l' := by
  rw [List.perm_iff_count]
  intro a
  rw [h.count, h'.count]
  simp only [hm a]
theorem srt_eq {D : DS} {n m : Nat} {ss : List Kn} (h : KindsOf (foundF D n m) ss) : srt ss = kindsF D n m := by
  have hs := foldr_insK_sorted (kindsL D n m)
  have hp : (srt ss).Perm (kindsF D n m) := (List.mergeSort_perm ss _).trans (perm_of_mem h.1 (nodup_of_sorted hs) (fun x => (h.2 x).trans (kindsF_mem D n m x).symm))
  refine List.Perm.eq_of_pairwise (le := fun x y => (!(ltOf kcf) y x) = true) ?_ ?_ ?_ hp
  · intro a b _ _ h1 h2
    exact total_kcf a b (by simpa using h2) (by simpa using h1)
  · unfold srt
    refine List.pairwise_mergeSort ?_ ?_ ss
    · intro a b c h1 h2
      have := swo_kcf.ntrans c b a (by simpa using h2) (by simpa using h1)
      simpa using this
    · intro a b
      cases h1 : ltOf kcf b a with
      | false => simp
      | true =>
        rw [ltOf_kcf] at h1
        have h2 : ltOf kcf a b = false := by rw [ltOf_kcf]; simp [kltB] at *; omega
        simp [h2]
  · refine hs.imp ?_
    intro a b hab
    have h2 : ltOf kcf b a = false := by rw [ltOf_kcf]; simp [kltB] at *; omega
    simp [h2]
theorem keys_any (b : Nat) (w : World) : Calls Tryz.prog 136 #[.map (some b)] w fun e w' => e = .returned (.func (.func 153) #[] #[.pointer (some ⟨w.heap.size, 0, none⟩)]) ∧ w' = w.alloc (.cells #[.map (some b)] 176) :=
  callsIn_wide.1 (keys_in Fence.wide 1 trivial rfl (some b) w)
theorem kinds_len {D : DS} {n m : Nat} : (kindsL D n m).length ≤ n * m := by
  unfold kindsL
  rw [List.length_flatMap]
  have : ∀ k, (((List.range k).map fun disk => ((List.range m).filterMap fun at_ => soundK D n m disk at_).length).sum) ≤ k * m := by
    intro k
    induction k with
    | zero => simp
    | succ k ih =>
      rw [List.range_succ, List.map_append, List.sum_append, Nat.add_mul, Nat.one_mul]
      have := List.length_filterMap_le (fun at_ => soundK D n m k at_) (List.range m)
      simp only [List.length_range] at this
      simp only [List.map_cons, List.map_nil, List.sum_cons, List.sum_nil]
      omega
  exact this n
theorem perm_len {l l' : List Kn} (h : l.Nodup) (hm : ∀ x, x ∈ l → x ∈ l') : l.length ≤ l'.length := by
  induction l generalizing l' with
  | nil => simp
  | cons x l ih =>
    rw [List.nodup_cons] at h
    have hx := hm x List.mem_cons_self
    have := ih (l' := l'.erase x) h.2 (fun y hy => (List.mem_erase_of_ne (by rintro rfl; exact h.1 hy)).2 (hm y (List.mem_cons_of_mem _ hy)))
    rw [List.length_erase_of_mem hx] at this
    have := List.length_pos_of_mem hx
    simp only [List.length_cons]
    omega
end Go.Proofs.YtkdjibejnncmfaaGreatDoor.Co

/- The walks of SortedFunc and best. -/
namespace Go.Proofs.YtkdjibejnncmfaaGreatDoor.Co
open Go.RowKit Go.Maps Go.Shelf Go.Proofs.YtkdjibejnncmfaaGreatDoorW.PrintWords Go.Proofs.YtkdjibejnncmfaaGreatDoorW.PrintLast Go.Proofs.YtkdjibejnncmfaaGreatDoorW.PrintMore
set_option linter.unusedVariables false
set_option linter.unusedSimpArgs false
set_option maxRecDepth 100000
set_option maxHeartbeats 2000000 in
theorem sorted_any {D : DS} {n m : Nat} (hnm : n * m ≤ 100000) (b Bm nn : Nat) (D0 : DataW Value) (w : World) (hok : ∀ x, foundF D n m x ≠ [] → OkK x) (hhas : ∀ x, foundF D n m x ≠ [] → has D0 (klit x) = true)
    (hhas2 : ∀ kl, has D0 kl = true → ∃ x, OkK x ∧ kl = klit x ∧ foundF D n m x ≠ []) (hs : Maps.size D0 ≤ 100000) (hBm : Bm < w.heap.size) (hm : w.cell? ⟨Bm, 0, none⟩ = some (.map (some b))) (hown : w.ownsMap Tryz.prog 139 RH b nn D0) :
    Calls Tryz.prog 135 #[.func (.func 153) #[] #[.pointer (some ⟨Bm, 0, none⟩)], .func (.func 137) #[] #[]] w fun e w' => ∃ v, e = .returned v ∧ w'.ownsRow w.heap.size 139 3 v (kindsF D n m).length (flatK (kindsF D n m)) ∧ Below w.heap.size w w' := by
  have hseq := keys_gives Fence.wide 3 trivial rfl (by omega) Bm b nn D0 (foundF D n m) hok hhas hhas2 w hBm hm hown
  have hcol := callsIn_wide.1 (collect_in Fence.wide 5 trivial trivial rfl (by omega) 153 #[.pointer (some ⟨Bm, 0, none⟩)] trivial (enters_of Tryz.func153 (by kernel_rfl) rfl) (KindsOf (foundF D n m)) (Maps.size D0) (by unfold maxLen; omega) (by omega) w hseq)
  have HC := Lib.hid hcol
  clear hseq hcol hok hhas hhas2 hm hown
  go_enter Tryz.func135, Tryz.ntmps135
  go_upto_region 2 with (go_at_call 151; refine HC.out.mono ?_; rintro e w2 ⟨v, ss, rfl, hS, hrow, hnil, hb⟩; have HS := Lib.hid hS; have HR := Lib.hid hrow; have HB := Lib.hid hb; clear hS hrow hnil hb)
  have hlen : ss.length ≤ 100000 := by
    have h1 := perm_len HS.out.1 (l' := kindsL D n m) (fun x hx => (kindsL_mem D n m x).2 ((HS.out.2 x).1 hx))
    have h2 := kinds_len (D := D) (n := n) (m := m)
    omega
  have HSO := Lib.hid (sort_any w.heap.size v ss w2 HR.out HB.out.size (by omega))
  have HE := Lib.hid (srt_eq HS.out)
  have HL : Hid (ss.length = (kindsF D n m).length) := Lib.hid (by rw [← HE.out]; unfold srt; exact (List.length_mergeSort _).symm)
  clear hlen
  go_wp2_with (go_at_call 152; refine HSO.out.mono ?_; rintro e w3 ⟨rfl, hrow3, hb3⟩; have HR3 := Lib.hid hrow3; have HB3 := Lib.hid hb3; clear hrow3 hb3)
  go_ret
  refine ⟨v, rfl, ?_, HB.out.trans HB3.out⟩
  have := HR3.out
  rw [HE.out, HL.out] at this
  exact this
theorem ownsRow_base {W : World} {base base' : Nat} {e : TypeId} {size : Nat} {v : Value} {k : Nat} {xs : List Value} (h : W.ownsRow base e size v k xs) (hb : base' ≤ base) : W.ownsRow base' e size v k xs := by
  refine ⟨h.1, ?_⟩
  rcases h.2 with hn | ⟨g, cap, cur, hv, hbg, rest⟩
  · exact .inl hn
  · exact .inr ⟨g, cap, cur, hv, Nat.le_trans hb hbg, rest⟩
theorem FAt.sorted {D : DS} {n m nn base M : Nat} {G : Kn → Nat} {V : Kn → Nat → Value} {w : World} (h : FAt w base M nn (foundF D n m) G V) (hnm : n * m ≤ 100000) (hnn : nn ≤ 100000) :
    Calls Tryz.prog 135 #[.func (.func 153) #[] #[.pointer (some ⟨w.heap.size, 0, none⟩)], .func (.func 137) #[] #[]] (w.alloc (.cells #[.map (some M)] 176)) fun e w' => ∃ v, e = .returned v ∧ w'.ownsRow w.heap.size 139 3 v (kindsF D n m).length (flatK (kindsF D n m)) ∧ Below w.heap.size w w' := by
  obtain ⟨Dm, hown, hism, hlook, hhas⟩ := h.own
  have hbl := hown.lt
  have hown' : (w.alloc (.cells #[.map (some M)] 176)).ownsMap Tryz.prog 139 RH M nn Dm := by
    obtain ⟨es, clock, hb, Ft, hs, hD⟩ := hown
    exact ⟨es, clock, (Below.heap_alloc _ _ M hbl).trans hb, Ft, hs, hD⟩
  have hb : Below w.heap.size w (w.alloc (.cells #[.map (some M)] 176)) := below_al (Below.refl _ _) _
  refine (sorted_any hnm M w.heap.size nn Dm _ h.ok (fun x hx => FAt.has_of (w := w) (base := 0) (M := M) (n := 0) (V := V) hlook (h.ok x hx) hx) hhas (Nat.le_trans hown.size_le hnn) (by simp) ((Box.new w #[.map (some M)] 176).cell 0) hown').mono ?_
  rintro e w' ⟨v, rfl, h2, h3⟩
  exact ⟨v, rfl, ownsRow_base h2 hb.size, belt hb h3⟩
/-- The kind that is found first, with its text. -/
def bestF (D : DS) (n m : Nat) : Option (ByteArray × Kn) := (kindsF D n m).findSome? fun x => (wholeF D m x (foundF D n m x)).map fun t => (t, x)
def BestP (o : Option (ByteArray × Kn)) (w : World) (e : Ending) (w' : World) : Prop :=
  e = .returned (.tuple #[.string ((o.map fun p => p.1).getD ⟨#[]⟩), kV ((o.map fun p => p.2).getD (0, 0, 0)), .bool o.isSome]) ∧ Below w.heap.size w w'
theorem findSome_at {α β : Type} (f : α → Option β) : ∀ (l : List α) (k : Nat) (x : α) (y : β), l[k]? = some x → (∀ j z, j < k → l[j]? = some z → f z = none) → f x = some y → l.findSome? f = some y
  | [], k, x, y, h, _, _ => by simp at h
  | a :: l, 0, x, y, h, _, hf => by
    have e : a = x := by simpa using h
    subst e
    rw [List.findSome?_cons, hf]
  | a :: l, k + 1, x, y, h, hn, hf => by
    rw [List.findSome?_cons, hn 0 a (by omega) rfl]
    exact findSome_at f l k x y (by simpa using h) (fun j z hj hz => hn (j + 1) z (by omega) (by simpa using hz)) hf
theorem kind_row {w : World} {base : Nat} {v : Value} {L : List Kn} (h : w.ownsRow base 139 3 v L.length (flatK L)) : ∃ A c, v = .slice A L.length c ∧ L.length ≤ c ∧ c ≤ maxLen ∧
    ∀ k x, L[k]? = some x → ∃ g, A = some ⟨g, 0, none⟩ ∧ w.cell? ⟨g, k * 3, none⟩ = some (.int .i64 x.1) ∧ w.cell? ⟨g, k * 3 + 1, none⟩ = some (.int .i64 x.2.1) ∧ w.cell? ⟨g, k * 3 + 2, none⟩ = some (.int .i64 x.2.2) := by
  rcases h.2 with ⟨hv, h0⟩ | ⟨g, cap, cur, hv, hg, hgb, h1, h2, h3, h4⟩
  · refine ⟨none, 0, by rw [hv, h0], by omega, by omega, fun k x hx => ?_⟩
    have := (List.getElem?_eq_some_iff.1 hx).1
    omega
  · refine ⟨some ⟨g, 0, none⟩, cap, hv, h1, h2, fun k x hx => ⟨g, rfl, ?_⟩⟩
    have hk := (List.getElem?_eq_some_iff.1 hx).1
    have hget : ∀ t, t < L.length * 3 → w.cell? ⟨g, t, none⟩ = (kcells (L.getD (t / 3) default))[t % 3]? := by
      intro t ht
      have hc : w.cell? ⟨g, t, none⟩ = cur[t]? := cell_of_row w g t cur 139 (0, 0) hgb
      rw [hc, ← Array.getElem?_toList, ← kcells_flat L t ht, ← h4, List.getElem?_take_of_lt ht]
    have hx2 : L.getD k default = x := by rw [List.getD_eq_getElem?_getD, hx]; rfl
    refine ⟨?_, ?_, ?_⟩
    · rw [hget _ (by omega), show k * 3 / 3 = k by omega, show k * 3 % 3 = 0 by omega, hx2]; rfl
    · rw [hget _ (by omega), show (k * 3 + 1) / 3 = k by omega, show (k * 3 + 1) % 3 = 1 by omega, hx2]; rfl
    · rw [hget _ (by omega), show (k * 3 + 2) / 3 = k by omega, show (k * 3 + 2) % 3 = 2 by omega, hx2]; rfl
set_option maxHeartbeats 2000000 in
theorem best_any {d P c m : Nat} {B : List Nat} {D : DS} (w : World) (h : DAt w d P B c m D) :
    Calls Tryz.prog 98 #[.pointer (some ⟨d, 0, none⟩)] w (BestP (bestF D B.length m) w) := by
  have H := Lib.hid h
  have hmost := h.most
  have hfew := h.few
  have hnm : B.length * m ≤ 12288 := by
    calc B.length * m ≤ 12 * 1024 := Nat.mul_le_mul hmost hfew
      _ = 12288 := by omega
  clear h
  have HF : Hid (∀ W, Below w.heap.size w W → Calls Tryz.prog 134 #[.pointer (some ⟨d, 0, none⟩)] W fun e w' => ∃ M G V, e = .returned (.map (some M)) ∧ FAt w' W.heap.size M (B.length * m) (foundF D B.length m) G V ∧ Below W.heap.size W w') := Lib.hid (fun W hW => found_any W (H.out.below hW))
  obtain ⟨L, hL⟩ : ∃ L, L = kindsF D B.length m := ⟨_, rfl⟩
  have HL := Lib.hid hL
  clear hL
  go_enter Tryz.func98, Tryz.ntmps98
  go_upto_region 3 with (first
    | (go_at_call 134; refine (HF.out _ (by (repeat (first | assumption | exact Below.refl _ _ | apply Below.drew | apply below_al)))).mono ?_; rintro e w2 ⟨M, G, Vv, rfl, hFA, hb2⟩; have HFA := Lib.hid hFA; have HB2 := Lib.hid hb2; clear hFA hb2)
    | (go_at_call 136; refine (keys_any _ _).mono ?_; rintro e w3 ⟨rfl, rfl⟩)
    | (go_at_call 135; refine (FAt.sorted HFA.out (by omega) (by omega)).mono ?_; rintro e w4 ⟨v, rfl, hrow, hb4⟩; have HRW := Lib.hid hrow; have HB4 := Lib.hid hb4; clear hrow hb4))
  have hb02 : Below w.heap.size w w2 := belt (below_al (Below.refl _ _) (.cells #[.int .i64 0, .int .i64 0, .int .i64 0] 139)) HB2.out
  have HB04 : Hid (Below w.heap.size w w4) := Lib.hid (belt hb02 HB4.out)
  have hz2 : Box w2 w.heap.size 139 #[.int .i64 0, .int .i64 0, .int .i64 0] := (Box.new w _ 139).below HB2.out (by simp)
  have HZ4 : Hid (Box w4 w.heap.size 139 #[.int .i64 0, .int .i64 0, .int .i64 0]) := Lib.hid (hz2.below HB4.out hz2.lt)
  have hszw : w.heap.size < w4.heap.size := HZ4.out.lt
  have HF4 := Lib.hid (HFA.out.below HB4.out)
  have HD4 := Lib.hid (H.out.below HB04.out)
  rw [← HL.out] at HRW
  obtain ⟨A, cA, rfl, hcA, hcA2, hcell⟩ := kind_row HRW.out
  have HCELL := Lib.hid hcell
  have HOKK : Hid (∀ k x, L[k]? = some x → foundF D B.length m x ≠ []) := Lib.hid (fun k x hx => (kindsF_mem D B.length m x).1 (by rw [← HL.out]; exact List.mem_of_getElem? hx))
  have HLEN : Hid (L.length ≤ 12288) := Lib.hid (by
    have h1 := perm_len (nodup_of_sorted (foldr_insK_sorted (kindsL D B.length m))) (l' := kindsL D B.length m) (fun x hx => (foldr_insK_mem x _).1 hx)
    have h2 := kinds_len (D := D) (n := B.length) (m := m)
    rw [HL.out]
    unfold kindsF
    omega)
  have hlenL := HLEN.out
  have hcA3 : ((L.length : Nat) : Int) ≤ (cA : Int) := by omega
  unfold maxLen at hcA2
  clear hb02 hz2 hcell
  obtain ⟨b3, hb3⟩ : ∃ b3, b3 = w.heap.size := ⟨_, rfl⟩
  rw [← hb3] at HZ4 hszw ⊢
  have HB3 := Lib.hid hb3
  clear hb3
  go_wp2_with fail
  go_loopw [18] (fun j wr => ∃ k : Nat, k ≤ L.length ∧ j = .int .i64 k ∧ Hid (∀ j z, j < k → L[j]? = some z → wholeF D m z (foundF D B.length m z) = none) ∧ Hid (Below w4.heap.size w4 wr)) (fun j _ => L.length - (intOf j).toNat)
  case atStart => exact ⟨0, Nat.zero_le _, rfl, Lib.hid (fun j z hj => by omega), Lib.hid (Below.refl _ _)⟩
  case round =>
    obtain ⟨k, hk, rfl, HNO, HBW⟩ := hrel
    have hszr := HBW.out.size
    have HZr := Lib.hid (HZ4.out.below HBW.out hszw)
    by_cases hlt : k < L.length
    · have hx := List.getElem?_eq_getElem hlt
      obtain ⟨x, hxe⟩ : ∃ x, x = L[k] := ⟨_, rfl⟩
      rw [← hxe] at hx
      have HX := Lib.hid hx
      obtain ⟨g, hA, c0, c1, c2⟩ := HCELL.out k x hx
      have HF := Lib.hid (HOKK.out k x hx)
      subst hA
      obtain ⟨x1, x2, x3⟩ := x
      have e0 : wr.cell? ⟨g, k * 3, none⟩ = some (.int .i64 x1) := cell_below HBW.out c0
      have e1 : wr.cell? ⟨g, k * 3 + 1, none⟩ = some (.int .i64 x2) := cell_below HBW.out c1
      have e2 : wr.cell? ⟨g, k * 3 + 2, none⟩ = some (.int .i64 x3) := cell_below HBW.out c2
      clear c0 c1 c2 hxe hx
      go_upto_region 6 with fail
      obtain ⟨W6, hW6⟩ : ∃ W6, W6 = wr.alloc (Obj.cells #[Value.int IntKind.i64 x1, Value.int IntKind.i64 x2, Value.int IntKind.i64 x3] 139) := ⟨_, rfl⟩
      refine at_world (W0 := W6) _ hW6.symm ?_
      have hb6 : Below wr.heap.size wr W6 := by rw [hW6]; exact below_al (Below.refl _ _) _
      have hx6 : Box W6 wr.heap.size 139 #[.int .i64 x1, .int .i64 x2, .int .i64 x3] := by rw [hW6]; exact Box.new _ _ _
      have HB46 : Hid (Below w4.heap.size w4 W6.drew) := Lib.hid (belt HBW.out hb6).drew
      have HX6 := Lib.hid hx6
      have hfl : (foundF D B.length m (x1, x2, x3)).length = x2 := (FLen.found D B.length m B.length (x1, x2, x3) HF.out).1
      have HLK : Hid (∀ W, Below w4.heap.size w4 W → (Instr.lookup 176 (.map (some M)) (.agg #[.int .i64 x1, .int .i64 x2, .int .i64 x3]) false).run Tryz.prog W = .ok (.slice (some ⟨G (x1, x2, x3), 0, none⟩) x2 x2) W) := Lib.hid (fun W hW => by
        have h1 := (HF4.out.below hW).lookup (HF4.out.ok _ HF.out)
        unfold lookV at h1
        rw [if_neg HF.out, hfl] at h1
        exact h1)
      have HWH : Hid (∀ W, Below w4.heap.size w4 W → Calls Tryz.prog 140 #[.pointer (some ⟨d, 0, none⟩), .agg #[.int .i64 x1, .int .i64 x2, .int .i64 x3], .slice (some ⟨G (x1, x2, x3), 0, none⟩) x2 x2] W (WholeP (wholeF D m (x1, x2, x3) (foundF D B.length m (x1, x2, x3))) W)) := Lib.hid (fun W hW => by
        obtain ⟨o1, o2, o3, o4, o5, o6⟩ := found_ok HF.out
        dsimp only at o1 o2 o3 o4 o5 o6
        refine whole_any x1 x2 x3 (G (x1, x2, x3)) (foundF D B.length m (x1, x2, x3)) W (HD4.out.below hW) ((HF4.out.below hW).rowsAt HF.out) hfl o3 (fun row hr => ?_) o5 (by omega) (by omega) (by unfold firstF; rcases Nat.mod_two_eq_zero_or_one x1 with h0 | h0 <;> rw [h0] <;> omega)
        rw [found_rows HF.out] at hr
        obtain ⟨i, hi, rfl⟩ := List.mem_map.1 hr
        exact ⟨Nat.le_trans (disksAt_len _ _ _ _ _ _) hmost, fun y hy => disksAt_mem hy⟩)
      obtain ⟨o, ho⟩ : ∃ o, o = wholeF D m (x1, x2, x3) (foundF D B.length m (x1, x2, x3)) := ⟨_, rfl⟩
      rw [← ho] at HWH
      have HO := Lib.hid ho
      clear ho
      generalize hb8 : wr.heap.size = b8 at hx6 HX6 hb6 ⊢
      have a0 : W6.drew.cell? ⟨b8, 0, none⟩ = some (.int .i64 x1) := hx6.cell 0
      have a1 : W6.drew.cell? ⟨b8, 1, none⟩ = some (.int .i64 x2) := hx6.cell 1
      have a2 : W6.drew.cell? ⟨b8, 2, none⟩ = some (.int .i64 x3) := hx6.cell 2
      have a3 := HLK.out W6.drew HB46.out
      have hlt8 : b8 < W6.drew.heap.size := hx6.lt
      have hge8 : w4.heap.size ≤ b8 := by omega
      clear hfl hx6 hb6 e0 e1 e2 hW6 hb8
      go_region_held3 (fun W => W.cell? ⟨b8, 0, none⟩ = some (.int .i64 x1) ∧ W.cell? ⟨b8, 1, none⟩ = some (.int .i64 x2) ∧ W.cell? ⟨b8, 2, none⟩ = some (.int .i64 x3) ∧ (Instr.lookup 176 (.map (some M)) (.agg #[.int .i64 x1, .int .i64 x2, .int .i64 x3]) false).run Tryz.prog W = .ok (.slice (some ⟨G (x1, x2, x3), 0, none⟩) x2 x2) W) (first | exact ⟨a0, a1, a2, a3⟩ | exact ⟨b0, b1, b2, b4⟩ | assumption) ((go_at_call 140; refine (HWH.out _ HB46.out).mono ?_; rintro e w7 ⟨t, rfl, ht, hb7⟩; have HT := Lib.hid ht; have HB7 := Lib.hid hb7; have b0 := cell_below HB7.out a0; have b1 := cell_below HB7.out a1; have b2 := cell_below HB7.out a2; have b4 := HLK.out w7 (belt HB46.out HB7.out); clear ht hb7))
      have HB47 : Hid (Below w4.heap.size w4 w7) := Lib.hid (belt HB46.out HB7.out)
      have HZ7 := Lib.hid (HZ4.out.below HB47.out hszw)
      have hne : b8 ≠ b3 := by omega
      clear a0 a1 a2 a3 b4
      cases o with
      | none =>
        go_wp2_with fail
        go_roundw
        case rel =>
          refine ⟨k + 1, by omega, by simp, Lib.hid (fun j z hj hz => ?_), HB47⟩
          by_cases hjk : j = k
          · subst hjk
            rw [HX.out] at hz
            injection hz with hz
            rw [← hz]
            exact HO.out.symm
          · exact HNO.out j z (by omega) hz
        case measure => simp [intOf]; omega
      | some s =>
        have hts : t = s := HT.out s rfl
        subst hts
        have f0 := HZ7.out.cell 0
        have f1 := HZ7.out.cell 1
        have f2 := HZ7.out.cell 2
        have z0 := HZ7.out.frozen 0
        have z1 := HZ7.out.frozen 1
        have z2 := HZ7.out.frozen 2
        simp only [List.getElem?_toArray, List.getElem?_cons_zero, List.getElem?_cons_succ] at f0 f1 f2
        go_upto_region 8 with fail
        go_region
        obtain ⟨W9, hW9⟩ : ∃ W9, W9 = (((w7.setCell { block := b3, off := 0 } (Value.int IntKind.i64 x1)).setCell { block := b3, off := 1 } (Value.int IntKind.i64 x2)).setCell { block := b3, off := 2 } (Value.int IntKind.i64 x3)).drew := ⟨_, rfl⟩
        have hb9 : Box W9 b3 139 #[.int .i64 x1, .int .i64 x2, .int .i64 x3] := by rw [hW9]; exact ((HZ7.out.set 0 (.int .i64 x1)).set 1 (.int .i64 x2)).set 2 (.int .i64 x3)
        have HBL9 : Hid (Below w.heap.size w W9) := Lib.hid (by
          rw [hW9]
          have h0 : Below w.heap.size w w7 := belt HB04.out HB47.out
          have hle : w.heap.size ≤ b3 := by rw [HB3.out]; exact Nat.le_refl _
          exact (((h0.setCell (p := ⟨b3, 0, none⟩) hle _).setCell (p := ⟨b3, 1, none⟩) hle _).setCell (p := ⟨b3, 2, none⟩) hle _).drew)
        have HBST : Hid (bestF D B.length m = some (t, (x1, x2, x3))) := Lib.hid (by
          unfold bestF
          rw [← HL.out]
          exact findSome_at _ L k (x1, x2, x3) (t, (x1, x2, x3)) HX.out (fun j z hj hz => by rw [HNO.out j z hj hz]; rfl) (by rw [← HO.out]; rfl))
        rw [← hW9]
        have q0 : W9.cell? ⟨b3, 0, none⟩ = some (.int .i64 x1) := hb9.cell 0
        have q1 : W9.cell? ⟨b3, 1, none⟩ = some (.int .i64 x2) := hb9.cell 1
        have q2 : W9.cell? ⟨b3, 2, none⟩ = some (.int .i64 x3) := hb9.cell 2
        clear hb9 hW9 f0 f1 f2 z0 z1 z2 b0 b1 b2
        go_wp2_with fail
        refine bodyPost_ret (v := .tuple #[.string t, .agg #[.int .i64 x1, .int .i64 x2, .int .i64 x3], .bool true]) (by simp [results, Tryz.results98, go_sem, q0, q1, q2]) rfl ⟨?_, HBL9.out⟩
        rw [HBST.out] <;> rfl
    · have hkL : k = L.length := by omega
      subst hkL
      have HBST : Hid (bestF D B.length m = none) := Lib.hid (by
        unfold bestF
        rw [← HL.out, List.findSome?_eq_none_iff]
        intro z hz
        obtain ⟨j, hj, e⟩ := List.getElem_of_mem hz
        rw [HNO.out j z hj (by rw [List.getElem?_eq_getElem hj, e])]
        rfl)
      have f0 := HZr.out.cell 0
      have f1 := HZr.out.cell 1
      have f2 := HZr.out.cell 2
      have z0 := HZr.out.frozen 0
      have z1 := HZr.out.frozen 1
      have z2 := HZr.out.frozen 2
      simp only [List.getElem?_toArray, List.getElem?_cons_zero, List.getElem?_cons_succ] at f0 f1 f2
      go_wp2_with fail
      obtain ⟨W9, hW9⟩ : ∃ W9, W9 = (((wr.setCell { block := b3, off := 0 } (Value.int IntKind.i64 0)).setCell { block := b3, off := 1 } (Value.int IntKind.i64 0)).setCell { block := b3, off := 2 } (Value.int IntKind.i64 0)) := ⟨_, rfl⟩
      have hb9 : Box W9 b3 139 #[.int .i64 0, .int .i64 0, .int .i64 0] := by rw [hW9]; exact ((HZr.out.set 0 (.int .i64 0)).set 1 (.int .i64 0)).set 2 (.int .i64 0)
      have HBL9 : Hid (Below w.heap.size w W9) := Lib.hid (by
        rw [hW9]
        have h0 : Below w.heap.size w wr := belt HB04.out HBW.out
        have hle : w.heap.size ≤ b3 := by rw [HB3.out]; exact Nat.le_refl _
        exact ((h0.setCell (p := ⟨b3, 0, none⟩) hle _).setCell (p := ⟨b3, 1, none⟩) hle _).setCell (p := ⟨b3, 2, none⟩) hle _)
      rw [← hW9]
      have q0 : W9.cell? ⟨b3, 0, none⟩ = some (.int .i64 0) := hb9.cell 0
      have q1 : W9.cell? ⟨b3, 1, none⟩ = some (.int .i64 0) := hb9.cell 1
      have q2 : W9.cell? ⟨b3, 2, none⟩ = some (.int .i64 0) := hb9.cell 2
      clear hb9 hW9 f0 f1 f2 z0 z1 z2
      refine bodyPost_ret (v := .tuple #[.string ⟨#[]⟩, .agg #[.int .i64 0, .int .i64 0, .int .i64 0], .bool false]) (by simp [results, Tryz.results98, go_sem, q0, q1, q2]) rfl ⟨?_, HBL9.out⟩
      rw [HBST.out] <;> rfl
end Go.Proofs.YtkdjibejnncmfaaGreatDoor.Co

/- The walk of Open. -/
namespace Go.Proofs.YtkdjibejnncmfaaGreatDoor.Co
open Go.RowKit Go.Proofs.YtkdjibejnncmfaaGreatDoorW.PrintWords Go.Proofs.YtkdjibejnncmfaaGreatDoorW.PrintLast Go.Proofs.YtkdjibejnncmfaaGreatDoorW.PrintMore
set_option linter.unusedVariables false
set_option linter.unusedSimpArgs false
set_option maxRecDepth 100000
theorem textO_ok {bs : List Int} {x : Kn} {t : ByteArray} (h : textO bs x = some t) : neededF t.size x.2.2 = x.2.1 ∧ t.size ≤ 4000 := by
  unfold textO at h
  split at h
  · cases h
  · rename_i h1
    split at h
    · cases h
    · rename_i h2
      split at h
      · rename_i h3
        injection h with h
        rw [Bool.and_eq_true] at h3
        have hs : t.size = ofLE (bs.take 4) := by
          rw [← h, strOfNums_size, List.length_take, List.length_drop]
          omega
        rw [hs]
        exact ⟨by simpa using h3.2, by omega⟩
      · cases h
theorem bestF_ok {D : DS} {n m : Nat} {t : ByteArray} {x : Kn} (h : bestF D n m = some (t, x)) : foundF D n m x ≠ [] ∧ neededF t.size x.2.2 = x.2.1 ∧ t.size ≤ 4000 := by
  unfold bestF at h
  obtain ⟨y, hy, he⟩ := List.exists_of_findSome?_eq_some h
  cases hw : wholeF D m y (foundF D n m y) with
  | none => rw [hw] at he; cases he
  | some s =>
    rw [hw] at he
    injection he with he
    injection he with h1 h2
    subst h1
    subst h2
    refine ⟨(kindsF_mem D n m y).1 hy, ?_⟩
    unfold wholeF at hw
    split at hw
    · exact textO_ok hw
    · cases hw
def openF (n m : Nat) (D : DS) : Option VS × Int × DS :=
  if D.down then (none, 91, D) else
    match bestF D n m with
    | none => (none, 93, D)
    | some (t, x) =>
      if (allF n m D (diffF D (imageF n m t x.1 x.2.2))).2 = 0 then (some ⟨(allF n m D (diffF D (imageF n m t x.1 x.2.2))).1.falls, t, x.1, x.2.2⟩, 0, (allF n m D (diffF D (imageF n m t x.1 x.2.2))).1)
      else (none, (allF n m D (diffF D (imageF n m t x.1 x.2.2))).2, (allF n m D (diffF D (imageF n m t x.1 x.2.2))).1)
theorem open_vok {n m : Nat} {D : DS} {V : VS} {e : Int} {D' : DS} (h : openF n m D = (some V, e, D')) : VOk n m V := by
  unfold openF at h
  split at h
  · cases h
  · split at h
    · cases h
    · rename_i t x hb
      obtain ⟨h1, h2, h3⟩ := bestF_ok hb
      obtain ⟨o1, o2, o3, o4, o5, o6⟩ := found_ok h1
      split at h
      · injection h with h _
        injection h with h
        rw [← h]
        exact ⟨o5, o6, by show neededF t.size x.2.2 ≤ m / 2; omega, o1, o2, h3⟩
      · cases h
theorem Open_nil (w : World) : Calls Tryz.prog 44 #[.pointer none] w fun e w' => e = .returned (.tuple #[.pointer none, .int .i64 1]) ∧ w = w' := by
  go_enter Tryz.func44, Tryz.ntmps44
  go_wp2_with fail
  go_ret2
  exact ⟨rfl, rfl⟩
set_option maxHeartbeats 4000000 in
theorem Open_any {d P c m : Nat} {B : List Nat} {D : DS} (w : World) (h : DAt w d P B c m D) (hfa : 0 ≤ D.falls) (hfb : D.falls < 9223372036854775807) :
    Calls Tryz.prog 44 #[.pointer (some ⟨d, 0, none⟩)] w (MadeP d P c m B (openF B.length m D) w) := by
  have H := Lib.hid h
  have hmost := h.most
  have hfew := h.few
  have c3 := h.f3
  clear h
  cases hdn : D.down with
  | true =>
    rw [hdn] at c3
    have HR : Hid (openF B.length m D = (none, 91, D)) := Lib.hid (by unfold openF; rw [hdn]; rfl)
    clear hdn
    go_enter Tryz.func44, Tryz.ntmps44
    go_wp2_with fail
    go_ret2
    exact ⟨none, by rw [HR.out] <;> rfl, by rw [HR.out]; exact H.out, Fr.refl _ _ _, by rw [HR.out] <;> rfl⟩
  | false =>
    rw [hdn] at c3
    have HBE : Hid (∀ W, Below w.heap.size w W → Calls Tryz.prog 98 #[.pointer (some ⟨d, 0, none⟩)] W (BestP (bestF D B.length m) W)) := Lib.hid (fun W hW => best_any W (H.out.below hW))
    have HR : Hid (openF B.length m D = match bestF D B.length m with
      | none => (none, 93, D)
      | some (t, x) =>
        if (allF B.length m D (diffF D (imageF B.length m t x.1 x.2.2))).2 = 0 then (some ⟨(allF B.length m D (diffF D (imageF B.length m t x.1 x.2.2))).1.falls, t, x.1, x.2.2⟩, 0, (allF B.length m D (diffF D (imageF B.length m t x.1 x.2.2))).1)
        else (none, (allF B.length m D (diffF D (imageF B.length m t x.1 x.2.2))).2, (allF B.length m D (diffF D (imageF B.length m t x.1 x.2.2))).1)) := Lib.hid (by unfold openF; rw [hdn]; rfl)
    clear hdn
    cases hb : bestF D B.length m with
    | none =>
      rw [hb] at HBE HR
      have HR2 : Hid (openF B.length m D = (none, 93, D)) := Lib.hid HR.out
      have HBN : Hid (∀ W, Below w.heap.size w W → Calls Tryz.prog 98 #[.pointer (some ⟨d, 0, none⟩)] W fun e w' => e = .returned (.tuple #[.string ⟨#[]⟩, .agg #[.int .i64 0, .int .i64 0, .int .i64 0], .bool false]) ∧ Below W.heap.size W w') := Lib.hid (fun W hW => (HBE.out W hW).mono fun e w' h => ⟨h.1, h.2⟩)
      clear hb HR HBE
      go_enter Tryz.func44, Tryz.ntmps44
      go_wp2_with (go_at_call 98; refine (HBN.out _ (Below.refl _ _)).mono ?_; rintro e w2 ⟨rfl, hb2⟩; have HB2 := Lib.hid hb2; clear hb2)
      go_ret2
      have hbe : Below w.heap.size w (w2.alloc (.cells #[.int .i64 0, .int .i64 0, .int .i64 0] 139)) := below_al HB2.out _
      exact ⟨none, by rw [HR2.out] <;> rfl, by rw [HR2.out]; exact H.out.below hbe, Fr.of_below hbe, by rw [HR2.out] <;> rfl⟩
    | some p =>
      obtain ⟨t, x1, x2, x3⟩ := p
      obtain ⟨b1, b2, b3⟩ := bestF_ok hb
      obtain ⟨o1, o2, o3, o4, o5, o6⟩ := found_ok b1
      dsimp only at b2 o1 o2 o3 o4 o5 o6
      rw [hb] at HBE HR
      have hned : neededF t.size x3 ≤ m / 2 := by omega
      obtain ⟨im, him⟩ : ∃ im, im = imageF B.length m t x1 x3 := ⟨_, rfl⟩
      obtain ⟨df, hdf⟩ : ∃ df, df = diffF D im := ⟨_, rfl⟩
      obtain ⟨r, hr⟩ : ∃ r, r = allF B.length m D df := ⟨_, rfl⟩
      have HR1 : Hid (openF B.length m D = if r.2 = 0 then (some ⟨r.1.falls, t, x1, x3⟩, 0, r.1) else (none, r.2, r.1)) := Lib.hid (by rw [HR.out, hr, hdf, him])
      have HBS : Hid (∀ W, Below w.heap.size w W → Calls Tryz.prog 98 #[.pointer (some ⟨d, 0, none⟩)] W fun e w' => e = .returned (.tuple #[.string t, .agg #[.int .i64 x1, .int .i64 x2, .int .i64 x3], .bool true]) ∧ Below W.heap.size W w') := Lib.hid (fun W hW => (HBE.out W hW).mono fun e w' h => ⟨h.1, h.2⟩)
      have HLI : Hid (im.length ≤ 6144) := Lib.hid (by rw [him]; exact image_len_le hmost hfew hned)
      have HLD : Hid (df.length ≤ 6144) := Lib.hid (by rw [hdf]; unfold diffF; exact Nat.le_trans (List.length_filter_le _ _) HLI.out)
      have HIM : Hid (∀ W, Below w.heap.size w W → Calls Tryz.prog 94 #[.pointer (some ⟨d, 0, none⟩), .string t, .int .i64 x1, .int .i64 x3] W fun e w' => ∃ u, e = .returned u ∧ PL w' W.heap.size u im ∧ Below W.heap.size W w') := Lib.hid (fun W hW => by
        rw [him]
        exact image_pl t x1 x3 W (H.out.below hW) o5 o6 (by omega) hned)
      have HDF : Hid (∀ W base u, Below w.heap.size w W → PL W base u im → Calls Tryz.prog 99 #[.pointer (some ⟨d, 0, none⟩), u] W fun e w' => ∃ u', e = .returned u' ∧ PL w' W.heap.size u' df ∧ Below W.heap.size W w') := Lib.hid (fun W base u hW hp => by
        rw [hdf]
        exact diff_pl base u im W (H.out.below hW) hp (by have := HLI.out; omega) (by rw [him]; exact imageF_in hned))
      have HAL : Hid (∀ W base u, Below w.heap.size w W → w.heap.size ≤ base → PL W base u df → Calls Tryz.prog 93 #[.pointer (some ⟨d, 0, none⟩), u] W fun e w' => e = .returned (.int .i64 r.2) ∧ DAt w' d P B c m r.1 ∧ Fr d B W w') := Lib.hid (fun W base u hW hb hp => by
        rw [hr]
        exact all_pl base u _ W (H.out.below hW) hp (by have := HLD.out; omega) (by have := H.out.lt_d; omega) (fun b hb2 => by have := H.out.B_lt b hb2; omega) hfa hfb)
      clear hb HR HBE him hdf hr b1 b2
      have hBl := Lib.hid H.out.B_lt
      have hdl := H.out.lt_d
      go_enter Tryz.func44, Tryz.ntmps44
      go_upto_region 8 with (go_at_call 98; refine (HBS.out _ (Below.refl _ _)).mono ?_; rintro e w2 ⟨rfl, hb2⟩; have HB2 := Lib.hid hb2; clear hb2)
      obtain ⟨W3, hW3⟩ : ∃ W3, W3 = w2.alloc (Obj.cells #[Value.int IntKind.i64 x1, Value.int IntKind.i64 x2, Value.int IntKind.i64 x3] 139) := ⟨_, rfl⟩
      refine at_world (W0 := W3) _ hW3.symm ?_
      have HB3 : Hid (Below w.heap.size w W3) := Lib.hid (by rw [hW3]; exact below_al HB2.out _)
      have hx3 : Box W3 w2.heap.size 139 #[.int .i64 x1, .int .i64 x2, .int .i64 x3] := by rw [hW3]; exact Box.new _ _ _
      have hge := HB2.out.size
      generalize w2.heap.size = b5 at hx3 hge ⊢
      have HX3 := Lib.hid hx3
      have hlt5 := hx3.lt
      have HN5 : Hid (b5 ≠ d ∧ b5 ∉ B) := Lib.hid ⟨by omega, fun hm => by have := hBl.out b5 hm; omega⟩
      have e0 : W3.cell? ⟨b5, 0, none⟩ = some (.int .i64 x1) := hx3.cell 0
      have e2 : W3.cell? ⟨b5, 2, none⟩ = some (.int .i64 x3) := hx3.cell 2
      clear hx3 hW3
      go_upto_region 9 with (first
        | (go_at_call 94; refine (HIM.out _ HB3.out).mono ?_; rintro e w4 ⟨u4, rfl, hP4, hb4⟩; have HP4 := Lib.hid hP4; have HB4 := Lib.hid hb4; clear hP4 hb4)
        | (go_at_call 99; refine (HDF.out _ _ _ (belt HB3.out HB4.out) HP4.out).mono ?_; rintro e w5 ⟨u5, rfl, hP5, hb5⟩; have HP5 := Lib.hid hP5; have HB5 := Lib.hid (belt HB4.out hb5); clear hP5 hb5)
        | (go_at_call 93; refine (HAL.out _ _ _ (belt HB3.out HB5.out) (by have := HB3.out.size; have := HB4.out.size; omega) HP5.out).mono ?_; rintro e w6 ⟨rfl, hD6, hf6⟩; have HD6 := Lib.hid hD6; have HF6 := Lib.hid hf6; clear hD6 hf6))
      have hx6 : Box w6 b5 139 #[.int .i64 x1, .int .i64 x2, .int .i64 x3] := HF6.out.box (HX3.out.below HB5.out hlt5) HN5.out.1 HN5.out.2
      have HFW : Hid (Fr d B w w6) := Lib.hid ((Fr.of_below (belt HB3.out HB5.out)).trans HF6.out)
      clear e0 e2
      have e0 : w6.cell? ⟨b5, 0, none⟩ = some (.int .i64 x1) := hx6.cell 0
      have e2 : w6.cell? ⟨b5, 2, none⟩ = some (.int .i64 x3) := hx6.cell 2
      have f4 := HD6.out.f4
      clear hx6
      by_cases hr0 : r.2 = 0
      · have HR3 : Hid (openF B.length m D = (some ⟨r.1.falls, t, x1, x3⟩, 0, r.1)) := Lib.hid (by rw [HR1.out, if_pos hr0])
        have er : ((r.2 : Int) == 0) = true := by simpa using hr0
        clear hr0
        go_upto_region 11 with fail
        go_region
        all_goals
          go_wp2_with fail
          go_ret2
          have hbe : Below w6.heap.size w6 (w6.alloc (.cells #[.pointer (some ⟨d, 0, none⟩), .int .i64 r.1.falls, .string t, .int .i64 x1, .int .i64 x3] 137)).drew := (below_al (Below.refl _ _) _).drew
          exact ⟨some ⟨w6.heap.size, 0, none⟩, by rw [HR3.out] <;> rfl, by rw [HR3.out]; exact HD6.out.below hbe, HFW.out.trans (Fr.of_below hbe), by rw [HR3.out]; exact ⟨_, rfl, HFW.out.size, ⟨Box.new _ _ _, (by show x3 ≤ 12; omega), (by show x1 ≤ 1099511627776; omega)⟩⟩⟩
      · have HR3 : Hid (openF B.length m D = (none, r.2, r.1)) := Lib.hid (by rw [HR1.out, if_neg hr0])
        have er : ((r.2 : Int) == 0) = false := by simpa using hr0
        clear hr0
        go_wp2_with fail
        go_ret2
        exact ⟨none, by rw [HR3.out] <;> rfl, by rw [HR3.out]; exact HD6.out, HFW.out, by rw [HR3.out] <;> rfl⟩
end Go.Proofs.YtkdjibejnncmfaaGreatDoor.Co

/- The walks of slices.Equal at texts and at pairs. -/
namespace Go.Proofs.YtkdjibejnncmfaaGreatDoor.Co
open Go.RowKit Go.Proofs.YtkdjibejnncmfaaGreatDoorW.PrintWords Go.Proofs.YtkdjibejnncmfaaGreatDoorW.PrintLast Go.Proofs.YtkdjibejnncmfaaGreatDoorW.PrintMore
set_option linter.unusedVariables false
set_option linter.unusedSimpArgs false
set_option maxRecDepth 100000
/-- A slice's texts in memory. -/
def TxA (w : World) (A : Option Addr) (l : List ByteArray) : Prop := ∀ (i : Nat), i < l.length → ∃ g o, A = some ⟨g, o, none⟩ ∧ w.cell? ⟨g, o + i, none⟩ = some (.string (vs l i))
set_option maxHeartbeats 2000000 in
theorem eqs_any (A1 A2 : Option Addr) (c1 c2 : Nat) (l1 l2 : List ByteArray) (w : World) (h1 : TxA w A1 l1) (h2 : TxA w A2 l2) (hl1 : l1.length ≤ 100000) (hl2 : l2.length ≤ 100000) (hc1 : l1.length ≤ c1) (hc2 : l2.length ≤ c2) (r : Bool) (hr : r = true ↔ l1.length = l2.length ∧ ∀ i : Nat, i < l1.length → (vs l1 i).toList = (vs l2 i).toList) :
    Calls Tryz.prog 54 #[.slice A1 l1.length c1, .slice A2 l2.length c2] w fun e w' => e = .returned (.bool r) ∧ Below w.heap.size w w' := by
  have H1 := Lib.hid h1
  have H2 := Lib.hid h2
  have HR := Lib.hid hr
  clear h1 h2 hr
  by_cases hne : l1.length = l2.length
  · have hc2' : ((l1.length : Nat) : Int) ≤ (c2 : Int) := by omega
    have hc1' : ((l1.length : Nat) : Int) ≤ (c1 : Int) := by omega
    rw [← hne] at hl2 hc2 ⊢
    have HNE := Lib.hid hne
    clear hne
    go_enter Tryz.func54, Tryz.ntmps54
    go_wp2_with fail
    go_loopw [13] (fun j wr => ∃ k : Nat, k ≤ l1.length ∧ j = .int .i64 k ∧ Hid (∀ i : Nat, i < k → (vs l1 i).toList = (vs l2 i).toList) ∧ Hid (Drawn0 w wr)) (fun j _ => l1.length - (intOf j).toNat)
    case atStart => exact ⟨0, Nat.zero_le _, rfl, Lib.hid (fun i hi => by omega), Lib.hid (Drawn0.refl _)⟩
    case round =>
      obtain ⟨k, hk, rfl, HE, HD⟩ := hrel
      by_cases hlt : k < l1.length
      · obtain ⟨g1, o1, e1, q1⟩ := H1.out k hlt
        obtain ⟨g2, o2, e2, q2⟩ := H2.out k (by have := HNE.out; omega)
        subst e1 e2
        obtain ⟨s1, hs1⟩ : ∃ s1, s1 = vs l1 (k : Nat) := ⟨_, rfl⟩
        obtain ⟨s2, hs2⟩ : ∃ s2, s2 = vs l2 (k : Nat) := ⟨_, rfl⟩
        rw [← hs1] at q1
        rw [← hs2] at q2
        have c1r : wr.cell? ⟨g1, o1 + k, none⟩ = some (.string s1) := by obtain ⟨nd, rfl⟩ := HD.out; first | exact q1 | exact q2
        have c2r : wr.cell? ⟨g2, o2 + k, none⟩ = some (.string s2) := by obtain ⟨nd, rfl⟩ := HD.out; first | exact q1 | exact q2
        have HS1 := Lib.hid hs1
        have HS2 := Lib.hid hs2
        clear q1 q2 hs1 hs2
        go_upto_region 6 with fail
        go_quiet (fail)
        cases hgb : (s1.toList == s2.toList) with
        | true =>
          have HSS := Lib.hid (show s1.toList = s2.toList by simpa using hgb)
          clear hgb
          go_wp2_with fail
          go_roundw
          case rel =>
            refine ⟨k + 1, by omega, by simp, Lib.hid (fun i hi => ?_), Lib.hid (HD.out.step _)⟩
            by_cases hik : i = k
            · rw [hik, ← HS1.out, ← HS2.out]; exact HSS.out
            · exact HE.out i (by omega)
          case measure => simp [intOf]; omega
        | false =>
          have HSS := Lib.hid (show ¬ s1.toList = s2.toList by simpa using hgb)
          clear hgb
          go_wp2_with fail
          go_ret
          have hrf : r = false := by
            cases hrr : r with
            | false => rfl
            | true => exact absurd ((HR.out.1 hrr).2 k hlt) (by rw [← HS1.out, ← HS2.out]; exact HSS.out)
          exact ⟨by rw [hrf] <;> rfl, (HD.out.step _).below⟩
      · have hkl : k = l1.length := by omega
        subst hkl
        go_wp2_with fail
        go_ret
        have hrt : r = true := HR.out.2 ⟨HNE.out, HE.out⟩
        exact ⟨by rw [hrt] <;> rfl, HD.out.below⟩
  · have hb : ((l1.length : Int) == (l2.length : Int)) = false := by simp; omega
    go_enter Tryz.func54, Tryz.ntmps54
    go_wp2_with fail
    go_ret
    have hrf : r = false := by
      cases hrr : r with
      | false => rfl
      | true => exact absurd (HR.out.1 hrr).1 hne
    exact ⟨by rw [hrf] <;> rfl, Below.refl _ _⟩
theorem run_neq_pairs (w : World) (a1 a2 b1 b2 : Int) :
    (binOp .neq 68 (.agg #[.int .i64 a1, .int .i64 a2]) (.agg #[.int .i64 b1, .int .i64 b2])).run Tryz.prog w = .ok (.bool (!(a1 == b1 && a2 == b2))) w := by
  rw [run_neq_struct, show (10000 : Nat) = 9999 + 1 from rfl]
  have h3 : ∀ a b : Int, (Op.equalIn 9999 3 (.int .i64 a) (.int .i64 b)).run Tryz.prog w = .ok (a == b) w := fun a b => run_equalIn_int w 9998 3 .i64 .i64 a b Tryz.underlying3
  unfold Op.equalIn
  simp [run_underlying Tryz.underlying68, go_sem, List.range', Tryz.isAgg3, h3]
  by_cases h1 : a1 = b1 <;> by_cases h2 : a2 = b2 <;> simp [h1, h2]
def pr (l : List (Int × Int)) (i : Nat) : Int × Int := l.getD i (0, 0)
/-- A slice's pairs in memory. -/
def PrA (w : World) (A : Option Addr) (l : List (Int × Int)) : Prop := ∀ (i : Nat), i < l.length → ∃ g o, A = some ⟨g, o, none⟩ ∧ w.cell? ⟨g, o + i * 2, none⟩ = some (.int .i64 (pr l i).1) ∧ w.cell? ⟨g, o + i * 2 + 1, none⟩ = some (.int .i64 (pr l i).2)
set_option maxHeartbeats 2000000 in
theorem eqp_any (A1 A2 : Option Addr) (c1 c2 : Nat) (l1 l2 : List (Int × Int)) (w : World) (h1 : PrA w A1 l1) (h2 : PrA w A2 l2) (hl1 : l1.length ≤ 100000) (hl2 : l2.length ≤ 100000) (hc1 : l1.length ≤ c1) (hc2 : l2.length ≤ c2) (r : Bool) (hr : r = true ↔ l1.length = l2.length ∧ ∀ i : Nat, i < l1.length → pr l1 i = pr l2 i) :
    Calls Tryz.prog 71 #[.slice A1 l1.length c1, .slice A2 l2.length c2] w fun e w' => e = .returned (.bool r) ∧ Below w.heap.size w w' := by
  have H1 := Lib.hid h1
  have H2 := Lib.hid h2
  have HR := Lib.hid hr
  clear h1 h2 hr
  by_cases hne : l1.length = l2.length
  · have hc2' : ((l1.length : Nat) : Int) ≤ (c2 : Int) := by omega
    have hc1' : ((l1.length : Nat) : Int) ≤ (c1 : Int) := by omega
    rw [← hne] at hl2 hc2 ⊢
    have HNE := Lib.hid hne
    clear hne
    go_enter Tryz.func71, Tryz.ntmps71
    go_wp2_with fail
    go_loopw [13] (fun j wr => ∃ k : Nat, k ≤ l1.length ∧ j = .int .i64 k ∧ Hid (∀ i : Nat, i < k → pr l1 i = pr l2 i) ∧ Hid (Drawn0 w wr)) (fun j _ => l1.length - (intOf j).toNat)
    case atStart => exact ⟨0, Nat.zero_le _, rfl, Lib.hid (fun i hi => by omega), Lib.hid (Drawn0.refl _)⟩
    case round =>
      obtain ⟨k, hk, rfl, HE, HD⟩ := hrel
      by_cases hlt : k < l1.length
      · obtain ⟨g1, o1, e1, q1, p1⟩ := H1.out k hlt
        obtain ⟨g2, o2, e2, q2, p2⟩ := H2.out k (by have := HNE.out; omega)
        subst e1 e2
        obtain ⟨⟨a1, a2⟩, hs1⟩ : ∃ s1, s1 = pr l1 k := ⟨_, rfl⟩
        obtain ⟨⟨b1, b2⟩, hs2⟩ : ∃ s2, s2 = pr l2 k := ⟨_, rfl⟩
        rw [← hs1] at q1 p1
        rw [← hs2] at q2 p2
        dsimp only at q1 p1 q2 p2
        have c1r : wr.cell? ⟨g1, o1 + k * 2, none⟩ = some (.int .i64 a1) := by obtain ⟨nd, rfl⟩ := HD.out; exact q1
        have c2r : wr.cell? ⟨g1, o1 + k * 2 + 1, none⟩ = some (.int .i64 a2) := by obtain ⟨nd, rfl⟩ := HD.out; exact p1
        have c3r : wr.cell? ⟨g2, o2 + k * 2, none⟩ = some (.int .i64 b1) := by obtain ⟨nd, rfl⟩ := HD.out; exact q2
        have c4r : wr.cell? ⟨g2, o2 + k * 2 + 1, none⟩ = some (.int .i64 b2) := by obtain ⟨nd, rfl⟩ := HD.out; exact p2
        have HS1 := Lib.hid hs1
        have HS2 := Lib.hid hs2
        clear q1 q2 p1 p2 hs1 hs2
        have hnq := fun W : World => run_neq_pairs W a1 a2 b1 b2
        obtain ⟨bb, hbb⟩ : ∃ bb, bb = (a1 == b1 && a2 == b2) := ⟨_, rfl⟩
        rw [← hbb] at hnq
        have HBB := Lib.hid hbb
        clear hbb
        go_upto_region 6 with fail
        go_quiet (fail)
        clear hnq
        cases bb with
        | true =>
          have HSS := Lib.hid (show ((a1, a2) : Int × Int) = (b1, b2) by have := HBB.out.symm; simpa using this)
          go_wp2_with fail
          go_roundw
          case rel =>
            refine ⟨k + 1, by omega, by simp, Lib.hid (fun i hi => ?_), Lib.hid (HD.out.step _)⟩
            by_cases hik : i = k
            · rw [hik, ← HS1.out, ← HS2.out]; exact HSS.out
            · exact HE.out i (by omega)
          case measure => simp [intOf]; omega
        | false =>
          have HSS := Lib.hid (show ¬ ((a1, a2) : Int × Int) = (b1, b2) by have := HBB.out.symm; simpa using this)
          go_wp2_with fail
          go_ret
          have hrf : r = false := by
            cases hrr : r with
            | false => rfl
            | true => exact absurd ((HR.out.1 hrr).2 k hlt) (by rw [← HS1.out, ← HS2.out]; exact HSS.out)
          exact ⟨by rw [hrf] <;> rfl, (HD.out.step _).below⟩
      · have hkl : k = l1.length := by omega
        subst hkl
        go_wp2_with fail
        go_ret
        have hrt : r = true := HR.out.2 ⟨HNE.out, HE.out⟩
        exact ⟨by rw [hrt] <;> rfl, HD.out.below⟩
  · have hb : ((l1.length : Int) == (l2.length : Int)) = false := by simp; omega
    go_enter Tryz.func71, Tryz.ntmps71
    go_wp2_with fail
    go_ret
    have hrf : r = false := by
      cases hrr : r with
      | false => rfl
      | true => exact absurd (HR.out.1 hrr).1 hne
    exact ⟨by rw [hrf] <;> rfl, Below.refl _ _⟩
end Go.Proofs.YtkdjibejnncmfaaGreatDoor.Co
