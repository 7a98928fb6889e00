/- The walk of play: one operation is done with the program's disks and with the reference's. -/
import Derived.Test.YtkdjibejnncmfaaGreatDoorZK94
import Derived.Deep.RegionHeld3
namespace Go.Proofs.YtkdjibejnncmfaaGreatDoor.Co
open Go.RowKit Go.Proofs.YtkdjibejnncmfaaGreatDoorW.PrintWords Go.Proofs.YtkdjibejnncmfaaGreatDoorW.PrintLast Go.Proofs.YtkdjibejnncmfaaGreatDoorW.PrintMore
set_option linter.unusedVariables false
set_option linter.unusedSimpArgs false
set_option maxRecDepth 100000
/-- What is done with disks. -/
structure OpS where
  kind : Int
  disk : Int
  page : Int
  place : Int
  num : Int
  byt : Int
  text : ByteArray
def OpS.cells (x : OpS) : List Value := [.int .i64 x.kind, .int .i64 x.disk, .int .i64 x.page, .int .i64 x.place, .int .i64 x.num, .int .u8 x.byt, .string x.text]
structure OpS.Ok (x : OpS) : Prop where
  num : x.num ≤ 9223372036854775807
  byt : IsB x.byt
  text : x.text.size ≤ 9223372036854775807
def playF (n m : Nat) (D : DS) (x : OpS) : DS :=
  if x.kind = 1 then (writeF n m D x.disk x.page x.text).1 else
    if x.kind = 2 then armF D x.num x.place else
      if x.kind = 3 then restartF D else
        if x.kind = 4 then (loseF n m D x.disk).1 else
          if x.kind = 5 then (rotF n m D x.disk x.page x.place x.byt).1 else D
theorem Two.old {w : World} {base d P c r Q c2 m : Nat} {B : List Nat} {E : List (Nat × Nat)} {D1 D2 : DS} (h : Two w base d P B c r Q E c2 m D1 D2) : w.heap.size ≠ d ∧ w.heap.size ∉ bothL B r E := by
  have hd := h.a.box.lt
  have hr := h.b.box.lt
  refine ⟨by omega, fun hm => ?_⟩
  unfold bothL at hm
  rcases List.mem_append.1 hm with h1 | h1
  · obtain ⟨i, hi, e⟩ := List.getElem_of_mem h1
    have hi2 : i < D1.disks.length := by rw [h.a.len]; exact hi
    have := (h.a.disk i B[i] D1.disks[i] (List.getElem?_eq_getElem hi) (List.getElem?_eq_getElem hi2)).lt
    omega
  · rcases List.mem_cons.1 h1 with h2 | h2
    · omega
    · obtain ⟨e, he, h3⟩ := List.mem_map.1 h2
      obtain ⟨i, hi, e4⟩ := List.getElem_of_mem he
      have hr := h.b.row i e (by rw [← e4]; exact List.getElem?_eq_getElem hi)
      have := own_lt hr.own e.1 rfl
      omega
section
variable {w : World} {base d P c r Q c2 m : Nat} {B : List Nat} {E : List (Nat × Nat)} {D : DS} {x : OpS}
/-- What play leaves. -/
def PlayP (w : World) (base d P : Nat) (B : List Nat) (c r Q : Nat) (E : List (Nat × Nat)) (c2 m : Nat) (D : DS) (e : Ending) (w' : World) : Prop :=
  e = .returned (.bool true) ∧ Two w' base d P B c r Q E c2 m D D ∧ Fr d (bothL B r E) w w'
set_option maxHeartbeats 4000000 in
theorem play_any (h : Two w base d P B c r Q E c2 m D D) (hx : x.Ok) (hf0 : 0 ≤ D.falls) (hf1 : D.falls < 9223372036854775807) :
    Calls Tryz.prog 61 #[.pointer (some ⟨d, 0, none⟩), .pointer (some ⟨r, 0, none⟩), .agg x.cells.toArray] w (PlayP w base d P B c r Q E c2 m (playF B.length m D x)) := by
  obtain ⟨k, di, pg, pl, nn, y, s⟩ := x
  obtain ⟨hnn, hy, hs⟩ := hx
  dsimp only at hnn hy hs
  obtain ⟨ho1, ho2⟩ := h.old
  obtain ⟨W1, hW1⟩ : ∃ W1, W1 = w.alloc (.cells #[.int .i64 k, .int .i64 di, .int .i64 pg, .int .i64 pl, .int .i64 nn, .int .u8 y, .string s] 93) := ⟨_, rfl⟩
  have hB0 : Below w.heap.size w W1 := by rw [hW1]; exact below_al (Below.refl _ _) _
  have h1 := h.below hB0
  have HX : Hid (∀ W, Fr d (bothL B r E) W1 W → Box W w.heap.size 93 #[.int .i64 k, .int .i64 di, .int .i64 pg, .int .i64 pl, .int .i64 nn, .int .u8 y, .string s]) := Lib.hid (fun W hW => hW.box (by rw [hW1]; exact Box.new w _ 93) ho1 ho2)
  have HF0 : Hid (Fr d (bothL B r E) w W1) := Lib.hid (Fr.of_below hB0)
  have c0 := (HX.out W1 (Fr.refl _ _ _)).cell 0
  have c1 := (HX.out W1 (Fr.refl _ _ _)).cell 1
  have c2' := (HX.out W1 (Fr.refl _ _ _)).cell 2
  have c3 := (HX.out W1 (Fr.refl _ _ _)).cell 3
  have c4 := (HX.out W1 (Fr.refl _ _ _)).cell 4
  have c5 := (HX.out W1 (Fr.refl _ _ _)).cell 5
  have c6 := (HX.out W1 (Fr.refl _ _ _)).cell 6
  simp only [List.getElem?_toArray, List.getElem?_cons_zero, List.getElem?_cons_succ] at c0 c1 c2' c3 c4 c5 c6
  have HW := Lib.hid hW1
  have H1 := Lib.hid h1
  unfold OpS.cells
  dsimp only
  have HC : Hid (∀ W, Fr d (bothL B r E) W1 W → W.cell? ⟨w.heap.size, 1, none⟩ = some (.int .i64 di) ∧ W.cell? ⟨w.heap.size, 2, none⟩ = some (.int .i64 pg) ∧ W.cell? ⟨w.heap.size, 3, none⟩ = some (.int .i64 pl) ∧ W.cell? ⟨w.heap.size, 5, none⟩ = some (.int .u8 y) ∧ W.cell? ⟨w.heap.size, 6, none⟩ = some (.string s)) := Lib.hid (fun W hW => ⟨(HX.out W hW).cell 1, (HX.out W hW).cell 2, (HX.out W hW).cell 3, (HX.out W hW).cell 5, (HX.out W hW).cell 6⟩)
  have HDR : Hid (Fr d (bothL B r E) W1 W1.drew ∧ Two W1.drew base d P B c r Q E c2 m D D) := Lib.hid ⟨Fr.of_below (Below.refl _ _).drew, h1.below (Below.refl _ _).drew⟩
  clear h h1 hB0 hW1 ho1 ho2
  by_cases k0 : k = 0
  · subst k0
    have HP : Hid (playF B.length m D ⟨0, di, pg, pl, nn, y, s⟩ = D) := Lib.hid rfl
    obtain ⟨ra, hra⟩ : ∃ ra, ra = (readF B.length m D di pg).1 := ⟨_, rfl⟩
    obtain ⟨rb, hrb⟩ : ∃ rb, rb = (readF B.length m D di pg).2 := ⟨_, rfl⟩
    have HR1 : Hid (Calls Tryz.prog 106 #[.pointer (some ⟨d, 0, none⟩), .int .i64 di, .int .i64 pg] W1 fun e w' => e = .returned (.tuple #[.string ra, .int .i64 rb]) ∧ W1 = w') := Lib.hid (by rw [hra, hrb]; exact two_read di pg H1.out)
    have HR2 : Hid (Calls Tryz.prog 107 #[.pointer (some ⟨r, 0, none⟩), .int .i64 di, .int .i64 pg] W1 fun e w' => e = .returned (.tuple #[.string ra, .int .i64 rb]) ∧ W1 = w') := Lib.hid (by rw [hra, hrb]; exact two_refRead di pg H1.out)
    clear hra hrb
    rw [HP.out]
    go_enter Tryz.func61, Tryz.ntmps61
    go_upto_region 1 with fail
    rw [← HW.out]
    go_wp2_with (first
      | (go_at_call 106; (with_reducible refine Calls.mono HR1.out ?_); rintro e w2 ⟨rfl, rfl⟩)
      | (go_at_call 107; (with_reducible refine Calls.mono HR2.out ?_); rintro e w2 ⟨rfl, rfl⟩))
    go_ret
    exact ⟨rfl, H1.out, HF0.out⟩
  by_cases k1 : k = 1
  · subst k1
    have HP : Hid (playF B.length m D ⟨1, di, pg, pl, nn, y, s⟩ = (writeF B.length m D di pg s).1) := Lib.hid rfl
    obtain ⟨ra, hra⟩ : ∃ ra, ra = (writeF B.length m D di pg s).2 := ⟨_, rfl⟩
    obtain ⟨D', hD'⟩ : ∃ D', D' = (writeF B.length m D di pg s).1 := ⟨_, rfl⟩
    have HR1 : Hid (∀ W, Two W base d P B c r Q E c2 m D D → Calls Tryz.prog 108 #[.pointer (some ⟨d, 0, none⟩), .int .i64 di, .int .i64 pg, .string s] W fun e w' => e = .returned (.int .i64 ra) ∧ Two w' base d P B c r Q E c2 m D' D ∧ Fr d (bothL B r E) W w') := Lib.hid (fun W hW => by rw [hra, hD']; exact two_write di pg s hW hs hf0 hf1)
    have HR2 : Hid (∀ W, Two W base d P B c r Q E c2 m D' D → Calls Tryz.prog 109 #[.pointer (some ⟨r, 0, none⟩), .int .i64 di, .int .i64 pg, .string s] W fun e w' => e = .returned (.int .i64 ra) ∧ Two w' base d P B c r Q E c2 m D' D' ∧ Fr d (bothL B r E) W w') := Lib.hid (fun W hW => by rw [hD'] at hW; rw [hra, hD']; exact two_refWrite di pg s hW hs hf0 hf1)
    rw [HP.out, ← hD']
    clear hra hD'
    go_enter Tryz.func61, Tryz.ntmps61
    go_upto_region 7 with fail
    rw [← HW.out]
    go_region_held3 (fun V => V.cell? ⟨w.heap.size, 1, none⟩ = some (.int .i64 di) ∧ V.cell? ⟨w.heap.size, 2, none⟩ = some (.int .i64 pg) ∧ V.cell? ⟨w.heap.size, 6, none⟩ = some (.string s)) (first | exact ⟨c1, c2', c6⟩ | exact ⟨y1, y2, y6⟩ | exact ⟨z1, z2, z6⟩ | assumption) (first
      | (go_at_call 108; (with_reducible refine Calls.mono (HR1.out _ HDR.out.2) ?_); rintro e w5 ⟨rfl, t5, f5⟩; have T5 := Lib.hid t5; have F5 := Lib.hid (HDR.out.1.trans f5); obtain ⟨y1, y2, y3, y5, y6⟩ := HC.out _ F5.out; clear t5 f5)
      | (go_at_call 109; (with_reducible refine Calls.mono (HR2.out _ T5.out) ?_); rintro e w6 ⟨rfl, t6, f6⟩; have T6 := Lib.hid t6; have F6 := Lib.hid (F5.out.trans f6); obtain ⟨z1, z2, z3, z5, z6⟩ := HC.out _ F6.out; clear t6 f6))
    go_wp2_with fail
    go_ret
    exact ⟨rfl, T6.out, HF0.out.trans F6.out⟩
  by_cases k2 : k = 2
  · subst k2
    have HP : Hid (playF B.length m D ⟨2, di, pg, pl, nn, y, s⟩ = armF D nn pl) := Lib.hid rfl
    obtain ⟨D', hD'⟩ : ∃ D', D' = armF D nn pl := ⟨_, rfl⟩
    have HR1 : Hid (Calls Tryz.prog 56 #[.pointer (some ⟨d, 0, none⟩), .int .i64 nn, .int .i64 pl] W1 fun e w' => e = .returned (.tuple #[]) ∧ Two w' base d P B c r Q E c2 m D' D ∧ Fr d (bothL B r E) W1 w') := Lib.hid (by rw [hD']; exact two_arm nn pl H1.out hnn)
    have HR2 : Hid (∀ W, Two W base d P B c r Q E c2 m D' D → Calls Tryz.prog 110 #[.pointer (some ⟨r, 0, none⟩), .int .i64 nn, .int .i64 pl] W fun e w' => e = .returned (.tuple #[]) ∧ Two w' base d P B c r Q E c2 m D' D' ∧ Fr d (bothL B r E) W w') := Lib.hid (fun W hW => by rw [hD'] at hW ⊢; exact two_refArm nn pl hW)
    have HC4 : Hid (∀ W, Fr d (bothL B r E) W1 W → W.cell? ⟨w.heap.size, 4, none⟩ = some (.int .i64 nn)) := Lib.hid (fun W hW => (HX.out W hW).cell 4)
    rw [HP.out, ← hD']
    clear hD'
    go_enter Tryz.func61, Tryz.ntmps61
    go_upto_region 1 with fail
    rw [← HW.out]
    go_wp2_with (first
      | (go_at_call 56; (with_reducible refine Calls.mono HR1.out ?_); rintro e w5 ⟨rfl, t5, f5⟩; have T5 := Lib.hid t5; have F5 := Lib.hid f5; obtain ⟨y1, y2, y3, y5, y6⟩ := HC.out _ F5.out; have y4 := HC4.out _ F5.out; clear t5 f5)
      | (go_at_call 110; (with_reducible refine Calls.mono (HR2.out _ T5.out) ?_); rintro e w6 ⟨rfl, t6, f6⟩; have T6 := Lib.hid t6; have F6 := Lib.hid (F5.out.trans f6); clear t6 f6))
    go_ret
    exact ⟨rfl, T6.out, HF0.out.trans F6.out⟩
  by_cases k3 : k = 3
  · subst k3
    have HP : Hid (playF B.length m D ⟨3, di, pg, pl, nn, y, s⟩ = restartF D) := Lib.hid rfl
    obtain ⟨D', hD'⟩ : ∃ D', D' = restartF D := ⟨_, rfl⟩
    have HR1 : Hid (Calls Tryz.prog 58 #[.pointer (some ⟨d, 0, none⟩)] W1 fun e w' => e = .returned (.tuple #[]) ∧ Two w' base d P B c r Q E c2 m D' D ∧ Fr d (bothL B r E) W1 w') := Lib.hid (by rw [hD']; exact two_restart H1.out)
    have HR2 : Hid (∀ W, Two W base d P B c r Q E c2 m D' D → Calls Tryz.prog 111 #[.pointer (some ⟨r, 0, none⟩)] W fun e w' => e = .returned (.tuple #[]) ∧ Two w' base d P B c r Q E c2 m D' D' ∧ Fr d (bothL B r E) W w') := Lib.hid (fun W hW => by rw [hD'] at hW ⊢; exact two_refRestart hW)
    rw [HP.out, ← hD']
    clear hD'
    go_enter Tryz.func61, Tryz.ntmps61
    go_upto_region 1 with fail
    rw [← HW.out]
    go_wp2_with (first
      | (go_at_call 58; (with_reducible refine Calls.mono HR1.out ?_); rintro e w5 ⟨rfl, t5, f5⟩; have T5 := Lib.hid t5; have F5 := Lib.hid f5; clear t5 f5)
      | (go_at_call 111; (with_reducible refine Calls.mono (HR2.out _ T5.out) ?_); rintro e w6 ⟨rfl, t6, f6⟩; have T6 := Lib.hid t6; have F6 := Lib.hid (F5.out.trans f6); clear t6 f6))
    go_ret
    exact ⟨rfl, T6.out, HF0.out.trans F6.out⟩
  by_cases k4 : k = 4
  · subst k4
    have HP : Hid (playF B.length m D ⟨4, di, pg, pl, nn, y, s⟩ = (loseF B.length m D di).1) := Lib.hid rfl
    obtain ⟨ra, hra⟩ : ∃ ra, ra = (loseF B.length m D di).2 := ⟨_, rfl⟩
    obtain ⟨D', hD'⟩ : ∃ D', D' = (loseF B.length m D di).1 := ⟨_, rfl⟩
    have HR1 : Hid (∀ W, Two W base d P B c r Q E c2 m D D → Calls Tryz.prog 47 #[.pointer (some ⟨d, 0, none⟩), .int .i64 di] W fun e w' => e = .returned (.int .i64 ra) ∧ Two w' base d P B c r Q E c2 m D' D ∧ Fr d (bothL B r E) W w') := Lib.hid (fun W hW => by rw [hra, hD']; exact two_lose di hW)
    have HR2 : Hid (∀ W, Two W base d P B c r Q E c2 m D' D → Calls Tryz.prog 112 #[.pointer (some ⟨r, 0, none⟩), .int .i64 di] W fun e w' => e = .returned (.int .i64 ra) ∧ Two w' base d P B c r Q E c2 m D' D' ∧ Fr d (bothL B r E) W w') := Lib.hid (fun W hW => by rw [hD'] at hW; rw [hra, hD']; exact two_refLose di hW)
    rw [HP.out, ← hD']
    clear hra hD'
    go_enter Tryz.func61, Tryz.ntmps61
    go_upto_region 15 with fail
    rw [← HW.out]
    go_region_held3 (fun V => V.cell? ⟨w.heap.size, 1, none⟩ = some (.int .i64 di)) (first | exact c1 | exact y1 | exact z1 | assumption) (first
      | (go_at_call 47; (with_reducible refine Calls.mono (HR1.out _ HDR.out.2) ?_); rintro e w5 ⟨rfl, t5, f5⟩; have T5 := Lib.hid t5; have F5 := Lib.hid (HDR.out.1.trans f5); obtain ⟨y1, y2, y3, y5, y6⟩ := HC.out _ F5.out; clear t5 f5)
      | (go_at_call 112; (with_reducible refine Calls.mono (HR2.out _ T5.out) ?_); rintro e w6 ⟨rfl, t6, f6⟩; have T6 := Lib.hid t6; have F6 := Lib.hid (F5.out.trans f6); obtain ⟨z1, z2, z3, z5, z6⟩ := HC.out _ F6.out; clear t6 f6))
    go_wp2_with fail
    go_ret
    exact ⟨rfl, T6.out, HF0.out.trans F6.out⟩
  by_cases k5 : k = 5
  · subst k5
    have HP : Hid (playF B.length m D ⟨5, di, pg, pl, nn, y, s⟩ = (rotF B.length m D di pg pl y).1) := Lib.hid rfl
    obtain ⟨ra, hra⟩ : ∃ ra, ra = (rotF B.length m D di pg pl y).2 := ⟨_, rfl⟩
    obtain ⟨D', hD'⟩ : ∃ D', D' = (rotF B.length m D di pg pl y).1 := ⟨_, rfl⟩
    have HR1 : Hid (∀ W, Two W base d P B c r Q E c2 m D D → Calls Tryz.prog 49 #[.pointer (some ⟨d, 0, none⟩), .int .i64 di, .int .i64 pg, .int .i64 pl, .int .u8 y] W fun e w' => e = .returned (.int .i64 ra) ∧ Two w' base d P B c r Q E c2 m D' D ∧ Fr d (bothL B r E) W w') := Lib.hid (fun W hW => by rw [hra, hD']; exact two_rot di pg pl y hW hy)
    have HR2 : Hid (∀ W, Two W base d P B c r Q E c2 m D' D → Calls Tryz.prog 113 #[.pointer (some ⟨r, 0, none⟩), .int .i64 di, .int .i64 pg, .int .i64 pl, .int .u8 y] W fun e w' => e = .returned (.int .i64 ra) ∧ Two w' base d P B c r Q E c2 m D' D' ∧ Fr d (bothL B r E) W w') := Lib.hid (fun W hW => by rw [hD'] at hW; rw [hra, hD']; exact two_refRot di pg pl y hW hy)
    rw [HP.out, ← hD']
    clear hra hD'
    go_enter Tryz.func61, Tryz.ntmps61
    go_upto_region 17 with fail
    rw [← HW.out]
    go_region_held3 (fun V => V.cell? ⟨w.heap.size, 1, none⟩ = some (.int .i64 di) ∧ V.cell? ⟨w.heap.size, 2, none⟩ = some (.int .i64 pg) ∧ V.cell? ⟨w.heap.size, 3, none⟩ = some (.int .i64 pl) ∧ V.cell? ⟨w.heap.size, 5, none⟩ = some (.int .u8 y)) (first | exact ⟨c1, c2', c3, c5⟩ | exact ⟨y1, y2, y3, y5⟩ | exact ⟨z1, z2, z3, z5⟩ | assumption) (first
      | (go_at_call 49; (with_reducible refine Calls.mono (HR1.out _ HDR.out.2) ?_); rintro e w5 ⟨rfl, t5, f5⟩; have T5 := Lib.hid t5; have F5 := Lib.hid (HDR.out.1.trans f5); obtain ⟨y1, y2, y3, y5, y6⟩ := HC.out _ F5.out; clear t5 f5)
      | (go_at_call 113; (with_reducible refine Calls.mono (HR2.out _ T5.out) ?_); rintro e w6 ⟨rfl, t6, f6⟩; have T6 := Lib.hid t6; have F6 := Lib.hid (F5.out.trans f6); obtain ⟨z1, z2, z3, z5, z6⟩ := HC.out _ F6.out; clear t6 f6))
    go_wp2_with fail
    go_ret
    exact ⟨rfl, T6.out, HF0.out.trans F6.out⟩
  have HP : Hid (playF B.length m D ⟨k, di, pg, pl, nn, y, s⟩ = D) := Lib.hid (by unfold playF; rw [if_neg k1, if_neg k2, if_neg k3, if_neg k4, if_neg k5])
  rw [HP.out]
  go_enter Tryz.func61, Tryz.ntmps61
  go_upto_region 1 with fail
  rw [← HW.out]
  go_wp2_with fail
  go_ret
  exact ⟨rfl, H1.out, HF0.out⟩
end
end Go.Proofs.YtkdjibejnncmfaaGreatDoor.Co
