/- Contracts of package coded, part 5. -/
import Derived.Test.YtkdjibejnncmfaaGreatDoorB4
/- The walk of found. -/
namespace Go.Proofs.YtkdjibejnncmfaaGreatDoor.Co
open Go.RowKit Go.Maps Go.Proofs.YtkdjibejnncmfaaGreatDoorW.PrintWords Go.Proofs.YtkdjibejnncmfaaGreatDoorW.PrintLast Go.Proofs.YtkdjibejnncmfaaGreatDoorW.PrintMore
set_option linter.unusedVariables false
set_option linter.unusedSimpArgs false
set_option maxRecDepth 100000
theorem FAt.begin_ (w : World) : FAt (w.alloc (.map #[] 0)) w.heap.size w.heap.size 0 (fun _ => []) (fun _ => 0) (fun _ _ => nilS) where
  own := ⟨.map [], World.ownsMap_made _ _ _ _, ⟨[], rfl⟩, fun x _ => by rw [DataW.atKey]; rfl, fun kl hk => by simp [has] at hk⟩
  ok := fun x hx => absurd rfl hx
  row := fun x hx => absurd rfl hx
  inner := fun x i hi => by simp at hi
  apart := fun x i y j hi => by simp at hi
  gapart := fun x y hx => absurd rfl hx
  hM := Nat.le_refl _
theorem FAt.mono {w : World} {base M n n' : Nat} {F : FK} {G : Kn → Nat} {V : Kn → Nat → Value} (h : FAt w base M n F G V) (hn : n ≤ n') : FAt w base M n' F G V := by
  obtain ⟨D, ho, hr⟩ := h.own
  exact { h with own := ⟨D, ho.mono hn, hr⟩ }
theorem soundK_some {D : DS} {n m disk at_ : Nat} {x : Kn} (h : soundK D n m disk at_ = some x) : soundB n m (pageAt D disk at_) disk at_ = true ∧ x = kindOf (pageAt D disk at_) := by
  unfold soundK at h
  split at h
  · injection h with h; exact ⟨by assumption, h.symm⟩
  · cases h
theorem soundB_true {n m disk at_ : Nat} {pg : List Int} (h : soundB n m pg disk at_ = true) : 1 ≤ (kindOf pg).1 ∧ (kindOf pg).1 ≤ 1099511627776 ∧ 1 ≤ (kindOf pg).2.1 ∧ (kindOf pg).2.1 ≤ m / 2 ∧ 1 ≤ (kindOf pg).2.2 ∧ (kindOf pg).2.2 ≤ n ∧ firstF m (kindOf pg).1 ≤ at_ ∧ at_ < firstF m (kindOf pg).1 + (kindOf pg).2.1 := by
  unfold soundB pageB at h
  simp only [Bool.and_eq_true, decide_eq_true_eq] at h
  have e : (kindOf pg).1 = lifeOf pg := rfl
  rw [e]
  omega
theorem FLen.step {F : FK} (h : FLen F) {m disk at_ : Nat} {o : Option Kn} (ho : ∀ x, o = some x → 1 ≤ x.2.1) : FLen (stepF F m disk at_ o) := by
  cases o with
  | none => exact h
  | some x =>
    intro y hy
    have e0 : stepF F m disk at_ (some x) = updF F x ((rowsOf F x).set (at_ - firstF m x.1) ((rowsOf F x).getD (at_ - firstF m x.1) [] ++ [(disk : Int)])) := rfl
    rw [e0] at hy ⊢
    by_cases e : y = x
    · subst e
      rw [updF_same, List.length_set]
      refine ⟨?_, ho y rfl⟩
      unfold rowsOf
      split
      · simp
      · rename_i h2; exact (h y h2).1
    · rw [updF_other _ _ e] at hy ⊢
      exact h y hy
theorem FLen.disk {D : DS} {n m disk : Nat} {F : FK} (h : FLen F) : ∀ k, FLen (diskTo D n m disk F k)
  | 0 => h
  | k + 1 => (FLen.disk h k).step (fun x hx => by
      obtain ⟨h1, rfl⟩ := soundK_some hx
      exact (soundB_true h1).2.2.1)
theorem FLen.found (D : DS) (n m : Nat) : ∀ k, FLen (foundTo D n m k)
  | 0 => fun x hx => absurd rfl hx
  | k + 1 => (FLen.found D n m k).disk m
/-- No row is longer than N. -/
def FRow (F : FK) (N : Nat) : Prop := ∀ x i, ((F x).getD i []).length ≤ N
theorem FRow.rows {F : FK} {N : Nat} (h : FRow F N) : ∀ x i, ((rowsOf F x).getD i []).length ≤ N := by
  intro x i
  unfold rowsOf
  split
  · rw [List.getD_eq_getElem?_getD, List.getElem?_replicate]; split <;> simp
  · exact h x i
theorem FRow.step {F : FK} {N : Nat} (h : FRow F N) (m disk at_ : Nat) (o : Option Kn) : FRow (stepF F m disk at_ o) (N + 1) := by
  intro x i
  cases o with
  | none => exact Nat.le_succ_of_le (h x i)
  | some y =>
    have e0 : stepF F m disk at_ (some y) = updF F y ((rowsOf F y).set (at_ - firstF m y.1) ((rowsOf F y).getD (at_ - firstF m y.1) [] ++ [(disk : Int)])) := rfl
    rw [e0]
    by_cases e : x = y
    · subst e
      rw [updF_same, List.getD_eq_getElem?_getD, List.getElem?_set]
      split
      · split
        · have := h.rows x (at_ - firstF m x.1)
          simp only [Option.getD_some, List.length_append, List.length_singleton]
          omega
        · simp
      · have := h.rows x i
        rw [List.getD_eq_getElem?_getD] at this
        omega
    · rw [updF_other _ _ e]; exact Nat.le_succ_of_le (h x i)
theorem FRow.disk {D : DS} {n m disk N : Nat} {F : FK} (h : FRow F N) : ∀ k, FRow (diskTo D n m disk F k) (N + k)
  | 0 => h
  | k + 1 => (FRow.disk h k).step _ _ _ _
theorem FRow.found (D : DS) (n m : Nat) : ∀ k, FRow (foundTo D n m k) (k * m)
  | 0 => fun x i => by show (([] : List (List Int)).getD i []).length ≤ _; simp
  | k + 1 => by rw [Nat.add_mul, Nat.one_mul]; exact (FRow.found D n m k).disk m
theorem info34 : (Tryz.prog.info? 34).map (fun i => (i.zero, i.size, i.bytes)) = some (some nilS, 1, 24) := by kernel_rfl
theorem madeCells_one (z : Value) (n : Nat) : madeCells #[z] n = Array.replicate n z := by
  apply Array.ext
  · rw [size_madeCells]; simp
  · intro i h1 h2
    simp [madeCells, Nat.mod_one]
set_option maxHeartbeats 4000000 in
theorem found_any {d P c m : Nat} {B : List Nat} {D : DS} (w : World) (h : DAt w d P B c m D) :
    Calls Tryz.prog 134 #[.pointer (some ⟨d, 0, none⟩)] w fun e w' => ∃ M G V, e = .returned (.map (some M)) ∧ FAt w' w.heap.size M (B.length * m) (foundF D B.length m) G V ∧ Below w.heap.size w w' := by
  have c0 := h.f0
  have H := Lib.hid h
  have hcap := h.cap
  have hmost := h.most
  have hfew := h.few
  clear h
  have hmk : ∀ W : World, (Instr.makeMap 176 none).run Tryz.prog W = .ok (.map (some W.heap.size)) (W.alloc (.map #[] 0)) := fun W => run_makeMap (P := Tryz.prog) 176 W
  go_enter Tryz.func134, Tryz.ntmps134
  go_upto_region 2 with fail
  have HF0 := Lib.hid (FAt.begin_ w)
  have HB0 : Hid (Below w.heap.size w (w.alloc (.map #[] 0))) := Lib.hid (below_al (Below.refl _ _) _)
  obtain ⟨W0, hW0⟩ : ∃ W0, W0 = w.alloc (.map #[] 0) := ⟨_, rfl⟩
  rw [← hW0] at HF0 HB0 ⊢
  clear hW0 hmk
  have c1 := cell_below HB0.out c0
  clear c0
  go_wp2_with fail
  go_loopw [16] (fun i wr => ∃ (k : Nat) (G : Kn → Nat) (V : Kn → Nat → Value), k ≤ B.length ∧ i = .int .i64 k ∧ Hid (FAt wr w.heap.size w.heap.size (k * m) (foundTo D B.length m k) G V) ∧ Hid (Below w.heap.size w wr)) (fun i _ => B.length - (intOf i).toNat)
  case atStart => exact ⟨0, _, _, by omega, rfl, Lib.hid (HF0.out.mono (by omega)), HB0⟩
  case round =>
    obtain ⟨k, G, V, hk, rfl, hF, hB⟩ := hrel
    by_cases hlt : k < B.length
    · have HD := Lib.hid (H.out.below hB.out)
      have r0 := HD.out.row k hlt
      have i1 : (0 : Int) ≤ (k : Int) := by omega
      have i2 : (k : Int) < (B.length : Int) := by omega
      clear c1
      go_wp2_with fail
      obtain ⟨wo, rfl⟩ : ∃ wo : World, wo = wr := ⟨_, rfl⟩
      have HFL0 : Hid (FLen (foundTo D B.length m k)) := Lib.hid (FLen.found D B.length m k)
      have HFR0 : Hid (FRow (foundTo D B.length m k) (k * m)) := Lib.hid (FRow.found D B.length m k)
      obtain ⟨F0, hF0⟩ : ∃ F0, F0 = foundTo D B.length m k := ⟨_, rfl⟩
      have HF0' := Lib.hid hF0
      rw [← hF0] at hF HFL0 HFR0
      obtain ⟨km, hkm⟩ : ∃ km, km = k * m := ⟨_, rfl⟩
      have hkm2 : km ≤ 12 * 1024 := by rw [hkm]; exact Nat.mul_le_mul (by omega) hfew
      have HKM := Lib.hid hkm
      rw [← hkm] at hF HFR0
      clear hF0 hkm
      go_loopw [23] (fun j w2 => ∃ (q : Nat) (G : Kn → Nat) (V : Kn → Nat → Value), q ≤ m ∧ j = .int .i64 q ∧ Hid (FAt w2 w.heap.size w.heap.size (km + q) (diskTo D B.length m k F0 q) G V) ∧ Hid (Below w.heap.size w w2)) (fun j _ => m - (intOf j).toNat)
      case atStart => exact ⟨0, G, V, by omega, rfl, hF, hB⟩
      case round =>
        obtain ⟨q, G2, V2, hq, rfl, hF2, hB2⟩ := hrel
        by_cases hlt2 : q < m
        · have HFL : Hid (FLen (diskTo D B.length m k F0 q)) := Lib.hid (HFL0.out.disk q)
          have HS2 : Hid (diskTo D B.length m k F0 (q + 1) = stepF (diskTo D B.length m k F0 q) m k q (soundK D B.length m k q)) := Lib.hid rfl
          obtain ⟨F1, hF1⟩ : ∃ F1, F1 = diskTo D B.length m k F0 q := ⟨_, rfl⟩
          have HROW : Hid (FRow (diskTo D B.length m k F0 q) (km + q)) := Lib.hid (HFR0.out.disk q)
          rw [← hF1] at hF2 HFL HS2 HROW
          clear hF1
          have hsd := sound_any k q wr (H.out.below hB2.out) hlt hlt2
          have HSD := Lib.hid hsd
          clear hsd
          cases hs : soundB B.length m (pageAt D k q) k q with
          | false =>
            have HS3 : Hid (diskTo D B.length m k F0 (q + 1) = F1) := Lib.hid (by rw [HS2.out]; unfold soundK; rw [hs]; rfl)
            rw [hs] at HSD
            clear hs HS2
            go_wp2_with ((go_at_call 150; refine HSD.out.mono ?_; rintro e w2 ⟨⟨x1, x2, x3⟩, rfl, _, hb⟩; have HB3 := Lib.hid hb; clear hb))
            have HF3 : ∀ o, Hid (FAt (w2.alloc o) w.heap.size w.heap.size (km + (q + 1)) (diskTo D B.length m k F0 (q + 1)) G2 V2) := fun o => Lib.hid (by rw [HS3.out]; exact ((hF2.out.below HB3.out).below (below_al (Below.refl _ _) _)).mono (by omega))
            have HB4 : ∀ o, Hid (Below w.heap.size w (w2.alloc o)) := fun o => Lib.hid (below_al (belt hB2.out HB3.out) _)
            go_roundw
            case rel => exact ⟨q + 1, G2, V2, by omega, by go_num, HF3 _, HB4 _⟩
            case measure => simp [intOf]; omega
          | true =>
            obtain ⟨y, hy⟩ : ∃ y, y = kindOf (pageAt D k q) := ⟨_, rfl⟩
            have hst := soundB_true hs
            rw [← hy] at hst
            have HS3 : Hid (diskTo D B.length m k F0 (q + 1) = stepF F1 m k q (some y)) := Lib.hid (by rw [HS2.out]; unfold soundK; rw [hs, hy]; rfl)
            rw [hs, ← hy] at HSD
            have hok : OkK y := ⟨by omega, by omega, by omega⟩
            have HOK := Lib.hid hok
            clear hs HS2 hy hok
            obtain ⟨y1, y2, y3⟩ := y
            obtain ⟨fi, hfi⟩ : ∃ fi, fi = firstF m y1 := ⟨_, rfl⟩
            have HFI := Lib.hid hfi
            simp only [← hfi] at hst
            clear hfi
            obtain ⟨hs1, hs2, hs3, hs4, hs5, hs6, hs7, hs8⟩ := hst
            have HKS : Hid (Calls Tryz.prog 150 #[.pointer (some ⟨d, 0, none⟩), .int .i64 k, .int .i64 q] wr fun e w' => e = .returned (.tuple #[.agg #[.int .i64 y1, .int .i64 y2, .int .i64 y3], .bool true]) ∧ Below wr.heap.size wr w') := Lib.hid (HSD.out.mono (by
              rintro e w' ⟨x, rfl, hx, hb⟩
              rw [hx rfl]
              exact ⟨rfl, hb⟩))
            clear HSD
            go_upto_region 10 with ((go_at_call 150; refine HKS.out.mono ?_; rintro e w2 ⟨rfl, hb⟩; have HB3 := Lib.hid hb; clear hb))
            obtain ⟨X, hX⟩ : ∃ X, X = w2.heap.size := ⟨_, rfl⟩
            have HBX : Hid (Box (w2.alloc (.cells #[.int .i64 y1, .int .i64 y2, .int .i64 y3] 139)) X 139 #[.int .i64 y1, .int .i64 y2, .int .i64 y3]) := Lib.hid (by rw [hX]; exact Box.new _ _ _)
            have HBW3 : Hid (Below wr.heap.size wr (w2.alloc (.cells #[.int .i64 y1, .int .i64 y2, .int .i64 y3] 139))) := Lib.hid (below_al HB3.out _)
            obtain ⟨W3, hW3⟩ : ∃ W3, W3 = w2.alloc (.cells #[.int .i64 y1, .int .i64 y2, .int .i64 y3] 139) := ⟨_, rfl⟩
            rw [← hW3] at HBX HBW3 ⊢
            rw [← hX]
            clear hW3 hX HB3 HKS
            have HF3 := Lib.hid (hF2.out.below HBW3.out)
            have HB3 := Lib.hid (belt hB2.out HBW3.out)
            have d0 := HBX.out.cell 0
            have d1 := HBX.out.cell 1
            have d2 := HBX.out.cell 2
            simp only [List.getElem?_toArray, List.getElem?_cons_zero, List.getElem?_cons_succ] at d0 d1 d2
            have hlk := HF3.out.lookup HOK.out
            by_cases hnil : F1 (y1, y2, y3) = []
            · have hlv : lookV F1 G2 (y1, y2, y3) = nilS := if_pos hnil
              have heq : ∀ w : World, (binOp .eql 166 nilS nilS).run Tryz.prog w = .ok (.bool true) w := fun w => Lib.run_eql_slice_nil w 166 34 none 0 0 0 0 Tryz.underlying166
              rw [hlv] at hlk
              go_upto_if 38 with fail
              go_cut [] (fun wx => ∃ F2 G3 V3, Hid (FAt wx w.heap.size w.heap.size (km + (q + 1)) F2 G3 V3) ∧ Hid (F2 (y1, y2, y3) = rowsOf F1 (y1, y2, y3) ∧ ∀ z, z ≠ (y1, y2, y3) → F2 z = F1 z) ∧ Hid (Box wx X 139 #[.int .i64 y1, .int .i64 y2, .int .i64 y3]) ∧ Hid (Below w.heap.size w wx))
              case first =>
                have hmk2 : ∀ W : World, (Instr.makeSlice 166 (.int .i64 (y2 : Int)) (.int .i64 (y2 : Int))).run Tryz.prog W = .ok (.slice (some ⟨W.heap.size, 0, none⟩) y2 y2) (W.alloc (.cells (Array.replicate y2 nilS) 34)) := by
                  intro W
                  have h1 := run_make_row' (P := Tryz.prog) 166 34 nilS 24 Tryz.underlying166 info34 rfl .i64 .i64 y2 (by omega) (by omega) W
                  rw [madeCells_one] at h1
                  exact h1
                have HA : Hid (Below W3.heap.size W3 (W3.alloc (.cells (Array.replicate y2 nilS) 34)).drew ∧ Box (W3.alloc (.cells (Array.replicate y2 nilS) 34)).drew W3.heap.size 34 (Array.replicate y2 nilS)) := Lib.hid ⟨(below_al (Below.refl _ _) _).drew, Box.new _ _ _⟩
                obtain ⟨wu, hup, hFu, hgu⟩ := HF3.out.make HOK.out hnil hs3 (by unfold maxLen; omega) HA.out.1 (Nat.le_refl _) HB3.out.size HA.out.2
                have HFU := Lib.hid hFu
                have HGU := Lib.hid hgu
                clear hFu hgu hlk
                have HBX4 : Hid (Box (W3.alloc (.cells (Array.replicate y2 nilS) 34)) X 139 #[.int .i64 y1, .int .i64 y2, .int .i64 y3]) := Lib.hid (HBX.out.alloc _)
                have e0 := HBX4.out.cell 0
                have e1 := HBX4.out.cell 1
                have e2 := HBX4.out.cell 2
                simp only [List.getElem?_toArray, List.getElem?_cons_zero, List.getElem?_cons_succ] at e0 e1 e2
                go_wp2_with fail
                go_region
                all_goals
                  go_wp2_with fail
                  go_meet
                  exact ⟨_, _, _, HFU, Lib.hid ⟨by rw [updF_same]; unfold rowsOf; rw [if_pos hnil], fun z hz => updF_other _ _ hz⟩,
                    Lib.hid (Box.grown (w := (W3.alloc (.cells (Array.replicate y2 nilS) 34)).drew) HBX4.out HGU.out (by
                      intro e3; injection e3 with e3
                      obtain ⟨es, clock, hb⟩ := HF3.out.ne_M
                      have hb2 := HBX.out
                      unfold Box at hb2
                      rw [e3, hb] at hb2
                      cases hb2)), Lib.hid (Below.grown (below_al HB3.out _).drew HGU.out (by have := HB3.out.size; simp; omega) (fun j hj => by injection hj with hj; omega))⟩
              case rest =>
                obtain ⟨F2, G3, V3, HFX, HRX, HBXX, HBBX⟩ := hcut
                obtain ⟨WX, hWX⟩ : ∃ WX, WX = wc := ⟨_, rfl⟩
                rw [← hWX] at HFX HBXX HBBX ⊢
                clear hWX
                have hlen2 : (F2 (y1, y2, y3)).length = y2 := by
                  rw [HRX.out.1]
                  unfold rowsOf
                  by_cases h2 : F1 (y1, y2, y3) = []
                  · rw [if_pos h2]; simp
                  · rw [if_neg h2]; exact (HFL.out _ h2).1
                have s0 := HBXX.out.cell 0
                have s1 := HBXX.out.cell 1
                have s2 := HBXX.out.cell 2
                simp only [List.getElem?_toArray, List.getElem?_cons_zero, List.getElem?_cons_succ] at s0 s1 s2
                have HFC : Hid (Calls Tryz.prog 132 #[.agg #[.int .i64 y1, .int .i64 y2, .int .i64 y3], .pointer (some ⟨d, 0, none⟩)] WX fun e w' => e = .returned (.int .i64 (fi : Nat)) ∧ Below WX.heap.size WX w') := Lib.hid (by
                  rw [HFI.out]
                  exact first_kind y1 y2 y3 WX (H.out.below HBBX.out) (by omega))
                have hsub : IntKind.i64.wrap ((q : Int) - (fi : Int)) = ((q - fi : Nat) : Int) := by rw [IntWalk.i64_in _ ⟨by omega, by omega⟩]; omega
                have HLEN2 := Lib.hid hlen2
                clear hlen2
                go_upto_region 13 with ((go_at_call 132; refine HFC.out.mono ?_; rintro e w5 ⟨rfl, hb5⟩; have HB5 := Lib.hid hb5; clear hb5))
                have e6 : ((q : Int) - (fi : Int)) = ((q - fi : Nat) : Int) := by omega
                try rw [e6]
                clear e6 hsub s0 s1 s2
                obtain ⟨ix, hix⟩ : ∃ ix, ix = q - fi := ⟨_, rfl⟩
                try rw [← hix]
                have hix2 : ix < y2 := by omega
                have HF5 := Lib.hid (HFX.out.below HB5.out)
                have HBX5 := Lib.hid (HBXX.out.below HB5.out HBXX.out.lt)
                have HBB5 := Lib.hid (belt HBBX.out HB5.out)
                have HIX := Lib.hid hix
                clear hix HB5 HFC
                have hne : F2 (y1, y2, y3) ≠ [] := by intro e; have := HLEN2.out; rw [e] at this; simp at this; omega
                have hcell := HF5.out.cell (x := (y1, y2, y3)) (i := ix) (by rw [HLEN2.out]; exact hix2)
                have hlk5 : ∀ W : World, Below w5.heap.size w5 W → (Instr.lookup 176 (.map (some w.heap.size)) (.agg #[.int .i64 y1, .int .i64 y2, .int .i64 y3]) false).run Tryz.prog W = .ok (.slice (some ⟨G3 (y1, y2, y3), 0, none⟩) y2 y2) W := fun W hW => by
                  have h1 := (HF5.out.below hW).lookup HOK.out
                  have h2 : lookV F2 G3 (y1, y2, y3) = .slice (some ⟨G3 (y1, y2, y3), 0, none⟩) y2 y2 := by unfold lookV; rw [if_neg hne, HLEN2.out]
                  rw [h2] at h1
                  exact h1
                obtain ⟨gg5, hgg5⟩ : ∃ gg5, gg5 = G3 (y1, y2, y3) := ⟨_, rfl⟩
                obtain ⟨vv, hvv⟩ : ∃ vv, vv = V3 (y1, y2, y3) ix := ⟨_, rfl⟩
                rw [← hgg5, ← hvv] at hcell
                rw [← hgg5] at hlk5
                have HNM := Lib.hid (And.intro hgg5 (And.intro hvv hne))
                clear hgg5 hvv hne
                have i3 : (0 : Int) ≤ (ix : Int) := by omega
                have i4 : (ix : Int) < (y2 : Int) := by omega
                obtain ⟨hc5, hf5⟩ := hcell
                have b0 := HBX5.out.cell 0
                have b1 := HBX5.out.cell 1
                have b2 := HBX5.out.cell 2
                simp only [List.getElem?_toArray, List.getElem?_cons_zero, List.getElem?_cons_succ] at b0 b1 b2
                have HSA : Hid (((w5.drew.cell? ⟨X, 0, none⟩ = some (.int .i64 y1) ∧ w5.drew.cell? ⟨X, 1, none⟩ = some (.int .i64 y2) ∧ w5.drew.cell? ⟨X, 2, none⟩ = some (.int .i64 y3)) ∧ (Instr.lookup 176 (.map (some w.heap.size)) (.agg #[.int .i64 y1, .int .i64 y2, .int .i64 y3]) false).run Tryz.prog w5.drew = .ok (.slice (some ⟨gg5, 0, none⟩) y2 y2) w5.drew) ∧ w5.drew.cell? ⟨gg5, ix, none⟩ = some vv) := Lib.hid ⟨⟨⟨b0, b1, b2⟩, hlk5 _ (Below.refl _ _).drew⟩, hc5⟩
                have HSOF : Hid (∀ W, Below w5.heap.size w5 W → ((W.cell? ⟨X, 0, none⟩ = some (.int .i64 y1) ∧ W.cell? ⟨X, 1, none⟩ = some (.int .i64 y2) ∧ W.cell? ⟨X, 2, none⟩ = some (.int .i64 y3)) ∧ (Instr.lookup 176 (.map (some w.heap.size)) (.agg #[.int .i64 y1, .int .i64 y2, .int .i64 y3]) false).run Tryz.prog W = .ok (.slice (some ⟨gg5, 0, none⟩) y2 y2) W) ∧ W.cell? ⟨gg5, ix, none⟩ = some vv) := Lib.hid (fun W hW => ⟨⟨⟨cell_below hW b0, cell_below hW b1, cell_below hW b2⟩, hlk5 W hW⟩, cell_below hW hc5⟩)
                clear hlk5 b0 b1 b2 hc5 hf5
                have HB6 : Hid (Below w5.heap.size w5 (w5.alloc (.cells #[.int .i64 k] 3)).drew) := Lib.hid (below_al (Below.refl _ _) _).drew
                have HF6 := Lib.hid (HF5.out.below HB6.out)
                have hiL : ix < (F2 (y1, y2, y3)).length := by rw [HLEN2.out]; exact hix2
                have hrow : ((F2 (y1, y2, y3)).getD ix []).length ≤ 12 * 1024 + 1024 := by
                  rw [HRX.out.1]
                  exact Nat.le_trans (FRow.rows HROW.out (y1, y2, y3) ix) (by omega)
                obtain ⟨row, hrw⟩ : ∃ row, row = (F2 (y1, y2, y3)).getD ix [] := ⟨_, rfl⟩
                have hown6 : (w5.alloc (.cells #[.int .i64 k] 3)).drew.ownsRow w.heap.size 3 1 vv row.length (row.map (Value.int .i64)) := by
                  rw [hrw, HNM.out.2.1]; exact HF6.out.inner _ _ hiL
                rw [← hrw] at hrow
                have HOWN6 := Lib.hid hown6
                have HRW := Lib.hid hrw
                have HIL := Lib.hid hiL
                clear hown6 hrw hiL
                have hone : Hid (∀ (j : Nat) u, [Value.int .i64 (k : Int)][j]? = some u → ((w5.alloc (.cells #[.int .i64 k] 3)).drew).cell? ((⟨w5.heap.size, 0, none⟩ : Addr).add j) = some u) := Lib.hid (fun j u h => one_cell w5 (.int .i64 k) 3 j u h)
                have HB5s := HBB5.out.size
                refine wp_region_until (L := 14) (S := (fun W => ((W.cell? ⟨X, 0, none⟩ = some (.int .i64 y1) ∧ W.cell? ⟨X, 1, none⟩ = some (.int .i64 y2) ∧ W.cell? ⟨X, 2, none⟩ = some (.int .i64 y3)) ∧ (Instr.lookup 176 (.map (some w.heap.size)) (.agg #[.int .i64 y1, .int .i64 y2, .int .i64 y3]) false).run Tryz.prog W = .ok (.slice (some ⟨gg5, 0, none⟩) y2 y2) W) ∧ W.cell? ⟨gg5, ix, none⟩ = some vv)) (by kernel_rfl) HSA.out (fun hS => ?_)
                refine wpUntil.take (i := 0) (oi := { dst := some 49, op := Op.move (Operand.tmp 3), type := 176, pos := "vault.go:167", after := #[], guard := none }) (v := ?va0) rfl (by kernel_rfl) (by kernel_rfl) (by kernel_rfl) (by kernel_rfl) (fun _ _ _ h => h) (Or.inl ⟨by rfl, ?ya0⟩) hS ?ra0
                case ya0 =>
                  intro w' hSw
                  obtain ⟨⟨⟨p0, p1, p2⟩, p3⟩, p4⟩ := hSw
                  go_simp
                  try with_reducible rfl
                try simp only [Act.put, List.setIfInBounds_toArray, List.set_cons_zero, List.set_cons_succ]
                refine wpUntil.take (i := 1) (oi := { dst := some 50, op := Op.load 139 (Operand.tmp 7), type := 139, pos := "vault.go:167", after := #[], guard := none }) (v := ?va1) rfl (by kernel_rfl) (by kernel_rfl) (by kernel_rfl) (by kernel_rfl) (fun _ _ _ h => h) (Or.inl ⟨by rfl, ?ya1⟩) hS ?ra1
                case ya1 =>
                  intro w' hSw
                  obtain ⟨⟨⟨p0, p1, p2⟩, p3⟩, p4⟩ := hSw
                  go_simp
                  try with_reducible rfl
                try simp only [Act.put, List.setIfInBounds_toArray, List.set_cons_zero, List.set_cons_succ]
                refine wpUntil.take (i := 2) (oi := { dst := some 51, op := Op.lookup 176 (Operand.tmp 49) (Operand.tmp 50) false, type := 166, pos := "vault.go:167", after := #[{ on := 0, ground := Ground.data }, { on := 1, ground := Ground.data }], guard := none }) (v := ?va2) rfl (by kernel_rfl) (by kernel_rfl) (by kernel_rfl) (by kernel_rfl) (fun _ _ _ h => h) (Or.inl ⟨by rfl, ?ya2⟩) hS ?ra2
                case ya2 =>
                  intro w' hSw
                  obtain ⟨⟨⟨p0, p1, p2⟩, p3⟩, p4⟩ := hSw
                  go_simp
                  try with_reducible rfl
                try simp only [Act.put, List.setIfInBounds_toArray, List.set_cons_zero, List.set_cons_succ]
                refine wpUntil.take (i := 3) (oi := { dst := some 52, op := Op.move (Operand.tmp 9), type := 3, pos := "vault.go:167", after := #[], guard := none }) (v := ?va3) rfl (by kernel_rfl) (by kernel_rfl) (by kernel_rfl) (by kernel_rfl) (fun _ _ _ h => h) (Or.inl ⟨by rfl, ?ya3⟩) hS ?ra3
                case ya3 =>
                  intro w' hSw
                  obtain ⟨⟨⟨p0, p1, p2⟩, p3⟩, p4⟩ := hSw
                  go_simp
                  try with_reducible rfl
                try simp only [Act.put, List.setIfInBounds_toArray, List.set_cons_zero, List.set_cons_succ]
                refine wpUntil.take (i := 4) (oi := { dst := some 53, op := Op.move (Operand.tmp 3), type := 176, pos := "vault.go:167", after := #[], guard := none }) (v := ?va4) rfl (by kernel_rfl) (by kernel_rfl) (by kernel_rfl) (by kernel_rfl) (fun _ _ _ h => h) (Or.inl ⟨by rfl, ?ya4⟩) hS ?ra4
                case ya4 =>
                  intro w' hSw
                  obtain ⟨⟨⟨p0, p1, p2⟩, p3⟩, p4⟩ := hSw
                  go_simp
                  try with_reducible rfl
                try simp only [Act.put, List.setIfInBounds_toArray, List.set_cons_zero, List.set_cons_succ]
                refine wpUntil.take (i := 5) (oi := { dst := some 54, op := Op.load 139 (Operand.tmp 7), type := 139, pos := "vault.go:167", after := #[], guard := none }) (v := ?va5) rfl (by kernel_rfl) (by kernel_rfl) (by kernel_rfl) (by kernel_rfl) (fun _ _ _ h => h) (Or.inl ⟨by rfl, ?ya5⟩) hS ?ra5
                case ya5 =>
                  intro w' hSw
                  obtain ⟨⟨⟨p0, p1, p2⟩, p3⟩, p4⟩ := hSw
                  go_simp
                  try with_reducible rfl
                try simp only [Act.put, List.setIfInBounds_toArray, List.set_cons_zero, List.set_cons_succ]
                refine wpUntil.take (i := 6) (oi := { dst := some 55, op := Op.lookup 176 (Operand.tmp 53) (Operand.tmp 54) false, type := 166, pos := "vault.go:167", after := #[{ on := 4, ground := Ground.data }, { on := 5, ground := Ground.data }], guard := none }) (v := ?va6) rfl (by kernel_rfl) (by kernel_rfl) (by kernel_rfl) (by kernel_rfl) (fun _ _ _ h => h) (Or.inl ⟨by rfl, ?ya6⟩) hS ?ra6
                case ya6 =>
                  intro w' hSw
                  obtain ⟨⟨⟨p0, p1, p2⟩, p3⟩, p4⟩ := hSw
                  go_simp
                  try with_reducible rfl
                try simp only [Act.put, List.setIfInBounds_toArray, List.set_cons_zero, List.set_cons_succ]
                refine wpUntil.take (i := 7) (oi := { dst := some 56, op := Op.move (Operand.tmp 9), type := 3, pos := "vault.go:167", after := #[], guard := none }) (v := ?va7) rfl (by kernel_rfl) (by kernel_rfl) (by kernel_rfl) (by kernel_rfl) (fun _ _ _ h => h) (Or.inl ⟨by rfl, ?ya7⟩) hS ?ra7
                case ya7 =>
                  intro w' hSw
                  obtain ⟨⟨⟨p0, p1, p2⟩, p3⟩, p4⟩ := hSw
                  go_simp
                  try with_reducible rfl
                try simp only [Act.put, List.setIfInBounds_toArray, List.set_cons_zero, List.set_cons_succ]
                refine wpUntil.take (i := 8) (oi := { dst := some 57, op := Op.indexAddr 166 (Operand.tmp 55) (Operand.tmp 56), type := 0, pos := "vault.go:167", after := #[{ on := 6, ground := Ground.data }, { on := 7, ground := Ground.data }], guard := none }) (v := ?va8) rfl (by kernel_rfl) (by kernel_rfl) (by kernel_rfl) (by kernel_rfl) (fun _ _ _ h => h) (Or.inl ⟨by rfl, ?ya8⟩) hS ?ra8
                case ya8 =>
                  intro w' hSw
                  obtain ⟨⟨⟨p0, p1, p2⟩, p3⟩, p4⟩ := hSw
                  go_simp
                  try with_reducible rfl
                try simp only [Act.put, List.setIfInBounds_toArray, List.set_cons_zero, List.set_cons_succ]
                refine wpUntil.take (i := 9) (oi := { dst := some 58, op := Op.load 34 (Operand.tmp 57), type := 34, pos := "vault.go:167", after := #[{ on := 8, ground := Ground.data }], guard := none }) (v := ?va9) rfl (by kernel_rfl) (by kernel_rfl) (by kernel_rfl) (by kernel_rfl) (fun _ _ _ h => h) (Or.inl ⟨by rfl, ?ya9⟩) hS ?ra9
                case ya9 =>
                  intro w' hSw
                  obtain ⟨⟨⟨p0, p1, p2⟩, p3⟩, p4⟩ := hSw
                  go_simp
                  try with_reducible rfl
                try simp only [Act.put, List.setIfInBounds_toArray, List.set_cons_zero, List.set_cons_succ]
                refine wpUntil.take (i := 10) (oi := { dst := some 59, op := Op.move (Operand.tmp 4), type := 3, pos := "vault.go:167", after := #[], guard := none }) (v := ?va10) rfl (by kernel_rfl) (by kernel_rfl) (by kernel_rfl) (by kernel_rfl) (fun _ _ _ h => h) (Or.inl ⟨by rfl, ?ya10⟩) hS ?ra10
                case ya10 =>
                  intro w' hSw
                  obtain ⟨⟨⟨p0, p1, p2⟩, p3⟩, p4⟩ := hSw
                  go_simp
                  try with_reducible rfl
                try simp only [Act.put, List.setIfInBounds_toArray, List.set_cons_zero, List.set_cons_succ]
                refine wpUntil.only (i := 11) (oi := { dst := some 60, op := Op.buildSlice 34 1 #[(0, Operand.tmp 59)], type := 34, pos := "vault.go:167", after := #[{ on := 10, ground := Ground.data }], guard := none }) rfl (by kernel_rfl) (fun K hK => ?_)
                rw [if_pos (by rfl)]
                go_simp
                refine hK.out _ _ (fun _ => HSOF.out _ HB6.out) ?_
                clear hK K
                try simp only [Act.put, List.setIfInBounds_toArray, List.set_cons_zero, List.set_cons_succ]
                refine wpUntil.only (i := 12) (oi := { dst := some 61, op := Op.call { callee := Callee.builtin Builtin.append, args := #[Operand.tmp 58, Operand.tmp 60], argTypes := #[34, 34] }, type := 34, pos := "vault.go:167", after := #[{ on := 9, ground := Ground.data }, { on := 11, ground := Ground.data }], guard := none }) rfl (by kernel_rfl) (fun K hK => ?_)
                refine step_append_ownat rfl (.tmp 58) (.tmp 60) 34 rfl w.heap.size 3 (.int .i64 0) 1 8 Tryz.underlying34 info3 rfl (by decide) vv row.length (row.map (Value.int .i64)) rfl HOWN6.out ⟨w5.heap.size, 0, none⟩ 1 1 [.int .i64 k] rfl rfl hone.out (fun u hu => by cases List.mem_singleton.1 hu; rfl) (by unfold maxLen; omega) (by omega) (by simp; omega) ?_
                intro v' w6 hown hgrow hat
                have hgrow2 : (w5.alloc (.cells #[.int .i64 k] 3)).drew.grownBy w6 (V3 (y1, y2, y3) ix).ownBlock := by rw [← HNM.out.2.1]; exact hgrow
                have hbx6 := Box.grown (w := (w5.alloc (.cells #[.int .i64 k] 3)).drew) (HBX5.out.alloc _) hgrow2 (by
                  intro e
                  obtain ⟨cells, hc⟩ := own_typed (HF6.out.inner (y1, y2, y3) ix HIL.out) X e.symm
                  have hb2 : Box (w5.alloc (.cells #[.int .i64 k] 3)).drew X 139 _ := HBX5.out.alloc _
                  unfold Box at hb2
                  rw [hb2] at hc
                  cases hc)
                have hcg := HF6.out.cell_grown HIL.out hgrow2
                have hlk6 := HF6.out.lookup_grown HOK.out HIL.out hgrow2
                have h2 : lookV F2 G3 (y1, y2, y3) = .slice (some ⟨gg5, 0, none⟩) y2 y2 := by unfold lookV; rw [if_neg HNM.out.2.2, HLEN2.out, HNM.out.1]
                rw [h2] at hlk6
                rw [← HNM.out.1, ← HNM.out.2.1] at hcg
                have p0 := hbx6.cell 0
                have p1 := hbx6.cell 1
                have p2 := hbx6.cell 2
                simp only [List.getElem?_toArray, List.getElem?_cons_zero, List.getElem?_cons_succ] at p0 p1 p2
                have HS6 : Hid (((w6.cell? ⟨X, 0, none⟩ = some (.int .i64 y1) ∧ w6.cell? ⟨X, 1, none⟩ = some (.int .i64 y2) ∧ w6.cell? ⟨X, 2, none⟩ = some (.int .i64 y3)) ∧ (Instr.lookup 176 (.map (some w.heap.size)) (.agg #[.int .i64 y1, .int .i64 y2, .int .i64 y3]) false).run Tryz.prog w6 = .ok (.slice (some ⟨gg5, 0, none⟩) y2 y2) w6) ∧ w6.cell? ⟨gg5, ix, none⟩ = some vv) := Lib.hid ⟨⟨⟨p0, p1, p2⟩, hlk6⟩, hcg.1⟩
                obtain ⟨hc6, hf6⟩ := hcg
                obtain ⟨g', cap', rfl⟩ := ownsRow_succ hown
                have HPUSH := HF6.out.push HIL.out (k : Int) (v' := .slice (some ⟨g', 0, none⟩) (row.length + 1) cap') (by simp; omega) (by rw [← HRW.out]; exact hown) hgrow2 (by rw [← HNM.out.2.1]; exact hat)
                rw [← HNM.out.1] at HPUSH
                have HBW6 : Hid (Below w.heap.size w (w6.setCell ⟨gg5, ix, none⟩ (.slice (some ⟨g', 0, none⟩) (row.length + 1) cap'))) := Lib.hid (by
                  refine Below.setCell (p := ⟨gg5, ix, none⟩) ?_ (by show w.heap.size ≤ gg5; rw [HNM.out.1]; exact (HF6.out.row _ HNM.out.2.2).2) _
                  refine Below.grown (below_al HBB5.out _).drew hgrow (by simp; omega) (fun j hj => own_base HOWN6.out j hj))
                have HFIN : Hid (FAt (w6.setCell ⟨gg5, ix, none⟩ (.slice (some ⟨g', 0, none⟩) (row.length + 1) cap')) w.heap.size w.heap.size (km + (q + 1)) (diskTo D B.length m k F0 (q + 1)) G3 (updF V3 (y1, y2, y3) (fun j => if j = ix then .slice (some ⟨g', 0, none⟩) (row.length + 1) cap' else V3 (y1, y2, y3) j))) := Lib.hid (by
                  have e9 : updF F2 (y1, y2, y3) ((F2 (y1, y2, y3)).set ix ((F2 (y1, y2, y3)).getD ix [] ++ [(k : Int)])) = diskTo D B.length m k F0 (q + 1) := by
                    rw [HS3.out]
                    have e0 : stepF F1 m k q (some (y1, y2, y3)) = updF F1 (y1, y2, y3) ((rowsOf F1 (y1, y2, y3)).set (q - firstF m y1) ((rowsOf F1 (y1, y2, y3)).getD (q - firstF m y1) [] ++ [(k : Int)])) := rfl
                    rw [e0, ← HFI.out, ← HIX.out, HRX.out.1]
                    funext z
                    by_cases ez : z = (y1, y2, y3)
                    · rw [ez, updF_same, updF_same]
                    · rw [updF_other _ _ ez, updF_other _ _ ez, HRX.out.2 z ez]
                  rw [← e9]
                  exact HPUSH)
                clear hown hgrow hgrow2 hbx6 hlk6 h2 p0 p1 p2 hat HPUSH
                refine hK.out _ _ (fun _ => HS6.out) ?_
                clear hK K
                try simp only [Act.put, List.setIfInBounds_toArray, List.set_cons_zero, List.set_cons_succ]
                refine wpUntil.only (i := 13) (oi := { dst := some 62, op := Op.indexAddr 166 (Operand.tmp 51) (Operand.tmp 52), type := 0, pos := "vault.go:167", after := #[{ on := 2, ground := Ground.data }, { on := 3, ground := Ground.data }, { on := 0, ground := Ground.phase }, { on := 1, ground := Ground.phase }, { on := 2, ground := Ground.phase }, { on := 3, ground := Ground.phase }, { on := 4, ground := Ground.phase }, { on := 5, ground := Ground.phase }, { on := 6, ground := Ground.phase }, { on := 7, ground := Ground.phase }, { on := 8, ground := Ground.phase }, { on := 9, ground := Ground.phase }, { on := 10, ground := Ground.phase }, { on := 11, ground := Ground.phase }, { on := 12, ground := Ground.phase }], guard := none }) rfl (by kernel_rfl) (fun K hK => ?_)
                rw [if_pos (by rfl)]
                go_simp
                refine hK.out _ _ (fun _ => HS6.out) ?_
                clear hK K
                try simp only [Act.put, List.setIfInBounds_toArray, List.set_cons_zero, List.set_cons_succ]
                refine wpUntil.only (i := 14) (oi := { dst := none, op := Op.store 34 (Operand.tmp 62) (Operand.tmp 61), type := 0, pos := "vault.go:167", after := #[{ on := 13, ground := Ground.data }, { on := 12, ground := Ground.data }, { on := 12, ground := Ground.chain }, { on := 0, ground := Ground.phase }, { on := 1, ground := Ground.phase }, { on := 2, ground := Ground.phase }, { on := 3, ground := Ground.phase }, { on := 4, ground := Ground.phase }, { on := 5, ground := Ground.phase }, { on := 6, ground := Ground.phase }, { on := 7, ground := Ground.phase }, { on := 8, ground := Ground.phase }, { on := 9, ground := Ground.phase }, { on := 10, ground := Ground.phase }, { on := 11, ground := Ground.phase }, { on := 12, ground := Ground.phase }], guard := none }) rfl (by kernel_rfl) (fun K hK => ?_)
                rw [if_pos (by rfl)]
                go_simp
                refine hK.out _ _ (fun hne => absurd rfl hne) ?_
                clear hK K
                try simp only [Act.put, List.setIfInBounds_toArray, List.set_cons_zero, List.set_cons_succ]
                refine wpUntil.done (by kernel_rfl) ?_ _
                clear hS hc6 hf6
                go_wp2_with fail
                go_roundw
                case rel => exact ⟨q + 1, _, _, by omega, by go_num, HFIN, HBW6⟩
                case measure => simp [intOf]; omega
            · have hlv : lookV F1 G2 (y1, y2, y3) = .slice (some ⟨G2 (y1, y2, y3), 0, none⟩) (F1 (y1, y2, y3)).length (F1 (y1, y2, y3)).length := if_neg hnil
              have heq : ∀ w : World, (binOp .eql 166 (.slice (some ⟨G2 (y1, y2, y3), 0, none⟩) (F1 (y1, y2, y3)).length (F1 (y1, y2, y3)).length) nilS).run Tryz.prog w = .ok (.bool false) w := fun w => Lib.run_eql_slice_nil w 166 34 _ _ _ 0 0 Tryz.underlying166
              rw [hlv] at hlk
              obtain ⟨gg, hgg⟩ : ∃ gg, gg = G2 (y1, y2, y3) := ⟨_, rfl⟩
              obtain ⟨ll, hll⟩ : ∃ ll, ll = (F1 (y1, y2, y3)).length := ⟨_, rfl⟩
              rw [← hgg, ← hll] at hlk heq
              have HGL := Lib.hid (And.intro hgg hll)
              clear hgg hll hlv
              go_upto_if 38 with fail
              obtain ⟨F2, hF2e⟩ : ∃ F2, F2 = F1 := ⟨_, rfl⟩
              obtain ⟨G3, hG3⟩ : ∃ G3, G3 = G2 := ⟨_, rfl⟩
              obtain ⟨V3, hV3⟩ : ∃ V3, V3 = V2 := ⟨_, rfl⟩
              have HFX : Hid (FAt W3 w.heap.size w.heap.size (km + (q + 1)) F2 G3 V3) := Lib.hid (by rw [hF2e, hG3, hV3]; exact HF3.out.mono (by omega))
              have HRX : Hid (F2 (y1, y2, y3) = rowsOf F1 (y1, y2, y3) ∧ ∀ z, z ≠ (y1, y2, y3) → F2 z = F1 z) := Lib.hid (by rw [hF2e]; exact ⟨by unfold rowsOf; rw [if_neg hnil], fun _ _ => rfl⟩)
              have HBXX := HBX
              have HBBX := HB3
              clear hF2e hG3 hV3 hlk heq HF3 d0 d1 d2 HBX HB3
              obtain ⟨WX, hWX⟩ : ∃ WX, WX = W3 := ⟨_, rfl⟩
              rw [← hWX] at HFX HBXX HBBX ⊢
              clear hWX
              have hlen2 : (F2 (y1, y2, y3)).length = y2 := by
                rw [HRX.out.1]
                unfold rowsOf
                by_cases h2 : F1 (y1, y2, y3) = []
                · rw [if_pos h2]; simp
                · rw [if_neg h2]; exact (HFL.out _ h2).1
              have s0 := HBXX.out.cell 0
              have s1 := HBXX.out.cell 1
              have s2 := HBXX.out.cell 2
              simp only [List.getElem?_toArray, List.getElem?_cons_zero, List.getElem?_cons_succ] at s0 s1 s2
              have HFC : Hid (Calls Tryz.prog 132 #[.agg #[.int .i64 y1, .int .i64 y2, .int .i64 y3], .pointer (some ⟨d, 0, none⟩)] WX fun e w' => e = .returned (.int .i64 (fi : Nat)) ∧ Below WX.heap.size WX w') := Lib.hid (by
                rw [HFI.out]
                exact first_kind y1 y2 y3 WX (H.out.below HBBX.out) (by omega))
              have hsub : IntKind.i64.wrap ((q : Int) - (fi : Int)) = ((q - fi : Nat) : Int) := by rw [IntWalk.i64_in _ ⟨by omega, by omega⟩]; omega
              have HLEN2 := Lib.hid hlen2
              clear hlen2
              go_upto_region 13 with ((go_at_call 132; refine HFC.out.mono ?_; rintro e w5 ⟨rfl, hb5⟩; have HB5 := Lib.hid hb5; clear hb5))
              have e6 : ((q : Int) - (fi : Int)) = ((q - fi : Nat) : Int) := by omega
              try rw [e6]
              clear e6 hsub s0 s1 s2
              obtain ⟨ix, hix⟩ : ∃ ix, ix = q - fi := ⟨_, rfl⟩
              try rw [← hix]
              have hix2 : ix < y2 := by omega
              have HF5 := Lib.hid (HFX.out.below HB5.out)
              have HBX5 := Lib.hid (HBXX.out.below HB5.out HBXX.out.lt)
              have HBB5 := Lib.hid (belt HBBX.out HB5.out)
              have HIX := Lib.hid hix
              clear hix HB5 HFC
              have hne : F2 (y1, y2, y3) ≠ [] := by intro e; have := HLEN2.out; rw [e] at this; simp at this; omega
              have hcell := HF5.out.cell (x := (y1, y2, y3)) (i := ix) (by rw [HLEN2.out]; exact hix2)
              have hlk5 : ∀ W : World, Below w5.heap.size w5 W → (Instr.lookup 176 (.map (some w.heap.size)) (.agg #[.int .i64 y1, .int .i64 y2, .int .i64 y3]) false).run Tryz.prog W = .ok (.slice (some ⟨G3 (y1, y2, y3), 0, none⟩) y2 y2) W := fun W hW => by
                have h1 := (HF5.out.below hW).lookup HOK.out
                have h2 : lookV F2 G3 (y1, y2, y3) = .slice (some ⟨G3 (y1, y2, y3), 0, none⟩) y2 y2 := by unfold lookV; rw [if_neg hne, HLEN2.out]
                rw [h2] at h1
                exact h1
              obtain ⟨gg5, hgg5⟩ : ∃ gg5, gg5 = G3 (y1, y2, y3) := ⟨_, rfl⟩
              obtain ⟨vv, hvv⟩ : ∃ vv, vv = V3 (y1, y2, y3) ix := ⟨_, rfl⟩
              rw [← hgg5, ← hvv] at hcell
              rw [← hgg5] at hlk5
              have HNM := Lib.hid (And.intro hgg5 (And.intro hvv hne))
              clear hgg5 hvv hne
              have i3 : (0 : Int) ≤ (ix : Int) := by omega
              have i4 : (ix : Int) < (y2 : Int) := by omega
              obtain ⟨hc5, hf5⟩ := hcell
              have b0 := HBX5.out.cell 0
              have b1 := HBX5.out.cell 1
              have b2 := HBX5.out.cell 2
              simp only [List.getElem?_toArray, List.getElem?_cons_zero, List.getElem?_cons_succ] at b0 b1 b2
              have HSA : Hid (((w5.drew.cell? ⟨X, 0, none⟩ = some (.int .i64 y1) ∧ w5.drew.cell? ⟨X, 1, none⟩ = some (.int .i64 y2) ∧ w5.drew.cell? ⟨X, 2, none⟩ = some (.int .i64 y3)) ∧ (Instr.lookup 176 (.map (some w.heap.size)) (.agg #[.int .i64 y1, .int .i64 y2, .int .i64 y3]) false).run Tryz.prog w5.drew = .ok (.slice (some ⟨gg5, 0, none⟩) y2 y2) w5.drew) ∧ w5.drew.cell? ⟨gg5, ix, none⟩ = some vv) := Lib.hid ⟨⟨⟨b0, b1, b2⟩, hlk5 _ (Below.refl _ _).drew⟩, hc5⟩
              have HSOF : Hid (∀ W, Below w5.heap.size w5 W → ((W.cell? ⟨X, 0, none⟩ = some (.int .i64 y1) ∧ W.cell? ⟨X, 1, none⟩ = some (.int .i64 y2) ∧ W.cell? ⟨X, 2, none⟩ = some (.int .i64 y3)) ∧ (Instr.lookup 176 (.map (some w.heap.size)) (.agg #[.int .i64 y1, .int .i64 y2, .int .i64 y3]) false).run Tryz.prog W = .ok (.slice (some ⟨gg5, 0, none⟩) y2 y2) W) ∧ W.cell? ⟨gg5, ix, none⟩ = some vv) := Lib.hid (fun W hW => ⟨⟨⟨cell_below hW b0, cell_below hW b1, cell_below hW b2⟩, hlk5 W hW⟩, cell_below hW hc5⟩)
              clear hlk5 b0 b1 b2 hc5 hf5
              have HB6 : Hid (Below w5.heap.size w5 (w5.alloc (.cells #[.int .i64 k] 3)).drew) := Lib.hid (below_al (Below.refl _ _) _).drew
              have HF6 := Lib.hid (HF5.out.below HB6.out)
              have hiL : ix < (F2 (y1, y2, y3)).length := by rw [HLEN2.out]; exact hix2
              have hrow : ((F2 (y1, y2, y3)).getD ix []).length ≤ 12 * 1024 + 1024 := by
                rw [HRX.out.1]
                exact Nat.le_trans (FRow.rows HROW.out (y1, y2, y3) ix) (by omega)
              obtain ⟨row, hrw⟩ : ∃ row, row = (F2 (y1, y2, y3)).getD ix [] := ⟨_, rfl⟩
              have hown6 : (w5.alloc (.cells #[.int .i64 k] 3)).drew.ownsRow w.heap.size 3 1 vv row.length (row.map (Value.int .i64)) := by
                rw [hrw, HNM.out.2.1]; exact HF6.out.inner _ _ hiL
              rw [← hrw] at hrow
              have HOWN6 := Lib.hid hown6
              have HRW := Lib.hid hrw
              have HIL := Lib.hid hiL
              clear hown6 hrw hiL
              have hone : Hid (∀ (j : Nat) u, [Value.int .i64 (k : Int)][j]? = some u → ((w5.alloc (.cells #[.int .i64 k] 3)).drew).cell? ((⟨w5.heap.size, 0, none⟩ : Addr).add j) = some u) := Lib.hid (fun j u h => one_cell w5 (.int .i64 k) 3 j u h)
              have HB5s := HBB5.out.size
              refine wp_region_until (L := 14) (S := (fun W => ((W.cell? ⟨X, 0, none⟩ = some (.int .i64 y1) ∧ W.cell? ⟨X, 1, none⟩ = some (.int .i64 y2) ∧ W.cell? ⟨X, 2, none⟩ = some (.int .i64 y3)) ∧ (Instr.lookup 176 (.map (some w.heap.size)) (.agg #[.int .i64 y1, .int .i64 y2, .int .i64 y3]) false).run Tryz.prog W = .ok (.slice (some ⟨gg5, 0, none⟩) y2 y2) W) ∧ W.cell? ⟨gg5, ix, none⟩ = some vv)) (by kernel_rfl) HSA.out (fun hS => ?_)
              refine wpUntil.take (i := 0) (oi := { dst := some 49, op := Op.move (Operand.tmp 3), type := 176, pos := "vault.go:167", after := #[], guard := none }) (v := ?v0) rfl (by kernel_rfl) (by kernel_rfl) (by kernel_rfl) (by kernel_rfl) (fun _ _ _ h => h) (Or.inl ⟨by rfl, ?y0⟩) hS ?r0
              case y0 =>
                intro w' hSw
                obtain ⟨⟨⟨p0, p1, p2⟩, p3⟩, p4⟩ := hSw
                go_simp
                try with_reducible rfl
              try simp only [Act.put, List.setIfInBounds_toArray, List.set_cons_zero, List.set_cons_succ]
              refine wpUntil.take (i := 1) (oi := { dst := some 50, op := Op.load 139 (Operand.tmp 7), type := 139, pos := "vault.go:167", after := #[], guard := none }) (v := ?v1) rfl (by kernel_rfl) (by kernel_rfl) (by kernel_rfl) (by kernel_rfl) (fun _ _ _ h => h) (Or.inl ⟨by rfl, ?y1⟩) hS ?r1
              case y1 =>
                intro w' hSw
                obtain ⟨⟨⟨p0, p1, p2⟩, p3⟩, p4⟩ := hSw
                go_simp
                try with_reducible rfl
              try simp only [Act.put, List.setIfInBounds_toArray, List.set_cons_zero, List.set_cons_succ]
              refine wpUntil.take (i := 2) (oi := { dst := some 51, op := Op.lookup 176 (Operand.tmp 49) (Operand.tmp 50) false, type := 166, pos := "vault.go:167", after := #[{ on := 0, ground := Ground.data }, { on := 1, ground := Ground.data }], guard := none }) (v := ?v2) rfl (by kernel_rfl) (by kernel_rfl) (by kernel_rfl) (by kernel_rfl) (fun _ _ _ h => h) (Or.inl ⟨by rfl, ?y2⟩) hS ?r2
              case y2 =>
                intro w' hSw
                obtain ⟨⟨⟨p0, p1, p2⟩, p3⟩, p4⟩ := hSw
                go_simp
                try with_reducible rfl
              try simp only [Act.put, List.setIfInBounds_toArray, List.set_cons_zero, List.set_cons_succ]
              refine wpUntil.take (i := 3) (oi := { dst := some 52, op := Op.move (Operand.tmp 9), type := 3, pos := "vault.go:167", after := #[], guard := none }) (v := ?v3) rfl (by kernel_rfl) (by kernel_rfl) (by kernel_rfl) (by kernel_rfl) (fun _ _ _ h => h) (Or.inl ⟨by rfl, ?y3⟩) hS ?r3
              case y3 =>
                intro w' hSw
                obtain ⟨⟨⟨p0, p1, p2⟩, p3⟩, p4⟩ := hSw
                go_simp
                try with_reducible rfl
              try simp only [Act.put, List.setIfInBounds_toArray, List.set_cons_zero, List.set_cons_succ]
              refine wpUntil.take (i := 4) (oi := { dst := some 53, op := Op.move (Operand.tmp 3), type := 176, pos := "vault.go:167", after := #[], guard := none }) (v := ?v4) rfl (by kernel_rfl) (by kernel_rfl) (by kernel_rfl) (by kernel_rfl) (fun _ _ _ h => h) (Or.inl ⟨by rfl, ?y4⟩) hS ?r4
              case y4 =>
                intro w' hSw
                obtain ⟨⟨⟨p0, p1, p2⟩, p3⟩, p4⟩ := hSw
                go_simp
                try with_reducible rfl
              try simp only [Act.put, List.setIfInBounds_toArray, List.set_cons_zero, List.set_cons_succ]
              refine wpUntil.take (i := 5) (oi := { dst := some 54, op := Op.load 139 (Operand.tmp 7), type := 139, pos := "vault.go:167", after := #[], guard := none }) (v := ?v5) rfl (by kernel_rfl) (by kernel_rfl) (by kernel_rfl) (by kernel_rfl) (fun _ _ _ h => h) (Or.inl ⟨by rfl, ?y5⟩) hS ?r5
              case y5 =>
                intro w' hSw
                obtain ⟨⟨⟨p0, p1, p2⟩, p3⟩, p4⟩ := hSw
                go_simp
                try with_reducible rfl
              try simp only [Act.put, List.setIfInBounds_toArray, List.set_cons_zero, List.set_cons_succ]
              refine wpUntil.take (i := 6) (oi := { dst := some 55, op := Op.lookup 176 (Operand.tmp 53) (Operand.tmp 54) false, type := 166, pos := "vault.go:167", after := #[{ on := 4, ground := Ground.data }, { on := 5, ground := Ground.data }], guard := none }) (v := ?v6) rfl (by kernel_rfl) (by kernel_rfl) (by kernel_rfl) (by kernel_rfl) (fun _ _ _ h => h) (Or.inl ⟨by rfl, ?y6⟩) hS ?r6
              case y6 =>
                intro w' hSw
                obtain ⟨⟨⟨p0, p1, p2⟩, p3⟩, p4⟩ := hSw
                go_simp
                try with_reducible rfl
              try simp only [Act.put, List.setIfInBounds_toArray, List.set_cons_zero, List.set_cons_succ]
              refine wpUntil.take (i := 7) (oi := { dst := some 56, op := Op.move (Operand.tmp 9), type := 3, pos := "vault.go:167", after := #[], guard := none }) (v := ?v7) rfl (by kernel_rfl) (by kernel_rfl) (by kernel_rfl) (by kernel_rfl) (fun _ _ _ h => h) (Or.inl ⟨by rfl, ?y7⟩) hS ?r7
              case y7 =>
                intro w' hSw
                obtain ⟨⟨⟨p0, p1, p2⟩, p3⟩, p4⟩ := hSw
                go_simp
                try with_reducible rfl
              try simp only [Act.put, List.setIfInBounds_toArray, List.set_cons_zero, List.set_cons_succ]
              refine wpUntil.take (i := 8) (oi := { dst := some 57, op := Op.indexAddr 166 (Operand.tmp 55) (Operand.tmp 56), type := 0, pos := "vault.go:167", after := #[{ on := 6, ground := Ground.data }, { on := 7, ground := Ground.data }], guard := none }) (v := ?v8) rfl (by kernel_rfl) (by kernel_rfl) (by kernel_rfl) (by kernel_rfl) (fun _ _ _ h => h) (Or.inl ⟨by rfl, ?y8⟩) hS ?r8
              case y8 =>
                intro w' hSw
                obtain ⟨⟨⟨p0, p1, p2⟩, p3⟩, p4⟩ := hSw
                go_simp
                try with_reducible rfl
              try simp only [Act.put, List.setIfInBounds_toArray, List.set_cons_zero, List.set_cons_succ]
              refine wpUntil.take (i := 9) (oi := { dst := some 58, op := Op.load 34 (Operand.tmp 57), type := 34, pos := "vault.go:167", after := #[{ on := 8, ground := Ground.data }], guard := none }) (v := ?v9) rfl (by kernel_rfl) (by kernel_rfl) (by kernel_rfl) (by kernel_rfl) (fun _ _ _ h => h) (Or.inl ⟨by rfl, ?y9⟩) hS ?r9
              case y9 =>
                intro w' hSw
                obtain ⟨⟨⟨p0, p1, p2⟩, p3⟩, p4⟩ := hSw
                go_simp
                try with_reducible rfl
              try simp only [Act.put, List.setIfInBounds_toArray, List.set_cons_zero, List.set_cons_succ]
              refine wpUntil.take (i := 10) (oi := { dst := some 59, op := Op.move (Operand.tmp 4), type := 3, pos := "vault.go:167", after := #[], guard := none }) (v := ?v10) rfl (by kernel_rfl) (by kernel_rfl) (by kernel_rfl) (by kernel_rfl) (fun _ _ _ h => h) (Or.inl ⟨by rfl, ?y10⟩) hS ?r10
              case y10 =>
                intro w' hSw
                obtain ⟨⟨⟨p0, p1, p2⟩, p3⟩, p4⟩ := hSw
                go_simp
                try with_reducible rfl
              try simp only [Act.put, List.setIfInBounds_toArray, List.set_cons_zero, List.set_cons_succ]
              refine wpUntil.only (i := 11) (oi := { dst := some 60, op := Op.buildSlice 34 1 #[(0, Operand.tmp 59)], type := 34, pos := "vault.go:167", after := #[{ on := 10, ground := Ground.data }], guard := none }) rfl (by kernel_rfl) (fun K hK => ?_)
              rw [if_pos (by rfl)]
              go_simp
              refine hK.out _ _ (fun _ => HSOF.out _ HB6.out) ?_
              clear hK K
              try simp only [Act.put, List.setIfInBounds_toArray, List.set_cons_zero, List.set_cons_succ]
              refine wpUntil.only (i := 12) (oi := { dst := some 61, op := Op.call { callee := Callee.builtin Builtin.append, args := #[Operand.tmp 58, Operand.tmp 60], argTypes := #[34, 34] }, type := 34, pos := "vault.go:167", after := #[{ on := 9, ground := Ground.data }, { on := 11, ground := Ground.data }], guard := none }) rfl (by kernel_rfl) (fun K hK => ?_)
              refine step_append_ownat rfl (.tmp 58) (.tmp 60) 34 rfl w.heap.size 3 (.int .i64 0) 1 8 Tryz.underlying34 info3 rfl (by decide) vv row.length (row.map (Value.int .i64)) rfl HOWN6.out ⟨w5.heap.size, 0, none⟩ 1 1 [.int .i64 k] rfl rfl hone.out (fun u hu => by cases List.mem_singleton.1 hu; rfl) (by unfold maxLen; omega) (by omega) (by simp; omega) ?_
              intro v' w6 hown hgrow hat
              have hgrow2 : (w5.alloc (.cells #[.int .i64 k] 3)).drew.grownBy w6 (V3 (y1, y2, y3) ix).ownBlock := by rw [← HNM.out.2.1]; exact hgrow
              have hbx6 := Box.grown (w := (w5.alloc (.cells #[.int .i64 k] 3)).drew) (HBX5.out.alloc _) hgrow2 (by
                intro e
                obtain ⟨cells, hc⟩ := own_typed (HF6.out.inner (y1, y2, y3) ix HIL.out) X e.symm
                have hb2 : Box (w5.alloc (.cells #[.int .i64 k] 3)).drew X 139 _ := HBX5.out.alloc _
                unfold Box at hb2
                rw [hb2] at hc
                cases hc)
              have hcg := HF6.out.cell_grown HIL.out hgrow2
              have hlk6 := HF6.out.lookup_grown HOK.out HIL.out hgrow2
              have h2 : lookV F2 G3 (y1, y2, y3) = .slice (some ⟨gg5, 0, none⟩) y2 y2 := by unfold lookV; rw [if_neg HNM.out.2.2, HLEN2.out, HNM.out.1]
              rw [h2] at hlk6
              rw [← HNM.out.1, ← HNM.out.2.1] at hcg
              have p0 := hbx6.cell 0
              have p1 := hbx6.cell 1
              have p2 := hbx6.cell 2
              simp only [List.getElem?_toArray, List.getElem?_cons_zero, List.getElem?_cons_succ] at p0 p1 p2
              have HS6 : Hid (((w6.cell? ⟨X, 0, none⟩ = some (.int .i64 y1) ∧ w6.cell? ⟨X, 1, none⟩ = some (.int .i64 y2) ∧ w6.cell? ⟨X, 2, none⟩ = some (.int .i64 y3)) ∧ (Instr.lookup 176 (.map (some w.heap.size)) (.agg #[.int .i64 y1, .int .i64 y2, .int .i64 y3]) false).run Tryz.prog w6 = .ok (.slice (some ⟨gg5, 0, none⟩) y2 y2) w6) ∧ w6.cell? ⟨gg5, ix, none⟩ = some vv) := Lib.hid ⟨⟨⟨p0, p1, p2⟩, hlk6⟩, hcg.1⟩
              obtain ⟨hc6, hf6⟩ := hcg
              obtain ⟨g', cap', rfl⟩ := ownsRow_succ hown
              have HPUSH := HF6.out.push HIL.out (k : Int) (v' := .slice (some ⟨g', 0, none⟩) (row.length + 1) cap') (by simp; omega) (by rw [← HRW.out]; exact hown) hgrow2 (by rw [← HNM.out.2.1]; exact hat)
              rw [← HNM.out.1] at HPUSH
              have HBW6 : Hid (Below w.heap.size w (w6.setCell ⟨gg5, ix, none⟩ (.slice (some ⟨g', 0, none⟩) (row.length + 1) cap'))) := Lib.hid (by
                refine Below.setCell (p := ⟨gg5, ix, none⟩) ?_ (by show w.heap.size ≤ gg5; rw [HNM.out.1]; exact (HF6.out.row _ HNM.out.2.2).2) _
                refine Below.grown (below_al HBB5.out _).drew hgrow (by simp; omega) (fun j hj => own_base HOWN6.out j hj))
              have HFIN : Hid (FAt (w6.setCell ⟨gg5, ix, none⟩ (.slice (some ⟨g', 0, none⟩) (row.length + 1) cap')) w.heap.size w.heap.size (km + (q + 1)) (diskTo D B.length m k F0 (q + 1)) G3 (updF V3 (y1, y2, y3) (fun j => if j = ix then .slice (some ⟨g', 0, none⟩) (row.length + 1) cap' else V3 (y1, y2, y3) j))) := Lib.hid (by
                have e9 : updF F2 (y1, y2, y3) ((F2 (y1, y2, y3)).set ix ((F2 (y1, y2, y3)).getD ix [] ++ [(k : Int)])) = diskTo D B.length m k F0 (q + 1) := by
                  rw [HS3.out]
                  have e0 : stepF F1 m k q (some (y1, y2, y3)) = updF F1 (y1, y2, y3) ((rowsOf F1 (y1, y2, y3)).set (q - firstF m y1) ((rowsOf F1 (y1, y2, y3)).getD (q - firstF m y1) [] ++ [(k : Int)])) := rfl
                  rw [e0, ← HFI.out, ← HIX.out, HRX.out.1]
                  funext z
                  by_cases ez : z = (y1, y2, y3)
                  · rw [ez, updF_same, updF_same]
                  · rw [updF_other _ _ ez, updF_other _ _ ez, HRX.out.2 z ez]
                rw [← e9]
                exact HPUSH)
              clear hown hgrow hgrow2 hbx6 hlk6 h2 p0 p1 p2 hat HPUSH
              refine hK.out _ _ (fun _ => HS6.out) ?_
              clear hK K
              try simp only [Act.put, List.setIfInBounds_toArray, List.set_cons_zero, List.set_cons_succ]
              refine wpUntil.only (i := 13) (oi := { dst := some 62, op := Op.indexAddr 166 (Operand.tmp 51) (Operand.tmp 52), type := 0, pos := "vault.go:167", after := #[{ on := 2, ground := Ground.data }, { on := 3, ground := Ground.data }, { on := 0, ground := Ground.phase }, { on := 1, ground := Ground.phase }, { on := 2, ground := Ground.phase }, { on := 3, ground := Ground.phase }, { on := 4, ground := Ground.phase }, { on := 5, ground := Ground.phase }, { on := 6, ground := Ground.phase }, { on := 7, ground := Ground.phase }, { on := 8, ground := Ground.phase }, { on := 9, ground := Ground.phase }, { on := 10, ground := Ground.phase }, { on := 11, ground := Ground.phase }, { on := 12, ground := Ground.phase }], guard := none }) rfl (by kernel_rfl) (fun K hK => ?_)
              rw [if_pos (by rfl)]
              go_simp
              refine hK.out _ _ (fun _ => HS6.out) ?_
              clear hK K
              try simp only [Act.put, List.setIfInBounds_toArray, List.set_cons_zero, List.set_cons_succ]
              refine wpUntil.only (i := 14) (oi := { dst := none, op := Op.store 34 (Operand.tmp 62) (Operand.tmp 61), type := 0, pos := "vault.go:167", after := #[{ on := 13, ground := Ground.data }, { on := 12, ground := Ground.data }, { on := 12, ground := Ground.chain }, { on := 0, ground := Ground.phase }, { on := 1, ground := Ground.phase }, { on := 2, ground := Ground.phase }, { on := 3, ground := Ground.phase }, { on := 4, ground := Ground.phase }, { on := 5, ground := Ground.phase }, { on := 6, ground := Ground.phase }, { on := 7, ground := Ground.phase }, { on := 8, ground := Ground.phase }, { on := 9, ground := Ground.phase }, { on := 10, ground := Ground.phase }, { on := 11, ground := Ground.phase }, { on := 12, ground := Ground.phase }], guard := none }) rfl (by kernel_rfl) (fun K hK => ?_)
              rw [if_pos (by rfl)]
              go_simp
              refine hK.out _ _ (fun hne => absurd rfl hne) ?_
              clear hK K
              try simp only [Act.put, List.setIfInBounds_toArray, List.set_cons_zero, List.set_cons_succ]
              refine wpUntil.done (by kernel_rfl) ?_ _
              clear hS hc6 hf6
              go_wp2_with fail
              go_roundw
              case rel => exact ⟨q + 1, _, _, by omega, by go_num, HFIN, HBW6⟩
              case measure => simp [intOf]; omega
        · have hqm : q = m := by omega
          have HF4 : Hid (FAt wr w.heap.size w.heap.size ((k + 1) * m) (foundTo D B.length m (k + 1)) G2 V2) := Lib.hid (by
            have h1 : foundTo D B.length m (k + 1) = diskTo D B.length m k F0 q := by rw [hqm, HF0'.out]; rfl
            rw [h1]
            have h2 : (k + 1) * m = km + q := by rw [Nat.add_mul, HKM.out, hqm]; omega
            rw [h2]
            exact hF2.out)
          go_wp2_with fail
          go_roundw
          case rel => exact ⟨k + 1, G2, V2, by omega, by go_num, HF4, hB2⟩
          case measure => simp [intOf]; omega
    · have hkl : k = B.length := by omega
      subst hkl
      go_wp2_with fail
      go_ret
      exact ⟨_, G, V, rfl, hF.out, hB.out⟩
end Go.Proofs.YtkdjibejnncmfaaGreatDoor.Co

/- The walk of stripe. -/
namespace Go.Proofs.YtkdjibejnncmfaaGreatDoor.Co
open Go.RowKit Go.Proofs.YtkdjibejnncmfaaGreatDoorW.PrintWords Go.Proofs.YtkdjibejnncmfaaGreatDoorW.PrintLast Go.Proofs.YtkdjibejnncmfaaGreatDoorW.PrintMore
set_option linter.unusedVariables false
set_option linter.unusedSimpArgs false
set_option maxRecDepth 100000
/-- The pieces of a stripe on some disks. -/
def shareAt (D : DS) (at_ : Nat) (y : Int) : ByteArray := strOfNums ((pageAt D y.toNat at_).take 40)
def shareL (D : DS) (at_ : Nat) (disks : List Int) : List ByteArray := disks.map (shareAt D at_)
def catL (l : List ByteArray) : ByteArray := l.foldl (· ++ ·) ⟨#[]⟩
theorem catL_snoc (l : List ByteArray) (s : ByteArray) : catL (l ++ [s]) = catL l ++ s := by unfold catL; rw [List.foldl_append]; rfl
def stripeF (D : DS) (m : Nat) (x : Kn) (i : Nat) (disks : List Int) : Option ByteArray :=
  if disks.length < x.2.2 then none else
    if fitsF x.2.2 disks (shareL D (firstF m x.1 + i) disks) then some (catL (someTo (disks.take x.2.2) ((shareL D (firstF m x.1 + i) disks).take x.2.2) x.2.2)) else none
def StripeP (o : Option ByteArray) (w : World) (e : Ending) (w' : World) : Prop := e = .returned (.tuple #[.string (o.getD ⟨#[]⟩), .bool o.isSome]) ∧ Below w.heap.size w w'
theorem shareL_take (D : DS) (at_ : Nat) (disks : List Int) (j : Nat) (h : j < disks.length) : shareL D at_ (disks.take (j + 1)) = shareL D at_ (disks.take j) ++ [shareAt D at_ (rd disks j)] := by
  unfold shareL
  rw [List.take_add_one, List.map_append]
  have : disks[j]? = some (rd disks j) := by
    unfold rd
    rw [Int.toNat_natCast, List.getD_eq_getElem?_getD, List.getElem?_eq_getElem h]; rfl
  rw [this]; rfl
theorem own_cap {w : World} {base : Nat} {e : TypeId} {size n n' c : Nat} {A : Option Addr} {xs : List Value} (h : w.ownsRow base e size (.slice A n' c) n xs) : c ≤ 9223372036854775807 := by
  rcases h.2 with ⟨h1, _⟩ | ⟨g, cap, cur, h1, _, _, _, h2, _⟩
  · injection h1 with _ _ h3; omega
  · injection h1 with _ _ h3; unfold maxLen at h2; omega
theorem catL_size {L : Nat} (l : List ByteArray) (h : ∀ s ∈ l, s.size = L) : (catL l).size = l.length * L := by
  have key : ∀ (l : List ByteArray) (a : ByteArray), (∀ s ∈ l, s.size = L) → (l.foldl (· ++ ·) a).size = a.size + l.length * L := by
    intro l
    induction l with
    | nil => intro a _; simp
    | cons s l ih =>
      intro a h
      rw [List.foldl_cons, ih _ (fun t ht => h t (List.mem_cons_of_mem _ ht)), ByteArray.size_append, h s List.mem_cons_self, List.length_cons, Nat.add_mul]
      omega
  have := key l ⟨#[]⟩ h
  unfold catL
  rw [this]
  show 0 + l.length * L = _
  omega
theorem rd_take (l : List Int) (k i : Nat) (h : i < k) : rd (l.take k) i = rd l i := by
  unfold rd
  simp [List.getD_eq_getElem?_getD, List.getElem?_take, h]
theorem vs_take (l : List ByteArray) (k i : Nat) (h : i < k) : vs (l.take k) i = vs l i := by
  unfold vs rdOf
  simp [List.getD_eq_getElem?_getD, List.getElem?_take, h]
set_option maxHeartbeats 4000000 in
theorem stripe_any {d P c m : Nat} {B : List Nat} {D : DS} (x1 x2 x3 i : Nat) (A : Option Addr) (ca : Nat) (disks : List Int) (w : World) (h : DAt w d P B c m D) (hCa : Kd.C (Kd.int .i64) w A disks.length disks) (hca : disks.length ≤ ca) (hcm : ca ≤ 9223372036854775807)
    (hd : ∀ y ∈ disks, 0 ≤ y ∧ y < (B.length : Int)) (hl : disks.length ≤ 12) (he : 1 ≤ x3) (he2 : x3 ≤ 12) (hx : x1 ≤ 9223372036854775807) (hx2 : x2 ≤ 70000) (hi : firstF m x1 + i < m) :
    Calls Tryz.prog 155 #[.pointer (some ⟨d, 0, none⟩), kindV x1 x2 x3, .int .i64 i, .slice A disks.length ca] w (StripeP (stripeF D m (x1, x2, x3) i disks) w) := by
  have H := Lib.hid h
  have HCa := Lib.hid hCa
  have hcap := h.cap
  have hmost := h.most
  have hfew := h.few
  have HDS := Lib.hid hd
  clear h hCa hd
  go_enter Tryz.func155, Tryz.ntmps155
  go_upto_region 1 with fail
  have HBX := Lib.hid (Box.new w #[.int .i64 x1, .int .i64 x2, .int .i64 x3] 139)
  obtain ⟨W0, hW0⟩ : ∃ W0, W0 = w.alloc (.cells #[.int .i64 x1, .int .i64 x2, .int .i64 x3] 139) := ⟨_, rfl⟩
  rw [← hW0] at HBX ⊢
  have HB0 : Hid (Below w.heap.size w W0) := Lib.hid (by rw [hW0]; exact below_al (Below.refl _ _) _)
  clear hW0
  have d2 := HBX.out.cell 2
  simp only [List.getElem?_toArray, List.getElem?_cons_zero, List.getElem?_cons_succ] at d2
  by_cases hlt : disks.length < x3
  · have HS : Hid (stripeF D m (x1, x2, x3) i disks = none) := Lib.hid (by unfold stripeF; rw [if_pos hlt])
    go_wp2_with fail
    go_ret2
    exact ⟨by rw [HS.out]; rfl, HB0.out⟩
  · obtain ⟨at_, hat⟩ : ∃ at_, at_ = firstF m x1 + i := ⟨_, rfl⟩
    obtain ⟨fi, hfi⟩ : ∃ fi, fi = firstF m x1 := ⟨_, rfl⟩
    have hat2 : at_ = fi + i := by rw [hat, hfi]
    have HS : Hid (stripeF D m (x1, x2, x3) i disks = if fitsF x3 disks (shareL D at_ disks) then some (catL (someTo (disks.take x3) ((shareL D at_ disks).take x3) x3)) else none) := Lib.hid (by unfold stripeF; rw [if_neg hlt, hat])
    rw [← hat] at hi
    have HFI := Lib.hid hfi
    clear hat hfi
    have hlt' : decide ((disks.length : Int) < (x3 : Int)) = false := by simp; omega
    go_upto_region 4 with fail
    clear hlt' d2
    go_wp2_with fail
    go_loopw [10, 23] (fun v j wr => ∃ k : Nat, k ≤ disks.length ∧ j = .int .i64 k ∧ Hid (Kd.R Kd.string 9 wr W0.heap.size (fun _ => True) v (shareL D at_ (disks.take k))) ∧ Hid (Below W0.heap.size W0 wr)) (fun _ j _ => disks.length - (intOf j).toNat)
    case atStart => exact ⟨0, by omega, rfl, Lib.hid (Kd.R_nil _ _ _ _ _), Lib.hid (Below.refl _ _)⟩
    case round =>
      obtain ⟨k, hk, rfl, hR, hBr⟩ := hrel
      have HBw := Lib.hid (belt HB0.out hBr.out)
      by_cases hlt2 : k < disks.length
      · obtain ⟨ad, e, hxa⟩ := Kd.at_int (Kd.C_below HCa.out HBw.out) (k : Int) (by omega) (by omega)
        subst e
        simp only [Int.toNat_natCast] at hxa
        have hy := HDS.out (rd disks k) (rd_mem disks k hlt2)
        obtain ⟨y, hyy⟩ : ∃ y : Nat, rd disks k = (y : Int) := ⟨(rd disks k).toNat, by omega⟩
        rw [hyy] at hxa hy
        have hyB : y < B.length := by omega
        have i1 : (0 : Int) ≤ (k : Int) := by omega
        have i2 : (k : Int) < (disks.length : Int) := by omega
        have HTK : Hid (shareL D at_ (disks.take (k + 1)) = shareL D at_ (disks.take k) ++ [strOfNums ((pageAt D y at_).take 40)]) := Lib.hid (by
          rw [shareL_take D at_ disks k hlt2, hyy]; unfold shareAt; rw [Int.toNat_natCast])
        have HYY := Lib.hid hyy
        clear hyy
        go_upto_region 7 with fail
        obtain ⟨b, hb⟩ : ∃ b, b = B.getD y 0 := ⟨_, rfl⟩
        obtain ⟨sx, hsx⟩ : ∃ sx, sx = strOfNums ((pageAt D y at_).take 40) := ⟨_, rfl⟩
        have HDr := Lib.hid (H.out.below HBw.out)
        have HBXr := Lib.hid (HBX.out.below hBr.out HBX.out.lt)
        have KF : Hid (∀ W, Below w.heap.size w W → Box W w.heap.size 139 #[.int .i64 x1, .int .i64 x2, .int .i64 x3] → (W.cell? ⟨d, 0, none⟩ = some (.slice (some ⟨P, 0, none⟩) B.length c) ∧ W.cell? ⟨P, y, none⟩ = some (.slice (some ⟨b, 0, none⟩) m m) ∧ W.cell? ⟨w.heap.size, 0, none⟩ = some (.int .i64 x1) ∧ W.cell? ⟨w.heap.size, 1, none⟩ = some (.int .i64 x2) ∧ W.cell? ⟨w.heap.size, 2, none⟩ = some (.int .i64 x3)) ∧ (convert 46 9 (.slice (some ⟨b, at_ * 64, none⟩) 40 64)).run Tryz.prog W = .ok (.string sx) W) := Lib.hid (fun W hW hXW => by
          have hDW := H.out.below hW
          have hpl := hDW.page_len y at_ hyB hi
          refine ⟨by rw [hb]; exact ⟨hDW.f0, hDW.row y hyB, hXW.cell 0, hXW.cell 1, hXW.cell 2⟩, ?_⟩
          rw [hsx]
          refine run_convert_bytes_arg W 46 5 Tryz.underlying46 Tryz.underlying5 b (at_ * 64) 40 64 ((pageAt D y at_).take 40) (by rw [List.length_take, hpl]; rfl) (fun j hj => ?_) 9 Tryz.underlying9
          have h1 := hDW.page_range y at_ hyB hi j (.int .u8 ((pageAt D y at_).getD j 0)) (by
            unfold encB
            rw [List.getElem?_map, List.getD_eq_getElem?_getD, List.getElem?_eq_getElem (by omega)]; rfl)
          rw [hb]
          rw [h1, List.getD_eq_getElem?_getD, List.getD_eq_getElem?_getD, List.getElem?_take, if_pos hj])
        have HCL : Hid (∀ W, Below wr.heap.size wr W → Calls Tryz.prog 132 #[.agg #[.int .i64 x1, .int .i64 x2, .int .i64 x3], .pointer (some ⟨d, 0, none⟩)] W fun e w' => e = .returned (.int .i64 (fi : Nat)) ∧ Below wr.heap.size wr w') := Lib.hid (fun W hW => by
          rw [HFI.out]
          exact (first_kind x1 x2 x3 W (HDr.out.below hW) hx).mono (fun _ _ h => ⟨h.1, belt hW h.2⟩))
        have hfi2 : fi ≤ 512 := by rw [HFI.out]; exact firstF_le hfew
        have hadd : IntKind.i64.wrap ((fi : Int) + (i : Int)) = (at_ : Int) := by rw [IntWalk.i64_in _ ⟨by omega, by omega⟩]; omega
        have i3 : (0 : Int) ≤ (at_ : Int) := by omega
        have i4 : (at_ : Int) < (m : Int) := by omega
        have i5 : (0 : Int) ≤ (y : Int) := by omega
        have i6 : (y : Int) < (B.length : Int) := by omega
        have hrlen : (shareL D at_ (disks.take k)).length ≤ 12 := by unfold shareL; rw [List.length_map, List.length_take]; omega
        obtain ⟨sl, hsl⟩ : ∃ sl, sl = shareL D at_ (disks.take k) := ⟨_, rfl⟩
        rw [← hsl] at hR HTK hrlen
        rw [← hsx] at HTK
        have HOWN := Lib.hid (Kd.own_of_R hR.out)
        have HNM := Lib.hid (And.intro hb (And.intro hsx hsl))
        clear hb hsx hsl hat2 hxa i1 i2
        refine wp_region_until (L := 18) (S := fun W => (W.cell? ⟨d, 0, none⟩ = some (.slice (some ⟨P, 0, none⟩) B.length c) ∧ W.cell? ⟨P, y, none⟩ = some (.slice (some ⟨b, 0, none⟩) m m) ∧ W.cell? ⟨w.heap.size, 0, none⟩ = some (.int .i64 x1) ∧ W.cell? ⟨w.heap.size, 1, none⟩ = some (.int .i64 x2) ∧ W.cell? ⟨w.heap.size, 2, none⟩ = some (.int .i64 x3)) ∧ (convert 46 9 (.slice (some ⟨b, at_ * 64, none⟩) 40 64)).run Tryz.prog W = .ok (.string sx) W) (by kernel_rfl) (KF.out _ HBw.out.drew HBXr.out) (fun hS => ?_)
        refine wpUntil.take (i := 0) (oi := { dst := some 27, op := Op.move (Operand.tmp 10), type := 33, pos := "vault.go:180", after := #[], guard := none }) (v := ?va0) rfl (by kernel_rfl) (by kernel_rfl) (by kernel_rfl) (by kernel_rfl) (fun _ _ _ h => h) (Or.inl ⟨by rfl, ?ya0⟩) hS ?ra0
        case ya0 =>
          intro w' hSw
          obtain ⟨⟨q1, q2, q3, q4, q5⟩, q6⟩ := hSw
          go_simp
          try with_reducible rfl
        try simp only [Act.put, List.setIfInBounds_toArray, List.set_cons_zero, List.set_cons_succ]
        refine wpUntil.take (i := 1) (oi := { dst := some 28, op := Op.move (Operand.tmp 0), type := 50, pos := "vault.go:180", after := #[], guard := none }) (v := ?va1) rfl (by kernel_rfl) (by kernel_rfl) (by kernel_rfl) (by kernel_rfl) (fun _ _ _ h => h) (Or.inl ⟨by rfl, ?ya1⟩) hS ?ra1
        case ya1 =>
          intro w' hSw
          obtain ⟨⟨q1, q2, q3, q4, q5⟩, q6⟩ := hSw
          go_simp
          try with_reducible rfl
        try simp only [Act.put, List.setIfInBounds_toArray, List.set_cons_zero, List.set_cons_succ]
        refine wpUntil.take (i := 2) (oi := { dst := some 29, op := Op.nilCheck (Operand.tmp 28), type := 0, pos := "vault.go:180", after := #[{ on := 1, ground := Ground.data }], guard := none }) (v := ?va2) rfl (by kernel_rfl) (by kernel_rfl) (by kernel_rfl) (by kernel_rfl) (fun _ _ _ h => h) (Or.inl ⟨by rfl, ?ya2⟩) hS ?ra2
        case ya2 =>
          intro w' hSw
          obtain ⟨⟨q1, q2, q3, q4, q5⟩, q6⟩ := hSw
          go_simp
          try with_reducible rfl
        try simp only [Act.put, List.setIfInBounds_toArray, List.set_cons_zero, List.set_cons_succ]
        refine wpUntil.take (i := 3) (oi := { dst := some 30, op := Op.fieldAddr 127 (Operand.tmp 29) 0, type := 0, pos := "vault.go:180", after := #[{ on := 2, ground := Ground.data }], guard := none }) (v := ?va3) rfl (by kernel_rfl) (by kernel_rfl) (by kernel_rfl) (by kernel_rfl) (fun _ _ _ h => h) (Or.inl ⟨by rfl, ?ya3⟩) hS ?ra3
        case ya3 =>
          intro w' hSw
          obtain ⟨⟨q1, q2, q3, q4, q5⟩, q6⟩ := hSw
          go_simp
          try with_reducible rfl
        try simp only [Act.put, List.setIfInBounds_toArray, List.set_cons_zero, List.set_cons_succ]
        refine wpUntil.take (i := 4) (oi := { dst := some 31, op := Op.load 125 (Operand.tmp 30), type := 125, pos := "vault.go:180", after := #[{ on := 3, ground := Ground.data }], guard := none }) (v := ?va4) rfl (by kernel_rfl) (by kernel_rfl) (by kernel_rfl) (by kernel_rfl) (fun _ _ _ h => h) (Or.inl ⟨by rfl, ?ya4⟩) hS ?ra4
        case ya4 =>
          intro w' hSw
          obtain ⟨⟨q1, q2, q3, q4, q5⟩, q6⟩ := hSw
          go_simp
          try with_reducible rfl
        try simp only [Act.put, List.setIfInBounds_toArray, List.set_cons_zero, List.set_cons_succ]
        refine wpUntil.take (i := 5) (oi := { dst := some 32, op := Op.move (Operand.tmp 12), type := 3, pos := "vault.go:180", after := #[], guard := none }) (v := ?va5) rfl (by kernel_rfl) (by kernel_rfl) (by kernel_rfl) (by kernel_rfl) (fun _ _ _ h => h) (Or.inl ⟨by rfl, ?ya5⟩) hS ?ra5
        case ya5 =>
          intro w' hSw
          obtain ⟨⟨q1, q2, q3, q4, q5⟩, q6⟩ := hSw
          go_simp
          try with_reducible rfl
        try simp only [Act.put, List.setIfInBounds_toArray, List.set_cons_zero, List.set_cons_succ]
        refine wpUntil.take (i := 6) (oi := { dst := some 33, op := Op.indexAddr 125 (Operand.tmp 31) (Operand.tmp 32), type := 0, pos := "vault.go:180", after := #[{ on := 4, ground := Ground.data }, { on := 5, ground := Ground.data }], guard := none }) (v := ?va6) rfl (by kernel_rfl) (by kernel_rfl) (by kernel_rfl) (by kernel_rfl) (fun _ _ _ h => h) (Or.inl ⟨by rfl, ?ya6⟩) hS ?ra6
        case ya6 =>
          intro w' hSw
          obtain ⟨⟨q1, q2, q3, q4, q5⟩, q6⟩ := hSw
          go_simp
          try with_reducible rfl
        try simp only [Act.put, List.setIfInBounds_toArray, List.set_cons_zero, List.set_cons_succ]
        refine wpUntil.take (i := 7) (oi := { dst := some 34, op := Op.load 128 (Operand.tmp 33), type := 128, pos := "vault.go:180", after := #[{ on := 6, ground := Ground.data }], guard := none }) (v := ?va7) rfl (by kernel_rfl) (by kernel_rfl) (by kernel_rfl) (by kernel_rfl) (fun _ _ _ h => h) (Or.inl ⟨by rfl, ?ya7⟩) hS ?ra7
        case ya7 =>
          intro w' hSw
          obtain ⟨⟨q1, q2, q3, q4, q5⟩, q6⟩ := hSw
          go_simp
          try with_reducible rfl
        try simp only [Act.put, List.setIfInBounds_toArray, List.set_cons_zero, List.set_cons_succ]
        refine wpUntil.take (i := 8) (oi := { dst := some 35, op := Op.load 139 (Operand.tmp 5), type := 139, pos := "vault.go:180", after := #[], guard := none }) (v := ?va8) rfl (by kernel_rfl) (by kernel_rfl) (by kernel_rfl) (by kernel_rfl) (fun _ _ _ h => h) (Or.inl ⟨by rfl, ?ya8⟩) hS ?ra8
        case ya8 =>
          intro w' hSw
          obtain ⟨⟨q1, q2, q3, q4, q5⟩, q6⟩ := hSw
          go_simp
          try with_reducible rfl
        try simp only [Act.put, List.setIfInBounds_toArray, List.set_cons_zero, List.set_cons_succ]
        refine wpUntil.take (i := 9) (oi := { dst := some 36, op := Op.move (Operand.tmp 0), type := 50, pos := "vault.go:180", after := #[], guard := none }) (v := ?va9) rfl (by kernel_rfl) (by kernel_rfl) (by kernel_rfl) (by kernel_rfl) (fun _ _ _ h => h) (Or.inl ⟨by rfl, ?ya9⟩) hS ?ra9
        case ya9 =>
          intro w' hSw
          obtain ⟨⟨q1, q2, q3, q4, q5⟩, q6⟩ := hSw
          go_simp
          try with_reducible rfl
        try simp only [Act.put, List.setIfInBounds_toArray, List.set_cons_zero, List.set_cons_succ]
        refine wpUntil.take (i := 11) (oi := { dst := some 38, op := Op.move (Operand.tmp 2), type := 3, pos := "vault.go:180", after := #[], guard := none }) (v := ?va11) rfl (by kernel_rfl) (by kernel_rfl) (by kernel_rfl) (by kernel_rfl) (fun _ _ _ h => h) (Or.inl ⟨by rfl, ?ya11⟩) hS ?ra11
        case ya11 =>
          intro w' hSw
          obtain ⟨⟨q1, q2, q3, q4, q5⟩, q6⟩ := hSw
          go_simp
          try with_reducible rfl
        try simp only [Act.put, List.setIfInBounds_toArray, List.set_cons_zero, List.set_cons_succ]
        refine wpUntil.only (i := 10) (oi := { dst := some 37, op := Op.call { callee := Callee.value (Operand.func 132), args := #[Operand.tmp 35, Operand.tmp 36], argTypes := #[139, 50] }, type := 3, pos := "vault.go:180", after := #[{ on := 8, ground := Ground.data }, { on := 9, ground := Ground.data }], guard := none }) rfl (by kernel_rfl) (fun K hK => ?_)
        rw [if_pos (by rfl)]
        go_simp
        refine (HCL.out _ (Below.refl _ _).drew).mono ?_
        rintro e w2 ⟨rfl, hb2⟩
        have HB2 := Lib.hid hb2
        clear hS hb2
        have hS := KF.out w2 (belt HBw.out HB2.out) (HBXr.out.below HB2.out HBXr.out.lt)
        refine hK.out _ _ (fun _ => hS) ?_
        clear hK K
        try simp only [Act.put, List.setIfInBounds_toArray, List.set_cons_zero, List.set_cons_succ]
        refine wpUntil.take (i := 12) (oi := { dst := some 39, op := Op.binOp BinOp.add 3 (Operand.tmp 37) (Operand.tmp 38) 3, type := 3, pos := "vault.go:180", after := #[{ on := 10, ground := Ground.data }, { on := 11, ground := Ground.data }], guard := none }) (v := ?va12) rfl (by kernel_rfl) (by kernel_rfl) (by kernel_rfl) (by kernel_rfl) (fun _ _ _ h => h) (Or.inl ⟨by rfl, ?ya12⟩) hS ?ra12
        case ya12 =>
          intro w' hSw
          obtain ⟨⟨q1, q2, q3, q4, q5⟩, q6⟩ := hSw
          go_simp
          try with_reducible rfl
        try simp only [Act.put, List.setIfInBounds_toArray, List.set_cons_zero, List.set_cons_succ]
        refine wpUntil.take (i := 13) (oi := { dst := some 40, op := Op.indexAddr 128 (Operand.tmp 34) (Operand.tmp 39), type := 0, pos := "vault.go:180", after := #[{ on := 7, ground := Ground.data }, { on := 12, ground := Ground.data }], guard := none }) (v := ?va13) rfl (by kernel_rfl) (by kernel_rfl) (by kernel_rfl) (by kernel_rfl) (fun _ _ _ h => h) (Or.inl ⟨by rfl, ?ya13⟩) hS ?ra13
        case ya13 =>
          intro w' hSw
          obtain ⟨⟨q1, q2, q3, q4, q5⟩, q6⟩ := hSw
          go_simp
          try with_reducible rfl
        try simp only [Act.put, List.setIfInBounds_toArray, List.set_cons_zero, List.set_cons_succ]
        refine wpUntil.take (i := 14) (oi := { dst := some 41, op := Op.slice 131 (Operand.tmp 40) none (some (Operand.const (Value.int IntKind.i64 40))) none, type := 46, pos := "vault.go:180", after := #[{ on := 13, ground := Ground.data }], guard := none }) (v := ?va14) rfl (by kernel_rfl) (by kernel_rfl) (by kernel_rfl) (by kernel_rfl) (fun _ _ _ h => h) (Or.inl ⟨by rfl, ?ya14⟩) hS ?ra14
        case ya14 =>
          intro w' hSw
          obtain ⟨⟨q1, q2, q3, q4, q5⟩, q6⟩ := hSw
          go_simp
          try with_reducible rfl
        try simp only [Act.put, List.setIfInBounds_toArray, List.set_cons_zero, List.set_cons_succ]
        refine wpUntil.take (i := 15) (oi := { dst := some 42, op := Op.convert 46 9 (Operand.tmp 41), type := 9, pos := "vault.go:180", after := #[{ on := 14, ground := Ground.data }], guard := none }) (v := ?va15) rfl (by kernel_rfl) (by kernel_rfl) (by kernel_rfl) (by kernel_rfl) (fun _ _ _ h => h) (Or.inl ⟨by rfl, ?ya15⟩) hS ?ra15
        case ya15 =>
          intro w' hSw
          obtain ⟨⟨q1, q2, q3, q4, q5⟩, q6⟩ := hSw
          go_simp
          try with_reducible rfl
        try simp only [Act.put, List.setIfInBounds_toArray, List.set_cons_zero, List.set_cons_succ]
        refine wpUntil.only (i := 16) (oi := { dst := some 43, op := Op.buildSlice 33 1 #[(0, Operand.tmp 42)], type := 33, pos := "vault.go:180", after := #[{ on := 15, ground := Ground.data }], guard := none }) rfl (by kernel_rfl) (fun K hK => ?_)
        rw [if_pos (by rfl)]
        go_simp
        refine hK.out _ _ (fun _ => KF.out _ (below_al (belt HBw.out HB2.out) _) ((HBXr.out.below HB2.out HBXr.out.lt).alloc _)) ?_
        clear hK K
        try simp only [Act.put, List.setIfInBounds_toArray, List.set_cons_zero, List.set_cons_succ]
        have HB6 : Hid (Below wr.heap.size wr (w2.alloc (.cells #[.string sx] 9))) := Lib.hid (below_al HB2.out _)
        have HOWN6 := Lib.hid (own_below HOWN.out HB6.out)
        have hsz6 := HB6.out.size
        have hszw := HBw.out.size
        have hszr := hBr.out.size
        have hone : Hid (∀ (j : Nat) u, [Value.string sx][j]? = some u → (w2.alloc (.cells #[.string sx] 9)).cell? ((⟨w2.heap.size, 0, none⟩ : Addr).add j) = some u) := Lib.hid (fun j u h => one_cell w2 (.string sx) 9 j u h)
        refine wpUntil.only (i := 17) (oi := { dst := some 44, op := Op.call { callee := Callee.builtin Builtin.append, args := #[Operand.tmp 27, Operand.tmp 43], argTypes := #[33, 33] }, type := 33, pos := "vault.go:180", after := #[{ on := 0, ground := Ground.data }, { on := 16, ground := Ground.data }, { on := 10, ground := Ground.chain }], guard := none }) rfl (by kernel_rfl) (fun K hK => ?_)
        refine step_append_ownat rfl (.tmp 27) (.tmp 43) 33 rfl W0.heap.size 9 (.string ⟨#[]⟩) 1 16 Tryz.underlying33 info9 rfl (by decide) u10 sl.length (encs Value.string sl) rfl HOWN6.out ⟨w2.heap.size, 0, none⟩ 1 1 [.string sx] rfl rfl hone.out (fun u hu => by cases List.mem_singleton.1 hu; rfl) (by unfold maxLen; omega) (by omega) (by omega) ?_
        intro v' w6 hown hgrow hat
        have HB9 : Hid (Below W0.heap.size W0 w6) := Lib.hid ((belt hBr.out HB6.out).grown hgrow (by omega) (fun j hj => own_base HOWN6.out j hj))
        have HB7 : Hid (Below w.heap.size w w6) := Lib.hid (belt HB0.out HB9.out)
        have hS6 := KF.out w6 HB7.out (Box.grown (w := w2.alloc (.cells #[.string sx] 9)) ((HBXr.out.below HB2.out HBXr.out.lt).alloc _) hgrow (by
          intro e
          obtain ⟨cells, hc⟩ := own_typed HOWN6.out w.heap.size e.symm
          have hb2 : Box (w2.alloc (.cells #[.string sx] 9)) w.heap.size 139 _ := (HBXr.out.below HB2.out HBXr.out.lt).alloc _
          unfold Box at hb2
          rw [hb2] at hc
          cases hc))
        refine hK.out _ _ (fun _ => hS6) ?_
        clear hK K
        try simp only [Act.put, List.setIfInBounds_toArray, List.set_cons_zero, List.set_cons_succ]
        refine wpUntil.only (i := 18) (oi := { dst := some 10, op := Op.assign (Operand.tmp 44), type := 33, pos := "vault.go:180", after := #[{ on := 17, ground := Ground.data }, { on := 17, ground := Ground.chain }, { on := 0, ground := Ground.phase }, { on := 1, ground := Ground.phase }, { on := 2, ground := Ground.phase }, { on := 3, ground := Ground.phase }, { on := 4, ground := Ground.phase }, { on := 5, ground := Ground.phase }, { on := 6, ground := Ground.phase }, { on := 7, ground := Ground.phase }, { on := 8, ground := Ground.phase }, { on := 9, ground := Ground.phase }, { on := 10, ground := Ground.phase }, { on := 11, ground := Ground.phase }, { on := 12, ground := Ground.phase }, { on := 13, ground := Ground.phase }, { on := 14, ground := Ground.phase }, { on := 15, ground := Ground.phase }, { on := 16, ground := Ground.phase }, { on := 17, ground := Ground.phase }], guard := none }) rfl (by kernel_rfl) (fun K hK => ?_)
        rw [if_pos (by rfl)]
        go_simp
        refine hK.out _ _ (fun hne => absurd rfl hne) ?_
        clear hK K
        try simp only [Act.put, List.setIfInBounds_toArray, List.set_cons_zero, List.set_cons_succ]
        refine wpUntil.done (by kernel_rfl) ?_ _
        have HR9 : Hid (Kd.R Kd.string 9 w6 W0.heap.size (fun _ => True) v' (shareL D at_ (disks.take (k + 1)))) := Lib.hid (by
          rw [HTK.out]
          exact Kd.R_of_own (by rw [List.length_append]; simp only [encs, List.map_append] at hown ⊢; exact hown) (fun _ _ => trivial))
        clear hown hgrow hat hS hS6
        go_wp2_with fail
        go_roundw
        case rel => exact ⟨k + 1, by omega, by go_num, HR9, HB9⟩
        case measure => simp [intOf]; omega
      · have hkl : k = disks.length := by omega
        subst hkl
        have e1 : disks.take disks.length = disks := List.take_length
        rw [e1] at hR
        obtain ⟨sl, hsl⟩ : ∃ sl, sl = shareL D at_ disks := ⟨_, rfl⟩
        rw [← hsl] at hR HS
        have hsl2 : sl.length = disks.length := by rw [hsl]; unfold shareL; rw [List.length_map]
        have hsz : ∀ i : Nat, i < sl.length → (vs sl i).size = 40 := by
          intro i hi2
          have hm := vs_mem sl i hi2
          obtain ⟨z, hz⟩ : ∃ z, z = vs sl i := ⟨_, rfl⟩
          rw [← hz] at hm ⊢
          rw [hsl] at hm
          unfold shareL at hm
          obtain ⟨y, hy, e⟩ := List.mem_map.1 hm
          rw [← e]
          unfold shareAt
          have hy2 := HDS.out y hy
          have := H.out.page_len y.toNat at_ (by omega) hi
          rw [strOfNums_size, List.length_take, this]; rfl
        obtain ⟨Ao, co, ev, hco, hCo⟩ := Kd.R_reads hR.out
        subst ev
        rw [hsl2] at hCo hco
        have hcoM : co ≤ 9223372036854775807 := own_cap (Kd.own_of_R hR.out)
        have HCO := Lib.hid hCo
        have HCA1 := Lib.hid (Kd.C_below HCa.out HBw.out)
        have HIB : Hid (∀ i : Nat, i < disks.length → IsB (rd disks i)) := Lib.hid (fun i hi2 => by
          have := HDS.out _ (rd_mem disks i hi2)
          exact ⟨this.1, by omega⟩)
        have HSZ := Lib.hid hsz
        have HSL := Lib.hid (And.intro hsl hsl2)
        have hfit : Calls Tryz.prog 87 #[.int .i64 (x3 : Int), .slice A disks.length ca, .slice Ao disks.length co] wr fun e w' => e = .returned (.bool (fitsF x3 disks sl)) ∧ Below wr.heap.size wr w' := by
          have := fits_any x3 Ao co sl A ca disks 40 wr (by rw [hsl2]; exact HCO.out) (by omega) HCA1.out hca hcm hcoM he (by omega) hsl2.symm (by omega) HIB.out HSZ.out (by omega)
          rw [hsl2] at this
          exact this
        have HFIT := Lib.hid hfit
        have HBXr := Lib.hid (HBX.out.below hBr.out HBX.out.lt)
        have d2 := HBXr.out.cell 2
        simp only [List.getElem?_toArray, List.getElem?_cons_zero, List.getElem?_cons_succ] at d2
        have hsl3 : (shareL D at_ disks).length = disks.length := by unfold shareL; rw [List.length_map]
        rw [hsl2]
        clear hsl hsl2 hsz hCo hfit e1 hR hsl3
        cases hf : fitsF x3 disks sl with
        | false =>
          have HS2 : Hid (stripeF D m (x1, x2, x3) i disks = none) := Lib.hid (by rw [HS.out, hf]; rfl)
          rw [hf] at HFIT
          clear hf
          go_wp2_with (go_at_call 87; refine HFIT.out.mono ?_; rintro e w2 ⟨rfl, hb2⟩; have HB2 := Lib.hid hb2; clear hb2)
          go_ret2
          exact ⟨by rw [HS2.out]; rfl, belt HBw.out HB2.out⟩
        | true =>
          have HS2 : Hid (stripeF D m (x1, x2, x3) i disks = some (catL (someTo (disks.take x3) (sl.take x3) x3))) := Lib.hid (by rw [HS.out, hf]; rfl)
          rw [hf] at HFIT
          clear hf
          go_upto_region 12 with (go_at_call 87; refine HFIT.out.mono ?_; rintro e w2 ⟨rfl, hb2⟩; have HB2 := Lib.hid hb2; clear hb2)
          have hl1 : (disks.take x3).length = x3 := by rw [List.length_take]; omega
          have hl2 : (sl.take x3).length = x3 := by rw [List.length_take, HSL.out.2]; omega
          have HBW2 := Lib.hid (belt HBw.out HB2.out)
          have HTH : Hid (∀ W, Below w2.heap.size w2 W → Calls Tryz.prog 78 #[.slice A x3 ca, .slice Ao x3 co] W fun e w' => ∃ g A' c', e = .returned (.agg #[.slice A' x3 c', .pointer (some ⟨g, 0, none⟩), .slice Ao x3 co]) ∧ Poly w' g A' c' (disks.take x3) Ao co (sl.take x3) 40 ∧ Below w2.heap.size w2 w') := Lib.hid (fun W hW => by
            have hCa2 := Kd.C_below HCA1.out (belt HB2.out hW)
            have hCo2 := Kd.C_below HCO.out (belt HB2.out hW)
            have := through_any A ca (disks.take x3) Ao co (sl.take x3) 40 W (by rw [hl1]; exact C_take hCa2 x3 (by omega)) (by omega) (fun i hi2 => by rw [rd_take disks x3 i (by omega)]; exact HIB.out i (by omega)) (by omega) (by rw [hl2]; exact C_take (by rw [HSL.out.2]; exact hCo2) x3 (by rw [HSL.out.2]; omega)) (by omega) (by omega) (by omega)
              (fun i hi2 => by rw [vs_take sl x3 i (by omega)]; exact HSZ.out i (by rw [HSL.out.2]; omega)) (by omega)
            rw [hl1, hl2] at this
            refine this.mono ?_
            rintro e w' ⟨g, A', c', he', hP, hb⟩
            exact ⟨g, A', c', he', hP, belt hW hb⟩)
          have HSO : Hid (∀ W g A' c', Poly W g A' c' (disks.take x3) Ao co (sl.take x3) 40 → Below w2.heap.size w2 W → Calls Tryz.prog 80 #[.agg #[.slice A' x3 c', .pointer (some ⟨g, 0, none⟩), .slice Ao x3 co], .int .i64 x3] W fun e w' => ∃ A3 c3, e = .returned (.slice A3 x3 c3) ∧ Kd.C Kd.string w' A3 x3 (someTo (disks.take x3) (sl.take x3) x3) ∧ Below w2.heap.size w2 w') := Lib.hid (fun W g A' c' hP hW => by
            have := some_any x3 W hP he2
            rw [hl1, hl2] at this
            refine this.mono ?_
            rintro e w' ⟨v, rfl, hR3, hb⟩
            obtain ⟨A3, c3, ev, hc3, hC3⟩ := Kd.R_reads hR3
            rw [someTo_length] at ev hc3 hC3
            exact ⟨A3, c3, by rw [ev], hC3, belt hW hb⟩)
          obtain ⟨out, hout⟩ : ∃ out, out = someTo (disks.take x3) (sl.take x3) x3 := ⟨_, rfl⟩
          have hol : out.length = x3 := by rw [hout, someTo_length]
          have HOS : Hid (∀ s ∈ out, s.size = 40) := Lib.hid (by
            intro s hs
            rw [hout] at hs
            unfold someTo at hs
            obtain ⟨j, hj, e⟩ := List.mem_map.1 hs
            rw [← e]
            unfold pieceF
            rw [strOfNums_size, outTo_length]
            have h1 := vs_take sl x3 0 (by omega)
            have h2 := HSZ.out 0 (by rw [HSL.out.2]; omega)
            rw [← h1] at h2
            exact h2)
          rw [← hout] at HSO HS2
          have HOL := Lib.hid hol
          have f2 := cell_below HB2.out d2
          clear hl1 hl2 hout hol d2 HFIT
          have q1 : x3 ≤ ca := by omega
          have q2 : x3 ≤ co := by omega
          go_region_held3 (fun W' => Below w2.heap.size w2 W' ∧ W'.cell? ⟨w.heap.size, 2, none⟩ = some (.int .i64 x3)) (and_intros <;> first | ((repeat (first | assumption | exact Below.refl _ _ | apply Below.drew)); done) | (refine cell_below (w := w2) ?_ (by assumption); (repeat (first | assumption | exact Below.refl _ _ | apply Below.drew)); done))
            (first
              | ((go_at_call 78; refine (HTH.out _ (by (repeat (first | assumption | exact Below.refl _ _ | apply Below.drew)))).mono ?_; rintro e w3 ⟨g, A', c', rfl, hP, hb3⟩; have HP := Lib.hid hP; clear hP))
              | ((go_at_call 80; refine (HSO.out _ _ _ _ HP.out (by assumption)).mono ?_; rintro e w4 ⟨A3, c3, rfl, hC3, hb4⟩; have HC3 := Lib.hid hC3; clear hC3)))
          have HB4 := Lib.hid (belt HBW2.out hb4)
          clear hb3 hb4 HTH HSO HP
          have HCT : Hid (∀ j : Nat, j < x3 → catL (out.take (j + 1)) = catL (out.take j) ++ vs out j) := Lib.hid (fun j hj => by
            rw [List.take_add_one, List.getElem?_eq_getElem (by rw [HOL.out]; exact hj), Option.toList_some, catL_snoc]
            congr 1
            unfold vs rdOf
            rw [Int.toNat_natCast, List.getD_eq_getElem?_getD, List.getElem?_eq_getElem (by rw [HOL.out]; exact hj)]; rfl)
          clear q1 q2
          go_wp2_with fail
          go_loop [13, 65] (fun v j => ∃ k : Nat, k ≤ x3 ∧ j = .int .i64 k ∧ v = .string (catL (out.take k))) (fun _ j => x3 - (intOf j).toNat)
          case atStart => exact ⟨0, by omega, rfl, rfl⟩
          case round =>
            obtain ⟨k, hk, rfl, rfl⟩ := hrel
            by_cases hlt3 : k < x3
            · have hC4 : Kd.C Kd.string w4 A3 out.length out := by rw [HOL.out]; exact HC3.out
              obtain ⟨ad, e, hxa⟩ := Kd.at_string hC4 (k : Int) (by omega) (by rw [HOL.out]; omega)
              subst e
              simp only [Int.toNat_natCast] at hxa
              have hxa' : w4.cell? (ad.add k) = some (.string (vs out (k : Int))) := hxa
              have HC4 := Lib.hid hC4
              have i1 : (0 : Int) ≤ (k : Int) := by omega
              have i2 : (k : Int) < (x3 : Int) := by omega
              have HS4 := Lib.hid (HCT.out k hlt3)
              have z1 : (catL (out.take k)).size = k * 40 := by
                rw [catL_size (L := 40) _ (fun s hs => HOS.out s (List.mem_of_mem_take hs)), List.length_take, HOL.out]
                rw [Nat.min_eq_left hk]
              have z2 : (vs out (k : Int)).size = 40 := HOS.out _ (vs_mem out k (by rw [HOL.out]; exact hlt3))
              have z3 : (catL (out.take k) ++ vs out (k : Int)).size ≤ 9223372036854775807 := by rw [ByteArray.size_append]; omega
              have z4 : (catL (out.take k)).size + (vs out (k : Int)).size ≤ 9223372036854775807 := by omega
              have Z := Lib.hid (And.intro z1 z2)
              clear z1 z2
              clear hxa hC4
              go_wp2_with fail
              go_round
              case rel => exact ⟨k + 1, by omega, by go_num, by rw [HS4.out]⟩
              case measure => simp [intOf]; omega
            · have hkx : k = x3 := by omega
              subst hkx
              have e1 : out.take k = out := by rw [← HOL.out]; exact List.take_length
              rw [e1]
              clear e1
              go_wp2_with fail
              go_ret2
              exact ⟨by rw [HS2.out]; rfl, HB4.out⟩
end Go.Proofs.YtkdjibejnncmfaaGreatDoor.Co

/- What found finds, in closed form; rows of rows in memory. -/
namespace Go.Proofs.YtkdjibejnncmfaaGreatDoor.Co
open Go.RowKit Go.Proofs.YtkdjibejnncmfaaGreatDoorW.PrintWords Go.Proofs.YtkdjibejnncmfaaGreatDoorW.PrintLast Go.Proofs.YtkdjibejnncmfaaGreatDoorW.PrintMore
set_option linter.unusedVariables false
set_option linter.unusedSimpArgs false
set_option maxRecDepth 100000
def rowOf (F : FK) (x : Kn) (i : Nat) : List Int := (F x).getD i []
theorem rowsOf_row (F : FK) (x : Kn) (i : Nat) : (rowsOf F x).getD i [] = rowOf F x i := by
  unfold rowsOf rowOf
  by_cases e : F x = []
  · rw [if_pos e, e, List.getD_eq_getElem?_getD, List.getElem?_replicate]
    split <;> simp
  · rw [if_neg e]
theorem rowsOf_len {F : FK} (h : FLen F) (x : Kn) : (rowsOf F x).length = x.2.1 := by
  unfold rowsOf
  by_cases e : F x = []
  · rw [if_pos e]; simp
  · rw [if_neg e]; exact (h x e).1
theorem stepF_some (F : FK) (m disk at_ : Nat) (y : Kn) : stepF F m disk at_ (some y) = updF F y ((rowsOf F y).set (at_ - firstF m y.1) ((rowsOf F y).getD (at_ - firstF m y.1) [] ++ [(disk : Int)])) := rfl
theorem diskTo_row (D : DS) (n m k : Nat) (F : FK) (hF : FLen F) (x : Kn) (i : Nat) : ∀ q,
    rowOf (diskTo D n m k F q) x i = rowOf F x i ++ if firstF m x.1 + i < q ∧ soundK D n m k (firstF m x.1 + i) = some x then [(k : Int)] else []
  | 0 => by rw [if_neg (by omega)]; simp [diskTo]
  | q + 1 => by
    have ih := diskTo_row D n m k F hF x i q
    have hF1 := hF.disk (D := D) (n := n) (m := m) (disk := k) q
    have e1 : diskTo D n m k F (q + 1) = stepF (diskTo D n m k F q) m k q (soundK D n m k q) := rfl
    rw [e1]
    cases hs : soundK D n m k q with
    | none =>
      have e2 : stepF (diskTo D n m k F q) m k q none = diskTo D n m k F q := rfl
      rw [e2, ih]
      congr 1
      by_cases hq : firstF m x.1 + i = q
      · rw [if_neg (by omega), if_neg (by rw [hq, hs]; simp)]
      · by_cases hc : soundK D n m k (firstF m x.1 + i) = some x
        · by_cases hlt : firstF m x.1 + i < q
          · rw [if_pos ⟨hlt, hc⟩, if_pos ⟨by omega, hc⟩]
          · rw [if_neg (by omega), if_neg (by omega)]
        · rw [if_neg (fun h => hc h.2), if_neg (fun h => hc h.2)]
    | some y =>
      rw [stepF_some]
      obtain ⟨hsb, hky⟩ := soundK_some hs
      have hst := soundB_true hsb
      rw [← hky] at hst
      by_cases hxy : x = y
      · subst hxy
        have hlen := rowsOf_len hF1 x
        unfold rowOf at ih ⊢
        rw [updF_same, List.getD_eq_getElem?_getD, List.getElem?_set]
        by_cases hi : q - firstF m x.1 = i
        · rw [if_pos hi, if_pos (by omega)]
          have hq : firstF m x.1 + i = q := by omega
          rw [hi, rowsOf_row]
          unfold rowOf
          rw [ih, if_neg (by omega), if_pos ⟨by omega, by rw [hq]; exact hs⟩]
          simp
        · rw [if_neg hi, ← List.getD_eq_getElem?_getD, rowsOf_row]
          unfold rowOf
          rw [ih]
          congr 1
          have hq : firstF m x.1 + i ≠ q := by omega
          by_cases hc : soundK D n m k (firstF m x.1 + i) = some x
          · by_cases hlt : firstF m x.1 + i < q
            · rw [if_pos ⟨hlt, hc⟩, if_pos ⟨by omega, hc⟩]
            · rw [if_neg (by omega), if_neg (by omega)]
          · rw [if_neg (fun h => hc h.2), if_neg (fun h => hc h.2)]
      · unfold rowOf at ih ⊢
        rw [updF_other _ _ hxy, ih]
        congr 1
        by_cases hq : firstF m x.1 + i = q
        · rw [if_neg (by omega), if_neg (by rw [hq, hs]; intro h; exact hxy (Option.some.inj h.2).symm)]
        · by_cases hc : soundK D n m k (firstF m x.1 + i) = some x
          · by_cases hlt : firstF m x.1 + i < q
            · rw [if_pos ⟨hlt, hc⟩, if_pos ⟨by omega, hc⟩]
            · rw [if_neg (by omega), if_neg (by omega)]
          · rw [if_neg (fun h => hc h.2), if_neg (fun h => hc h.2)]
/-- The disks below k that have a sound page of a kind at an index. -/
def disksAt (D : DS) (n m k : Nat) (x : Kn) (at_ : Nat) : List Int := ((List.range k).filter fun disk => decide (at_ < m ∧ soundK D n m disk at_ = some x)).map fun (i : Nat) => (i : Int)
theorem foundTo_row (D : DS) (n m : Nat) (x : Kn) (i : Nat) : ∀ k, rowOf (foundTo D n m k) x i = disksAt D n m k x (firstF m x.1 + i)
  | 0 => by simp [rowOf, foundTo, disksAt]
  | k + 1 => by
    have e1 : foundTo D n m (k + 1) = diskTo D n m k (foundTo D n m k) m := rfl
    rw [e1, diskTo_row D n m k _ (FLen.found D n m k) x i m, foundTo_row D n m x i k]
    unfold disksAt
    rw [List.range_succ, List.filter_append, List.map_append]
    congr 1
    by_cases hc : firstF m x.1 + i < m ∧ soundK D n m k (firstF m x.1 + i) = some x
    · rw [if_pos hc]; simp [List.filter_cons, hc]
    · rw [if_neg hc]; simp [List.filter_cons, hc]
theorem stepF_ne {F : FK} {m disk at_ : Nat} {o : Option Kn} {x : Kn} (ho : ∀ y, o = some y → 1 ≤ y.2.1) (hF : FLen F) : stepF F m disk at_ o x ≠ [] ↔ F x ≠ [] ∨ o = some x := by
  cases o with
  | none => simp [stepF]
  | some y =>
    rw [stepF_some]
    by_cases e : x = y
    · subst e
      rw [updF_same]
      constructor
      · intro _; exact .inr rfl
      · intro _ h
        have := congrArg List.length h
        rw [List.length_set, rowsOf_len hF x] at this
        have := ho x rfl
        simp at *
        omega
    · rw [updF_other _ _ e]
      constructor
      · exact .inl
      · rintro (h | h)
        · exact h
        · exact absurd (Option.some.inj h).symm e
theorem diskTo_ne (D : DS) (n m k : Nat) (F : FK) (hF : FLen F) (x : Kn) : ∀ q, diskTo D n m k F q x ≠ [] ↔ F x ≠ [] ∨ ∃ at_, at_ < q ∧ soundK D n m k at_ = some x
  | 0 => by simp [diskTo]
  | q + 1 => by
    have e1 : diskTo D n m k F (q + 1) = stepF (diskTo D n m k F q) m k q (soundK D n m k q) := rfl
    rw [e1, stepF_ne (fun y hy => (soundB_true (soundK_some hy).1 |> fun h => by rw [(soundK_some hy).2]; exact h.2.2.1)) (hF.disk q), diskTo_ne D n m k F hF x q]
    constructor
    · rintro ((h | ⟨a, h1, h2⟩) | h)
      · exact .inl h
      · exact .inr ⟨a, by omega, h2⟩
      · exact .inr ⟨q, by omega, h⟩
    · rintro (h | ⟨a, h1, h2⟩)
      · exact .inl (.inl h)
      · by_cases e : a = q
        · subst e; exact .inr h2
        · exact .inl (.inr ⟨a, by omega, h2⟩)
theorem foundTo_ne (D : DS) (n m : Nat) (x : Kn) : ∀ k, foundTo D n m k x ≠ [] ↔ ∃ disk at_, disk < k ∧ at_ < m ∧ soundK D n m disk at_ = some x
  | 0 => by simp [foundTo]
  | k + 1 => by
    have e1 : foundTo D n m (k + 1) = diskTo D n m k (foundTo D n m k) m := rfl
    rw [e1, diskTo_ne D n m k _ (FLen.found D n m k) x m, foundTo_ne D n m x k]
    constructor
    · rintro (⟨d, a, h1, h2, h3⟩ | ⟨a, h1, h2⟩)
      · exact ⟨d, a, by omega, h2, h3⟩
      · exact ⟨k, a, by omega, h1, h2⟩
    · rintro ⟨d, a, h1, h2, h3⟩
      by_cases e : d = k
      · subst e; exact .inr ⟨a, h2, h3⟩
      · exact .inl ⟨d, a, by omega, h2, h3⟩
theorem disksAt_mem {D : DS} {n m k : Nat} {x : Kn} {at_ : Nat} {y : Int} (h : y ∈ disksAt D n m k x at_) : 0 ≤ y ∧ y < k := by
  unfold disksAt at h
  obtain ⟨i, hi, rfl⟩ := List.mem_map.1 h
  have := List.mem_range.1 (List.mem_filter.1 hi).1
  omega
theorem disksAt_len (D : DS) (n m k : Nat) (x : Kn) (at_ : Nat) : (disksAt D n m k x at_).length ≤ k := by
  unfold disksAt
  rw [List.length_map]
  exact Nat.le_trans (List.length_filter_le _ _) (by simp)
/-- What the rows of a kind are. -/
theorem found_rows {D : DS} {n m : Nat} {x : Kn} (h : foundF D n m x ≠ []) : foundF D n m x = (List.range x.2.1).map fun i => disksAt D n m n x (firstF m x.1 + i) := by
  have hl := (FLen.found D n m n x h).1
  apply List.ext_getElem
  · rw [List.length_map, List.length_range]; exact hl
  · intro i h1 h2
    have h3 := foundTo_row D n m x i n
    unfold rowOf at h3
    have h4 : (foundTo D n m n x).getD i [] = (foundF D n m x)[i] := by
      rw [List.getD_eq_getElem?_getD]
      show ((foundF D n m x)[i]?).getD [] = _
      rw [List.getElem?_eq_getElem h1]; rfl
    rw [← h4, h3]
    simp
/-- Rows of numbers in memory, read alone. -/
def RowsAt (w : World) (g : Nat) (rows : List (List Int)) : Prop :=
  ∃ V : Nat → Value, Box w g 34 ((List.range rows.length).map V).toArray ∧ ∀ i, i < rows.length → ∃ A c, V i = .slice A (rows.getD i []).length c ∧ (rows.getD i []).length ≤ c ∧ c ≤ 9223372036854775807 ∧ Kd.C (Kd.int .i64) w A (rows.getD i []).length (rows.getD i [])
theorem RowsAt.below {w w' : World} {g : Nat} {rows : List (List Int)} (h : RowsAt w g rows) (hb : Below w.heap.size w w') : RowsAt w' g rows := by
  obtain ⟨V, h1, h2⟩ := h
  refine ⟨V, h1.below hb h1.lt, fun i hi => ?_⟩
  obtain ⟨A, c, e, h3, h4, h5⟩ := h2 i hi
  exact ⟨A, c, e, h3, h4, Kd.C_below h5 hb⟩
theorem FAt.rowsAt {w : World} {base M n : Nat} {F : FK} {G : Kn → Nat} {V : Kn → Nat → Value} (h : FAt w base M n F G V) {x : Kn} (hx : F x ≠ []) : RowsAt w (G x) (F x) := by
  refine ⟨V x, (h.row x hx).1, fun i hi => ?_⟩
  have ho := h.inner x i hi
  have hR : Kd.R (Kd.int .i64) 3 w base (fun _ => True) (V x i) ((F x).getD i []) := Kd.R_of_own (by simpa [encs] using ho) (fun _ _ => trivial)
  obtain ⟨A, c, e, hc, hC⟩ := Kd.R_reads hR
  refine ⟨A, c, e, hc, ?_, hC⟩
  rw [e] at ho
  exact own_cap ho
end Go.Proofs.YtkdjibejnncmfaaGreatDoor.Co

/- The walk of whole. -/
namespace Go.Proofs.YtkdjibejnncmfaaGreatDoor.Co
open Go.RowKit Go.Proofs.YtkdjibejnncmfaaGreatDoorW.PrintWords Go.Proofs.YtkdjibejnncmfaaGreatDoorW.PrintLast Go.Proofs.YtkdjibejnncmfaaGreatDoorW.PrintMore
set_option linter.unusedVariables false
set_option linter.unusedSimpArgs false
set_option maxRecDepth 100000
def bytesTo (D : DS) (m : Nat) (x : Kn) (rows : List (List Int)) : Nat → List Int
  | 0 => []
  | k + 1 => bytesTo D m x rows k ++ wrBytes ((stripeF D m x k (rows.getD k [])).getD ⟨#[]⟩)
def allO (D : DS) (m : Nat) (x : Kn) (rows : List (List Int)) : Bool := (List.range rows.length).all fun i => (stripeF D m x i (rows.getD i [])).isSome
def textO (bs : List Int) (x : Kn) : Option ByteArray :=
  if 4000 < ofLE (bs.take 4) then none else if bs.length < 4 + ofLE (bs.take 4) then none else
    if blankF (bs.length - (4 + ofLE (bs.take 4))) (fun j => rd bs ((4 + ofLE (bs.take 4) + j : Nat) : Int)) && neededF (ofLE (bs.take 4)) x.2.2 == x.2.1 then some (strOfNums ((bs.drop 4).take (ofLE (bs.take 4)))) else none
def wholeF (D : DS) (m : Nat) (x : Kn) (rows : List (List Int)) : Option ByteArray := if allO D m x rows then textO (bytesTo D m x rows rows.length) x else none
def WholeP (o : Option ByteArray) (w : World) (e : Ending) (w' : World) : Prop := ∃ t, e = .returned (.tuple #[.string t, .bool o.isSome]) ∧ (∀ s, o = some s → t = s) ∧ Below w.heap.size w w'
theorem stripe_size {w : World} {d P c m : Nat} {B : List Nat} {D : DS} (h : DAt w d P B c m D) {x : Kn} {i : Nat} {disks : List Int} {s : ByteArray} (hs : stripeF D m x i disks = some s) (hd : ∀ y ∈ disks, 0 ≤ y ∧ y < (B.length : Int)) (he : 1 ≤ x.2.2) (hi : firstF m x.1 + i < m) : s.size = x.2.2 * 40 := by
  unfold stripeF at hs
  by_cases h1 : disks.length < x.2.2
  · rw [if_pos h1] at hs; cases hs
  · rw [if_neg h1] at hs
    split at hs
    · injection hs with hs
      rw [← hs, catL_size (L := 40), someTo_length]
      intro t ht
      unfold someTo at ht
      obtain ⟨j, hj, e⟩ := List.mem_map.1 ht
      rw [← e]
      unfold pieceF
      rw [strOfNums_size, outTo_length]
      have h2 := vs_take (shareL D (firstF m x.1 + i) disks) x.2.2 0 (by omega)
      have h3 : (vs (shareL D (firstF m x.1 + i) disks) (0 : Nat)).size = 40 := by
        have hm := vs_mem (shareL D (firstF m x.1 + i) disks) 0 (by unfold shareL; rw [List.length_map]; omega)
        obtain ⟨z, hz⟩ : ∃ z, z = vs (shareL D (firstF m x.1 + i) disks) (0 : Nat) := ⟨_, rfl⟩
        rw [← hz] at hm ⊢
        unfold shareL at hm
        obtain ⟨y, hy, e⟩ := List.mem_map.1 hm
        rw [← e]
        unfold shareAt
        have hy2 := hd y hy
        have := h.page_len y.toNat (firstF m x.1 + i) (by omega) hi
        rw [strOfNums_size, List.length_take, this]; rfl
      rw [← h2] at h3
      exact h3
    · cases hs
theorem strCells_enc (s : ByteArray) : Lib.strCells s = encB (wrBytes s) := by
  unfold Lib.strCells wrBytes encB
  rw [List.map_map]; rfl
set_option maxHeartbeats 4000000 in
theorem whole_any {d P c m : Nat} {B : List Nat} {D : DS} (x1 x2 x3 : Nat) (g : Nat) (rows : List (List Int)) (w : World) (h : DAt w d P B c m D) (hR : RowsAt w g rows)
    (hl : rows.length = x2) (h2 : 1 ≤ x2) (hd : ∀ row ∈ rows, row.length ≤ 12 ∧ ∀ y ∈ row, 0 ≤ y ∧ y < (B.length : Int)) (he : 1 ≤ x3) (he2 : x3 ≤ 12) (hx : x1 ≤ 9223372036854775807) (hi : firstF m x1 + x2 ≤ m) :
    Calls Tryz.prog 140 #[.pointer (some ⟨d, 0, none⟩), kindV x1 x2 x3, .slice (some ⟨g, 0, none⟩) x2 x2] w (WholeP (wholeF D m (x1, x2, x3) rows) w) := by
  have H := Lib.hid h
  have HR := Lib.hid hR
  have hcap := h.cap
  have hmost := h.most
  have hfew := h.few
  have HDS := Lib.hid hd
  have HLEN := Lib.hid hl
  clear h hR hd hl
  go_enter Tryz.func140, Tryz.ntmps140
  go_upto_region 1 with fail
  have HBX := Lib.hid (Box.new w #[.int .i64 x1, .int .i64 x2, .int .i64 x3] 139)
  obtain ⟨W0, hW0⟩ : ∃ W0, W0 = w.alloc (.cells #[.int .i64 x1, .int .i64 x2, .int .i64 x3] 139) := ⟨_, rfl⟩
  rw [← hW0] at HBX ⊢
  have HB0 : Hid (Below w.heap.size w W0) := Lib.hid (by rw [hW0]; exact below_al (Below.refl _ _) _)
  clear hW0
  go_wp2_with fail
  go_loopw [8, 18] (fun v j wr => ∃ k : Nat, k ≤ x2 ∧ j = .int .i64 k ∧ Hid (wr.ownsRow W0.heap.size 5 1 v (bytesTo D m (x1, x2, x3) rows k).length (encB (bytesTo D m (x1, x2, x3) rows k))) ∧ Hid (Below W0.heap.size W0 wr) ∧ Hid (∀ j, j < k → (stripeF D m (x1, x2, x3) j (rows.getD j [])).isSome = true) ∧ Hid ((bytesTo D m (x1, x2, x3) rows k).length = k * (x3 * 40))) (fun _ j _ => x2 - (intOf j).toNat)
  case atStart => exact ⟨0, by omega, rfl, Lib.hid (World.ownsRow_nil _ _ _ _), Lib.hid (Below.refl _ _), Lib.hid (fun j hj => by omega), Lib.hid (by simp [bytesTo])⟩
  case round =>
    obtain ⟨k, hk, rfl, hO, hBr, hall, hbl⟩ := hrel
    have HBw := Lib.hid (belt HB0.out hBr.out)
    have HBXr := Lib.hid (HBX.out.below hBr.out HBX.out.lt)
    have d0 := HBXr.out.cell 0
    have d1 := HBXr.out.cell 1
    have d2 := HBXr.out.cell 2
    simp only [List.getElem?_toArray, List.getElem?_cons_zero, List.getElem?_cons_succ] at d0 d1 d2
    by_cases hlt : k < x2
    · obtain ⟨V, hbx, hrows⟩ := HR.out.below HBw.out
      obtain ⟨A, ca, eV, hca, hcm, hCa⟩ := hrows k (by rw [HLEN.out]; exact hlt)
      have hcell : wr.cell? ⟨g, k, none⟩ = some (.slice A (rows.getD k []).length ca) := by
        rw [hbx.cell k, ← eV]
        simp [HLEN.out, hlt]
      obtain ⟨row, hrow⟩ : ∃ row, row = rows.getD k [] := ⟨_, rfl⟩
      have hmem : row ∈ rows := by
        rw [hrow, List.getD_eq_getElem?_getD, List.getElem?_eq_getElem (by rw [HLEN.out]; exact hlt)]
        exact List.getElem_mem _
      rw [← hrow] at hcell hCa hca
      have HST := Lib.hid (stripe_any x1 x2 x3 k A ca row wr (H.out.below HBw.out) hCa hca hcm (HDS.out row hmem).2 (HDS.out row hmem).1 he he2 hx (by have := firstF_le (life := x1) hfew; omega) (by omega))
      have HMEM := Lib.hid hmem
      have HROW := Lib.hid hrow
      have i1 : (0 : Int) ≤ (k : Int) := by omega
      have i2 : (k : Int) < (x2 : Int) := by omega
      clear hbx hrows eV hca hcm hCa hrow hmem
      cases hs : stripeF D m (x1, x2, x3) k row with
      | none =>
        have HW : Hid (wholeF D m (x1, x2, x3) rows = none) := Lib.hid (by
          unfold wholeF
          rw [if_neg]
          unfold allO
          rw [Bool.not_eq_true, List.all_eq_false]
          exact ⟨k, List.mem_range.2 (by rw [HLEN.out]; exact hlt), by rw [← HROW.out, hs]; simp⟩)
        rw [hs] at HST
        clear hs
        go_wp2_with (go_at_call 155; refine HST.out.mono ?_; rintro e w2 ⟨rfl, hb2⟩; have HB2 := Lib.hid hb2; clear hb2)
        go_ret2
        exact ⟨_, by rw [HW.out]; rfl, fun s hs => by rw [HW.out] at hs; (cases hs), belt HBw.out HB2.out⟩
      | some s =>
        have hsz := stripe_size (H.out.below HBw.out) hs (HDS.out row HMEM.out).2 he (by show firstF m x1 + k < m; omega)
        have HBT : Hid (bytesTo D m (x1, x2, x3) rows (k + 1) = bytesTo D m (x1, x2, x3) rows k ++ wrBytes s) := Lib.hid (by
          show bytesTo D m (x1, x2, x3) rows k ++ _ = _
          rw [← HROW.out, hs]; rfl)
        have HALL : Hid (∀ j, j < k + 1 → (stripeF D m (x1, x2, x3) j (rows.getD j [])).isSome = true) := Lib.hid (fun j hj => by
          by_cases e : j = k
          · subst e; rw [← HROW.out, hs]; rfl
          · exact hall.out j (by omega))
        rw [hs] at HST
        obtain ⟨bs, hbs⟩ : ∃ bs, bs = bytesTo D m (x1, x2, x3) rows k := ⟨_, rfl⟩
        rw [← hbs] at hO hbl HBT
        have hbsl := hbl.out
        have hmul : k * (x3 * 40) ≤ 491520 := by
          calc k * (x3 * 40) ≤ 1024 * (12 * 40) := Nat.mul_le_mul (by omega) (Nat.mul_le_mul_right _ he2)
            _ = 491520 := by omega
        have hsz2 : s.size ≤ 480 := by rw [hsz]; show x3 * 40 ≤ 480; omega
        have HBL : Hid ((bytesTo D m (x1, x2, x3) rows (k + 1)).length = (k + 1) * (x3 * 40)) := Lib.hid (by
          rw [HBT.out, List.length_append, hbsl, wrBytes_length, hsz, Nat.add_mul]
          show k * (x3 * 40) + x3 * 40 = k * (x3 * 40) + 1 * (x3 * 40)
          rw [Nat.one_mul])
        rw [hbsl] at hO
        have HSZ := Lib.hid (And.intro hsz hbs)
        have HBSL := Lib.hid hbsl
        clear hs hsz hbs hbsl
        obtain ⟨nb, hnb⟩ : ∃ nb, nb = k * (x3 * 40) := ⟨_, rfl⟩
        rw [← hnb] at hO hmul
        have HNB := Lib.hid hnb
        clear hnb
        obtain ⟨i0, hi0, hz0, hz1, hz2⟩ := info_of info5
        go_wp2_with (first
          | (go_at_call 155; refine HST.out.mono ?_; rintro e w2 ⟨rfl, hb2⟩; have HB2 := Lib.hid hb2; clear hb2)
          | (at_builtin; refine Lib.wpList_append_own_string _ rfl _ _ 46 9 rfl W0.heap.size 5 i0 Tryz.underlying46 Tryz.underlying9 hi0 hz0 hz1 hz2 _ nb (encB bs) rfl (own_below hO.out HB2.out) s rfl (by unfold maxLen; omega) (by omega) (by have := hBr.out.size; have := HB2.out.size; omega) ?_; intro v' w3 hown hgrow hnil; have HOWN := Lib.hid hown; have HGROW := Lib.hid hgrow; clear hown hgrow hnil))
        have HO9 : Hid (w3.ownsRow W0.heap.size 5 1 v' (bytesTo D m (x1, x2, x3) rows (k + 1)).length (encB (bytesTo D m (x1, x2, x3) rows (k + 1)))) := Lib.hid (by
          have h1 := HOWN.out
          rw [strCells_enc] at h1
          have h2 : (bytesTo D m (x1, x2, x3) rows (k + 1)).length = nb + s.size := by rw [HBT.out, List.length_append, wrBytes_length, HBSL.out, HNB.out]
          rw [h2, HBT.out, encB, List.map_append]
          exact h1)
        have HB9 : Hid (Below W0.heap.size W0 w3) := Lib.hid ((belt hBr.out HB2.out).grown HGROW.out (by have := hBr.out.size; have := HB2.out.size; omega) (fun j hj => own_base (own_below hO.out HB2.out) j hj))
        clear hi0 hz0 hz1 hz2
        go_roundw
        case rel => exact ⟨k + 1, by omega, by go_num, HO9, HB9, HALL, HBL⟩
        case measure => simp [intOf]; omega
    · have hkx : k = x2 := by omega
      subst hkx
      have hALL : allO D m (x1, k, x3) rows = true := by
        unfold allO
        rw [List.all_eq_true]
        intro j hj
        have := List.mem_range.1 hj
        rw [HLEN.out] at this
        exact hall.out j this
      obtain ⟨bs, hbs⟩ : ∃ bs, bs = bytesTo D m (x1, k, x3) rows k := ⟨_, rfl⟩
      have HW : Hid (wholeF D m (x1, k, x3) rows = textO bs (x1, k, x3)) := Lib.hid (by
        unfold wholeF
        rw [if_pos hALL, HLEN.out, hbs])
      rw [← hbs] at hO hbl
      have hbb : ∀ x ∈ bs, IsB x := by
        rw [hbs]
        have key : ∀ q, ∀ x ∈ bytesTo D m (x1, k, x3) rows q, IsB x := by
          intro q
          induction q with
          | zero => intro x hx; simp [bytesTo] at hx
          | succ q ih =>
            intro x hx
            unfold bytesTo at hx
            rcases List.mem_append.1 hx with h1 | h1
            · exact ih x h1
            · exact wrBytes_b _ x h1
        exact key k
      have hL40 : 40 ≤ bs.length := by
        rw [hbl.out]
        calc 40 = 1 * (1 * 40) := by omega
          _ ≤ k * (x3 * 40) := Nat.mul_le_mul h2 (Nat.mul_le_mul_right _ he)
      have hLb : bs.length ≤ 491520 := by
        rw [hbl.out]
        calc k * (x3 * 40) ≤ 1024 * (12 * 40) := Nat.mul_le_mul (by omega) (Nat.mul_le_mul_right _ he2)
          _ = 491520 := by omega
      clear hALL hbs hall hbl
      obtain ⟨L, hL⟩ : ∃ L, L = bs.length := ⟨_, rfl⟩
      rw [← hL] at hO hL40 hLb
      obtain ⟨q0, hq0⟩ : ∃ q0, L = q0 + 1 := ⟨L - 1, by omega⟩
      have hO2 := hO.out
      rw [hq0] at hO2
      obtain ⟨gd, cd, ev⟩ := ownsRow_succ hO2
      subst ev
      rw [← hq0] at hO2 ⊢
      have hcdM := own_cap hO2
      have hgl := own_lt hO2 gd (by simp [Value.ownBlock])
      have hcd : L ≤ cd := by
        rcases hO2.2 with ⟨h1, _⟩ | ⟨g', cap, cur, h1, _, _, h3, _⟩
        · cases h1
        · injection h1 with _ _ h4; omega
      have hcl : ∀ j : Nat, j < L → wr.cell? ⟨gd, j, none⟩ = some (.int .u8 (rd bs j)) := by
        intro j hj
        have := World.ownsRow.cells hO2 (g := gd) (by simp [Value.ownBlock]) j (.int .u8 (rd bs j)) (by
          unfold encB
          rw [List.getElem?_map, List.getElem?_eq_getElem (by omega), rd_nat bs j (by omega)]; rfl)
        have e : (⟨gd, 0, none⟩ : Addr).add j = ⟨gd, j, none⟩ := by simp [Addr.add]; exact fun h => h.symm
        rw [e] at this
        exact this
      have HCL := Lib.hid hcl
      have HBB := Lib.hid hbb
      have hb4 : (bs.take 4).length = 4 := by rw [List.length_take]; omega
      have HGET : Hid (Calls Tryz.prog 156 #[.slice (some ⟨gd, 0, none⟩) 4 cd] wr fun e w' => e = .returned (.int .u64 (ofLE (bs.take 4) : Nat)) ∧ Below wr.heap.size wr w') := Lib.hid (by
        have := get_any gd 0 cd (bs.take 4) wr (by omega) (fun x hx => hbb x (List.mem_of_mem_take hx)) hgl (fun j hj => by
          rw [hb4] at hj
          rw [rd_take bs 4 j hj, Nat.zero_add]
          exact hcl j (by omega))
        rw [hb4] at this
        exact this)
      have hn32 : ofLE (bs.take 4) < 4294967296 := by
        have := ofLE_lt (bs.take 4) (fun x hx => hbb x (List.mem_of_mem_take hx))
        rw [hb4] at this
        exact this
      obtain ⟨n, hn⟩ : ∃ n, n = ofLE (bs.take 4) := ⟨_, rfl⟩
      rw [← hn] at HGET hn32
      have HTX : Hid (textO bs (x1, k, x3) = if 4000 < n then none else if L < 4 + n then none else if blankF (L - (4 + n)) (fun j => rd bs ((4 + n + j : Nat) : Int)) && neededF n x3 == k then some (strOfNums ((bs.drop 4).take n)) else none) := Lib.hid (by
        unfold textO
        rw [← hn, ← hL])
      have HNL := Lib.hid (And.intro hn hL)
      have HO2 := Lib.hid hO2
      have hw1 : IntKind.i64.wrap (n : Int) = (n : Int) := IntWalk.i64_in _ ⟨by omega, by omega⟩
      have hcd0 : ¬ cd = 0 := by omega
      have hcd4 : ¬ cd = 4 := by omega
      have h4cd : 4 ≤ cd := by omega
      have hw2 : IntKind.i64.wrap ((L : Int) - 4) = (L : Int) - 4 := IntWalk.i64_in _ ⟨by omega, by omega⟩
      clear hb4 hcl hbb hn hL hO hO2 hq0
      by_cases hn4 : 4000 < n
      · have HW2 : Hid (wholeF D m (x1, k, x3) rows = none) := Lib.hid (by rw [HW.out, HTX.out, if_pos hn4])
        have t1 : decide ((4000 : Int) < (n : Int)) = true := by simp; omega
        go_wp2_with (go_at_call 156; refine HGET.out.mono ?_; rintro e w2 ⟨rfl, hb2⟩; have HB2 := Lib.hid hb2; clear hb2)
        go_ret2
        exact ⟨_, by rw [HW2.out]; rfl, fun s hs => by rw [HW2.out] at hs; (cases hs), belt HBw.out HB2.out⟩
      · have t1 : decide ((4000 : Int) < (n : Int)) = false := by simp; omega
        by_cases hnL : L < 4 + n
        · have HW2 : Hid (wholeF D m (x1, k, x3) rows = none) := Lib.hid (by rw [HW.out, HTX.out, if_neg hn4, if_pos hnL])
          have t2 : decide ((L : Int) - 4 < (n : Int)) = true := by simp; omega
          clear hn4
          go_wp2_with (go_at_call 156; refine HGET.out.mono ?_; rintro e w2 ⟨rfl, hb2⟩; have HB2 := Lib.hid hb2; clear hb2)
          go_ret2
          exact ⟨_, by rw [HW2.out]; rfl, fun s hs => by rw [HW2.out] at hs; (cases hs), belt HBw.out HB2.out⟩
        · have t2 : decide ((L : Int) - 4 < (n : Int)) = false := by simp; omega
          have HW2 : Hid (wholeF D m (x1, k, x3) rows = if blankF (L - (4 + n)) (fun j => rd bs ((4 + n + j : Nat) : Int)) && neededF n x3 == k then some (strOfNums ((bs.drop 4).take n)) else none) := Lib.hid (by rw [HW.out, HTX.out, if_neg hn4, if_neg hnL])
          clear hn4
          go_upto_region 13 with (go_at_call 156; refine HGET.out.mono ?_; rintro e w2 ⟨rfl, hb2⟩; have HB2 := Lib.hid hb2; clear hb2)
          clear t1 t2 hw2 hcd0
          obtain ⟨ep, hep⟩ : ∃ ep, ep = 4 + n := ⟨_, rfl⟩
          have hadd : IntKind.i64.wrap (4 + (n : Int)) = (ep : Int) := by rw [IntWalk.i64_in _ ⟨by omega, by omega⟩]; omega
          have HB3 := Lib.hid (belt HBw.out HB2.out)
          have hcv : ∀ N, (convert 46 9 (.slice (some ⟨gd, 4, none⟩) n (cd - 4))).run Tryz.prog (w2.drewN N) = .ok (.string (strOfNums ((bs.drop 4).take n))) (w2.drewN N) := fun N => by
            refine run_convert_bytes_arg _ 46 5 Tryz.underlying46 Tryz.underlying5 gd 4 n (cd - 4) ((bs.drop 4).take n) (by rw [List.length_take, List.length_drop, ← HNL.out.2]; omega) (fun j hj => ?_) 9 Tryz.underlying9
            have h1 := cell_below (below_drN HB2.out N) (HCL.out (4 + j) (by omega))
            rw [h1]
            unfold rd
            rw [Int.toNat_natCast, List.getD_eq_getElem?_getD, List.getD_eq_getElem?_getD, List.getElem?_take, if_pos hj, List.getElem?_drop]
          obtain ⟨tx, htx⟩ : ∃ tx, tx = strOfNums ((bs.drop 4).take n) := ⟨_, rfl⟩
          obtain ⟨oo, hoo⟩ : ∃ oo, oo = if cd = ep then 0 else ep := ⟨_, rfl⟩
          have hsl1 : ∀ W : World, (Instr.slice 46 (.slice (some ⟨gd, 0, none⟩) L cd) (some (.int .i64 4)) (some (.int .i64 (ep : Int))) none).run Tryz.prog W = .ok (.slice (some ⟨gd, 4, none⟩) n (cd - 4)) W := by
            intro W
            simp [go_sem, Tryz.underlying46, sizeOf5]
            rw [if_pos (by omega), if_pos (by omega), if_neg hcd4, show ep - 4 = n by omega]
          have hsl2 : ∀ W : World, (Instr.slice 46 (.slice (some ⟨gd, 0, none⟩) L cd) (some (.int .i64 (ep : Int))) none none).run Tryz.prog W = .ok (.slice (some ⟨gd, oo, none⟩) (L - ep) (cd - ep)) W := by
            intro W
            simp [go_sem, Tryz.underlying46, sizeOf5]
            rw [if_pos (by omega), hoo]
            split <;> rfl
          rw [← htx] at hcv HW2
          have HEP := Lib.hid (And.intro hep hoo)
          have HTXX := Lib.hid htx
          clear hep hoo htx hcd4 h4cd
          go_quiet (fail)
          have HBq := Lib.hid (below_drN HB2.out nq)
          have HBXq := Lib.hid (HBXr.out.below HBq.out HBXr.out.lt)
          obtain ⟨W4, hW4⟩ : ∃ W4, W4 = w2.drewN nq := ⟨_, rfl⟩
          rw [← hW4] at HBq HBXq ⊢
          clear hW4 hcv hsl1 hsl2 HB3 HGET hw1 hadd d0 d1 d2
          have HBl : Hid (∀ W : BW W4, Calls Tryz.prog 157 #[.slice (some ⟨gd, oo, none⟩) (L - ep) (cd - ep)] W.val fun e w'' => e = .returned (.bool (blankF (L - (4 + n)) (fun j => rd bs ((4 + n + j : Nat) : Int)))) ∧ ∃ W2 : BW W4, w'' = W2.val) := Lib.hid (fun W => by
            have hbe := HEP.out
            refine BW.call ?_
            have := blank_any gd oo (L - ep) (cd - ep) (fun j => rd bs ((4 + n + j : Nat) : Int)) W.val (fun j hj => by
              have ho : oo = ep := by rw [hbe.2, if_neg (by omega)]
              rw [ho, hbe.1]
              exact cell_below (belt HBq.out W.property) (HCL.out (4 + n + j) (by omega))) (by omega) (by omega)
            rw [show L - ep = L - (4 + n) by omega] at this ⊢
            exact this)
          have HNe : Hid (∀ W : BW W4, Calls Tryz.prog 130 #[.string tx, .int .i64 (x3 : Int)] W.val fun e w'' => e = .returned (.int .i64 (neededF n x3 : Nat)) ∧ ∃ W2 : BW W4, w'' = W2.val) := Lib.hid (fun W => by
            have hbe := HEP.out
            have htl : tx.size = n := by rw [HTXX.out, strOfNums_size, List.length_take, List.length_drop, ← HNL.out.2]; omega
            have := needed_any tx x3 W.val (by omega) he he2
            rw [htl] at this
            exact BW.same this)
          obtain ⟨bb, hbb⟩ : ∃ bb, bb = blankF (L - (4 + n)) (fun j => rd bs ((4 + n + j : Nat) : Int)) := ⟨_, rfl⟩
          obtain ⟨nn, hnn⟩ : ∃ nn, nn = neededF n x3 := ⟨_, rfl⟩
          rw [← hbb] at HBl HW2
          rw [← hnn] at HNe HW2
          have k1 : ∀ W : BW W4, W.val.cell? ⟨w.heap.size, 1, none⟩ = some (.int .i64 (k : Nat)) := fun W => cell_below W.property (HBXq.out.cell 1)
          have k2 : ∀ W : BW W4, W.val.cell? ⟨w.heap.size, 2, none⟩ = some (.int .i64 (x3 : Nat)) := fun W => cell_below W.property (HBXq.out.cell 2)
          clear hbb hnn
          go_upto_region 14 with fail
          cases bb with
          | false =>
            refine wp_region_bw (by kernel_rfl) (by kernel_rfl) ?_
            repeat (go_big_quiet_step ((first | with_reducible exact HBl.out _ | with_reducible exact HNe.out _)))
            refine wpQuiet_nil ?_
            rintro _ ⟨⟨W, hBW⟩, rfl⟩
            have HBW2 := Lib.hid hBW
            clear hBW k1 k2 HBl HNe
            go_wp2_with fail
            go_ret2
            exact ⟨_, by rw [HW2.out]; rfl, fun s hs => by rw [HW2.out] at hs; (cases hs), belt (belt HBw.out HBq.out) HBW2.out⟩
          | true =>
            by_cases hkn : nn = k
            · have hkn2 : ((nn : Int) == (k : Int)) = true := by rw [beq_iff_eq, hkn]
              refine wp_region_bw (by kernel_rfl) (by kernel_rfl) ?_
              repeat (go_big_quiet_step ((first | with_reducible exact HBl.out _ | with_reducible exact HNe.out _)))
              refine wpQuiet_nil ?_
              rintro _ ⟨⟨W, hBW⟩, rfl⟩
              have HBW2 := Lib.hid hBW
              have HW3 : Hid (wholeF D m (x1, k, x3) rows = some tx) := Lib.hid (by rw [HW2.out]; simp [hkn])
              clear hBW k1 k2 HBl HNe hkn2 hkn
              go_wp2_with fail
              go_ret2
              exact ⟨_, by rw [HW3.out]; rfl, fun s hs => by rw [HW3.out] at hs; (injection hs), belt (belt HBw.out HBq.out) HBW2.out⟩
            · have hkn2 : ((nn : Int) == (k : Int)) = false := by rw [beq_eq_false_iff_ne]; omega
              refine wp_region_bw (by kernel_rfl) (by kernel_rfl) ?_
              repeat (go_big_quiet_step ((first | with_reducible exact HBl.out _ | with_reducible exact HNe.out _)))
              refine wpQuiet_nil ?_
              rintro _ ⟨⟨W, hBW⟩, rfl⟩
              have HBW2 := Lib.hid hBW
              have HW3 : Hid (wholeF D m (x1, k, x3) rows = none) := Lib.hid (by rw [HW2.out]; simp [hkn])
              clear hBW k1 k2 HBl HNe hkn2 hkn
              go_wp2_with fail
              go_ret2
              exact ⟨_, by rw [HW3.out]; rfl, fun s hs => by rw [HW3.out] at hs; (cases hs), belt (belt HBw.out HBq.out) HBW2.out⟩
end Go.Proofs.YtkdjibejnncmfaaGreatDoor.Co
