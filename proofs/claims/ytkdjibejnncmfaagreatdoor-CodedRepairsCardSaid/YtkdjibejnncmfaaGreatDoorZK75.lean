/- The walk of CodedRepairs. -/
import Derived.Test.YtkdjibejnncmfaaGreatDoorZK74
namespace Go.Proofs.YtkdjibejnncmfaaGreatDoor.Co
open Go.RowKit Go.Proofs.YtkdjibejnncmfaaGreatDoorW.PrintWords Go.Proofs.YtkdjibejnncmfaaGreatDoorW.PrintLast Go.Proofs.YtkdjibejnncmfaaGreatDoorW.PrintMore
set_option linter.unusedVariables false
set_option linter.unusedSimpArgs false
set_option maxRecDepth 100000
theorem rep_no {A Af : Option Addr} {c cf M : Nat} {l : List ByteArray} {n t y : Int} {w : World} (hl : TL w A c l) (hno : (dataB l n 8 && decide (n ≤ 9) && decide (M ≤ 50)) = false) :
    Calls Tryz.prog 9 #[.slice A l.length c, .int .i64 n, .slice Af M cf, .int .i64 t, .int .u8 y] w fun e w' => e = .returned (.bool true) ∧ Below w.heap.size w w' := by
  have HS : Hid (∀ W, Calls Tryz.prog 14 #[] W fun e w' => e = .returned (.bool true) ∧ Below W.heap.size W w') := Lib.hid sane_any
  have HL := Lib.hid hl
  cases hd : dataB l n 8 with
  | false =>
    have HD : Hid (∀ W, Below w.heap.size w W → Calls Tryz.prog 35 #[.slice A l.length c, .int .i64 n, .int .i64 8] W fun e w' => e = .returned (.bool false) ∧ Below W.heap.size W w') := Lib.hid (fun W hW => by
      have h2 := HL.out.below hW
      rw [← hd]
      exact data_any A c l n 8 W h2.C h2.cap h2.sz)
    clear hl hno hd
    go_enter Tryz.func9, Tryz.ntmps9
    go_wp2_with (first
      | (go_at_call 14; (with_reducible refine Calls.mono (HS.out _) ?_); rintro e w1 ⟨rfl, hb⟩; have HB1 := Lib.hid hb; clear hb)
      | (go_at_call 35; (with_reducible refine Calls.mono (HD.out _ HB1.out) ?_); rintro e w2 ⟨rfl, hb⟩; have HB2 := Lib.hid (belt HB1.out hb); clear hb))
    go_ret
    exact ⟨rfl, HB2.out⟩
  | true =>
    have HD : Hid (∀ W, Below w.heap.size w W → Calls Tryz.prog 35 #[.slice A l.length c, .int .i64 n, .int .i64 8] W fun e w' => e = .returned (.bool true) ∧ Below W.heap.size W w') := Lib.hid (fun W hW => by
      have h2 := HL.out.below hW
      rw [← hd]
      exact data_any A c l n 8 W h2.C h2.cap h2.sz)
    by_cases hn : n ≤ 9
    · have hlen : (50 : Int) < (M : Int) := by
        rw [hd] at hno
        simp [hn] at hno
        omega
      clear hl hno hd
      go_enter Tryz.func9, Tryz.ntmps9
      go_wp2_with (first
        | (go_at_call 14; (with_reducible refine Calls.mono (HS.out _) ?_); rintro e w1 ⟨rfl, hb⟩; have HB1 := Lib.hid hb; clear hb)
        | (go_at_call 35; (with_reducible refine Calls.mono (HD.out _ HB1.out) ?_); rintro e w2 ⟨rfl, hb⟩; have HB2 := Lib.hid (belt HB1.out hb); clear hb))
      go_ret
      exact ⟨rfl, HB2.out⟩
    · have hn2 : (9 : Int) < n := by omega
      clear hl hno hd
      go_enter Tryz.func9, Tryz.ntmps9
      go_wp2_with (first
        | (go_at_call 14; (with_reducible refine Calls.mono (HS.out _) ?_); rintro e w1 ⟨rfl, hb⟩; have HB1 := Lib.hid hb; clear hb)
        | (go_at_call 35; (with_reducible refine Calls.mono (HD.out _ HB1.out) ?_); rintro e w2 ⟨rfl, hb⟩; have HB2 := Lib.hid (belt HB1.out hb); clear hb))
      go_ret
      exact ⟨rfl, HB2.out⟩
theorem hfact_bne {a b : ByteArray} (h : a ≠ b) : (a.toList == b.toList) = false := by
  cases hh : (a.toList == b.toList) with
  | false => rfl
  | true => exact absurd (toList_eq hh) h
theorem modq (t : Int) (K : Nat) (h : 0 < K) (hK : K ≤ 100) : ∃ q : Nat, q < K ∧ (wrap64 (t.tmod (K : Int) + (K : Int))).tmod (K : Int) = (q : Int) := by
  have h1 := Int.tmod_lt_of_pos t (show (0 : Int) < (K : Int) by omega)
  have h2 := Int.lt_tmod_of_pos t (show (0 : Int) < (K : Int) by omega)
  have e : wrap64 (t.tmod (K : Int) + (K : Int)) = t.tmod (K : Int) + (K : Int) := by
    unfold wrap64
    omega
  rw [e]
  have h3 := Int.tmod_lt_of_pos (t.tmod (K : Int) + (K : Int)) (show (0 : Int) < (K : Int) by omega)
  have h4 := Int.tmod_nonneg (K : Int) (show 0 ≤ t.tmod (K : Int) + (K : Int) by omega)
  exact ⟨((t.tmod (K : Int) + (K : Int)).tmod (K : Int)).toNat, by omega, by omega⟩
/-- What holds of the pieces with faults. -/
structure Bad (P bd : List ByteArray) (N K S wq : Nat) : Prop where
  len : bd.length = N
  sz : Len bd S
  wr : wrongTo P bd N = wq
  le : wq ≤ (N - K) / 2
set_option maxHeartbeats 4000000 in
theorem rep_yes {A Af : Option Addr} {c cf N K M gf ff : Nat} {l : List ByteArray} {F : List (Int × ByteArray)} {t y : Int} {w : World} (hl : TL w A c l) (hF : M ≠ 0 → Af = some ⟨gf, ff, none⟩) (hFA : FA w gf ff F) (hFl : F.length = M) (hMc : M ≤ cf)
    (hFx : ∀ x ∈ F, (-9223372036854775808 ≤ x.1 ∧ x.1 ≤ 9223372036854775807) ∧ x.2.size ≤ 9223372036854775807) (ht : -9223372036854775808 ≤ t ∧ t ≤ 9223372036854775807) (hy : IsB y) (hd : dataB l N 8 = true) (hN9 : N ≤ 9) (hK : l.length = K) (hM2 : M ≤ 50) :
    Calls Tryz.prog 9 #[.slice A K c, .int .i64 (N : Int), .slice Af M cf, .int .i64 t, .int .u8 y] w fun e w' => e = .returned (.bool true) ∧ Below w.heap.size w w' := by
  have HS : Hid (∀ W, Calls Tryz.prog 14 #[] W fun e w' => e = .returned (.bool true) ∧ Below W.heap.size W w') := Lib.hid sane_any
  obtain ⟨p1, p2, p3, p4, p5⟩ := dataB_iff hd
  obtain ⟨g1, o1, eA, _⟩ := hl.at 0 (by omega)
  subst eA
  have HL := Lib.hid hl
  have HF := Lib.hid hF
  have HFA := Lib.hid hFA
  have HFX := Lib.hid hFx
  have hK1 : 1 ≤ K := by omega
  have hKN : K ≤ N := by omega
  have hlc : (K : Int) ≤ c := by have := hl.cap; omega
  have HD : Hid (∀ W, Below w.heap.size w W → Calls Tryz.prog 35 #[.slice (some ⟨g1, o1, none⟩) K c, .int .i64 (N : Int), .int .i64 8] W fun e w' => e = .returned (.bool true) ∧ Below W.heap.size W w') := Lib.hid (fun W hW => by
    have h2 := HL.out.below hW
    rw [← hd, ← hK]
    exact data_any (some ⟨g1, o1, none⟩) c l N 8 W h2.C h2.cap h2.sz)
  obtain ⟨S, hS⟩ : ∃ S, S = (vs l 0).size := ⟨_, rfl⟩
  have hS8 : S ≤ 8 := by have := p5 0 (by omega); rw [hS]; exact_mod_cast this
  have hLS : Len l S := by rw [hS]; exact p4
  have henc : encOk l N = true := encOk_of (by omega) (by omega) (by omega) p4 (by omega)
  obtain ⟨P, hP⟩ : ∃ P, P = someTo (firstL K) l N := ⟨_, rfl⟩
  have hPl : P.length = N := by rw [hP]; exact someTo_length _ _ _
  have hPS : Len P S := fun i hi => by rw [hP, vs_some _ _ _ _ (by omega), piece_size, hS]
  have HP := Lib.hid (And.intro hK (And.intro hS (And.intro hLS (And.intro hP (And.intro hPl hPS)))))
  have hE : Hid (∀ W, Below w.heap.size w W → Calls Tryz.prog 26 #[.slice (some ⟨g1, o1, none⟩) K c, .int .i64 (N : Int)] W (TxT P N W)) := Lib.hid (fun W hW => by rw [hP]; exact enc_t (HL.out.below hW) hK (by omega) henc (fun s hs => by rw [some_sz _ _ _ s hs]; omega))
  have HFL := Lib.hid hFl
  have hM3 : ¬ (50 : Int) < (M : Int) := by omega
  have hN3 : ¬ (9 : Int) < (N : Int) := by omega
  clear hl hF hFA hFx hd hK hFl p1 p2 p3 p4 p5 hS hLS henc hP hPl hPS
  go_enter Tryz.func9, Tryz.ntmps9
  go_wp2_with (first
    | (go_at_call 14; (with_reducible refine Calls.mono (HS.out _) ?_); rintro e w1 ⟨rfl, hb⟩; have HB1 := Lib.hid hb; clear hb)
    | (go_at_call 35; (with_reducible refine Calls.mono (HD.out _ HB1.out) ?_); rintro e w2 ⟨rfl, hb⟩; have HB2 := Lib.hid (belt HB1.out hb); clear hb)
    | (go_at_call 26; (with_reducible refine Calls.mono (hE.out _ HB2.out) ?_); rintro e w3 ⟨ga, oa, ca, rfl, hca, hta, hb⟩; have HTA := Lib.hid hta; have HB3 := Lib.hid (belt HB2.out hb); clear hb hta)
    | (go_at_call 53; (with_reducible refine Calls.mono (clone_t HTA.out HP.out.2.2.2.2.1 (by omega)) ?_); rintro e w4 ⟨gb, cb, rfl, how, hb⟩; have HOW := Lib.hid how; have HB4 := Lib.hid hb; clear hb how))
  obtain ⟨B, hB⟩ : ∃ B, B = w3.heap.size := ⟨_, rfl⟩
  have HBE := Lib.hid hB
  rw [← hB] at HOW HB4
  clear hB HS HD hE HB1 HB2
  have HOW0 : Hid (OW w4 B gb N cb P) := HOW
  have HB40 : Hid (Below B w3 w4) := HB4
  clear HOW HB4
  go_loopw [15, 61] (fun q i wr => ∃ (j wq : Nat) (bd : List ByteArray), j ≤ M ∧ i = .int .i64 j ∧ q = .int .i64 wq ∧ Hid (Bad P bd N K S wq) ∧ Hid (OW wr B gb N cb bd) ∧ Hid (Below B w3 wr)) (fun _ i _ => M - (intOf i).toNat)
  case atStart =>
    refine ⟨0, 0, P, by omega, rfl, rfl, Lib.hid ⟨HP.out.2.2.2.2.1, HP.out.2.2.2.2.2, ?_, by omega⟩, HOW0, HB40⟩
    unfold wrongTo
    rw [List.length_eq_zero_iff, List.filter_eq_nil_iff]
    intro i hi
    simp
  case round =>
    obtain ⟨j, wq, bd, hj, rfl, rfl, HBD, HOW, HBr⟩ := hrel
    by_cases hlt : j < M
    · have eA := HF.out (by omega)
      subst eA
      obtain ⟨⟨xa, xt⟩, hx⟩ : ∃ x, F[j]? = some x := ⟨_, List.getElem?_eq_getElem (by have := HFL.out; omega)⟩
      have hxb := HFX.out (xa, xt) (List.mem_of_getElem? hx)
      have HXB := Lib.hid hxb
      have HR := Lib.hid ((((HFA.out.below HB3.out).below (by have := HBr.out; rw [HBE.out] at this; exact this))) j _ hx)
      have hj0 : (0 : Int) ≤ (j : Int) := by omega
      have hj1 : (j : Int) < (M : Int) := by omega
      have hsz : (Tryz.prog.info? 79).map (·.size) = some [Value.int .i64 xa, .string xt].length := info79
      have HSZ := Lib.hid hsz
      have HS2 : Hid (#[Value.int .i64 0, .string ⟨#[]⟩].size = #[Value.int .i64 xa, .string xt].size) := Lib.hid rfl
      have HS3 : Hid (#[Value.int .i64 xa, .string xt].all (·.oneCell') = true) := Lib.hid (by rw [Array.all_eq_true_iff_forall_mem]; intro v hv; simp at hv; rcases hv with rfl | rfl <;> rfl)
      have HS4 : Hid ((Tryz.prog.info? 79).map (·.size) = some #[Value.int .i64 xa, .string xt].size) := Lib.hid info79
      clear hx hxb hsz
      go_wp2_with (first
        | (refine wpList_load_mid rfl 79 (.tmp 63) rfl gf (ff + j * 2) rfl [Value.int .i64 xa, .string xt] _ HR.out Tryz.underlying79 rfl HSZ.out ?_)
        | (refine wpList_store_rowTo rfl 79 (.tmp 17) (.tmp 64) rfl rfl wr.heap.size #[Value.int .i64 xa, .string xt] rfl rfl 79 #[Value.int .i64 0, .string ⟨#[]⟩] (heap_alloc_last wr _) HS4.out HS2.out HS3.out ?_; rw [World.setRow_alloc_new]))
      have HBX := Lib.hid (Box.new wr #[Value.int .i64 xa, .string xt] 79)
      have HBW0 : Hid (Below wr.heap.size wr (wr.alloc (.cells #[Value.int .i64 xa, .string xt] 79))) := Lib.hid (below_al (Below.refl _ _) _)
      obtain ⟨W, hW⟩ : ∃ W, W = wr.alloc (.cells #[Value.int .i64 xa, .string xt] 79) := ⟨_, rfl⟩
      rw [← hW] at HBX HBW0 ⊢
      clear hW
      have HOWW : Hid (OW W B gb N cb bd) := Lib.hid (HOW.out.below HBW0.out)
      have HBW : Hid (Below B w3 W) := Lib.hid (HBr.out.trans (HBW0.out.mono (by have := HBr.out.size; have := HBE.out; omega)))
      have x0 : W.cell? ⟨wr.heap.size, 0, none⟩ = some (.int .i64 xa) := HBX.out.cell 0
      have x1 : W.cell? ⟨wr.heap.size, 1, none⟩ = some (.string xt) := HBX.out.cell 1
      have HLW : Hid (TL W (some ⟨g1, o1, none⟩) c l) := Lib.hid ((HL.out.below HB3.out).below (by have := HBW.out; rw [HBE.out] at this; exact this))
      have HTW : Hid (TL W (some ⟨ga, oa, none⟩) ca P) := Lib.hid (HTA.out.below (by have := HBW.out; rw [HBE.out] at this; exact this))
      have xl : W.cell? ⟨g1, o1, none⟩ = some (.string (vs l 0)) := HLW.out.cell 0 (by have := HP.out.1; omega)
      have hl0 : ((vs l 0).size : Int) ≤ 8 := by have := HP.out.2.1; omega
      have hxt : (xt.size : Int) ≤ 9223372036854775807 := by have h7 : xt.size ≤ 9223372036854775807 := HXB.out.2; omega
      have hKp : (0 : Int) < (K : Int) := by omega
      by_cases h0 : xa < 0
      · go_quiet (fail)
        go_wp2_with fail
        go_roundw
        case rel => exact ⟨j + 1, wq, bd, by omega, by go_num, rfl, HBD, Lib.hid (HOWW.out.below (below_drN (Below.refl _ _) _)), Lib.hid (below_drN HBW.out _)⟩
        case measure => simp [intOf]; omega
      · have h0' : 0 ≤ xa := by omega
        obtain ⟨q, rfl⟩ := Int.eq_ofNat_of_zero_le h0'
        by_cases h1 : q < N
        · have h1' : (q : Int) < (N : Int) := by omega
          have h1'' : ¬ (N : Int) ≤ (q : Int) := by omega
          by_cases h2 : xt.size = (vs l 0).size
          · have e2 : ((xt.size : Int) != ((vs l 0).size : Int)) = false := by rw [bne_cast]; simpa using h2
            obtain ⟨b0, hb0⟩ : ∃ b0, b0 = vs bd q := ⟨_, rfl⟩
            obtain ⟨p0, hp0⟩ : ∃ p0, p0 = vs P q := ⟨_, rfl⟩
            have xb : W.cell? ⟨gb, q, none⟩ = some (.string b0) := by rw [hb0]; exact HOWW.out.cell q h1
            have xp : W.cell? ⟨ga, oa + q, none⟩ = some (.string p0) := by rw [hp0]; exact HTW.out.cell q (by have := HP.out.2.2.2.2.1; omega)
            have hqca : (q : Int) < (ca : Int) := by omega
            have HQ := Lib.hid (And.intro hb0 (And.intro hp0 h2))
            clear hb0 hp0 h2
            by_cases h3 : b0 = p0
            · subst h3
              by_cases h4 : xt = b0
              · subst h4
                go_quiet (fail)
                go_wp2_with fail
                go_roundw
                case rel => exact ⟨j + 1, wq, bd, by omega, by go_num, rfl, HBD, Lib.hid (HOWW.out.below (below_drN (Below.refl _ _) _)), Lib.hid (below_drN HBW.out _)⟩
                case measure => simp [intOf]; omega
              · have e4 : (xt.toList == b0.toList) = false := hfact_bne h4
                by_cases h5 : wq = (N - K) / 2
                · have e5 : (wq : Int) = ((N : Int) - (K : Int)).tdiv 2 := by rw [Int.tdiv_eq_ediv_of_nonneg (by omega)]; omega
                  go_quiet (fail)
                  go_wp2_with fail
                  go_roundw
                  case rel => exact ⟨j + 1, wq, bd, by omega, by go_num, rfl, HBD, Lib.hid (HOWW.out.below (below_drN (Below.refl _ _) _)), Lib.hid (below_drN HBW.out _)⟩
                  case measure => simp [intOf]; omega
                · have e5 : ¬ (wq : Int) = ((N : Int) - (K : Int)).tdiv 2 := by rw [Int.tdiv_eq_ediv_of_nonneg (by omega)]; omega
                  go_quiet (fail)
                  obtain ⟨W2, hW2⟩ : ∃ W2, W2 = W.drewN nq := ⟨_, rfl⟩
                  have HOW2 : Hid (OW W2 B gb N cb bd) := Lib.hid (by rw [hW2]; exact HOWW.out.below (below_drN (Below.refl _ _) _))
                  have HB2 : Hid (Below B w3 W2) := Lib.hid (by rw [hW2]; exact below_drN HBW.out _)
                  have y0 : W2.cell? ⟨wr.heap.size, 0, none⟩ = some (.int .i64 q) := by rw [hW2]; exact x0
                  have y1 : W2.cell? ⟨wr.heap.size, 1, none⟩ = some (.string xt) := by rw [hW2]; exact x1
                  have yb : W2.cell? ⟨gb, q, none⟩ = some (.string b0) := by rw [hW2]; exact xb
                  have yf : W2.frozen? ⟨gb, q, none⟩ = false := HOW2.out.frozen q
                  rw [← hW2]
                  have HN : Hid (Bad P (bd.set q xt) N K S (wq + 1)) := Lib.hid (by
                    have hB := HBD.out
                    have hq1 := HQ.out.1
                    have hq2 := HQ.out.2.1
                    refine ⟨by rw [List.length_set]; exact hB.len, len_set hB.sz (by rw [HQ.out.2.2]; exact HP.out.2.1.symm), ?_, by have := hB.le; omega⟩
                    rw [wrong_set (by rw [hB.len]; exact h1) (by rw [← hq1, ← hq2]) (by rw [← hq2]; exact h4), if_pos h1, hB.wr])
                  have hwq9 : wq ≤ 9 := by have := HBD.out.le; omega
                  clear hW2 x0 x1 xl xb xp
                  go_wp2_with fail
                  go_roundw
                  case rel => exact ⟨j + 1, wq + 1, bd.set q xt, by omega, by go_num, by go_num, HN, Lib.hid (HOW2.out.set q xt), Lib.hid (HB2.out.setCell HOW2.out.ge _)⟩
                  case measure => simp [intOf]; omega
            · have e3 : (b0.toList == p0.toList) = false := hfact_bne h3
              go_quiet (fail)
              go_wp2_with fail
              go_roundw
              case rel => exact ⟨j + 1, wq, bd, by omega, by go_num, rfl, HBD, Lib.hid (HOWW.out.below (below_drN (Below.refl _ _) _)), Lib.hid (below_drN HBW.out _)⟩
              case measure => simp [intOf]; omega
          · have e2 : ((xt.size : Int) != ((vs l 0).size : Int)) = true := by rw [bne_cast]; simpa using h2
            go_quiet (fail)
            go_wp2_with fail
            go_roundw
            case rel => exact ⟨j + 1, wq, bd, by omega, by go_num, rfl, HBD, Lib.hid (HOWW.out.below (below_drN (Below.refl _ _) _)), Lib.hid (below_drN HBW.out _)⟩
            case measure => simp [intOf]; omega
        · have h1' : (N : Int) ≤ (q : Int) := by omega
          go_quiet (fail)
          go_wp2_with fail
          go_roundw
          case rel => exact ⟨j + 1, wq, bd, by omega, by go_num, rfl, HBD, Lib.hid (HOWW.out.below (below_drN (Below.refl _ _) _)), Lib.hid (below_drN HBW.out _)⟩
          case measure => simp [intOf]; omega
    · have hjM : j = M := by omega
      subst hjM
      have hB := HBD.out
      have htl : TL wr (some ⟨gb, 0, none⟩) cb bd := HOW.out.tl (fun s hs => by rw [vs_sz hB.sz s hs]; omega)
      obtain ⟨L, hr1, hr2, hr3, hr4⟩ := rep_ok HP.out.1 hK1 hKN (by omega) HP.out.2.2.1 (by omega) hB.len hB.sz (by rw [← HP.out.2.2.2.1, hB.wr]; exact hB.le)
      have HR1 : Hid (Calls Tryz.prog 33 #[.int .i64 (K : Int), .slice (some ⟨gb, 0, none⟩) N cb] wr (TxT L K wr)) := Lib.hid (rep_t htl hB.len hK1 hr1 hr2 (fun s hs => by rw [hr4 s hs]; omega))
      have HBw : Hid (Below w3.heap.size w3 wr) := Lib.hid (by have := HBr.out; rw [HBE.out] at this; exact this)
      have HLr : Hid (TL wr (some ⟨g1, o1, none⟩) c l) := Lib.hid ((HL.out.below HB3.out).below HBw.out)
      have HTr : Hid (TL wr (some ⟨ga, oa, none⟩) ca P) := Lib.hid (HTA.out.below HBw.out)
      have H3 : Hid (∀ g o cc W, TL W (some ⟨g, o, none⟩) cc L → Below wr.heap.size wr W → Calls Tryz.prog 54 #[.slice (some ⟨g, o, none⟩) K cc, .slice (some ⟨g1, o1, none⟩) K c] W fun e w' => e = .returned (.bool true) ∧ Below W.heap.size W w') := Lib.hid (fun g o cc W hT hW => eq_t hT (HLr.out.below hW) (by omega) HP.out.1 (by omega) hr3)
      have HBB : Hid (Below w.heap.size w wr) := Lib.hid (belt HB3.out HBw.out)
      clear hB htl hr1 hr2 hr3 hr4
      go_upto_region 21 with (first
        | (go_at_call 33; (with_reducible refine Calls.mono HR1.out ?_); rintro e w5 ⟨gd, od, cd, rfl, hcd, htd, hb⟩; have HTD := Lib.hid htd; have HB5 := Lib.hid hb; clear hb htd)
        | (go_at_call 54; (with_reducible refine Calls.mono (H3.out _ _ _ _ HTD.out HB5.out) ?_); rintro e w6 ⟨rfl, hb⟩; have HB6 := Lib.hid (belt HB5.out hb); clear hb))
      have HL6 := Lib.hid (HLr.out.below HB6.out)
      have HT6 := Lib.hid (HTr.out.below HB6.out)
      have xl : w6.cell? ⟨g1, o1, none⟩ = some (.string (vs l 0)) := HL6.out.cell 0 (by have := HP.out.1; omega)
      have hl0 : ((vs l 0).size : Int) = (S : Int) := by have := HP.out.2.1; omega
      have hKp : (0 : Int) < (K : Int) := by omega
      have hS8' : (S : Int) ≤ 8 := by omega
      clear H3 HR1
      by_cases hs0 : S = 0
      · have hs0' : (S : Int) = 0 := by omega
        go_wp2_with fail
        go_ret
        exact ⟨rfl, belt HBB.out HB6.out⟩
      · have hs0' : ¬ (S : Int) = 0 := by omega
        by_cases hy0 : y = 0
        · go_wp2_with fail
          go_ret
          exact ⟨rfl, belt HBB.out HB6.out⟩
        · have hs1 : ((S : Int) == 0) = false := by simpa using hs0'
          have hy1 : (y == 0) = false := by simpa using hy0
          have hK0' : ¬ (K : Int) = 0 := by omega
          go_upto_region 23 with fail
          go_quiet (fail)
          obtain ⟨q, hq, eq1⟩ := modq t K (by omega) (by omega)
          obtain ⟨p, hp, ep1⟩ := modq t S (by omega) (by omega)
          rw [eq1, ep1]
          obtain ⟨W7, hW7⟩ : ∃ W7, W7 = w6.drewN nq := ⟨_, rfl⟩
          have HL7 : Hid (TL W7 (some ⟨g1, o1, none⟩) c l) := Lib.hid (by rw [hW7]; exact HL6.out.below (below_drN (Below.refl _ _) _))
          have HT7 : Hid (TL W7 (some ⟨ga, oa, none⟩) ca P) := Lib.hid (by rw [hW7]; exact HT6.out.below (below_drN (Below.refl _ _) _))
          have HB7 : Hid (Below w.heap.size w W7) := Lib.hid (by rw [hW7]; exact below_drN (belt HBB.out HB6.out) _)
          rw [← hW7]
          clear hW7 xl eq1 ep1
          have hq0 : (0 : Int) ≤ (q : Int) := by omega
          have hq1 : (q : Int) < (K : Int) := by omega
          have hp0 : (0 : Int) ≤ (p : Int) := by omega
          have hp1 : (p : Int) < (S : Int) := by omega
          obtain ⟨s, hs⟩ : ∃ s, s = vs l q := ⟨_, rfl⟩
          have hsz : s.size = S := by rw [hs]; exact HP.out.2.2.1 q (by have := HP.out.1; omega)
          have hsz2 : (s.size : Int) = (S : Int) := by omega
          have HSS := Lib.hid (And.intro hs hsz)
          clear hs hsz
          have kb := fun W => print_bytes (P := Tryz.prog) 9 46 5 Tryz.underlying9 Tryz.underlying46 Tryz.underlying5 s W
          go_upto_region 25 with (go_at_call 53; (with_reducible refine Calls.mono (clone_t HL7.out HP.out.1 (by omega)) ?_); rintro e w8 ⟨gx, cx, rfl, how, hb⟩; have HOW8 := Lib.hid how; have HB8 := Lib.hid hb; clear hb how)
          have xs : w8.cell? ⟨gx, q, none⟩ = some (.string s) := by rw [HSS.out.1]; exact HOW8.out.cell q hq
          have hcx : (K : Int) ≤ (cx : Int) := by have := HOW8.out.hcap; omega
          go_upto_region 26 with fail
          obtain ⟨wb, hwb⟩ : ∃ wb, wb = Lib.bytesWorld w8 5 s := ⟨_, rfl⟩
          have HRM : Hid (RM wb w8.heap.size (btL s)) := Lib.hid (by rw [hwb]; exact RM.bytes w8 s (by omega))
          have HBb : Hid (Below w8.heap.size w8 wb) := Lib.hid (by rw [hwb]; exact bytes_below (Below.refl _ _) (Nat.le_refl _) _ _)
          rw [← hwb]
          clear kb xs hwb
          have hbl : (btL s).length = S := by rw [btL_len, HSS.out.2]
          have yc : wb.cell? ⟨w8.heap.size, p, none⟩ = some (.int .u8 (bt s p)) := by have := HRM.out.cell p (by rw [hbl]; exact hp); rw [rd_btL s p (by omega)] at this; exact this
          have yf : wb.frozen? ⟨w8.heap.size, p, none⟩ = false := HRM.out.frozen p (by rw [hbl]; exact hp)
          go_upto_region 27 with fail
          obtain ⟨wc, hwc⟩ : ∃ wc, wc = wb.setCell ⟨w8.heap.size, p, none⟩ (Value.int .u8 (bits .xor .u8 (bt s p) y)) := ⟨_, rfl⟩
          have HRM2 : Hid (RM wc w8.heap.size ((btL s).set p (xorI (bt s p) y))) := Lib.hid (by rw [hwc]; exact RM.set HRM.out p (by rw [hbl]; exact hp) _)
          have HBc : Hid (Below w8.heap.size w8 wc) := Lib.hid (by rw [hwc]; exact Below.setCell HBb.out (by simp) _)
          rw [← hwc]
          clear hwc yc yf
          have HOWc : Hid (OW wc W7.heap.size gx K cx l) := Lib.hid (HOW8.out.below HBc.out)
          generalize hcap : grownCap w8 s.size 0 5 = cp
          have ks := run_convert_bytes_arg (P := Tryz.prog) wc 46 5 Tryz.underlying46 Tryz.underlying5 w8.heap.size 0 s.size cp ((btL s).set p (xorI (bt s p) y)) (by rw [List.length_set, btL_len]) (fun i hi => by rw [Nat.zero_add, HRM2.out.cell i (by rw [List.length_set, btL_len]; exact hi)]; rfl) 9 Tryz.underlying9
          obtain ⟨s2, hs2⟩ : ∃ s2, s2 = alter s p y := ⟨_, rfl⟩
          have hks : strOfNums ((btL s).set p (xorI (bt s p) y)) = s2 := by rw [hs2]; rfl
          rw [hks] at ks
          have HS2 := Lib.hid hs2
          have zc : wc.cell? ⟨gx, q, none⟩ = some (.string (vs l q)) := HOWc.out.cell q hq
          have zf : wc.frozen? ⟨gx, q, none⟩ = false := HOWc.out.frozen q
          clear hs2 hks hcap hbl
          go_upto_region 28 with fail
          obtain ⟨wd, hwd⟩ : ∃ wd, wd = wc.setCell ⟨gx, q, none⟩ (Value.string s2) := ⟨_, rfl⟩
          have HOWd : Hid (OW wd W7.heap.size gx K cx (l.set q s2)) := Lib.hid (by rw [hwd]; exact HOWc.out.set q s2)
          have HBd : Hid (Below W7.heap.size W7 wd) := Lib.hid (by rw [hwd]; exact (HB8.out.trans (HBc.out.mono HB8.out.size)).setCell HOWc.out.ge _)
          rw [← hwd]
          clear hwd zc zf ks
          obtain ⟨l2, hl2⟩ : ∃ l2, l2 = l.set q s2 := ⟨_, rfl⟩
          rw [← hl2] at HOWd
          have HL2 : Hid (l2.length = K ∧ Len l2 S ∧ vs l q ≠ vs l2 q) := Lib.hid (by
            have hK := HP.out.1
            have hz := HSS.out.2
            have hs2 := HS2.out
            refine ⟨by rw [hl2, List.length_set]; exact hK, by rw [hl2]; exact len_set HP.out.2.2.1 (by rw [hs2, alter_size, hz]), ?_⟩
            have e1 : vs (l.set q s2) q = s2 := by unfold vs rdOf; simp [show q < l.length by omega]
            rw [hl2, e1, hs2, ← HSS.out.1]
            exact Ne.symm (alter_ne (by omega) hy hy0))
          clear hl2
          obtain ⟨P2, hP2⟩ : ∃ P2, P2 = someTo (firstL K) l2 N := ⟨_, rfl⟩
          have HFIN : Hid (N - K + 1 ≤ wrongTo P P2 N) := Lib.hid (by
            have := other_ok HP.out.1 HL2.out.1 hK1 hKN (by omega) HP.out.2.2.1 HL2.out.2.1 hq HL2.out.2.2
            rw [hP2, HP.out.2.2.2.1]
            exact this)
          have HE2 : Hid (Calls Tryz.prog 26 #[.slice (some ⟨gx, 0, none⟩) K cx, .int .i64 (N : Int)] wd (TxT P2 N wd)) := Lib.hid (by
            have hz : (vs l2 0).size = S := HL2.out.2.1 0 (by have := HL2.out.1; omega)
            rw [hP2]
            refine enc_t (HOWd.out.tl (fun s hs => by rw [vs_sz HL2.out.2.1 s hs]; omega)) HL2.out.1 (by omega) (encOk_of (by have := HL2.out.1; omega) (by have := HL2.out.1; omega) (by omega) (by rw [hz]; exact HL2.out.2.1) (by omega)) (fun s hs => by rw [some_sz _ _ _ s hs, hz]; omega))
          have HP2L : Hid (P2.length = N) := Lib.hid (by rw [hP2]; exact someTo_length _ _ _)
          clear hP2
          go_wp2_with (go_at_call 26; (with_reducible refine Calls.mono HE2.out ?_); rintro e w9 ⟨ge, oe, ce, rfl, hce, hte, hb⟩; have HTE := Lib.hid hte; have HB9 := Lib.hid hb; clear hb hte)
          have HT9 : Hid (TL w9 (some ⟨ga, oa, none⟩) ca P) := Lib.hid (HT7.out.below (belt HBd.out HB9.out))
          have HBZ : Hid (Below w.heap.size w w9) := Lib.hid (belt (belt HB7.out HBd.out) HB9.out)
          go_loopw [24, 205] (fun d i wr => ∃ j d' : Nat, j ≤ N ∧ i = .int .i64 j ∧ d = .int .i64 d' ∧ d' ≤ j ∧ Hid (wrongTo P P2 j = d') ∧ Hid (Below w9.heap.size w9 wr)) (fun _ i _ => N - (intOf i).toNat)
          case atStart => exact ⟨0, 0, by omega, rfl, rfl, by omega, Lib.hid rfl, Lib.hid (Below.refl _ _)⟩
          case round =>
            obtain ⟨W, rfl⟩ : ∃ W : World, W = wr := ⟨_, rfl⟩
            obtain ⟨j2, d2, hj2, rfl, rfl, hd2, HWT, HBJ⟩ := hrel
            by_cases hlt2 : j2 < N
            · obtain ⟨a1, ha1⟩ : ∃ a1, a1 = vs P j2 := ⟨_, rfl⟩
              obtain ⟨a2, ha2⟩ : ∃ a2, a2 = vs P2 j2 := ⟨_, rfl⟩
              have x1 : W.cell? ⟨ga, oa + j2, none⟩ = some (.string a1) := by rw [ha1]; exact (HT9.out.below HBJ.out).cell j2 (by have := HP.out.2.2.2.2.1; omega)
              have x2 : W.cell? ⟨ge, oe + j2, none⟩ = some (.string a2) := by rw [ha2]; exact (HTE.out.below HBJ.out).cell j2 (by have := HP2L.out; omega)
              have hsu := wrongTo_succ P P2 j2
              rw [← ha1, ← ha2, HWT.out] at hsu
              have HSU := Lib.hid hsu
              have HAA := Lib.hid (And.intro ha1 ha2)
              have hj0 : (0 : Int) ≤ (j2 : Int) := by omega
              have hj1 : (j2 : Int) < (N : Int) := by omega
              clear hsu ha1 ha2
              by_cases he : a1 = a2
              · subst he
                have HN : Hid (wrongTo P P2 (j2 + 1) = d2) := Lib.hid (by rw [HSU.out, if_pos (beq_self _)])
                go_upto_region 35 with fail
                go_quiet (fail)
                go_wp2_with fail
                go_roundw
                case rel => exact ⟨j2 + 1, d2, by omega, by go_num, rfl, by omega, HN, Lib.hid (below_drN HBJ.out _)⟩
                case measure => simp [intOf]; omega
              · have e3 : (a1.toList == a2.toList) = false := hfact_bne he
                have HN : Hid (wrongTo P P2 (j2 + 1) = d2 + 1) := Lib.hid (by rw [HSU.out, e3]; simp)
                have hd9 : d2 ≤ 9 := by omega
                go_upto_region 35 with fail
                go_quiet (fail)
                go_wp2_with fail
                go_roundw
                case rel => exact ⟨j2 + 1, d2 + 1, by omega, by go_num, by go_num, by omega, HN, Lib.hid (below_drN HBJ.out _)⟩
                case measure => simp [intOf]; omega
            · have hjN : j2 = N := by omega
              subst hjN
              have hfin : (j2 : Int) - (K : Int) + 1 ≤ (d2 : Int) := by have := HFIN.out; have := HWT.out; omega
              go_wp2_with fail
              go_ret
              exact ⟨rfl, belt HBZ.out HBJ.out⟩
end Go.Proofs.YtkdjibejnncmfaaGreatDoor.Co
