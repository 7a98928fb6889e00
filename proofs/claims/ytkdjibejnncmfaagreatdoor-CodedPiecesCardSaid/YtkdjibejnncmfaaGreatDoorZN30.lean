/- The walk of the reference's Repair. -/
import Derived.Test.YtkdjibejnncmfaaGreatDoorZN28
import Derived.Test.YtkdjibejnncmfaaGreatDoorZN29
namespace Go.Proofs.YtkdjibejnncmfaaGreatDoor.Co
open Go.RowKit Go.Proofs.YtkdjibejnncmfaaGreatDoorW.PrintWords Go.Proofs.YtkdjibejnncmfaaGreatDoorW.PrintLast Go.Proofs.YtkdjibejnncmfaaGreatDoorW.PrintMore
set_option linter.unusedVariables false
set_option linter.unusedSimpArgs false
set_option maxRecDepth 100000
theorem apart39 {w : World} {b1 b2 n m : Nat} {v u : Value} {xs ys : List Value} (h : w.ownsRow b1 3 1 v n xs) (h2 : w.ownsRow b2 9 1 u m ys) : u.ownBlock = none ∨ u.ownBlock ≠ v.ownBlock := by
  cases hu : u.ownBlock with
  | none => exact Or.inl rfl
  | some k =>
    refine Or.inr (fun e => ?_)
    obtain ⟨c1, e1⟩ := own_typed h2 k hu
    obtain ⟨c2, e2⟩ := own_typed h k e.symm
    rw [e1] at e2
    injection e2 with e2
    injection e2 with e3 e4
    exact absurd e4 (by decide)
theorem apart93 {w : World} {b1 b2 n m : Nat} {v u : Value} {xs ys : List Value} (h : w.ownsRow b1 3 1 v n xs) (h2 : w.ownsRow b2 9 1 u m ys) : v.ownBlock = none ∨ v.ownBlock ≠ u.ownBlock := by
  rcases apart39 h h2 with h3 | h3
  · cases hv : v.ownBlock with
    | none => exact Or.inl rfl
    | some k => exact Or.inr (by rw [h3]; simp)
  · exact Or.inr (fun e => h3 e.symm)
theorem ownF_bits (l : List ByteArray) (s j : Nat) (h : s.testBit j = true) : ownF l (bitsTo s (j + 1)) = ownF l (bitsTo s j) ++ [vs l j] := by
  rw [bitsTo_succ, if_pos h]
  unfold ownF
  rw [List.map_append]
  rfl
theorem wrap_nat (z : Nat) (h : z ≤ 100000) : wrap64 (z : Int) = z := by unfold wrap64; omega
theorem i64_and_nat (a b : Nat) (ha : a < 9223372036854775808) (hb : b < 9223372036854775808) : bits .and .i64 (a : Int) (b : Int) = ((a &&& b : Nat) : Int) := by
  have hx : a &&& b < 2 ^ 63 := Nat.and_lt_two_pow _ (by omega)
  show IntKind.i64.wrap ((BitVec.ofInt 64 (a : Int) &&& BitVec.ofInt 64 (b : Int)).toNat : Int) = _
  rw [BitVec.toNat_and, ofInt_n 64 a (by omega), ofInt_n 64 b (by omega)]
  exact IntWalk.i64_in _ (by omega)
theorem bit_i64 {s j : Nat} (hs : s ≤ 4096) : (bits .and .i64 ((s : Int) / 2 ^ j) 1 == 1) = s.testBit j := by
  have e : ((s / 2 ^ j : Nat) : Int) = (s : Int) / 2 ^ j := by rw [Int.natCast_ediv, Int.natCast_pow]; rfl
  have hle : s / 2 ^ j ≤ s := Nat.div_le_self _ _
  have h1 := i64_and_nat (s / 2 ^ j) 1 (by omega) (by omega)
  rw [← e]
  show (bits .and .i64 ((s / 2 ^ j : Nat) : Int) ((1 : Nat) : Int) == 1) = _
  rw [h1, Nat.and_one_is_mod, Nat.testBit_eq_decide_div_mod_eq]
  have h2 : s / 2 ^ j % 2 < 2 := Nat.mod_lt _ (by omega)
  generalize s / 2 ^ j % 2 = z at h2
  have h3 : z = 0 ∨ z = 1 := by omega
  rcases h3 with rfl | rfl <;> rfl
set_option maxHeartbeats 4000000 in
theorem refRepair_any {A : Option Addr} {c N : Nat} {l : List ByteArray} {k : Int} {w : World} (hl : TL w A c l) (hN : l.length = N) :
    Calls Tryz.prog 34 #[.int .i64 k, .slice A N c] w (TxE (repF k l).1 (repF k l).2 w) := by
  by_cases h0 : k < 1
  · have hE : repF k l = ([], 1) := by unfold repF repOk; rw [show decide (1 ≤ k ∧ k ≤ 12) = false by simp; omega]; rfl
    rw [hE]
    show Calls Tryz.prog 34 _ w (TxE [] 1 w)
    clear hl hN hE
    go_enter Tryz.func34, Tryz.ntmps34
    go_wp2_with fail
    go_ret2
    exact ⟨none, 0, rfl, nil_tl _, Below.refl _ _⟩
  · by_cases h1 : 12 < k
    · have hE : repF k l = ([], 1) := by unfold repF repOk; rw [show decide (1 ≤ k ∧ k ≤ 12) = false by simp; omega]; rfl
      rw [hE]
      show Calls Tryz.prog 34 _ w (TxE [] 1 w)
      clear hl hN hE
      go_enter Tryz.func34, Tryz.ntmps34
      go_wp2_with fail
      go_ret2
      exact ⟨none, 0, rfl, nil_tl _, Below.refl _ _⟩
    · have hd : decide (1 ≤ k ∧ k ≤ 12) = true := by simp; omega
      cases hal : alikeF l k 256 with
      | false =>
        have HT := Lib.hid (refTexts_b hl hN (by omega) hal)
        have hE : repF k l = ([], 1) := by unfold repF repOk; rw [hd, hal]; rfl
        rw [hE]
        show Calls Tryz.prog 34 _ w (TxE [] 1 w)
        clear hl hN hal hE hd
        go_enter Tryz.func34, Tryz.ntmps34
        go_wp2_with (go_at_call 81; (with_reducible refine Calls.mono (HT.out _ (Below.refl _ _)) ?_); rintro e w1 ⟨rfl, hb⟩; have HB1 := Lib.hid hb; clear hb)
        go_ret2
        exact ⟨none, 0, rfl, nil_tl _, HB1.out⟩
      | true =>
        have HT := Lib.hid (refTexts_b hl hN (by omega) hal)
        obtain ⟨q1, q2, q3, q4⟩ := alike_iff (by omega) hal
        obtain ⟨K, rfl⟩ := Int.eq_ofNat_of_zero_le (show 0 ≤ k by omega)
        have hok : repOk (K : Int) l = true := by unfold repOk; rw [hd, hal]; rfl
        obtain ⟨g, o, eA, _⟩ := hl.at 0 (by omega)
        subst eA
        obtain ⟨S, hS⟩ : ∃ S, S = (vs l 0).size := ⟨_, rfl⟩
        have HFND : Hid (∀ s, (bitsTo s N).length = K → goodF l K (bitsTo s N) = true → repF (K : Int) l = (someTo (bitsTo s N) (ownF l (bitsTo s N)) K, 0)) := Lib.hid (fun s h1 h2 => rep_found hN (by omega) (by omega) (by omega) q4 hok h1 h2)
        have HNON : Hid ((∀ s, s < 2 ^ N → (bitsTo s N).length = K → goodF l K (bitsTo s N) = false) → repF (K : Int) l = ([], 90)) := Lib.hid (fun h => rep_none hN hok h)
        have hK1 : 1 ≤ K := by omega
        have hKN : K ≤ N := by omega
        have hN12 : N ≤ 12 := by omega
        have HL := Lib.hid hl
        have HNE := Lib.hid (And.intro hN (And.intro hS q4))
        have hNc : (N : Int) ≤ (c : Int) := by have := hl.cap; omega
        have hS256 : S ≤ 256 := by omega
        obtain ⟨Z, hZ⟩ : ∃ Z : Nat, Z = 2 ^ N := ⟨_, rfl⟩
        have hZ4 : Z ≤ 4096 := by rw [hZ]; exact Nat.le_trans (Nat.pow_le_pow_right (by omega) hN12) (by decide)
        have HZ := Lib.hid hZ
        have hk1 : (1 : Int) ≤ (K : Int) := by omega
        have hk12 : (K : Int) ≤ 12 := by omega
        have hn12 : (N : Int) ≤ 12 := by omega
        obtain ⟨R, hR⟩ : ∃ R, R = repF (K : Int) l := ⟨_, rfl⟩
        have HR := Lib.hid hR
        rw [← hR]
        have hshl : wrap64 (2 ^ N) = (Z : Int) := by
          have e : ((2 ^ N : Nat) : Int) = (2 : Int) ^ N := by rw [Int.natCast_pow]; rfl
          rw [← e, ← hZ]
          exact wrap_nat Z (by omega)
        clear hl hN hal hd q1 q2 q3 q4 hok hS hZ hR
        go_enter Tryz.func34, Tryz.ntmps34
        go_wp2_with (go_at_call 81; (with_reducible refine Calls.mono (HT.out _ (Below.refl _ _)) ?_); rintro e w1 ⟨rfl, hb⟩; have HB1 := Lib.hid hb; clear hb)
        go_loopw [7] (fun i wr => ∃ s : Nat, s ≤ Z ∧ i = .int .i64 s ∧ Hid (∀ s2, s2 < s → (bitsTo s2 N).length = K → goodF l K (bitsTo s2 N) = false) ∧ Hid (Below w.heap.size w wr)) (fun i _ => Z - (intOf i).toNat)
        case atStart => exact ⟨0, by omega, rfl, Lib.hid (fun s2 h => by omega), HB1⟩
        case round =>
          obtain ⟨W, rfl⟩ : ∃ W : World, W = wr := ⟨_, rfl⟩
          obtain ⟨s, hs, rfl, HNO, HB⟩ := hrel
          have hs0 : (0 : Int) ≤ (s : Int) := by omega
          by_cases hsz : s < Z
          · have hsz1 : (s : Int) < (Z : Int) := by omega
            go_wp2_with fail
            go_loopw [8, 9, 10] (fun v u i wr => ∃ j : Nat, j ≤ N ∧ i = .int .i64 j ∧ Hid (OI wr W.heap.size v (bitsTo s j)) ∧ Hid (OT wr W.heap.size u (ownF l (bitsTo s j))) ∧ Hid (Below W.heap.size W wr)) (fun _ _ i _ => N - (intOf i).toNat)
            case atStart => exact ⟨0, by omega, rfl, Lib.hid ⟨rfl, Or.inl ⟨rfl, rfl⟩⟩, Lib.hid ⟨rfl, Or.inl ⟨rfl, rfl⟩⟩, Lib.hid (Below.refl _ _)⟩
            case round =>
              obtain ⟨j, hj, rfl, HV, HU, HB2⟩ := hrel
              clear hshl
              by_cases hlt : j < N
              · have hbit := bit_i64 (s := s) (j := j) (by omega)
                have hj0 : (0 : Int) ≤ (j : Int) := by omega
                have hjN : (j : Int) < (N : Int) := by omega
                cases ht : s.testBit j with
                | false =>
                  rw [ht] at hbit
                  have HS : Hid (bitsTo s (j + 1) = bitsTo s j) := Lib.hid (by rw [bitsTo_succ, ht]; rfl)
                  clear ht
                  go_wp2_with fail
                  go_roundw
                  case rel => exact ⟨j + 1, by omega, by go_num, by rw [HS.out]; exact HV, by rw [HS.out]; exact HU, HB2⟩
                  case measure => simp [intOf]; omega
                | true =>
                  rw [ht] at hbit
                  have HS : Hid (bitsTo s (j + 1) = bitsTo s j ++ [(j : Int)]) := Lib.hid (by rw [bitsTo_succ, ht]; rfl)
                  have HS2 := Lib.hid (ownF_bits l s j ht)
                  have hbl := bitsTo_len s j
                  have hol : (ownF l (bitsTo s j)).length = (bitsTo s j).length := by unfold ownF; rw [List.length_map]
                  obtain ⟨p, hp⟩ : ∃ p, p = bitsTo s j := ⟨_, rfl⟩
                  obtain ⟨q, hq⟩ : ∃ q, q = ownF l (bitsTo s j) := ⟨_, rfl⟩
                  rw [← hp] at hbl
                  have hpl : p.length ≤ 100 := by omega
                  have hql : (encs Value.string q).length ≤ 100 := by unfold encs; rw [List.length_map, hq, hol, ← hp]; omega
                  rw [← hq] at HU HS2
                  rw [← hp] at HV HS
                  obtain ⟨x, hx⟩ : ∃ x, x = vs l j := ⟨_, rfl⟩
                  rw [← hx] at HS2
                  have HXC : Hid (∀ V, Below W.heap.size W V → V.cell? ⟨g, o + j, none⟩ = some (.string x)) := Lib.hid (fun V hV => by rw [hx]; exact ((HL.out.below HB.out).below hV).cell j (by have := HNE.out.1; omega))
                  clear ht hp hq hx hol hbl
                  go_wp2_with (first
                    | ((with_reducible refine gate_builtin (b := .append) (xs := #[.tmp 44, .tmp 46]) rfl ?_); at_builtin; refine print_append_num (w0 := W) W.heap.size rfl (.tmp 44) (.tmp 46) 34 3 .i64 8 rfl Tryz.underlying34 info3 (by decide) _ p _ rfl rfl HV.out HB2.out HB2.out.size (by omega) ?_; intro v1 w6 ho hb2 hg hat; have HV6 := Lib.hid ho; have HB6 := Lib.hid hb2; have HU6 := Lib.hid (OT.raw (World.ownsRow.kept HU.out hg (apart39 HV.out HU.out))); have x6 := HXC.out w6 hb2; clear ho hb2 hg hat)
                    | ((with_reducible refine gate_builtin (b := .append) (xs := #[.tmp 48, .tmp 53]) rfl ?_); at_builtin; refine print_append (w0 := W) W.heap.size rfl (.tmp 48) (.tmp 53) 33 9 (.string ⟨#[]⟩) 16 rfl Tryz.underlying33 info9 rfl (by decide) _ (encs Value.string q) (.string x) rfl rfl rfl HU6.out HB6.out HB6.out.size (by omega) ?_; intro v2 w7 ho hb2 hg hat; have HU7 := Lib.hid (OT.raw_snoc ho); have HB7 := Lib.hid hb2; have HV7 := Lib.hid (World.ownsRow.kept HV6.out hg (apart93 HV6.out HU6.out)); clear ho hb2 hg hat))
                  have HVn : Hid (OI w7 W.heap.size v1 (bitsTo s (j + 1))) := Lib.hid (by rw [HS.out]; exact HV7.out)
                  have HUn : Hid (OT w7 W.heap.size v2 (ownF l (bitsTo s (j + 1)))) := Lib.hid (by rw [HS2.out]; exact HU7.out)
                  go_roundw
                  case rel => exact ⟨j + 1, by omega, by go_num, HVn, HUn, HB7⟩
                  case measure => simp [intOf]; omega
              · have hjN : j = N := by omega
                subst hjN
                obtain ⟨a, ha⟩ : ∃ a, a = bitsTo s j := ⟨_, rfl⟩
                have hac : Comb a j := by rw [ha]; exact bitsTo_comb s j
                rw [← ha] at HV HU
                have hal2 := bitsTo_len s j
                rw [← ha] at hal2
                have HA := Lib.hid (And.intro ha hac)
                obtain ⟨Aa, ca, e1, hil⟩ := OI.il HV.out
                subst e1
                have HIL := Lib.hid hil
                have HBW : Hid (Below w.heap.size w wr) := Lib.hid (belt HB.out HB2.out)
                clear ha hac hil
                by_cases hlen : a.length = K
                · have e0 : ((a.length : Int) != (K : Int)) = false := by rw [bne_cast]; simpa using hlen
                  have hol : (ownF l a).length = K := by unfold ownF; rw [List.length_map, hlen]
                  have hD := comb_dat HA.out.2 (by omega) hlen (by have := HNE.out.1; omega) (l := l) (L := S) (by rw [HNE.out.2.1]; exact HNE.out.2.2)
                  have hv0 : (vs (ownF l a) 0).size = S := hD.sz 0 (by omega)
                  obtain ⟨As, cs, e2, htl⟩ := OT.tl HU.out (fun s hs => by rw [vs_sz hD.sz s hs]; omega)
                  rw [hol] at e2
                  subst e2
                  obtain ⟨PP, hPP⟩ : ∃ PP, PP = someTo a (ownF l a) j := ⟨_, rfl⟩
                  have hPPl : PP.length = j := by rw [hPP]; exact someTo_length _ _ _
                  have HPS : Hid (Calls Tryz.prog 82 #[.slice Aa a.length ca, .slice As K cs, .int .i64 (j : Int)] wr fun e w' => ∃ g2 o2 c2, e = .returned (.slice (some ⟨g2, o2, none⟩) j c2) ∧ (j : Int) ≤ c2 ∧ TL w' (some ⟨g2, o2, none⟩) c2 PP ∧ Below wr.heap.size wr w') := Lib.hid (by
                    rw [hlen]
                    refine (refPieces_any HIL.out htl (comb_pts HA.out.2 (by omega)).1 hlen hol hK1 (by omega) (by omega) (by rw [hv0]; exact hD.sz) (by omega)).mono ?_
                    rintro e w' ⟨v, rfl, ho, hb⟩
                    rw [← hPP] at ho
                    obtain ⟨A2, c2, rfl, ht2⟩ := OT.tl ho (fun s hs => by rw [hPP] at hs; rw [some_sz _ _ _ s hs, hv0]; omega)
                    obtain ⟨g2, o2, e, _⟩ := ht2.at 0 (by omega)
                    subst e
                    rw [hPPl]
                    exact ⟨g2, o2, c2, rfl, by have := ht2.cap; omega, ht2, hb⟩)
                  have HGD : Hid (goodF l K a = decide (wrongTo PP l j ≤ (j - K) / 2)) := Lib.hid (by unfold goodF; rw [HNE.out.1, ← hPP])
                  have HPP := Lib.hid (And.intro hPP (And.intro hPPl hlen))
                  clear hol hD hv0 htl hPP hPPl
                  have hlenI : (a.length : Int) = (K : Int) := by omega
                  clear hlen
                  go_wp2_with (go_at_call 82; (with_reducible refine Calls.mono HPS.out ?_); rintro e w5 ⟨g2, o2, c2, rfl, hc2, ht2, hb⟩; have HT2 := Lib.hid ht2; have HB5 := Lib.hid (belt HBW.out hb); clear ht2 hb)
                  have HLL : Hid (TL w5 (some ⟨g, o, none⟩) c l) := Lib.hid (HL.out.below HB5.out)
                  go_loopw [12, 13] (fun q i wr => ∃ r wq : Nat, r ≤ j ∧ i = .int .i64 r ∧ q = .int .i64 wq ∧ wq ≤ r ∧ Hid (wrongTo PP l r = wq) ∧ Hid (Below w5.heap.size w5 wr)) (fun _ i _ => j - (intOf i).toNat)
                  case atStart => exact ⟨0, 0, by omega, rfl, rfl, by omega, Lib.hid rfl, Lib.hid (Below.refl _ _)⟩
                  case round =>
                    obtain ⟨V, rfl⟩ : ∃ V : World, V = wr := ⟨_, rfl⟩
                    obtain ⟨r, wq, hr, rfl, rfl, hwq, HWQ, HB6⟩ := hrel
                    by_cases hltr : r < j
                    · obtain ⟨a1, ha1⟩ : ∃ a1, a1 = vs PP r := ⟨_, rfl⟩
                      obtain ⟨a2, ha2⟩ : ∃ a2, a2 = vs l r := ⟨_, rfl⟩
                      have x1 : V.cell? ⟨g2, o2 + r, none⟩ = some (.string a1) := by rw [ha1]; exact (HT2.out.below HB6.out).cell r (by have := HPP.out.2.1; omega)
                      have x2 : V.cell? ⟨g, o + r, none⟩ = some (.string a2) := by rw [ha2]; exact (HLL.out.below HB6.out).cell r (by have := HNE.out.1; omega)
                      have hsu := wrongTo_succ PP l r
                      rw [← ha1, ← ha2, HWQ.out] at hsu
                      have HSU := Lib.hid hsu
                      have hr0 : (0 : Int) ≤ (r : Int) := by omega
                      have hr1 : (r : Int) < (j : Int) := by omega
                      clear hsu ha1 ha2
                      by_cases he : a1 = a2
                      · subst he
                        have HN : Hid (wrongTo PP l (r + 1) = wq) := Lib.hid (by rw [HSU.out, if_pos (beq_self _)])
                        go_upto_region 21 with fail
                        go_quiet (fail)
                        go_wp2_with fail
                        go_roundw
                        case rel => exact ⟨r + 1, wq, by omega, by go_num, rfl, by omega, HN, Lib.hid (below_drN HB6.out _)⟩
                        case measure => simp [intOf]; omega
                      · have e3 : (a1.toList == a2.toList) = false := ne_l he
                        have HN : Hid (wrongTo PP l (r + 1) = wq + 1) := Lib.hid (by rw [HSU.out, e3]; simp)
                        go_upto_region 21 with fail
                        go_quiet (fail)
                        go_wp2_with fail
                        go_roundw
                        case rel => exact ⟨r + 1, wq + 1, by omega, by go_num, by go_num, by omega, HN, Lib.hid (below_drN HB6.out _)⟩
                        case measure => simp [intOf]; omega
                    · have hrj : r = j := by omega
                      subst hrj
                      have ediv : ((r : Int) - (K : Int)).tdiv 2 = (((r - K) / 2 : Nat) : Int) := by rw [Int.tdiv_eq_ediv_of_nonneg (by omega)]; omega
                      by_cases hgd : wq ≤ (r - K) / 2
                      · have hgI : (wq : Int) ≤ ((r : Int) - (K : Int)).tdiv 2 := by rw [ediv]; omega
                        have HRE : Hid (R = (PP.take K, 0)) := Lib.hid (by
                          have h2 := HFND.out s (by rw [← HA.out.1]; exact HPP.out.2.2) (by rw [← HA.out.1, HGD.out, HWQ.out]; simpa using hgd)
                          rw [HR.out, h2, ← HA.out.1, HPP.out.1]
                          congr 1
                          unfold someTo
                          rw [← List.map_take, List.take_range, Nat.min_eq_left hKN])
                        have hKc2 : (K : Int) ≤ (c2 : Int) := by omega
                        have hk0 : (0 : Int) ≤ (K : Int) := by omega
                        clear ediv
                        go_wp2_with fail
                        go_ret2
                        rw [HRE.out]
                        have hlt : (PP.take K).length = K := by rw [List.length_take, HPP.out.2.1]; omega
                        exact ⟨some ⟨g2, o2, none⟩, c2, by rw [hlt]; rfl, (HT2.out.below HB6.out).take (by have := HPP.out.2.1; omega), belt HB5.out HB6.out⟩
                      · have hgI : ((r : Int) - (K : Int)).tdiv 2 < (wq : Int) := by rw [ediv]; omega
                        have HNO2 : Hid (∀ s2, s2 < s + 1 → (bitsTo s2 r).length = K → goodF l K (bitsTo s2 r) = false) := Lib.hid (fun s2 h h2 => by
                          by_cases h3 : s2 = s
                          · subst h3; rw [← HA.out.1, HGD.out, HWQ.out]; simpa using hgd
                          · exact HNO.out s2 (by omega) h2)
                        clear ediv
                        go_wp2_with fail
                        go_roundw
                        case rel => exact ⟨s + 1, by omega, by go_num, HNO2, Lib.hid (belt HB5.out HB6.out)⟩
                        case measure => simp [intOf]; omega
                · have e0 : ((a.length : Int) != (K : Int)) = true := by rw [bne_cast]; simpa using hlen
                  have HNO2 : Hid (∀ s2, s2 < s + 1 → (bitsTo s2 j).length = K → goodF l K (bitsTo s2 j) = false) := Lib.hid (fun s2 h h2 => by
                    by_cases h3 : s2 = s
                    · subst h3; rw [← HA.out.1] at h2; exact absurd h2 hlen
                    · exact HNO.out s2 (by omega) h2)
                  clear hlen
                  go_wp2_with fail
                  go_roundw
                  case rel => exact ⟨s + 1, by omega, by go_num, HNO2, HBW⟩
                  case measure => simp [intOf]; omega
          · have hsZ : s = Z := by omega
            have hsz1 : (Z : Int) ≤ (s : Int) := by omega
            have HRE : Hid (R = ([], 90)) := Lib.hid (by rw [HR.out]; exact HNON.out (fun s2 h => HNO.out s2 (by rw [hsZ, HZ.out]; exact h)))
            go_wp2_with fail
            go_ret2
            rw [HRE.out]
            exact ⟨none, 0, rfl, nil_tl _, HB.out⟩
end Go.Proofs.YtkdjibejnncmfaaGreatDoor.Co
