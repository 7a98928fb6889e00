/- The walk of the reference's piece. -/
import Derived.Test.YtkdjibejnncmfaaGreatDoorZN21
import Derived.Test.YtkdjibejnncmfaaGreatDoorZK72
namespace Go.Proofs.YtkdjibejnncmfaaGreatDoor.Co
open Go.RowKit Go.Proofs.YtkdjibejnncmfaaGreatDoorW.PrintWords Go.Proofs.YtkdjibejnncmfaaGreatDoorW.PrintLast Go.Proofs.YtkdjibejnncmfaaGreatDoorW.PrintMore
set_option linter.unusedVariables false
set_option linter.unusedSimpArgs false
set_option maxRecDepth 100000
/-- The first t bytes of a text. -/
def preS (s : ByteArray) (t : Nat) : ByteArray := strOfNums ((List.range t).map fun (i : Nat) => bt s i)
theorem preS_zero (s : ByteArray) : preS s 0 = ⟨#[]⟩ := rfl
theorem preS_succ (s : ByteArray) (t : Nat) : preS s (t + 1) = preS s t ++ strOfNums [bt s t] := by
  unfold preS strOfNums
  rw [List.range_succ, List.map_append, List.map_append]
  apply ByteArray.ext
  rw [ByteArray.data_append]
  simp
theorem preS_all (s : ByteArray) : preS s s.size = s := by
  unfold preS
  apply bt_ext
  · rw [str_size]; simp
  · intro t ht
    rw [str_size] at ht
    simp only [List.length_map, List.length_range] at ht
    rw [bt_nums _ (fun r hr => ?_) t (by simpa using ht), rd_map _ _ _ ht]
    simp only [List.length_map, List.length_range] at hr
    rw [rd_map _ _ _ hr]
    exact bt_b _ _
/-- The bytes at a place. -/
def colTo (vals : List ByteArray) (t : Nat) (j : Nat) : List Int := (List.range j).map fun (i : Nat) => bt (vs vals i) t
theorem colTo_succ (vals : List ByteArray) (t j : Nat) : colTo vals t (j + 1) = colTo vals t j ++ [bt (vs vals j) t] := by unfold colTo; rw [List.range_succ, List.map_append]; rfl
theorem colTo_len (vals : List ByteArray) (t j : Nat) : (colTo vals t j).length = j := by simp [colTo]
theorem rd_col (vals : List ByteArray) (t j i : Nat) (h : i < j) : rd (colTo vals t j) i = bt (vs vals i) t := rd_map _ _ _ h
theorem lag_congr {p v u : Nat → B8} {n : Nat} {X : B8} : ∀ k, (∀ j, j < k → v j = u j) → Pf.lag p v n X k = Pf.lag p u n X k
  | 0, _ => rfl
  | k + 1, h => by unfold Pf.lag; rw [lag_congr k (fun j hj => h j (by omega)), h k (by omega)]
theorem val_piece {pts : List Int} {vals : List ByteArray} {x : Int} (h : Pts pts) (hx : IsB x) (hn : pts.length = vals.length) (t : Nat) (ht : t < (vs vals 0).size) : ((valB pts (colTo vals t vals.length) x).n : Int) = bt (pieceF pts vals x) t := by
  have h1 := piece_fe h hx hn t ht
  have h2 : valB pts (colTo vals t vals.length) x = fe (bt (pieceF pts vals x) t) := by
    rw [h1]
    unfold valB
    exact lag_congr _ (fun j hj => by rw [rd_col vals t vals.length j (by omega)]; rfl)
  rw [h2, fe_b (bt_b _ _)]
set_option maxHeartbeats 4000000 in
theorem refPiece_any {Aa A : Option Addr} {ca c N : Nat} {pts : List Int} {vals : List ByteArray} {x : Int} {w : World} (hI : IL w Aa ca pts) (hl : TL w A c vals) (hP : Pts pts) (hN : pts.length = N) (hN2 : vals.length = N) (hN1 : 1 ≤ N) (hN12 : N ≤ 100) (hx : IsB x) (hL : Len vals (vs vals 0).size) (hS : (vs vals 0).size ≤ 1000000) :
    Calls Tryz.prog 128 #[.slice Aa N ca, .slice A N c, .int .i64 x] w fun e w' => e = .returned (.string (pieceF pts vals x)) ∧ Below w.heap.size w w' := by
  obtain ⟨g1, o1, eA, hx0⟩ := hl.at 0 (by omega)
  subst eA
  obtain ⟨S, hSe⟩ : ∃ S, S = (vs vals 0).size := ⟨_, rfl⟩
  obtain ⟨PF, hPF⟩ : ∃ PF, PF = pieceF pts vals x := ⟨_, rfl⟩
  have hps : PF.size = S := by rw [hPF, piece_size, hSe]
  have HI := Lib.hid hI
  have HL := Lib.hid hl
  have HP := Lib.hid (And.intro hP (And.intro hN (And.intro hN2 (And.intro hx (And.intro hL (And.intro hSe (And.intro hPF hps)))))))
  have hNc : (N : Int) ≤ (c : Int) := by have := hl.cap; omega
  have hS2 : S ≤ 1000000 := by omega
  have HVP : Hid (∀ t : Nat, t < S → ((valB pts (colTo vals t N) x).n : Int) = bt PF t) := Lib.hid (fun t ht => by rw [hPF, ← hN2]; exact val_piece hP hx (by omega) t (by omega))
  rw [← hPF]
  have hcv : ∀ (W : World) (z : Int), (convert 46 9 (.slice (some ⟨W.heap.size, 0, none⟩) 1 1)).run Tryz.prog (W.alloc (.cells #[.int .u8 z] 5)) = .ok (.string (strOfNums [z])) (W.alloc (.cells #[.int .u8 z] 5)) := fun W z => by
    refine run_convert_bytes_arg _ 46 5 Tryz.underlying46 Tryz.underlying5 W.heap.size 0 1 1 _ rfl (fun i hi => ?_) 9 Tryz.underlying9
    have h0 := (Box.new W #[.int .u8 z] 5).cell 0
    obtain rfl : i = 0 := by omega
    exact h0
  clear hI hl hP hN hN2 hx hL hSe hPF hps hx0 hS
  go_enter Tryz.func128, Tryz.ntmps128
  go_wp2_with fail
  go_loopw [7, 8] (fun s i wr => ∃ t : Nat, t ≤ S ∧ i = .int .i64 t ∧ s = .string (preS PF t) ∧ Hid (Below w.heap.size w wr)) (fun _ i _ => S - (intOf i).toNat)
  case atStart => exact ⟨0, by omega, rfl, by rw [preS_zero], Lib.hid (Below.refl _ _)⟩
  case round =>
    obtain ⟨W, rfl⟩ : ∃ W : World, W = wr := ⟨_, rfl⟩
    obtain ⟨t, ht, rfl, rfl, HB⟩ := hrel
    have HLW := Lib.hid (HL.out.below HB.out)
    have hx0 : W.cell? ⟨g1, o1, none⟩ = some (.string (vs vals 0)) := HLW.out.cell 0 (by have := HP.out.2.2.1; omega)
    have hs0 : ((vs vals 0).size : Int) = (S : Int) := by have := HP.out.2.2.2.2.2.1; omega
    have hp0 : (0 : Int) < (N : Int) := by omega
    by_cases hlt : t < S
    · have ht0 : (0 : Int) ≤ (t : Int) := by omega
      have htS : (t : Int) < (S : Int) := by omega
      go_wp2_with fail
      go_loopw [9, 10] (fun v i wr => ∃ j : Nat, j ≤ N ∧ i = .int .i64 j ∧ Hid (wr.ownsRow W.heap.size 5 1 v (colTo vals t j).length (nums .u8 (colTo vals t j))) ∧ Hid (Below W.heap.size W wr)) (fun _ i _ => N - (intOf i).toNat)
      case atStart => exact ⟨0, by omega, rfl, Lib.hid ⟨rfl, Or.inl ⟨rfl, rfl⟩⟩, Lib.hid (Below.refl _ _)⟩
      case round =>
        obtain ⟨j, hj, rfl, HO, HB2⟩ := hrel
        by_cases hlt2 : j < N
        · obtain ⟨sj, hsj⟩ : ∃ sj, sj = vs vals j := ⟨_, rfl⟩
          have hx1 : wr.cell? ⟨g1, o1 + j, none⟩ = some (.string sj) := by rw [hsj]; exact (HLW.out.below HB2.out).cell j (by have := HP.out.2.2.1; omega)
          have hsz : sj.size = S := by rw [hsj, HP.out.2.2.2.2.2.1]; exact HP.out.2.2.2.2.1 j (by have := HP.out.2.2.1; omega)
          have htj : t < sj.size := by omega
          have htj2 : (t : Int) < (sj.size : Int) := by omega
          have HBT := Lib.hid (bt_get sj t htj)
          have HSJ := Lib.hid (And.intro hsj hsz)
          have HSU := Lib.hid (colTo_succ vals t j)
          obtain ⟨cl, hcl⟩ : ∃ cl, cl = colTo vals t j := ⟨_, rfl⟩
          have hcll : cl.length ≤ 100 := by rw [hcl, colTo_len]; omega
          rw [← hcl] at HO HSU
          have hj0 : (0 : Int) ≤ (j : Int) := by omega
          have hjN : (j : Int) < (N : Int) := by omega
          clear hsj hsz hcl
          go_wp2_with ((with_reducible refine gate_builtin (b := .append) (xs := #[.tmp 25, .tmp 32]) rfl ?_); at_builtin; refine print_append_num (w0 := W) W.heap.size rfl (.tmp 25) (.tmp 32) 46 5 .u8 1 rfl Tryz.underlying46 info5 (by decide) _ cl _ rfl rfl HO.out HB2.out HB2.out.size (by omega) ?_; intro v1 w6 ho hb2 hg hat; have HO6 := Lib.hid ho; have HB6 := Lib.hid hb2; clear ho hb2 hg hat)
          go_roundw
          case rel => exact ⟨j + 1, by omega, by go_num, Lib.hid (by rw [HSU.out, ← HSJ.out.1, HBT.out]; exact HO6.out), HB6⟩
          case measure => simp [intOf]; omega
        · have hjN : j = N := by omega
          subst hjN
          have hcl := colTo_len vals t j
          obtain ⟨Ay, cy, e1, hcy1, hcy2⟩ := own_slice HO.out
          subst e1
          have HV : Hid (Calls Tryz.prog 148 #[.slice Aa j ca, .slice Ay (colTo vals t j).length cy, .int .i64 x] wr fun e w' => e = .returned (.int .u8 (bt PF t)) ∧ ∃ m, w' = wr.drewN m) := Lib.hid (by
            obtain ⟨hP, hN, hN2, hx, hL, hSe, hPF, hps⟩ := HP.out
            have hIr := (HI.out.below HB.out).below HB2.out
            have hyC : Kd.C (Kd.int .u8) wr Ay (colTo vals t j).length (colTo vals t j) := by
              have hR : Kd.R (Kd.int .u8) 5 wr W.heap.size (fun _ => True) (.slice Ay (colTo vals t j).length cy) (colTo vals t j) := Kd.R_of_own HO.out (fun _ _ => trivial)
              obtain ⟨A', c', e, hc, hC⟩ := Kd.R_reads hR
              injection e with e1 e2 e3
              rw [e1]
              exact hC
            have := value_any hIr.C hyC hIr.cap hcy1 hP hN hcl (fun i hi => by rw [rd_col _ _ _ _ hi]; exact bt_b _ _) hx hN12
            rw [HVP.out t hlt] at this
            rw [hcl]
            exact this)
          obtain ⟨z, hz⟩ : ∃ z, z = bt PF t := ⟨_, rfl⟩
          rw [← hz] at HV
          have HPS : Hid (preS PF (t + 1) = preS PF t ++ strOfNums [z]) := Lib.hid (by rw [preS_succ, hz])
          obtain ⟨p1, hp1⟩ : ∃ p1, p1 = preS PF t := ⟨_, rfl⟩
          rw [← hp1] at HPS ⊢
          clear hz hcl
          have HBW : Hid (Below w.heap.size w wr) := Lib.hid (belt HB.out HB2.out)
          have hpz : p1.size ≤ 1000000 := by rw [hp1]; unfold preS; rw [str_size]; simp; omega
          have hqz : (strOfNums [z]).size = 1 := str_size [z]
          have hsum : (p1.size : Int) + ((strOfNums [z]).size : Int) ≤ 9223372036854775807 := by omega
          have hsum2 : p1.size + (strOfNums [z]).size ≤ 9223372036854775807 := by omega
          have hcv2 : ∀ m : Nat, (convert 46 9 (.slice (some ⟨wr.heap.size, 0, none⟩) 1 1)).run Tryz.prog ((wr.drewN m).alloc (.cells #[.int .u8 z] 5)) = .ok (.string (strOfNums [z])) ((wr.drewN m).alloc (.cells #[.int .u8 z] 5)) := fun m => hcv (wr.drewN m) z
          clear hx0 HO hcv hp1
          go_wp2_with (go_at_call 148; (with_reducible refine Calls.mono HV.out ?_); rintro e w5 ⟨rfl, m5, rfl⟩)
          go_roundw
          case rel => exact ⟨t + 1, by omega, by go_num, by rw [HPS.out], Lib.hid (below_al (below_drN HBW.out _) _)⟩
          case measure => simp [intOf]; omega
    · have htS : t = S := by omega
      subst htS
      have HF : Hid (preS PF t = PF) := Lib.hid (by have := preS_all PF; rw [HP.out.2.2.2.2.2.2.2] at this; exact this)
      go_wp2_with fail
      go_ret
      exact ⟨by rw [HF.out]; rfl, HB.out⟩
end Go.Proofs.YtkdjibejnncmfaaGreatDoor.Co
