/- The walks of the reference's first, pieces, SameTexts, numbers. -/
import Derived.Test.YtkdjibejnncmfaaGreatDoorZN23
namespace Go.Proofs.YtkdjibejnncmfaaGreatDoor.Co
open Go.RowKit Go.Proofs.YtkdjibejnncmfaaGreatDoorW.PrintWords Go.Proofs.YtkdjibejnncmfaaGreatDoorW.PrintLast Go.Proofs.YtkdjibejnncmfaaGreatDoorW.PrintMore
set_option linter.unusedVariables false
set_option linter.unusedSimpArgs false
set_option maxRecDepth 100000
theorem OI.snoc {w : World} {base : Nat} {v : Value} {l : List Int} {x : Int} (h : w.ownsRow base 3 1 v (l ++ [x]).length (nums .i64 (l ++ [x]))) : OI w base v (l ++ [x]) := h
set_option maxHeartbeats 1000000 in
theorem refFirst_any (n : Nat) (w : World) (hn : n ≤ 100) :
    Calls Tryz.prog 83 #[.int .i64 (n : Int)] w fun e w' => ∃ v, e = .returned v ∧ OI w' w.heap.size v (firstL n) ∧ Below w.heap.size w w' := by
  go_enter Tryz.func83, Tryz.ntmps83
  go_wp2_with fail
  go_loopw [3, 4] (fun v i wr => ∃ k : Nat, k ≤ n ∧ i = .int .i64 k ∧ Hid (OI wr w.heap.size v (firstL k)) ∧ Hid (Below w.heap.size w wr)) (fun _ i _ => n - (intOf i).toNat)
  case atStart => exact ⟨0, by omega, rfl, Lib.hid ⟨rfl, Or.inl ⟨rfl, rfl⟩⟩, Lib.hid (Below.refl _ _)⟩
  case round =>
    obtain ⟨k, hk, rfl, HO, HB⟩ := hrel
    by_cases hlt : k < n
    · have hl := firstL_length k
      obtain ⟨p, hp⟩ : ∃ p, p = firstL k := ⟨_, rfl⟩
      have hpl : p.length ≤ 100 := by rw [hp]; omega
      have HS := Lib.hid (firstL_succ k)
      rw [← hp] at HO HS
      have hk0 : (0 : Int) ≤ (k : Int) := by omega
      have hkn : (k : Int) < (n : Int) := by omega
      clear hl hp
      go_wp2_with ((with_reducible refine gate_builtin (b := .append) (xs := #[.tmp 10, .tmp 12]) rfl ?_); at_builtin; refine print_append_num (w0 := w) w.heap.size rfl (.tmp 10) (.tmp 12) 34 3 .i64 8 rfl Tryz.underlying34 info3 (by decide) _ p _ rfl rfl HO.out HB.out HB.out.size (by omega) ?_; intro v1 w6 ho hb2 hg hat; have HO6 := Lib.hid ho; have HB6 := Lib.hid hb2; clear ho hb2 hg hat)
      go_roundw
      case rel => exact ⟨k + 1, by omega, by go_num, Lib.hid (by rw [HS.out]; exact HO6.out), HB6⟩
      case measure => simp [intOf]; omega
    · have hkn : k = n := by omega
      subst hkn
      go_wp2_with fail
      go_ret
      exact ⟨_, rfl, HO.out, HB.out⟩
set_option maxHeartbeats 1000000 in
theorem refPieces_any {Aa A : Option Addr} {ca c N n : Nat} {pts : List Int} {vals : List ByteArray} {w : World} (hI : IL w Aa ca pts) (hl : TL w A c vals) (hP : Pts pts) (hN : pts.length = N) (hN2 : vals.length = N) (hN1 : 1 ≤ N) (hN12 : N ≤ 100) (hn : n ≤ 100) (hL : Len vals (vs vals 0).size) (hS : (vs vals 0).size ≤ 1000000) :
    Calls Tryz.prog 82 #[.slice Aa N ca, .slice A N c, .int .i64 (n : Int)] w fun e w' => ∃ v, e = .returned v ∧ OT w' w.heap.size v (someTo pts vals n) ∧ Below w.heap.size w w' := by
  have HPC : Hid (∀ (k : Nat) W, k < 256 → Below w.heap.size w W → Calls Tryz.prog 128 #[.slice Aa N ca, .slice A N c, .int .i64 (k : Int)] W fun e w' => e = .returned (.string (pieceF pts vals (k : Int))) ∧ Below W.heap.size W w') := Lib.hid (fun k W hk hW => refPiece_any (hI.below hW) (hl.below hW) hP hN hN2 hN1 hN12 ⟨by omega, by omega⟩ hL hS)
  clear hI hl hP hN hN2 hL hS
  go_enter Tryz.func82, Tryz.ntmps82
  go_wp2_with fail
  go_loopw [7, 8] (fun v i wr => ∃ k : Nat, k ≤ n ∧ i = .int .i64 k ∧ Hid (OT wr w.heap.size v (someTo pts vals k)) ∧ Hid (Below w.heap.size w wr)) (fun _ i _ => n - (intOf i).toNat)
  case atStart => exact ⟨0, by omega, rfl, Lib.hid ⟨rfl, Or.inl ⟨rfl, rfl⟩⟩, Lib.hid (Below.refl _ _)⟩
  case round =>
    obtain ⟨W, rfl⟩ : ∃ W : World, W = wr := ⟨_, rfl⟩
    obtain ⟨k, hk, rfl, HO, HB⟩ := hrel
    by_cases hlt : k < n
    · have HC := Lib.hid (HPC.out k W (by omega) HB.out)
      have HS := Lib.hid (someTo_succ pts vals k)
      obtain ⟨q, hq⟩ : ∃ q, q = pieceF pts vals (k : Int) := ⟨_, rfl⟩
      rw [← hq] at HC HS
      have hl := someTo_length pts vals k
      obtain ⟨p, hp⟩ : ∃ p, p = someTo pts vals k := ⟨_, rfl⟩
      have hE : (encs Value.string p).length ≤ 100 := by unfold encs; rw [List.length_map, hp]; omega
      rw [← hp] at HO HS
      have hk0 : (0 : Int) ≤ (k : Int) := by omega
      have hkn : (k : Int) < (n : Int) := by omega
      clear hl hp hq
      go_wp2_with (first
        | (go_at_call 128; (with_reducible refine Calls.mono HC.out ?_); rintro e w5 ⟨rfl, hb⟩; have HB5 := Lib.hid (belt HB.out hb); have HO5 := Lib.hid (OT.raw (own_below HO.out hb)); clear hb)
        | ((with_reducible refine gate_builtin (b := .append) (xs := #[.tmp 14, .tmp 19]) rfl ?_); at_builtin; refine print_append (w0 := w) w.heap.size rfl (.tmp 14) (.tmp 19) 33 9 (.string ⟨#[]⟩) 16 rfl Tryz.underlying33 info9 rfl (by decide) _ (encs Value.string p) (.string q) rfl rfl rfl HO5.out HB5.out HB5.out.size (by omega) ?_; intro v1 w6 ho hb2 hg hat; have HO6 := Lib.hid (OT.raw_snoc ho); have HB6 := Lib.hid hb2; clear ho hb2 hg hat))
      go_roundw
      case rel => exact ⟨k + 1, by omega, by go_num, Lib.hid (by rw [HS.out]; exact HO6.out), HB6⟩
      case measure => simp [intOf]; omega
    · have hkn : k = n := by omega
      subst hkn
      go_wp2_with fail
      go_ret
      exact ⟨_, rfl, HO.out, HB.out⟩
set_option maxHeartbeats 1000000 in
/-- SameTexts of two lists that are the same. -/
theorem refSame_any {A1 A2 : Option Addr} {c1 c2 N : Nat} {l : List ByteArray} {w : World} (h1 : TL w A1 c1 l) (h2 : TL w A2 c2 l) (hN : l.length = N) (hN1000 : N ≤ 1000) :
    Calls Tryz.prog 32 #[.slice A1 N c1, .slice A2 N c2] w fun e w' => e = .returned (.bool true) ∧ ∃ m, w' = w.drewN m := by
  have H1 := Lib.hid h1
  have H2 := Lib.hid h2
  have HN := Lib.hid hN
  have hc1 : (N : Int) ≤ c1 := by have := h1.cap; omega
  have hc2 : (N : Int) ≤ c2 := by have := h2.cap; omega
  clear h1 h2 hN
  go_enter Tryz.func32, Tryz.ntmps32
  go_wp2_with fail
  go_loopw [5] (fun i wr => ∃ k : Nat, k ≤ N ∧ i = .int .i64 k ∧ Hid (Drawn0 w wr)) (fun i _ => N - (intOf i).toNat)
  case atStart => exact ⟨0, by omega, rfl, Lib.hid (Drawn0.refl _)⟩
  case round =>
    obtain ⟨W, rfl⟩ : ∃ W : World, W = wr := ⟨_, rfl⟩
    obtain ⟨k, hk, rfl, HD⟩ := hrel
    by_cases hlt : k < N
    · obtain ⟨g1, o1, e1, x1⟩ := H1.out.at k (by have := HN.out; omega)
      obtain ⟨g2, o2, e2, x2⟩ := H2.out.at k (by have := HN.out; omega)
      subst e1 e2
      obtain ⟨s, hs⟩ : ∃ s, s = vs l k := ⟨_, rfl⟩
      rw [← hs] at x1 x2
      have y1 : W.cell? ⟨g1, o1 + k, none⟩ = some (.string s) := by obtain ⟨m, hm⟩ := HD.out; rw [hm]; exact x1
      have y2 : W.cell? ⟨g2, o2 + k, none⟩ = some (.string s) := by obtain ⟨m, hm⟩ := HD.out; rw [hm]; exact x2
      have hk0 : (0 : Int) ≤ (k : Int) := by omega
      have hkN : (k : Int) < (N : Int) := by omega
      clear x1 x2 hs
      go_upto_region 6 with fail
      go_quiet (fail)
      go_wp2_with fail
      go_roundw
      case rel => exact ⟨k + 1, by omega, by go_num, Lib.hid (HD.out.step _)⟩
      case measure => simp [intOf]; omega
    · have hkN : k = N := by omega
      subst hkN
      go_wp2_with fail
      go_ret
      exact ⟨rfl, HD.out.out⟩
end Go.Proofs.YtkdjibejnncmfaaGreatDoor.Co
