/- The walks of the law's own data and brief, and of the closures that they hand on. -/
import Derived.Test.YtkdjibejnncmfaaGreatDoorB2
namespace Go.Proofs.YtkdjibejnncmfaaGreatDoor.Co
open Go.RowKit Go.Proofs.YtkdjibejnncmfaaGreatDoorW.PrintWords Go.Proofs.YtkdjibejnncmfaaGreatDoorW.PrintLast Go.Proofs.YtkdjibejnncmfaaGreatDoorW.PrintMore
set_option linter.unusedVariables false
set_option linter.unusedSimpArgs false
set_option maxRecDepth 100000

set_option maxHeartbeats 400000 in
theorem indexFunc_91 (cap : Array Value) (p : ByteArray → Bool) (A : Option Addr) (c : Nat) (l : List ByteArray) (w : World) (hC : Kd.C Kd.string w A l.length l) (hc : l.length ≤ c)
    (hf : ∀ s ∈ l, Calls Tryz.prog 91 (#[.string s] ++ cap) w fun e w' => e = .returned (.bool (p s)) ∧ w = w') :
    Calls Tryz.prog 125 #[.slice A l.length c, .func (.func 91) #[] cap] w fun e w' => e = .returned (.int .i64 (idxFrom p l 0)) ∧ w = w' := by
  have hm : l.length ≤ 9223372036854775807 := hC.2.1
  have HC := Lib.hid hC
  have HF := Lib.hid hf
  clear hC hf
  go_enter Tryz.func125, Tryz.ntmps125
  go_wp2_with fail
  go_loop [8] (fun i => ∃ k : Nat, k ≤ l.length ∧ i = .int .i64 k ∧ Hid (idxFrom p l 0 = idxFrom p (l.drop k) k)) (fun i => l.length - (intOf i).toNat)
  case atStart => exact ⟨0, by omega, rfl, rfl⟩
  case round =>
    obtain ⟨k, hk, rfl, hI⟩ := hrel
    by_cases hlt : k < l.length
    · obtain ⟨ad, e, hx⟩ := Kd.at_string HC.out (k : Int) (by omega) (by omega)
      subst e
      simp only [Int.toNat_natCast] at hx
      have hxv : w.cell? (ad.add k) = some (.string (vs l k)) := hx
      have hD := Lib.hid (idxFrom_drop p l k k hlt)
      have hmem : vs l k ∈ l := by
        unfold vs rdOf
        rw [Int.toNat_natCast, List.getD_eq_getElem?_getD, List.getElem?_eq_getElem hlt]
        exact List.getElem_mem _
      clear hx
      go_wp2_with fail
      refine (HF.out _ hmem).mono ?_
      rintro e w' ⟨rfl, rfl⟩
      by_cases hp : p (vs l k) = true
      · rw [hp]
        go_wp2_with fail
        go_ret
        exact ⟨ret_int' (by rw [hI.out, hD.out, if_pos hp]), rfl⟩
      · have hp' : p (vs l k) = false := by simpa using hp
        rw [hp']
        go_wp2_with fail
        go_round
        case rel => exact ⟨k + 1, by omega, by go_num, Lib.hid (by rw [hI.out, hD.out, if_neg hp])⟩
        case measure => simp [intOf]; omega
    · obtain rfl : k = l.length := by omega
      go_wp2_with fail
      go_ret
      exact ⟨ret_int' (by rw [hI.out]; simp [idxFrom]), rfl⟩
set_option maxHeartbeats 400000 in
theorem containsFunc_91 (cap : Array Value) (p : ByteArray → Bool) (A : Option Addr) (c : Nat) (l : List ByteArray) (w : World) (hC : Kd.C Kd.string w A l.length l) (hc : l.length ≤ c)
    (hf : ∀ s ∈ l, Calls Tryz.prog 91 (#[.string s] ++ cap) w fun e w' => e = .returned (.bool (p s)) ∧ w = w') :
    Calls Tryz.prog 75 #[.slice A l.length c, .func (.func 91) #[] cap] w fun e w' => e = .returned (.bool (l.any p)) ∧ w = w' := by
  have hm : l.length ≤ 9223372036854775807 := hC.2.1
  have HC := Lib.hid hC
  have HF := Lib.hid hf
  have HI := Lib.hid (idxFrom_any p l 0)
  clear hC hf
  go_enter Tryz.func75, Tryz.ntmps75
  go_wp2_with fail
  refine (indexFunc_91 cap p A c l w HC.out hc HF.out).mono ?_
  rintro e w' ⟨rfl, rfl⟩
  go_wp2_with fail
  go_ret
  exact ⟨ret_bool' (by rw [← HI.out]), rfl⟩

def dat1 (s0 s : ByteArray) (long : Int) : Bool := s.size != s0.size || decide (long < (s.size : Int))
set_option maxHeartbeats 400000 in
theorem data1_any (s : ByteArray) (ad : Addr) (n c b b2 : Nat) (long : Int) (s0 : ByteArray) (w : World) (hb : w.cell? ⟨b, 0, none⟩ = some (.slice (some ad) n c)) (hb2 : w.cell? ⟨b2, 0, none⟩ = some (.int .i64 long)) (hn : 0 < n) (hx : w.cell? ad = some (.string s0)) (h1 : s.size ≤ 9223372036854775807) (h2 : s0.size ≤ 9223372036854775807) :
    Calls Tryz.prog 91 #[.string s, .pointer (some ⟨b, 0, none⟩), .pointer (some ⟨b2, 0, none⟩)] w fun e w' => e = .returned (.bool (dat1 s0 s long)) ∧ w = w' := by
  have hx' : w.cell? (ad.add 0) = some (.string s0) := by rw [add_zero_]; exact hx
  by_cases e : s.size = s0.size
  · have e1 : ((s.size : Int) != (s0.size : Int)) = false := by simp [e]
    have hF : Hid (dat1 s0 s long = decide (long < (s.size : Int))) := Lib.hid (by unfold dat1; simp [e])
    have HE := Lib.hid e
    clear e
    go_enter Tryz.func91, Tryz.ntmps91
    go_wp2
    all_goals go_ret
    all_goals exact ⟨ret_bool' (by rw [hF.out]), rfl⟩
  · have e1 : ((s.size : Int) != (s0.size : Int)) = true := by rw [bne_cast]; simpa using e
    have hF : Hid (dat1 s0 s long = true) := Lib.hid (by unfold dat1; simp [e])
    have HE := Lib.hid e
    clear e
    go_enter Tryz.func91, Tryz.ntmps91
    go_wp2
    go_ret
    exact ⟨ret_bool' hF.out.symm, rfl⟩
/-- What the law's own data tells. -/
def dataB (l : List ByteArray) (n long : Int) : Bool :=
  if l.length < 1 then false else if n < (l.length : Int) then false else if 12 < n then false else !l.any fun s => dat1 (vs l 0) s long
set_option maxHeartbeats 400000 in
theorem data_any (A : Option Addr) (c : Nat) (l : List ByteArray) (n long : Int) (w : World) (hC : Kd.C Kd.string w A l.length l) (hc : l.length ≤ c) (hs : ∀ s ∈ l, s.size ≤ 9223372036854775807) :
    Calls Tryz.prog 35 #[.slice A l.length c, .int .i64 n, .int .i64 long] w fun e w' => e = .returned (.bool (dataB l n long)) ∧ Below w.heap.size w w' := by
  have hm : l.length ≤ 9223372036854775807 := hC.2.1
  have hB : Below w.heap.size w ((w.alloc (.cells #[Value.slice A l.length c] 33)).alloc (.cells #[Value.int .i64 long] 3)) := ((Below.refl _ _).alloc (Nat.le_refl _) _).alloc (by simp) _
  have HB := Lib.hid hB
  have hcell : ((w.alloc (.cells #[Value.slice A l.length c] 33)).alloc (.cells #[Value.int .i64 long] 3)).cell? ⟨w.heap.size, 0, none⟩ = some (.slice A l.length c) := by rw [World.cell?_alloc_lt _ _ _ (by simp), cell_new]; rfl
  have hcell2 : ((w.alloc (.cells #[Value.slice A l.length c] 33)).alloc (.cells #[Value.int .i64 long] 3)).cell? ⟨w.heap.size + 1, 0, none⟩ = some (.int .i64 long) := by simp
  have HC := Lib.hid hC
  have HS := Lib.hid hs
  by_cases h1 : l.length < 1
  · have hF : Hid (dataB l n long = false) := Lib.hid (by unfold dataB; rw [if_pos h1])
    have h1' : (l.length : Int) < 1 := by omega
    clear hC hs hB hcell hcell2
    go_enter Tryz.func35, Tryz.ntmps35
    go_wp2
    go_ret
    exact ⟨ret_bool' hF.out.symm, HB.out⟩
  · by_cases h2 : n < (l.length : Int)
    · have hF : Hid (dataB l n long = false) := Lib.hid (by unfold dataB; rw [if_neg h1, if_pos h2])
      have h1' : ¬ (l.length : Int) < 1 := by omega
      clear hC hs hB hcell hcell2
      go_enter Tryz.func35, Tryz.ntmps35
      go_wp2
      go_ret
      exact ⟨ret_bool' hF.out.symm, HB.out⟩
    · by_cases h3 : 12 < n
      · have hF : Hid (dataB l n long = false) := Lib.hid (by unfold dataB; rw [if_neg h1, if_neg h2, if_pos h3])
        have h1' : ¬ (l.length : Int) < 1 := by omega
        clear hC hs hB hcell hcell2
        go_enter Tryz.func35, Tryz.ntmps35
        go_wp2
        go_ret
        exact ⟨ret_bool' hF.out.symm, HB.out⟩
      · obtain ⟨ad, e, hx⟩ := Kd.at_string hC 0 (by omega) (by omega)
        subst e
        rw [show ((0 : Int).toNat) = 0 from rfl, add_zero_] at hx
        have hx1 : w.cell? ad = some (.string (vs l 0)) := hx
        have hlt := World.block_lt_of_cell? w _ hx1
        have hx0 : ((w.alloc (.cells #[Value.slice (some ad) l.length c] 33)).alloc (.cells #[Value.int .i64 long] 3)).cell? ad = some (.string (vs l 0)) := by
          rw [World.cell?_alloc_lt _ _ ad (by simp; omega), World.cell?_alloc_lt w _ ad hlt]; exact hx1
        have h0s : (vs l 0).size ≤ 9223372036854775807 := by
          refine hs _ ?_
          unfold vs rdOf
          rw [show ((0 : Int).toNat) = 0 from rfl, List.getD_eq_getElem?_getD, List.getElem?_eq_getElem (by omega)]
          exact List.getElem_mem _
        have hnl : ¬ (12 : Int) < n := by omega
        have hn2 : ¬ n < (l.length : Int) := h2
        have hpos : 0 < l.length := by omega
        have h1' : ¬ (l.length : Int) < 1 := by omega
        have hF : Hid (dataB l n long = !l.any fun s => dat1 (vs l 0) s long) := Lib.hid (by unfold dataB; rw [if_neg h1, if_neg h2, if_neg h3])
        have HC1 := Lib.hid (Kd.C_alloc (Kd.C_alloc hC (.cells #[Value.slice (some ad) l.length c] 33)) (.cells #[Value.int .i64 long] 3))
        have hf1 : Hid (∀ s ∈ l, Calls Tryz.prog 91 (#[Value.string s] ++ #[Value.pointer (some { block := w.heap.size, off := 0 }), Value.pointer (some { block := w.heap.size + 1, off := 0 })]) ((w.alloc (.cells #[Value.slice (some ad) l.length c] 33)).alloc (.cells #[Value.int .i64 long] 3)) fun e w' => e = .returned (.bool (dat1 (vs l 0) s long)) ∧ ((w.alloc (.cells #[Value.slice (some ad) l.length c] 33)).alloc (.cells #[Value.int .i64 long] 3)) = w') :=
          Lib.hid (fun s hsm => by
            have he : #[Value.string s] ++ #[Value.pointer (some { block := w.heap.size, off := 0 }), Value.pointer (some { block := w.heap.size + 1, off := 0 })] = #[Value.string s, Value.pointer (some { block := w.heap.size, off := 0 }), Value.pointer (some { block := w.heap.size + 1, off := 0 })] := rfl
            rw [he]
            exact data1_any s ad l.length c w.heap.size (w.heap.size + 1) long (vs l 0) _ hcell hcell2 hpos hx0 (HS.out s hsm) h0s)
        clear hC hs hB hx hx1 h1 h2 h3 hcell hcell2
        go_enter Tryz.func35, Tryz.ntmps35
        go_wp2_with fail
        refine (containsFunc_91 #[Value.pointer (some { block := w.heap.size, off := 0 }), Value.pointer (some { block := w.heap.size + 1, off := 0 })] (fun s => dat1 (vs l 0) s long) _ _ _ _ HC1.out hc hf1.out).mono ?_
        rintro e w' ⟨rfl, rfl⟩
        go_wp2_with fail
        go_ret
        exact ⟨ret_bool' hF.out.symm, HB.out⟩
end Go.Proofs.YtkdjibejnncmfaaGreatDoor.Co
