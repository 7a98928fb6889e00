/- The walk of the law's own brief. -/
import Derived.Test.YtkdjibejnncmfaaGreatDoorZN30
namespace Go.Proofs.YtkdjibejnncmfaaGreatDoor.Co
open Go.RowKit Go.Proofs.YtkdjibejnncmfaaGreatDoorW.PrintWords Go.Proofs.YtkdjibejnncmfaaGreatDoorW.PrintLast Go.Proofs.YtkdjibejnncmfaaGreatDoorW.PrintMore
set_option linter.unusedVariables false
set_option linter.unusedSimpArgs false
set_option maxRecDepth 100000

set_option maxHeartbeats 400000 in
theorem indexFunc_76 (cap : Array Value) (p : ByteArray → Bool) (A : Option Addr) (c : Nat) (l : List ByteArray) (w : World) (hC : Kd.C Kd.string w A l.length l) (hc : l.length ≤ c)
    (hf : ∀ s ∈ l, Calls Tryz.prog 76 (#[.string s] ++ cap) w fun e w' => e = .returned (.bool (p s)) ∧ w = w') :
    Calls Tryz.prog 125 #[.slice A l.length c, .func (.func 76) #[] cap] w fun e w' => e = .returned (.int .i64 (idxFrom p l 0)) ∧ w = w' := by
  have hm : l.length ≤ 9223372036854775807 := hC.2.1
  have HC := Lib.hid hC
  have HF := Lib.hid hf
  clear hC hf
  go_enter Tryz.func125, Tryz.ntmps125
  go_wp2_with fail
  go_loop [8] (fun i => ∃ k : Nat, k ≤ l.length ∧ i = .int .i64 k ∧ Hid (idxFrom p l 0 = idxFrom p (l.drop k) k)) (fun i => l.length - (intOf i).toNat)
  case atStart => exact ⟨0, by omega, rfl, rfl⟩
  case round =>
    obtain ⟨k, hk, rfl, hI⟩ := hrel
    by_cases hlt : k < l.length
    · obtain ⟨ad, e, hx⟩ := Kd.at_string HC.out (k : Int) (by omega) (by omega)
      subst e
      simp only [Int.toNat_natCast] at hx
      have hxv : w.cell? (ad.add k) = some (.string (vs l k)) := hx
      have hD := Lib.hid (idxFrom_drop p l k k hlt)
      have hmem : vs l k ∈ l := by
        unfold vs rdOf
        rw [Int.toNat_natCast, List.getD_eq_getElem?_getD, List.getElem?_eq_getElem hlt]
        exact List.getElem_mem _
      clear hx
      go_wp2_with fail
      refine (HF.out _ hmem).mono ?_
      rintro e w' ⟨rfl, rfl⟩
      by_cases hp : p (vs l k) = true
      · rw [hp]
        go_wp2_with fail
        go_ret
        exact ⟨ret_int' (by rw [hI.out, hD.out, if_pos hp]), rfl⟩
      · have hp' : p (vs l k) = false := by simpa using hp
        rw [hp']
        go_wp2_with fail
        go_round
        case rel => exact ⟨k + 1, by omega, by go_num, Lib.hid (by rw [hI.out, hD.out, if_neg hp])⟩
        case measure => simp [intOf]; omega
    · obtain rfl : k = l.length := by omega
      go_wp2_with fail
      go_ret
      exact ⟨ret_int' (by rw [hI.out]; simp [idxFrom]), rfl⟩
set_option maxHeartbeats 400000 in
theorem containsFunc_76 (cap : Array Value) (p : ByteArray → Bool) (A : Option Addr) (c : Nat) (l : List ByteArray) (w : World) (hC : Kd.C Kd.string w A l.length l) (hc : l.length ≤ c)
    (hf : ∀ s ∈ l, Calls Tryz.prog 76 (#[.string s] ++ cap) w fun e w' => e = .returned (.bool (p s)) ∧ w = w') :
    Calls Tryz.prog 75 #[.slice A l.length c, .func (.func 76) #[] cap] w fun e w' => e = .returned (.bool (l.any p)) ∧ w = w' := by
  have hm : l.length ≤ 9223372036854775807 := hC.2.1
  have HC := Lib.hid hC
  have HF := Lib.hid hf
  have HI := Lib.hid (idxFrom_any p l 0)
  clear hC hf
  go_enter Tryz.func75, Tryz.ntmps75
  go_wp2_with fail
  refine (indexFunc_76 cap p A c l w HC.out hc HF.out).mono ?_
  rintro e w' ⟨rfl, rfl⟩
  go_wp2_with fail
  go_ret
  exact ⟨ret_bool' (by rw [← HI.out]), rfl⟩

theorem brief1_any (s : ByteArray) (b : Nat) (long : Int) (w : World) (hb : w.cell? ⟨b, 0, none⟩ = some (.int .i64 long)) (h1 : s.size ≤ 9223372036854775807) :
    Calls Tryz.prog 76 #[.string s, .pointer (some ⟨b, 0, none⟩)] w fun e w' => e = .returned (.bool (decide (long < (s.size : Int)))) ∧ w = w' := by
  go_enter Tryz.func76, Tryz.ntmps76
  go_wp2
  go_ret
  exact ⟨rfl, rfl⟩
/-- What the law's own brief tells. -/
def briefB (l : List ByteArray) (long : Int) : Bool := if 12 < l.length then decide (l.length < 100) else !l.any fun s => decide (long < (s.size : Int))
set_option maxHeartbeats 400000 in
theorem brief_any {A : Option Addr} {c N : Nat} {l : List ByteArray} {w : World} (long : Int) (hl : TL w A c l) (hN : l.length = N) :
    Calls Tryz.prog 25 #[.slice A N c, .int .i64 long] w fun e w' => e = .returned (.bool (briefB l long)) ∧ Below w.heap.size w w' := by
  subst hN
  have hm : l.length ≤ 9223372036854775807 := hl.C.2.1
  have hB : Below w.heap.size w (w.alloc (.cells #[Value.int .i64 long] 3)) := below_al (Below.refl _ _) _
  have HB := Lib.hid hB
  have hcell : (w.alloc (.cells #[Value.int .i64 long] 3)).cell? ⟨w.heap.size, 0, none⟩ = some (.int .i64 long) := (Box.new w #[Value.int .i64 long] 3).cell 0
  by_cases h1 : 12 < l.length
  · have hF : Hid (briefB l long = decide ((l.length : Int) < 100)) := Lib.hid (by unfold briefB; rw [if_pos h1]; simp; omega)
    have h1' : (12 : Int) < (l.length : Int) := by omega
    clear hl hB hcell
    by_cases h2 : (l.length : Int) < 100
    · go_enter Tryz.func25, Tryz.ntmps25
      go_wp2_with fail
      go_ret
      exact ⟨by rw [hF.out]; first | rfl | simp [h2], HB.out⟩
    · go_enter Tryz.func25, Tryz.ntmps25
      go_wp2_with fail
      go_ret
      exact ⟨by rw [hF.out]; first | rfl | simp [h2], HB.out⟩
  · have hF : Hid (briefB l long = !l.any fun s => decide (long < (s.size : Int))) := Lib.hid (by unfold briefB; rw [if_neg h1])
    have h1' : ¬ (12 : Int) < (l.length : Int) := by omega
    have HC1 := Lib.hid (Kd.C_alloc hl.C (.cells #[Value.int .i64 long] 3))
    have hf1 : Hid (∀ s ∈ l, Calls Tryz.prog 76 (#[Value.string s] ++ #[Value.pointer (some { block := w.heap.size, off := 0 })]) (w.alloc (.cells #[Value.int .i64 long] 3)) fun e w' => e = .returned (.bool (decide (long < (s.size : Int)))) ∧ (w.alloc (.cells #[Value.int .i64 long] 3)) = w') :=
      Lib.hid (fun s hsm => by
        have he : #[Value.string s] ++ #[Value.pointer (some { block := w.heap.size, off := 0 })] = #[Value.string s, Value.pointer (some { block := w.heap.size, off := 0 })] := rfl
        rw [he]
        exact brief1_any s w.heap.size long _ hcell (hl.sz s hsm))
    have hc := hl.cap
    clear hl hB hcell
    go_enter Tryz.func25, Tryz.ntmps25
    go_wp2_with fail
    refine (containsFunc_76 #[Value.pointer (some { block := w.heap.size, off := 0 })] (fun s => decide (long < (s.size : Int))) _ _ _ _ HC1.out hc hf1.out).mono ?_
    rintro e w' ⟨rfl, rfl⟩
    go_wp2_with fail
    go_ret
    exact ⟨ret_bool' hF.out.symm, HB.out⟩
end Go.Proofs.YtkdjibejnncmfaaGreatDoor.Co
