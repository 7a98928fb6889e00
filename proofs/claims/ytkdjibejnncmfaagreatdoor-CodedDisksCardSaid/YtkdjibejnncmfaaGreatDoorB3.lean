/- Contracts of package coded, part 3. -/
import Derived.Test.YtkdjibejnncmfaaGreatDoorB2
import Derived.Great.BuildSlice
import Derived.Deep.MidRow
import Derived.Deep.WholeRow
import Derived.Stop.BytesEq
/- The walks of Arm, Restart, Lose. -/
namespace Go.Proofs.YtkdjibejnncmfaaGreatDoor.Co
open Go.RowKit Go.Proofs.YtkdjibejnncmfaaGreatDoorW.PrintWords Go.Proofs.YtkdjibejnncmfaaGreatDoorW.PrintLast Go.Proofs.YtkdjibejnncmfaaGreatDoorW.PrintMore
set_option linter.unusedVariables false
set_option linter.unusedSimpArgs false
set_option maxRecDepth 100000
def armF (D : DS) (n b : Int) : DS := { D with armed := max n 0, part := min (max b 0) 64 }
set_option maxHeartbeats 1000000 in
theorem Arm_any {d P c m : Nat} {B : List Nat} {D : DS} (n b : Int) (w : World) (h : DAt w d P B c m D) (hn : n ≤ 9223372036854775807) :
    Calls Tryz.prog 56 #[.pointer (some ⟨d, 0, none⟩), .int .i64 n, .int .i64 b] w fun e w' => e = .returned (.tuple #[]) ∧ DAt w' d P B c m (armF D n b) ∧ Fr d B w w' := by
  have key : ∀ u v : Int, max n 0 = u → min (max b 0) 64 = v → (0 ≤ u ∧ u ≤ 9223372036854775807) → (0 ≤ v ∧ v ≤ 64) → (DAt ((w.setCell ⟨d, 1, none⟩ (.int .i64 u)).setCell ⟨d, 2, none⟩ (.int .i64 v)) d P B c m (armF D n b)) ∧ (w.setCell ⟨d, 1, none⟩ (.int .i64 u)).cell? ⟨d, 2, none⟩ = some (.int .i64 D.part) ∧ (w.setCell ⟨d, 1, none⟩ (.int .i64 u)).frozen? ⟨d, 2, none⟩ = false := by
    rintro u v rfl rfl hu hv
    have H1 := h.arm (max n 0) hu.1 hu.2
    exact ⟨H1.prt _ hv.1 hv.2, H1.f2, H1.box.frozen 2⟩
  have f1 := h.f1
  have fz1 := h.box.frozen 1
  have HK := Lib.hid key
  clear key h
  have hnc : 0 < n ∨ n = 0 ∨ n < 0 := by omega
  have hbc : 64 < b ∨ b = 64 ∨ (0 < b ∧ b < 64) ∨ b = 0 ∨ b < 0 := by omega
  rcases hnc with h1 | rfl | h1 <;> rcases hbc with h2 | rfl | ⟨h2, h3⟩ | rfl | h2
  · obtain ⟨HH, f2, fz2⟩ := HK.out n 64 (by omega) (by omega) (by omega) (by omega)
    have HH := Lib.hid HH
    go_enter Tryz.func56, Tryz.ntmps56
    go_wp2_with fail
    go_end0
    exact ⟨rfl, HH.out, ((Fr.refl d B w).set ⟨d, 1, none⟩ _ (.inl rfl)).set ⟨d, 2, none⟩ _ (.inl rfl)⟩
  · obtain ⟨HH, f2, fz2⟩ := HK.out n 64 (by omega) (by omega) (by omega) (by omega)
    have HH := Lib.hid HH
    go_enter Tryz.func56, Tryz.ntmps56
    go_wp2_with fail
    go_end0
    exact ⟨rfl, HH.out, ((Fr.refl d B w).set ⟨d, 1, none⟩ _ (.inl rfl)).set ⟨d, 2, none⟩ _ (.inl rfl)⟩
  · obtain ⟨HH, f2, fz2⟩ := HK.out n b (by omega) (by omega) (by omega) (by omega)
    have HH := Lib.hid HH
    go_enter Tryz.func56, Tryz.ntmps56
    go_wp2_with fail
    go_end0
    exact ⟨rfl, HH.out, ((Fr.refl d B w).set ⟨d, 1, none⟩ _ (.inl rfl)).set ⟨d, 2, none⟩ _ (.inl rfl)⟩
  · obtain ⟨HH, f2, fz2⟩ := HK.out n 0 (by omega) (by omega) (by omega) (by omega)
    have HH := Lib.hid HH
    go_enter Tryz.func56, Tryz.ntmps56
    go_wp2_with fail
    go_end0
    exact ⟨rfl, HH.out, ((Fr.refl d B w).set ⟨d, 1, none⟩ _ (.inl rfl)).set ⟨d, 2, none⟩ _ (.inl rfl)⟩
  · obtain ⟨HH, f2, fz2⟩ := HK.out n 0 (by omega) (by omega) (by omega) (by omega)
    have HH := Lib.hid HH
    go_enter Tryz.func56, Tryz.ntmps56
    go_wp2_with fail
    go_end0
    exact ⟨rfl, HH.out, ((Fr.refl d B w).set ⟨d, 1, none⟩ _ (.inl rfl)).set ⟨d, 2, none⟩ _ (.inl rfl)⟩
  · obtain ⟨HH, f2, fz2⟩ := HK.out 0 64 (by omega) (by omega) (by omega) (by omega)
    have HH := Lib.hid HH
    go_enter Tryz.func56, Tryz.ntmps56
    go_wp2_with fail
    go_end0
    exact ⟨rfl, HH.out, ((Fr.refl d B w).set ⟨d, 1, none⟩ _ (.inl rfl)).set ⟨d, 2, none⟩ _ (.inl rfl)⟩
  · obtain ⟨HH, f2, fz2⟩ := HK.out 0 64 (by omega) (by omega) (by omega) (by omega)
    have HH := Lib.hid HH
    go_enter Tryz.func56, Tryz.ntmps56
    go_wp2_with fail
    go_end0
    exact ⟨rfl, HH.out, ((Fr.refl d B w).set ⟨d, 1, none⟩ _ (.inl rfl)).set ⟨d, 2, none⟩ _ (.inl rfl)⟩
  · obtain ⟨HH, f2, fz2⟩ := HK.out 0 b (by omega) (by omega) (by omega) (by omega)
    have HH := Lib.hid HH
    go_enter Tryz.func56, Tryz.ntmps56
    go_wp2_with fail
    go_end0
    exact ⟨rfl, HH.out, ((Fr.refl d B w).set ⟨d, 1, none⟩ _ (.inl rfl)).set ⟨d, 2, none⟩ _ (.inl rfl)⟩
  · obtain ⟨HH, f2, fz2⟩ := HK.out 0 0 (by omega) (by omega) (by omega) (by omega)
    have HH := Lib.hid HH
    go_enter Tryz.func56, Tryz.ntmps56
    go_wp2_with fail
    go_end0
    exact ⟨rfl, HH.out, ((Fr.refl d B w).set ⟨d, 1, none⟩ _ (.inl rfl)).set ⟨d, 2, none⟩ _ (.inl rfl)⟩
  · obtain ⟨HH, f2, fz2⟩ := HK.out 0 0 (by omega) (by omega) (by omega) (by omega)
    have HH := Lib.hid HH
    go_enter Tryz.func56, Tryz.ntmps56
    go_wp2_with fail
    go_end0
    exact ⟨rfl, HH.out, ((Fr.refl d B w).set ⟨d, 1, none⟩ _ (.inl rfl)).set ⟨d, 2, none⟩ _ (.inl rfl)⟩
  · obtain ⟨HH, f2, fz2⟩ := HK.out 0 64 (by omega) (by omega) (by omega) (by omega)
    have HH := Lib.hid HH
    go_enter Tryz.func56, Tryz.ntmps56
    go_wp2_with fail
    go_end0
    exact ⟨rfl, HH.out, ((Fr.refl d B w).set ⟨d, 1, none⟩ _ (.inl rfl)).set ⟨d, 2, none⟩ _ (.inl rfl)⟩
  · obtain ⟨HH, f2, fz2⟩ := HK.out 0 64 (by omega) (by omega) (by omega) (by omega)
    have HH := Lib.hid HH
    go_enter Tryz.func56, Tryz.ntmps56
    go_wp2_with fail
    go_end0
    exact ⟨rfl, HH.out, ((Fr.refl d B w).set ⟨d, 1, none⟩ _ (.inl rfl)).set ⟨d, 2, none⟩ _ (.inl rfl)⟩
  · obtain ⟨HH, f2, fz2⟩ := HK.out 0 b (by omega) (by omega) (by omega) (by omega)
    have HH := Lib.hid HH
    go_enter Tryz.func56, Tryz.ntmps56
    go_wp2_with fail
    go_end0
    exact ⟨rfl, HH.out, ((Fr.refl d B w).set ⟨d, 1, none⟩ _ (.inl rfl)).set ⟨d, 2, none⟩ _ (.inl rfl)⟩
  · obtain ⟨HH, f2, fz2⟩ := HK.out 0 0 (by omega) (by omega) (by omega) (by omega)
    have HH := Lib.hid HH
    go_enter Tryz.func56, Tryz.ntmps56
    go_wp2_with fail
    go_end0
    exact ⟨rfl, HH.out, ((Fr.refl d B w).set ⟨d, 1, none⟩ _ (.inl rfl)).set ⟨d, 2, none⟩ _ (.inl rfl)⟩
  · obtain ⟨HH, f2, fz2⟩ := HK.out 0 0 (by omega) (by omega) (by omega) (by omega)
    have HH := Lib.hid HH
    go_enter Tryz.func56, Tryz.ntmps56
    go_wp2_with fail
    go_end0
    exact ⟨rfl, HH.out, ((Fr.refl d B w).set ⟨d, 1, none⟩ _ (.inl rfl)).set ⟨d, 2, none⟩ _ (.inl rfl)⟩
def restartF (D : DS) : DS := { D with down := false, armed := 0 }
set_option maxHeartbeats 1000000 in
theorem Restart_any {d P c m : Nat} {B : List Nat} {D : DS} (w : World) (h : DAt w d P B c m D) :
    Calls Tryz.prog 58 #[.pointer (some ⟨d, 0, none⟩)] w fun e w' => e = .returned (.tuple #[]) ∧ DAt w' d P B c m (restartF D) ∧ Fr d B w w' := by
  have f1 := h.f3
  have fz1 := h.box.frozen 3
  have H1 := h.dn false
  have f2 := H1.f1
  have fz2 := H1.box.frozen 1
  have H2 := H1.arm 0 (by omega) (by omega)
  dsimp only at f2
  have HH := Lib.hid H2
  clear H1 H2 h
  go_enter Tryz.func58, Tryz.ntmps58
  go_wp2_with fail
  go_end0
  exact ⟨rfl, HH.out, ((Fr.refl d B w).set ⟨d, 3, none⟩ _ (.inl rfl)).set ⟨d, 1, none⟩ _ (.inl rfl)⟩
theorem run_clear_pages (w : World) (ty : TypeId) (b n c : Nat) (hn : 0 < n)
    (hc : ∀ j, j < 64 * n → (w.cell? ⟨b, j, none⟩).isSome = true) (hf : ∀ j, j < 64 * n → w.frozen? ⟨b, j, none⟩ = false) :
    (Builtin.clear_ #[128] ty #[.slice (some ⟨b, 0, none⟩) n c]).run Tryz.prog w = .ok (.tuple #[]) (Co.setCells w b 0 (encB (List.replicate (64 * n) 0))) := by
  have hv := Tryz.zeroValue131
  obtain ⟨z, hz⟩ : ∃ z : Value, z.cells = Array.replicate 64 (.int .u8 0) ∧ ∀ w, (zeroValue 131).run Tryz.prog w = .ok z w := ⟨_, by rfl, hv⟩
  have hzc : (Builtin.zeroCells z.cells n).toList = encB (List.replicate (64 * n) 0) := by
    rw [hz.1]
    apply List.ext_getElem
    · simp [Builtin.zeroCells, encB, Nat.mul_comm]
    · intro i h1 h2
      simp only [Builtin.zeroCells, encB, Array.size_replicate, Array.getElem_toList, Array.getElem_map, Array.getElem_range, List.getElem_map, List.getElem_replicate]
      rw [getElem!_pos _ _ (by simp; omega)]
      simp
  have hst := run_storeCells_cells (P := Tryz.prog) b 0 (encB (List.replicate (64 * n) 0)) 0 w (by simpa using hc) (by simpa using hf) (by
    intro v hv'
    obtain ⟨x, _, rfl⟩ := List.mem_map.1 hv'
    rfl)
  simp only [Nat.add_zero] at hst
  obtain ⟨m, rfl⟩ : ∃ m, n = m + 1 := ⟨n - 1, by omega⟩
  simp [Builtin.clear_, run_underlying Tryz.underlying128, hz.2, hzc]
  rw [show List.replicate (64 * (m + 1)) (Value.int .u8 0) = encB (List.replicate (64 * (m + 1)) 0) by simp [encB], hst, ← setCells_eq]
  rfl
end Go.Proofs.YtkdjibejnncmfaaGreatDoor.Co

/- The walks of Lose, page.sum. -/
namespace Go.Proofs.YtkdjibejnncmfaaGreatDoor.Co
open Go.RowKit Go.Proofs.YtkdjibejnncmfaaGreatDoorW.PrintWords Go.Proofs.YtkdjibejnncmfaaGreatDoorW.PrintLast Go.Proofs.YtkdjibejnncmfaaGreatDoorW.PrintMore
set_option linter.unusedVariables false
set_option linter.unusedSimpArgs false
set_option maxRecDepth 100000
def loseF (n m : Nat) (D : DS) (i : Int) : DS × Int := if hasF n m i 0 then (D.put i.toNat 0 (List.replicate (64 * m) 0), 0) else (D, 1)
set_option maxHeartbeats 1000000 in
theorem Lose_any {d P c m : Nat} {B : List Nat} {D : DS} (i : Int) (w : World) (h : DAt w d P B c m D) :
    Calls Tryz.prog 47 #[.pointer (some ⟨d, 0, none⟩), .int .i64 i] w fun e w' => e = .returned (.int .i64 (loseF B.length m D i).2) ∧ DAt w' d P B c m (loseF B.length m D i).1 ∧ Fr d B w w' := by
  have H := Lib.hid h
  clear h
  by_cases h2 : hasF B.length m i 0 = true
  · have HW : Hid (loseF B.length m D i = (D.put i.toNat 0 (List.replicate (64 * m) 0), 0)) := Lib.hid (by unfold loseF; rw [if_pos h2])
    obtain ⟨i', rfl, hi⟩ : ∃ i' : Nat, i = (i' : Int) ∧ i' < B.length := by
      unfold hasF at h2
      simp only [Bool.and_eq_true, decide_eq_true_eq] at h2
      exact ⟨i.toNat, by omega, by omega⟩
    have f0 := H.out.f0
    have r0 := H.out.row i' hi
    have hx := H.out.cap
    have hmm := H.out.few
    have hm2 := H.out.two
    have HD := Lib.hid (H.out.dsk i' hi)
    have hcx0 : ∀ q, q < 64 * m → (w.cell? ⟨B.getD i' 0, q, none⟩).isSome = true := by
      intro q hq; rw [H.out.byte i' hi q hq]; rfl
    have hcl := run_clear_pages w 0 (B.getD i' 0) m m (by omega) hcx0 (fun q hq => HD.out.frozen _)
    have HP := Lib.hid (H.out.put i' hi 0 (List.replicate (64 * m) 0) (fun x hx => by rw [(List.mem_replicate.1 hx).2]; exact ⟨by omega, by omega⟩))
    obtain ⟨b, hb⟩ : ∃ b, b = B.getD i' 0 := ⟨_, rfl⟩
    have HBM : Hid (b ∈ B) := Lib.hid (by rw [hb]; exact DAt.b_mem hi)
    rw [← hb] at r0 hcl HP
    obtain ⟨W1, hW1⟩ : ∃ W1, W1 = Co.setCells w b 0 (encB (List.replicate (64 * m) 0)) := ⟨_, rfl⟩
    rw [← hW1] at hcl HP
    have HF : Hid (Fr d B w W1) := Lib.hid (by rw [hW1]; exact (Fr.refl _ _ _).sets _ _ _ (.inr HBM.out))
    clear hcx0 hb hW1 HD
    go_enter Tryz.func47, Tryz.ntmps47
    go_wp2_with fail
    refine (has_any _ _ w H.out).mono ?_
    rintro e w' ⟨rfl, rfl⟩
    rw [h2]
    go_wp2_with fail
    go_ret
    exact ⟨ret_int' (by rw [HW.out]), by rw [HW.out]; exact HP.out, HF.out⟩
  · have h2' : hasF B.length m i 0 = false := by simpa using h2
    have HW : Hid (loseF B.length m D i = (D, 1)) := Lib.hid (by unfold loseF; rw [if_neg h2])
    go_enter Tryz.func47, Tryz.ntmps47
    go_wp2_with fail
    refine (has_any _ _ w H.out).mono ?_
    rintro e w' ⟨rfl, rfl⟩
    rw [h2']
    go_wp2_with fail
    go_ret
    exact ⟨ret_int' (by rw [HW.out]), by rw [HW.out]; exact H.out, Fr.refl _ _ _⟩
end Go.Proofs.YtkdjibejnncmfaaGreatDoor.Co

/- The walk of page.sum. -/
namespace Go.Proofs.YtkdjibejnncmfaaGreatDoor.Co
open Go.RowKit Go.Proofs.YtkdjibejnncmfaaGreatDoorW.PrintWords Go.Proofs.YtkdjibejnncmfaaGreatDoorW.PrintLast Go.Proofs.YtkdjibejnncmfaaGreatDoorW.PrintMore
set_option linter.unusedVariables false
set_option linter.unusedSimpArgs false
set_option maxRecDepth 100000
/-- The sum of a page at an index. -/
def psum (pg : List Int) (at_ : Nat) : Nat := sumF (strOfNums (pg.take 56) ++ strOfNums [((at_ % 256 : Nat) : Int), ((at_ / 256 % 256 : Nat) : Int)])
set_option maxHeartbeats 1000000 in
theorem psum_any (b off : Nat) (pg : List Int) (at_ : Nat) (w : World) (hl : pg.length = 64) (hc : ∀ j : Nat, j < 64 → w.cell? ⟨b, off + j, none⟩ = some (.int .u8 (rd pg j))) (hat : at_ < 65536) :
    Calls Tryz.prog 149 #[.pointer (some ⟨b, off, none⟩), .int .i64 at_] w fun e w' => e = .returned (.int .u64 (psum pg at_ : Nat)) ∧ Below w.heap.size w w' := by
  obtain ⟨S1, hS1⟩ : ∃ S1, S1 = strOfNums (pg.take 56) := ⟨_, rfl⟩
  obtain ⟨S2, hS2⟩ : ∃ S2, S2 = strOfNums [((at_ % 256 : Nat) : Int), ((at_ / 256 % 256 : Nat) : Int)] := ⟨_, rfl⟩
  have hconv : ∀ W : World, (∀ j : Nat, j < 64 → W.cell? ⟨b, off + j, none⟩ = some (.int .u8 (rd pg j))) → (convert 46 9 (.slice (some ⟨b, off, none⟩) 56 64)).run Tryz.prog W = .ok (.string S1) W := by
    intro W hW
    rw [hS1]
    refine run_convert_bytes_arg W 46 5 Tryz.underlying46 Tryz.underlying5 b off 56 64 (pg.take 56) (by rw [List.length_take]; omega) (fun i hi => ?_) 9 Tryz.underlying9
    rw [hW i (by omega)]
    unfold rd
    rw [Int.toNat_natCast, List.getD_eq_getElem?_getD, List.getD_eq_getElem?_getD, List.getElem?_take, if_pos hi]
  have k1 := hconv w.drew hc
  have e1 : IntKind.u8.wrap (at_ : Int) = ((at_ % 256 : Nat) : Int) := by rw [IntKind.wrap_u8']; omega
  have e2 : IntKind.u8.wrap ((at_ : Int) / 256) = ((at_ / 256 % 256 : Nat) : Int) := by rw [IntKind.wrap_u8']; omega
  have k2 := hconv (w.alloc (.cells #[.int .u8 (IntKind.u8.wrap (at_ : Int)), .int .u8 (IntKind.u8.wrap ((at_ : Int) / 256))] 5)).drew (fun j hj => cell_below (below_al (Below.refl _ _) _).drew (hc j hj))
  have k3 : (convert 46 9 (.slice (some ⟨w.heap.size, 0, none⟩) 2 2)).run Tryz.prog (w.alloc (.cells #[.int .u8 (IntKind.u8.wrap (at_ : Int)), .int .u8 (IntKind.u8.wrap ((at_ : Int) / 256))] 5)).drew = .ok (.string S2) (w.alloc (.cells #[.int .u8 (IntKind.u8.wrap (at_ : Int)), .int .u8 (IntKind.u8.wrap ((at_ : Int) / 256))] 5)).drew := by
    rw [hS2]
    refine run_convert_bytes_arg _ 46 5 Tryz.underlying46 Tryz.underlying5 w.heap.size 0 2 2 _ rfl (fun i hi => ?_) 9 Tryz.underlying9
    have hbx := Box.new w #[.int .u8 (IntKind.u8.wrap (at_ : Int)), .int .u8 (IntKind.u8.wrap ((at_ : Int) / 256))] 5
    have h0 := hbx.cell 0
    have h1 := hbx.cell 1
    rcases i with _ | _ | i
    · rw [← e1]; exact h0
    · rw [← e2]; exact h1
    · omega
  have HP : Hid (psum pg at_ = sumF (S1 ++ S2)) := Lib.hid (by rw [hS1, hS2]; rfl)
  have hs1 : S1.size = 56 := by rw [hS1, strOfNums_size, List.length_take]; omega
  have hs2 : S2.size = 2 := by rw [hS2, strOfNums_size]; rfl
  have hsz : (S1 ++ S2).size ≤ 9223372036854775807 := by
    rw [ByteArray.size_append]; omega
  clear hconv hS1 hS2 e1 e2
  go_enter Tryz.func149, Tryz.ntmps149
  go_wp2_with fail
  go_region_with ((go_at_call 23; refine (Sum_any (S1 ++ S2) _ hsz).mono ?_; rintro e w' ⟨rfl, rfl⟩))
  all_goals
    go_wp2_with fail
    go_ret
    exact ⟨by rw [HP.out]; rfl, by (repeat (first | assumption | exact Below.refl _ _ | apply Below.drew | apply below_al))⟩
end Go.Proofs.YtkdjibejnncmfaaGreatDoor.Co

/- The walks of kind.first, made. -/
namespace Go.Proofs.YtkdjibejnncmfaaGreatDoor.Co
open Go.RowKit Go.Proofs.YtkdjibejnncmfaaGreatDoorW.PrintWords Go.Proofs.YtkdjibejnncmfaaGreatDoorW.PrintLast Go.Proofs.YtkdjibejnncmfaaGreatDoorW.PrintMore
set_option linter.unusedVariables false
set_option linter.unusedSimpArgs false
set_option maxRecDepth 100000
/-- The first page of the slot of a life. -/
def firstF (m life : Nat) : Nat := life % 2 * (m / 2)
abbrev kindV (life stripes enough : Nat) : Value := .agg #[.int .i64 life, .int .i64 stripes, .int .i64 enough]
set_option maxHeartbeats 1000000 in
theorem first_kind {d P c m : Nat} {B : List Nat} {D : DS} (life stripes enough : Nat) (w : World) (h : DAt w d P B c m D) (hl : life ≤ 9223372036854775807) :
    Calls Tryz.prog 132 #[kindV life stripes enough, .pointer (some ⟨d, 0, none⟩)] w fun e w' => e = .returned (.int .i64 (firstF m life : Nat)) ∧ Below w.heap.size w w' := by
  have H := Lib.hid h
  have hm := h.few
  clear h
  have hw : ∃ W, W = w.alloc (.cells #[.int .i64 life, .int .i64 stripes, .int .i64 enough] 139) := ⟨_, rfl⟩
  have x0 : (w.alloc (.cells #[.int .i64 life, .int .i64 stripes, .int .i64 enough] 139)).cell? ⟨w.heap.size, 0, none⟩ = some (.int .i64 life) := (Box.new w _ _).cell 0
  have HB : Hid (Below w.heap.size w (w.alloc (.cells #[.int .i64 life, .int .i64 stripes, .int .i64 enough] 139))) := Lib.hid (below_al (Below.refl _ _) _)
  obtain ⟨r, hr⟩ : ∃ r : Nat, r = life % 2 := ⟨_, rfl⟩
  obtain ⟨q, hq⟩ : ∃ q : Nat, q = m / 2 := ⟨_, rfl⟩
  have hmod : (life : Int).tmod 2 = (r : Int) := by rw [Int.tmod_eq_emod_of_nonneg (by omega)]; omega
  have hmod2 : (life : Int) % 2 = (r : Int) := by omega
  have hmul : (r : Int) * (q : Int) = ((firstF m life : Nat) : Int) := by rw [← Int.natCast_mul, hr, hq]; rfl
  have hle : firstF m life ≤ 1024 := by
    unfold firstF
    have h1 : life % 2 ≤ 1 := by omega
    have h2 : m / 2 ≤ 1024 := by omega
    calc life % 2 * (m / 2) ≤ 1 * (m / 2) := Nat.mul_le_mul_right _ h1
      _ ≤ 1024 := by omega
  have hwr : IntKind.i64.wrap ((firstF m life : Nat) : Int) = ((firstF m life : Nat) : Int) := IntWalk.i64_in _ ⟨by omega, by omega⟩
  have hwr0 : IntKind.i64.wrap ((r : Nat) : Int) = ((r : Nat) : Int) := IntWalk.i64_in _ ⟨by omega, by omega⟩
  have HS : Hid (∀ W, Below w.heap.size w W → Calls Tryz.prog 95 #[.pointer (some ⟨d, 0, none⟩)] W fun e w' => e = .returned (.int .i64 (q : Int)) ∧ W = w') := Lib.hid (fun W hW => by rw [hq]; exact slot_any W (H.out.below hW))
  clear hr hq
  go_enter Tryz.func132, Tryz.ntmps132
  go_wp2_with fail
  obtain ⟨W, hW⟩ := hw
  rw [← hW] at x0 HB ⊢
  clear hW
  go_region_held3 (fun W' => Below w.heap.size w W' ∧ W'.cell? ⟨w.heap.size, 0, none⟩ = some (.int .i64 life)) (and_intros <;> first | assumption | exact HB.out.drew | exact HB.out)
    ((go_at_call 95; refine (HS.out _ (by first | exact HB.out.drew | exact HB.out)).mono ?_; rintro e w' ⟨rfl, rfl⟩))
  all_goals
    go_wp2_with fail
    go_ret
    exact ⟨by first | rfl | (trace_state; rfl), by first | exact HB.out.drew | exact HB.out⟩
end Go.Proofs.YtkdjibejnncmfaaGreatDoor.Co

/- The walk of made. -/
namespace Go.Proofs.YtkdjibejnncmfaaGreatDoor.Co
open Go.RowKit Go.Proofs.YtkdjibejnncmfaaGreatDoorW.PrintWords Go.Proofs.YtkdjibejnncmfaaGreatDoorW.PrintLast Go.Proofs.YtkdjibejnncmfaaGreatDoorW.PrintMore
set_option linter.unusedVariables false
set_option linter.unusedSimpArgs false
set_option maxRecDepth 100000
def mp1 (piece : ByteArray) : List Int := setL (List.replicate 64 0) 0 ((wrBytes piece).take 40)
def mp2 (life : Nat) (piece : ByteArray) : List Int := setL (mp1 piece) 40 (leB life 8)
def mp3 (life stripes : Nat) (piece : ByteArray) : List Int := setL (mp2 life piece) 48 (leB stripes 2)
def mp4 (life stripes enough disk : Nat) (piece : ByteArray) : List Int := ((mp3 life stripes piece).set 50 (enough : Int)).set 51 (disk : Int)
def mp5 (n life stripes enough disk : Nat) (piece : ByteArray) : List Int := setL (mp4 life stripes enough disk piece) 52 (leB n 4)
def madeF (n life stripes enough disk at_ : Nat) (piece : ByteArray) : List Int := setL (mp5 n life stripes enough disk piece) 56 (leB (psum (mp5 n life stripes enough disk piece) at_) 8)
abbrev pageV (pg : List Int) : Value := .agg (encB pg).toArray
theorem mp1_len (piece : ByteArray) : (mp1 piece).length = 64 := by unfold mp1; rw [setL_length, List.length_replicate]
theorem mp2_len (life : Nat) (piece : ByteArray) : (mp2 life piece).length = 64 := by unfold mp2; rw [setL_length, mp1_len]
theorem mp3_len (life stripes : Nat) (piece : ByteArray) : (mp3 life stripes piece).length = 64 := by unfold mp3; rw [setL_length, mp2_len]
theorem mp4_len (life stripes enough disk : Nat) (piece : ByteArray) : (mp4 life stripes enough disk piece).length = 64 := by unfold mp4; rw [List.length_set, List.length_set, mp3_len]
theorem mp5_len (n life stripes enough disk : Nat) (piece : ByteArray) : (mp5 n life stripes enough disk piece).length = 64 := by unfold mp5; rw [setL_length, mp4_len]
theorem madeF_len (n life stripes enough disk at_ : Nat) (piece : ByteArray) : (madeF n life stripes enough disk at_ piece).length = 64 := by unfold madeF; rw [setL_length, mp5_len]
theorem box_byte {w : World} {g : Nat} {e : TypeId} {l : List Int} (h : Box w g e (encB l).toArray) (j : Nat) (hj : j < l.length) : w.cell? ⟨g, j, none⟩ = some (.int .u8 (rd l j)) := by
  rw [h.cell j]
  unfold rd
  simp only [List.getElem?_toArray, encB, List.getElem?_map, Int.toNat_natCast]
  have e : l[j]? = some (l.getD j 0) := by
    rw [List.getD_eq_getElem?_getD, List.getElem?_eq_getElem hj]; rfl
  rw [e]; rfl
theorem box_put {w : World} {g : Nat} {e : TypeId} {l : List Int} (h : Box w g e (encB l).toArray) (off : Nat) (bs : List Int) : Box (Co.setCells w g off (encB bs)) g e (encB (setL l off bs)).toArray := by
  rw [show encB (setL l off bs) = setL (encB l) off (encB bs) from setL_map _ _ _ _]
  exact h.setCells off (encB bs)
theorem at_world {P : Program} {c : Code} {Q : Exit → Act → World → Prop} {a : Act} {W0 : World} (W : World) (h : W = W0) (k : Code.wp P c Q a W0) : Code.wp P c Q a W := h ▸ k
theorem setRow_below {N g : Nat} {w0 w : World} (hb : Below N w0 w) (hg : N ≤ g) (cs : Array Value) : Below N w0 (w.setRow g cs) :=
  ⟨hb.os, hb.tape, hb.output, by rw [setRow_size]; exact hb.size, fun k hk => by rw [setRow_other w g k cs (by omega)]; exact hb.block k hk⟩
/-- What lies in memory while a page is made. -/
structure MSt (w W : World) (life stripes enough : Nat) (cur : List Int) : Prop where
  kind : Box W w.heap.size 139 #[.int .i64 life, .int .i64 stripes, .int .i64 enough]
  res : Box W (w.heap.size + 1) 131 (encB (List.replicate 64 0)).toArray
  page : Box W (w.heap.size + 1 + 1) 131 (encB cur).toArray
  b : Below w.heap.size w W
section
variable {w W W' : World} {life stripes enough : Nat} {cur : List Int}
theorem MSt.below (h : MSt w W life stripes enough cur) (hb : Below W.heap.size W W') : MSt w W' life stripes enough cur := ⟨h.kind.below hb h.kind.lt, h.res.below hb h.res.lt, h.page.below hb h.page.lt, belt h.b hb⟩
theorem MSt.put (h : MSt w W life stripes enough cur) (off : Nat) (bs : List Int) : MSt w (Co.setCells W (w.heap.size + 1 + 1) off (encB bs)) life stripes enough (setL cur off bs) :=
  ⟨h.kind.sets_far (by omega) _ _, h.res.sets_far (by omega) _ _, box_put h.page off bs, setCells_below h.b _ _ (by omega) _⟩
theorem MSt.set (h : MSt w W life stripes enough cur) (off : Nat) (x : Int) : MSt w (W.setCell ⟨w.heap.size + 1 + 1, off, none⟩ (.int .u8 x)) life stripes enough (cur.set off x) := by
  refine ⟨h.kind.far (by show w.heap.size ≠ w.heap.size + 1 + 1; omega) _, h.res.far (by show w.heap.size + 1 ≠ w.heap.size + 1 + 1; omega) _, ?_, h.b.setCell (by show w.heap.size ≤ w.heap.size + 1 + 1; omega) _⟩
  have := h.page.set off (.int .u8 x)
  rw [List.setIfInBounds_toArray] at this
  rw [show encB (cur.set off x) = (encB cur).set off (.int .u8 x) from List.map_set]
  exact this
theorem MSt.start (w : World) (life stripes enough : Nat) : MSt w (((w.alloc (.cells #[.int .i64 life, .int .i64 stripes, .int .i64 enough] 139)).alloc (.cells (encB (List.replicate 64 0)).toArray 131)).alloc (.cells (encB (List.replicate 64 0)).toArray 131)) life stripes enough (List.replicate 64 0) := by
  refine ⟨((Box.new w _ _).alloc _).alloc _, ?_, ?_, below_al (below_al (below_al (Below.refl _ _) _) _) _⟩
  · have := (Box.new (w.alloc (.cells #[.int .i64 life, .int .i64 stripes, .int .i64 enough] 139)) (encB (List.replicate 64 0)).toArray 131).alloc (.cells (encB (List.replicate 64 0)).toArray 131)
    simpa using this
  · have := Box.new ((w.alloc (.cells #[.int .i64 life, .int .i64 stripes, .int .i64 enough] 139)).alloc (.cells (encB (List.replicate 64 0)).toArray 131)) (encB (List.replicate 64 0)).toArray 131
    simpa using this
end
set_option maxHeartbeats 2000000 in
theorem made_any {d P c m : Nat} {B : List Nat} {D : DS} (life stripes enough disk at_ : Nat) (piece : ByteArray) (w : World) (h : DAt w d P B c m D) (hlife : life ≤ 9223372036854775807) (hst : stripes ≤ 1024) (hen : enough ≤ 12) (hdi : disk ≤ 12) (hat : at_ < 65536) (hps : piece.size ≤ 9223372036854775807) :
    Calls Tryz.prog 133 #[kindV life stripes enough, .pointer (some ⟨d, 0, none⟩), .int .i64 disk, .int .i64 at_, .string piece] w fun e w' => e = .returned (pageV (madeF B.length life stripes enough disk at_ piece)) ∧ Below w.heap.size w w' := by
  have H := Lib.hid h
  have hm := h.few
  have hn := h.most
  clear h
  go_enter Tryz.func133, Tryz.ntmps133
  go_upto_region 2 with fail
  have HM0 := Lib.hid (MSt.start w life stripes enough)
  obtain ⟨W0, hW0⟩ : ∃ W0, W0 = (((w.alloc (.cells #[.int .i64 life, .int .i64 stripes, .int .i64 enough] 139)).alloc (.cells (encB (List.replicate 64 0)).toArray 131)).alloc (.cells (encB (List.replicate 64 0)).toArray 131)) := ⟨_, rfl⟩
  rw [← hW0] at HM0
  refine at_world (W0 := W0) _ (by rw [hW0]; rfl) ?_
  clear hW0
  have hcp := run_copy_str (P := Tryz.prog) W0 46 9 3 5 (w.heap.size + 1 + 1) 0 40 64 piece Tryz.underlying46 sizeOf5 (fun q hq => by have := box_byte HM0.out.page q (by simp; omega); rw [Nat.zero_add, this]; rfl) (fun q hq => HM0.out.page.frozen _)
  have HM1 : Hid (MSt w (Co.setCells W0 (w.heap.size + 1 + 1) 0 (encB ((wrBytes piece).take 40))) life stripes enough (mp1 piece)) := Lib.hid (HM0.out.put 0 ((wrBytes piece).take 40))
  obtain ⟨W1, hW1⟩ : ∃ W1, W1 = Co.setCells W0 (w.heap.size + 1 + 1) 0 (encB ((wrBytes piece).take 40)) := ⟨_, rfl⟩
  rw [← hW1] at hcp HM1
  clear hW1 HM0
  go_upto_region 3 with fail
  have hwl : IntKind.u64.wrap (life : Int) = (life : Int) := by rw [IntKind.wrap_u64]; omega
  have x0 := HM1.out.kind.cell 0
  simp only [List.getElem?_toArray, List.getElem?_cons_zero] at x0
  have HM2 : Hid (MSt w (Co.setCells W1.drew (w.heap.size + 1 + 1) 40 (encB (leB life 8))) life stripes enough (mp2 life piece)) := Lib.hid ((HM1.out.below (Below.refl _ _).drew).put 40 (leB life 8))
  obtain ⟨W2, hW2⟩ : ∃ W2, W2 = Co.setCells W1.drew (w.heap.size + 1 + 1) 40 (encB (leB life 8)) := ⟨_, rfl⟩
  rw [← hW2] at HM2
  have y0 := HM2.out.kind.cell 0
  simp only [List.getElem?_toArray, List.getElem?_cons_zero] at y0
  have hput : Hid (Calls Tryz.prog 131 #[.slice (some ⟨w.heap.size + 1 + 1, 40, none⟩) 8 24, .int .u64 life] W1.drew fun e w' => e = .returned (.tuple #[]) ∧ w' = W2) := Lib.hid (by
    have := put_any (w.heap.size + 1 + 1) 40 8 24 life 131 (encB (mp1 piece)) W1.drew (by omega) (HM1.out.below (Below.refl _ _).drew).page (by rw [List.length_map, mp1_len]; omega) (by omega)
    rw [← hW2] at this
    exact this)
  have d0 : W1.drew.cell? ⟨w.heap.size, 0, none⟩ = some (.int .i64 life) := x0
  clear hW2
  go_region_held3 (fun W => W.cell? ⟨w.heap.size, 0, none⟩ = some (.int .i64 life)) (assumption)
    ((go_at_call 131; refine hput.out.mono ?_; rintro e W2 ⟨rfl, rfl⟩))
  clear hput d0 x0 y0 hcp HM1 hwl
  go_upto_region 4 with fail
  have hws : IntKind.u64.wrap (stripes : Int) = (stripes : Int) := by rw [IntKind.wrap_u64]; omega
  have HM3 : Hid (MSt w (Co.setCells W2.drew (w.heap.size + 1 + 1) 48 (encB (leB stripes 2))) life stripes enough (mp3 life stripes piece)) := Lib.hid ((HM2.out.below (Below.refl _ _).drew).put 48 (leB stripes 2))
  have x1 := HM2.out.kind.cell 1
  simp only [List.getElem?_toArray, List.getElem?_cons_zero, List.getElem?_cons_succ] at x1
  obtain ⟨W3, hW3⟩ : ∃ W3, W3 = Co.setCells W2.drew (w.heap.size + 1 + 1) 48 (encB (leB stripes 2)) := ⟨_, rfl⟩
  rw [← hW3] at HM3
  have y1 := HM3.out.kind.cell 1
  simp only [List.getElem?_toArray, List.getElem?_cons_zero, List.getElem?_cons_succ] at y1
  have hput : Hid (Calls Tryz.prog 131 #[.slice (some ⟨w.heap.size + 1 + 1, 48, none⟩) 2 16, .int .u64 stripes] W2.drew fun e w' => e = .returned (.tuple #[]) ∧ w' = W3) := Lib.hid (by
    have := put_any (w.heap.size + 1 + 1) 48 2 16 stripes 131 (encB (mp2 life piece)) W2.drew (by omega) (HM2.out.below (Below.refl _ _).drew).page (by rw [List.length_map, mp2_len]; omega) (by omega)
    rw [← hW3] at this
    exact this)
  have d1 : W2.drew.cell? ⟨w.heap.size, 1, none⟩ = some (.int .i64 stripes) := x1
  clear hW3
  go_region_held3 (fun W => W.cell? ⟨w.heap.size, 1, none⟩ = some (.int .i64 stripes)) (assumption)
    ((go_at_call 131; refine hput.out.mono ?_; rintro e W3 ⟨rfl, rfl⟩))
  clear hput d1 x1 y1 HM2 hws
  have hwe : IntKind.u8.wrap (enough : Int) = (enough : Int) := by rw [IntKind.wrap_u8']; omega
  have hwd : IntKind.u8.wrap (disk : Int) = (disk : Int) := by rw [IntKind.wrap_u8']; omega
  have x2 := HM3.out.kind.cell 2
  simp only [List.getElem?_toArray, List.getElem?_cons_zero, List.getElem?_cons_succ] at x2
  have b50 := box_byte HM3.out.page 50 (by rw [mp3_len]; omega)
  have f50 := HM3.out.page.frozen 50
  have HS := HM3.out.set 50 (enough : Int)
  have b51 := box_byte HS.page 51 (by rw [List.length_set, mp3_len]; omega)
  have f51 := HS.page.frozen 51
  have HM4 : Hid (MSt w ((W3.setCell ⟨w.heap.size + 1 + 1, 50, none⟩ (.int .u8 enough)).setCell ⟨w.heap.size + 1 + 1, 51, none⟩ (.int .u8 disk)) life stripes enough (mp4 life stripes enough disk piece)) := Lib.hid (HS.set 51 (disk : Int))
  clear HS HM3
  go_upto_region 6 with fail
  clear b50 f50 b51 f51 x2 hwe hwd
  obtain ⟨W4, hW4⟩ : ∃ W4, W4 = ((W3.setCell ⟨w.heap.size + 1 + 1, 50, none⟩ (.int .u8 enough)).setCell ⟨w.heap.size + 1 + 1, 51, none⟩ (.int .u8 disk)) := ⟨_, rfl⟩
  rw [← hW4] at HM4 ⊢
  clear hW4
  have hwn : IntKind.u64.wrap (B.length : Int) = (B.length : Int) := by rw [IntKind.wrap_u64]; omega
  have HM5 : Hid (MSt w (Co.setCells W4.drew (w.heap.size + 1 + 1) 52 (encB (leB B.length 4))) life stripes enough (mp5 B.length life stripes enough disk piece)) := Lib.hid ((HM4.out.below (Below.refl _ _).drew).put 52 (leB B.length 4))
  obtain ⟨W5, hW5⟩ : ∃ W5, W5 = Co.setCells W4.drew (w.heap.size + 1 + 1) 52 (encB (leB B.length 4)) := ⟨_, rfl⟩
  rw [← hW5] at HM5
  have hput : Hid (Calls Tryz.prog 131 #[.slice (some ⟨w.heap.size + 1 + 1, 52, none⟩) 4 12, .int .u64 B.length] W4.drew fun e w' => e = .returned (.tuple #[]) ∧ w' = W5) := Lib.hid (by
    have := put_any (w.heap.size + 1 + 1) 52 4 12 B.length 131 (encB (mp4 life stripes enough disk piece)) W4.drew (by omega) (HM4.out.below (Below.refl _ _).drew).page (by rw [List.length_map, mp4_len]; omega) (by omega)
    rw [← hW5] at this
    exact this)
  have hcnt : Hid (Calls Tryz.prog 92 #[.pointer (some ⟨d, 0, none⟩)] W4.drew fun e w' => e = .returned (.int .i64 B.length) ∧ W4.drew = w') := Lib.hid (Count_any W4.drew (H.out.below (HM4.out.b.trans ((Below.refl _ _).drew))))
  clear hW5
  go_region_held3 (fun W => True) (trivial)
    (first
      | ((go_at_call 92; refine hcnt.out.mono ?_; rintro e w' ⟨rfl, rfl⟩))
      | ((go_at_call 131; refine hput.out.mono ?_; rintro e W5 ⟨rfl, rfl⟩)))
  clear hput hcnt hwn HM4
  go_upto_region 7 with fail
  obtain ⟨pg, hpg⟩ : ∃ pg, pg = mp5 B.length life stripes enough disk piece := ⟨_, rfl⟩
  have hpl : pg.length = 64 := by rw [hpg, mp5_len]
  rw [← hpg] at HM5
  have HMF : Hid (madeF B.length life stripes enough disk at_ piece = setL pg 56 (leB (psum pg at_) 8)) := Lib.hid (by rw [hpg]; rfl)
  clear hpg
  have hsum : Hid (Calls Tryz.prog 149 #[.pointer (some ⟨w.heap.size + 1 + 1, 0, none⟩), .int .i64 at_] W5.drew fun e w' => e = .returned (.int .u64 (psum pg at_ : Nat)) ∧ Below W5.drew.heap.size W5.drew w') := Lib.hid (by
    exact psum_any (w.heap.size + 1 + 1) 0 pg at_ W5.drew hpl (fun j hj => by rw [Nat.zero_add]; exact box_byte (HM5.out.below (Below.refl _ _).drew).page j (by omega)) hat)
  have hput : Hid (∀ W : World, Below W5.drew.heap.size W5.drew W → Calls Tryz.prog 131 #[.slice (some ⟨w.heap.size + 1 + 1, 56, none⟩) 8 8, .int .u64 (psum pg at_ : Nat)] W fun e w' => e = .returned (.tuple #[]) ∧ MSt w w' life stripes enough (setL pg 56 (leB (psum pg at_) 8))) := Lib.hid (fun W hW => by
    have hM := (HM5.out.below (Below.refl _ _).drew).below hW
    refine (put_any (w.heap.size + 1 + 1) 56 8 8 (psum pg at_) 131 (encB pg) W (by unfold psum sumF; exact sumK_lt _ _) hM.page (by rw [List.length_map, hpl]; omega) (by omega)).mono ?_
    rintro e w' ⟨he, rfl⟩
    exact ⟨he, hM.put 56 _⟩)
  go_region_held3 (fun W => True) (trivial)
    (first
      | ((go_at_call 149; refine hsum.out.mono ?_; rintro e w6 ⟨rfl, hb6⟩))
      | ((go_at_call 131; refine (hput.out _ (by assumption)).mono ?_; rintro e W6 ⟨rfl, hm6⟩)))
  have HM6 := Lib.hid hm6
  rw [← HMF.out] at HM6
  clear hm6 hput hsum HM5 hb6 hpl HMF
  obtain ⟨fin, hfin⟩ : ∃ fin, fin = madeF B.length life stripes enough disk at_ piece := ⟨_, rfl⟩
  have hfl : fin.length = 64 := by rw [hfin, madeF_len]
  rw [← hfin] at HM6
  have hsz : (Tryz.prog.info? 131).map (·.size) = some (encB fin).toArray.size := by
    have h := info131
    cases hi : Tryz.prog.info? 131 with
    | none => rw [hi] at h; cases h
    | some i =>
      rw [hi] at h
      simp only [Option.map_some, Option.some.injEq, Prod.mk.injEq] at h
      simp [h.2.1, hfl]
  have hall : (encB fin).toArray.all (·.oneCell') = true := by
    rw [Array.all_eq_true_iff_forall_mem]
    intro v hv
    obtain ⟨x, _, rfl⟩ := List.mem_map.1 (by simpa using hv)
    rfl
  obtain ⟨arr, harr⟩ : ∃ arr, arr = (encB fin).toArray := ⟨_, rfl⟩
  have hpg : W6.heap[w.heap.size + 1 + 1]? = some (.cells arr 131 (0, 0)) := by rw [harr]; exact HM6.out.page
  have hrs : W6.heap[w.heap.size + 1]? = some (.cells (encB (List.replicate 64 0)).toArray 131 (0, 0)) := HM6.out.res
  have hosz : (encB (List.replicate 64 0)).toArray.size = arr.size := by rw [harr]; simp [hfl]
  rw [← harr] at hsz hall
  have HX := Lib.hid (And.intro hpg (And.intro hrs (And.intro hosz (And.intro hsz hall))))
  have HR := Lib.hid (setRow_heap W6 (w.heap.size + 1) _ arr 131 (0, 0) hrs)
  have HB := Lib.hid (setRow_below (g := w.heap.size + 1) HM6.out.b (by omega) arr)
  have HA := Lib.hid harr
  have HFIN := Lib.hid hfin
  clear hpg hrs hosz hsz hall harr hfin
  go_wp2_with (first
    | (refine wpList_load_row rfl 131 (.tmp 11) rfl (w.heap.size + 1 + 1) rfl 131 arr (0, 0) _ HX.out.1 Tryz.underlying131 rfl HX.out.2.2.2.1 ?_)
    | (refine wpList_store_rowTo rfl 131 (.tmp 10) (.tmp 41) rfl rfl (w.heap.size + 1) arr rfl rfl 131 _ HX.out.2.1 HX.out.2.2.2.1 HX.out.2.2.1 HX.out.2.2.2.2 ?_))
  refine bodyPost_ret (v := .agg arr) (results_cell_row rfl _ _ (w.heap.size + 1) 131 arr (0, 0) _ rfl HR.out Tryz.underlying131 rfl HX.out.2.2.2.1) rfl ⟨?_, HB.out⟩
  rw [HA.out, HFIN.out]
end Go.Proofs.YtkdjibejnncmfaaGreatDoor.Co

/- Pages and where they have to be, in memory; the walk of all. -/
namespace Go.Proofs.YtkdjibejnncmfaaGreatDoor.Co
open Go.RowKit Go.Proofs.YtkdjibejnncmfaaGreatDoorW.PrintWords Go.Proofs.YtkdjibejnncmfaaGreatDoorW.PrintLast Go.Proofs.YtkdjibejnncmfaaGreatDoorW.PrintMore
set_option linter.unusedVariables false
set_option linter.unusedSimpArgs false
set_option maxRecDepth 100000
structure Placed where
  disk : Nat
  at_ : Nat
  page : List Int
def pcells (x : Placed) : List Value := [.int .i64 x.disk, .int .i64 x.at_] ++ encB x.page
structure Placed.Ok (x : Placed) : Prop where
  len : x.page.length = 64
  bytes : ∀ b ∈ x.page, IsB b
  d1 : x.disk ≤ 100000
  d2 : x.at_ ≤ 100000
def PAt (w : World) (g : Nat) (l : List Placed) : Prop := ∀ (i : Nat) x, l[i]? = some x → w.rangeAt g (i * 66) (pcells x)
theorem PAt.below {w w' : World} {g : Nat} {l : List Placed} (h : PAt w g l) (hb : Below w.heap.size w w') : PAt w' g l := fun i x hx j v hv => cell_below hb (h i x hx j v hv)
theorem PAt.fr {d : Nat} {B : List Nat} {w w' : World} {g : Nat} {l : List Placed} (h : PAt w g l) (hb : Fr d B w w') (h1 : g ≠ d) (h2 : g ∉ B) : PAt w' g l := fun i x hx j v hv => hb.cell (p := ⟨g, i * 66 + j, none⟩) (h i x hx j v hv) h1 h2
def allF (n m : Nat) (D : DS) : List Placed → DS × Int
  | [] => (D, 0)
  | x :: r => if (writeF n m D x.disk x.at_ (strOfNums x.page)).2 = 0 then allF n m (writeF n m D x.disk x.at_ (strOfNums x.page)).1 r else writeF n m D x.disk x.at_ (strOfNums x.page)
theorem writeF_falls {n m : Nat} {D : DS} {i j : Int} {s : ByteArray} (h : (writeF n m D i j s).2 = 0) : (writeF n m D i j s).1.falls = D.falls := by
  unfold writeF at h ⊢
  split at h
  · cases h
  · rename_i h1
    rw [if_neg h1]
    split at h
    · cases h
    · rename_i h2
      rw [if_neg h2]
      split at h
      · cases h
      · rename_i h3
        rw [if_neg h3]
        rfl
theorem pcells_len {x : Placed} (h : x.Ok) : (pcells x).length = 66 := by simp [pcells, h.len]
theorem pcells_one (x : Placed) : (pcells x).toArray.all (·.oneCell') = true := by
  rw [Array.all_eq_true_iff_forall_mem]
  intro v hv
  simp only [pcells, encB, List.mem_toArray, List.mem_append, List.mem_cons, List.mem_map] at hv
  rcases hv with (rfl | rfl | h) | ⟨_, _, rfl⟩
  · rfl
  · rfl
  · cases h
  · rfl
theorem info133 : (Tryz.prog.info? 133).map (fun i => i.size) = some 66 := by kernel_rfl
set_option maxHeartbeats 2000000 in
theorem all_any {d P c m : Nat} {B : List Nat} {D : DS} (A : Option Addr) (g cp : Nat) (l : List Placed) (w : World) (h : DAt w d P B c m D) (hA : l ≠ [] → A = some ⟨g, 0, none⟩) (hp : PAt w g l) (hcp : l.length ≤ cp) (hl : l.length ≤ 1000000) (hgd : g ≠ d) (hgB : g ∉ B)
    (hok : ∀ x ∈ l, x.Ok) (hfa : 0 ≤ D.falls) (hfb : D.falls < 9223372036854775807) :
    Calls Tryz.prog 93 #[.pointer (some ⟨d, 0, none⟩), .slice A l.length cp] w fun e w' => e = .returned (.int .i64 (allF B.length m D l).2) ∧ DAt w' d P B c m (allF B.length m D l).1 ∧ Fr d B w w' := by
  have H := Lib.hid h
  have HP := Lib.hid hp
  have HOK := Lib.hid hok
  have HA := Lib.hid hA
  have HGB := Lib.hid hgB
  clear h hp hok hA hgB
  go_enter Tryz.func93, Tryz.ntmps93
  go_wp2_with fail
  go_loopw [10] (fun i wr => ∃ (k : Nat) (D' : DS), k ≤ l.length ∧ i = .int .i64 k ∧ Hid (allF B.length m D l = allF B.length m D' (l.drop k)) ∧ Hid (DAt wr d P B c m D') ∧ Hid (Fr d B w wr) ∧ D'.falls = D.falls) (fun i _ => l.length - (intOf i).toNat)
  case atStart => exact ⟨0, D, by omega, rfl, Lib.hid rfl, H, Lib.hid (Fr.refl _ _ _), rfl⟩
  case round =>
    obtain ⟨k, D', hk, rfl, hE, hD, hF, hfl⟩ := hrel
    have HFL := Lib.hid hfl
    clear hfl
    by_cases hlt : k < l.length
    · have eA : A = some ⟨g, 0, none⟩ := HA.out (by intro e; rw [e] at hlt; simp at hlt)
      obtain ⟨x, hx⟩ : ∃ x, x = l[k] := ⟨_, rfl⟩
      have hxk : l[k]? = some x := by rw [hx]; exact List.getElem?_eq_getElem hlt
      have hxo := HOK.out x (by rw [hx]; exact List.getElem_mem _)
      have HR := Lib.hid ((HP.out.fr hF.out hgd HGB.out) k x hxk)
      have HXO := Lib.hid hxo
      have hdr : l.drop k = x :: l.drop (k + 1) := by rw [List.drop_eq_getElem_cons hlt, ← hx]
      have HDR := Lib.hid hdr
      subst eA
      clear hx hxk hxo hdr
      have hsz : (Tryz.prog.info? 133).map (·.size) = some (pcells x).length := by rw [info133]; simp [pcells, HXO.out.len]
      have HSZ := Lib.hid hsz
      clear hsz
      have HS2 : Hid (Tryz.zeroCells133.size = (pcells x).toArray.size) := Lib.hid ((show Tryz.zeroCells133.size = 66 from rfl).trans (by simp [pcells_len HXO.out]))
      have HS3 : Hid ((pcells x).toArray.all (·.oneCell') = true) := Lib.hid (pcells_one x)
      have HS4 : Hid ((Tryz.prog.info? 133).map (·.size) = some (pcells x).toArray.size) := Lib.hid (by rw [List.size_toArray]; exact HSZ.out)
      go_wp2_with (first
        | (refine wpList_load_mid rfl 133 (.tmp 12) rfl g (k * 66) rfl (pcells x) _ HR.out Tryz.underlying133 rfl HSZ.out ?_)
        | (refine wpList_store_rowTo rfl 133 (.tmp 6) (.tmp 13) rfl rfl wr.heap.size (pcells x).toArray rfl rfl 133 Tryz.zeroCells133 (heap_alloc_last wr _) HS4.out HS2.out HS3.out ?_; rw [World.setRow_alloc_new]))
      have HBX := Lib.hid (Box.new wr (pcells x).toArray 133)
      have HBW : Hid (Below wr.heap.size wr (wr.alloc (.cells (pcells x).toArray 133))) := Lib.hid (below_al (Below.refl _ _) _)
      obtain ⟨W, hW⟩ : ∃ W, W = wr.alloc (.cells (pcells x).toArray 133) := ⟨_, rfl⟩
      rw [← hW] at HBX HBW ⊢
      clear hW
      have c0 : W.drew.cell? ⟨wr.heap.size, 0, none⟩ = some (.int .i64 x.disk) := HBX.out.cell 0
      have c1 : W.drew.cell? ⟨wr.heap.size, 1, none⟩ = some (.int .i64 x.at_) := HBX.out.cell 1
      have c0' : W.cell? ⟨wr.heap.size, 0, none⟩ = some (.int .i64 x.disk) := HBX.out.cell 0
      have c1' : W.cell? ⟨wr.heap.size, 1, none⟩ = some (.int .i64 x.at_) := HBX.out.cell 1
      have hcvA : ∀ U : World, (∀ i, U.cell? ⟨wr.heap.size, 2 + i, none⟩ = (pcells x).toArray[2 + i]?) → (convert 46 9 (.slice (some ⟨wr.heap.size, 2, none⟩) 64 64)).run Tryz.prog U = .ok (.string (strOfNums x.page)) U := by
        intro U hU
        refine run_convert_bytes_arg _ 46 5 Tryz.underlying46 Tryz.underlying5 wr.heap.size 2 64 64 x.page HXO.out.len (fun i hi => ?_) 9 Tryz.underlying9
        rw [hU i]
        have hl := HXO.out.len
        simp only [pcells, List.getElem?_toArray, encB]
        rw [List.getElem?_append_right (by simp), List.getElem?_map]
        simp only [List.length_cons, List.length_nil]
        rw [show 2 + i - (0 + 1 + 1) = i by omega, List.getElem?_eq_getElem (by omega), List.getD_eq_getElem?_getD, List.getElem?_eq_getElem (by omega)]
        rfl
      have hcv : (convert 46 9 (.slice (some ⟨wr.heap.size, 2, none⟩) 64 64)).run Tryz.prog W.drew = .ok (.string (strOfNums x.page)) W.drew := hcvA _ (fun i => HBX.out.cell (2 + i))
      obtain ⟨sx, hsx⟩ : ∃ sx, sx = strOfNums x.page := ⟨_, rfl⟩
      have hss : sx.size = 64 := by rw [hsx, strOfNums_size, HXO.out.len]
      rw [← hsx] at hcv hcvA
      have HSX := Lib.hid hsx
      clear hsx
      have hgd2 : wr.heap.size ≠ d := by have := hD.out.lt_d; omega
      have hgB2 : wr.heap.size ∉ B := fun hm => by
        obtain ⟨i, hi, e⟩ := List.getElem_of_mem hm
        have := hD.out.lt_B i hi
        rw [List.getD_eq_getElem?_getD, List.getElem?_eq_getElem hi, Option.getD_some, e] at this
        omega
      obtain ⟨z, hz⟩ : ∃ z, z = writeF B.length m D' x.disk x.at_ sx := ⟨_, rfl⟩
      have hwr : Hid (Calls Tryz.prog 108 #[.pointer (some ⟨d, 0, none⟩), .int .i64 x.disk, .int .i64 x.at_, .string sx] W.drew fun e w' => e = .returned (.int .i64 z.2) ∧ (w'.cell? ⟨wr.heap.size, 0, none⟩ = some (.int .i64 x.disk) ∧ w'.cell? ⟨wr.heap.size, 1, none⟩ = some (.int .i64 x.at_) ∧ (convert 46 9 (.slice (some ⟨wr.heap.size, 2, none⟩) 64 64)).run Tryz.prog w' = .ok (.string sx) w') ∧ Hid (DAt w' d P B c m z.1) ∧ Hid (Fr d B w w')) := Lib.hid (by
        have hD2 : DAt W.drew d P B c m D' := hD.out.below (HBW.out.drew)
        have := Write_any x.disk x.at_ sx W.drew hD2 (by omega) (by rw [HFL.out]; exact hfa) (by rw [HFL.out]; exact hfb)
        rw [← hz] at this
        refine this.mono ?_
        rintro e w' ⟨he, h1, h2⟩
        exact ⟨he, ⟨h2.cell (p := ⟨wr.heap.size, 0, none⟩) c0 hgd2 hgB2, h2.cell (p := ⟨wr.heap.size, 1, none⟩) c1 hgd2 hgB2, hcvA _ (fun i => (h2.box HBX.out hgd2 hgB2).cell (2 + i))⟩, h1, (hF.out.trans (Fr.of_below HBW.out.drew)).trans h2⟩)
      have HZ := Lib.hid hz
      have HG := Lib.hid (And.intro hgd2 hgB2)
      clear hz hgd2 hgB2 HS2 HS3 HS4 HSZ HR hcvA
      go_region_held3 (fun W => W.cell? ⟨wr.heap.size, 0, none⟩ = some (.int .i64 x.disk) ∧ W.cell? ⟨wr.heap.size, 1, none⟩ = some (.int .i64 x.at_) ∧ (convert 46 9 (.slice (some ⟨wr.heap.size, 2, none⟩) 64 64)).run Tryz.prog W = .ok (.string sx) W) (first | exact ⟨c0, c1, hcv⟩ | assumption)
        ((go_at_call 108; refine hwr.out.mono ?_; rintro e w2 ⟨rfl, hcc, h1, h2⟩))
      have HE2 : Hid (allF B.length m D l = if z.2 = 0 then allF B.length m z.1 (l.drop (k + 1)) else z) := Lib.hid (by rw [hE.out, HDR.out, HZ.out, HSX.out]; rfl)
      clear hcc c0 c1 c0' c1' hcv hwr HBX HBW hE hD hF
      by_cases hz0 : z.2 = 0
      · have HE3 : Hid (allF B.length m D l = allF B.length m z.1 (l.drop (k + 1))) := Lib.hid (by rw [HE2.out, if_pos hz0])
        have HFZ : Hid (z.1.falls = D.falls) := Lib.hid (by rw [← HFL.out]; have hz1 := HZ.out; rw [hz1] at hz0 ⊢; exact writeF_falls hz0)
        clear HE2 HZ
        rw [hz0]
        have HZ0 := Lib.hid hz0
        clear hz0
        go_wp2_with fail
        go_roundw
        case rel => exact ⟨k + 1, z.1, by omega, by go_num, HE3, h1, h2, HFZ.out⟩
        case measure => simp [intOf]; omega
      · have HE3 : Hid (allF B.length m D l = z) := Lib.hid (by rw [HE2.out, if_neg hz0])
        have hz0' : ((z.2 : Int) == 0) = false := by simpa using hz0
        clear HE2 HZ
        have HZ0 := Lib.hid hz0
        clear hz0
        go_wp2_with fail
        go_ret
        exact ⟨ret_int' (by rw [HE3.out]), by rw [HE3.out]; exact h1.out, h2.out⟩
    · have hkl : k = l.length := by omega
      subst hkl
      have HE3 : Hid (allF B.length m D l = (D', 0)) := Lib.hid (by rw [hE.out, List.drop_length]; rfl)
      clear hE
      go_wp2_with fail
      go_ret
      exact ⟨ret_int' (by rw [HE3.out]), by rw [HE3.out]; exact hD.out, hF.out⟩
end Go.Proofs.YtkdjibejnncmfaaGreatDoor.Co

/- Pages that are equal; the walk of different. -/
namespace Go.Proofs.YtkdjibejnncmfaaGreatDoor.Co
open Go.RowKit Go.Proofs.YtkdjibejnncmfaaGreatDoorW.PrintWords Go.Proofs.YtkdjibejnncmfaaGreatDoorW.PrintLast Go.Proofs.YtkdjibejnncmfaaGreatDoorW.PrintMore
set_option linter.unusedVariables false
set_option linter.unusedSimpArgs false
set_option maxRecDepth 100000
def pkd : Kd Placed where
  sz := 66
  E := []
  K := fun _ x cs => x.Ok ∧ cs = pcells x
  M := fun _ _ _ x cs => x.Ok ∧ cs = pcells x
  K_len := fun h => by rw [h.2, pcells_len h.1]
  K_one := fun {w x cs} h u hu => by
    rw [h.2] at hu
    have := pcells_one x
    rw [Array.all_eq_true_iff_forall_mem] at this
    exact this u (by simpa using hu)
  K_below := fun _ h => h
  K_of_M := fun h => h
  M_mono := fun _ h => h
  M_bound := fun h => h
  M_move := fun _ h => h
  M_lower := fun _ h => h
/-- What a row of pages of the call's own tells. -/
theorem pkd_reads {w : World} {base : Nat} {ok : Nat → Prop} {v : Value} {l : List Placed} (h : pkd.R 133 w base ok v l) :
    (∀ x ∈ l, x.Ok) ∧ ((l = [] ∧ ∃ A c, v = .slice A 0 c) ∨ ∃ g c, v = .slice (some ⟨g, 0, none⟩) l.length c ∧ l.length ≤ c ∧ PAt w g l ∧ base ≤ g ∧ g < w.heap.size ∧ ∃ cells, w.heap[g]? = some (.cells cells 133 (0, 0))) := by
  obtain ⟨A, c, e, hc, hC⟩ := Kd.R_reads h
  obtain ⟨h1, h2, h3⟩ := hC
  have hok : ∀ x ∈ l, x.Ok := by
    intro x hx
    obtain ⟨i, hi, e⟩ := List.getElem_of_mem hx
    obtain ⟨ad, _, h4⟩ := h3 (by omega)
    obtain ⟨cs, _, h5, _⟩ := h4 i x (by rw [List.getElem?_eq_getElem hi, e])
    exact h5.1
  refine ⟨hok, ?_⟩
  by_cases h0 : l = []
  · subst h0
    exact .inl ⟨rfl, A, c, e⟩
  · have hl : 0 < l.length := List.length_pos_iff.2 h0
    obtain ⟨_, inner, hown, hr⟩ := h
    obtain ⟨q, hq⟩ : ∃ q, l.length = q + 1 := ⟨l.length - 1, by omega⟩
    rw [hq] at hown
    obtain ⟨g, cap, e2⟩ := ownsRow_succ hown
    have hb := own_base hown g (by rw [e2]; simp [Value.ownBlock])
    have hlt := own_lt hown g (by rw [e2]; simp [Value.ownBlock])
    have hty := own_typed hown g (by rw [e2]; simp [Value.ownBlock])
    obtain ⟨ad, ha, h4⟩ := h3 hl
    rw [e] at e2
    injection e2 with e3 e4 e5
    rw [ha] at e3
    injection e3 with e3
    subst e3
    refine .inr ⟨g, c, by rw [e, ha], hc, ?_, hb, hlt, hty⟩
    intro i x hx j v hv
    obtain ⟨cs, hcl, h5, h6⟩ := h4 i x hx
    have := h6 j v (by rw [h5.2]; exact hv)
    have e7 : (⟨g, 0, none⟩ : Addr).add (i * 66 + j) = ⟨g, i * 66 + j, none⟩ := by rw [Addr.add_mid, Nat.zero_add]
    rw [show pkd.sz = 66 from rfl, e7] at this
    exact this
theorem bytes_cells (l : List Int) (h : ∀ b ∈ l, IsB b) : encB l = (l.map fun x => UInt8.ofNat x.toNat).map Go.Extern.Stop.cell := by
  unfold encB
  rw [List.map_map]
  apply List.map_congr_left
  intro x hx
  have hb := h x hx
  unfold IsB at hb
  simp only [Function.comp, Go.Extern.Stop.cell]
  congr 1
  rw [UInt8.toNat_ofNat']
  show x = ((x.toNat % 256 : Nat) : Int)
  omega
theorem bytes_beq {a b : List Int} (ha : ∀ x ∈ a, IsB x) (hb : ∀ x ∈ b, IsB x) : ((a.map fun x => UInt8.ofNat x.toNat) == (b.map fun x => UInt8.ofNat x.toNat)) = (a == b) := by
  rw [Bool.eq_iff_iff, beq_iff_eq, beq_iff_eq]
  constructor
  · intro h
    have h2 : (a.map fun x => UInt8.ofNat x.toNat).map (fun u => (u.toNat : Int)) = (b.map fun x => UInt8.ofNat x.toNat).map (fun u => (u.toNat : Int)) := by rw [h]
    have e : ∀ l : List Int, (∀ x ∈ l, IsB x) → (l.map fun x => UInt8.ofNat x.toNat).map (fun u => (u.toNat : Int)) = l := by
      intro l hl
      rw [List.map_map]
      conv => rhs; rw [← List.map_id l]
      apply List.map_congr_left
      intro x hx
      have hx2 := hl x hx
      unfold IsB at hx2
      simp only [Function.comp, id]
      rw [UInt8.toNat_ofNat']
      omega
    rw [e a ha, e b hb] at h2
    exact h2
  · rintro rfl; rfl
theorem run_neq_pages (w : World) (a b : List Int) (ha : ∀ x ∈ a, IsB x) (hb : ∀ x ∈ b, IsB x) (la : a.length = 64) (lb : b.length = 64) :
    (binOp .neq 131 (.agg (encB a).toArray) (.agg (encB b).toArray)).run Tryz.prog w = .ok (.bool (!(a == b))) w := by
  rw [run_neq_struct, bytes_cells a ha, bytes_cells b hb, run_equalIn_bytes w 9998 131 5 64 Tryz.underlying131 Tryz.underlying5 sizeOf5 _ _ (by simp [la]) (by simp [lb]), bytes_beq ha hb]
  rfl
end Go.Proofs.YtkdjibejnncmfaaGreatDoor.Co

/- The walk of different. -/
namespace Go.Proofs.YtkdjibejnncmfaaGreatDoor.Co
open Go.RowKit Go.Proofs.YtkdjibejnncmfaaGreatDoorW.PrintWords Go.Proofs.YtkdjibejnncmfaaGreatDoorW.PrintLast Go.Proofs.YtkdjibejnncmfaaGreatDoorW.PrintMore
set_option linter.unusedVariables false
set_option linter.unusedSimpArgs false
set_option maxRecDepth 100000
theorem foldl_set (cs : List Value) : ∀ (k : Nat) (a : Array Value), a.size = k + cs.length → (cs.zipIdx k).foldl (fun c x => c.setIfInBounds x.2 x.1) a = (a.toList.take k ++ cs).toArray := by
  induction cs with
  | nil =>
    intro k a h
    rw [List.take_of_length_le (by simp at h ⊢; omega)]
    simp
  | cons v cs ih =>
    intro k a h
    simp only [List.length_cons] at h
    rw [List.zipIdx_cons, List.foldl_cons, ih (k + 1) _ (by simp; omega)]
    congr 1
    rw [Array.toList_setIfInBounds, List.take_add_one, List.take_set_of_le (by omega), List.getElem?_set_self (by simp; omega)]
    simp
theorem fill_one (z : Array Value) (cs : List Value) (n : Nat) (hz : z.size = n) (hc : cs.length = n) : Instr.fill (fun i => some (i * n, n)) z [(0, .agg cs.toArray)] = some cs.toArray := by
  simp [Instr.fill, Value.cells, hc]
  refine ⟨by omega, ?_⟩
  rw [show cs.zipIdx = cs.zipIdx 0 from rfl, foldl_set cs 0 z (by omega)]
  simp
theorem wpList_build1 {P : Program} {ops : Array Oper} {rest : List Oper} {o : Oper} {a : Act} {w : World} {Q : Exit → Act → World → Prop} (hg : o.guard = none) (t e : TypeId) (x : Operand) (ho : o.op = .buildSlice t 1 #[(0, x)])
    (cs : List Value) (z : Value) (n bytes : Nat) (hu : P.underlying t = some (.slice e)) (hinfo : (P.info? e).map (fun i => (i.zero, i.size, i.bytes)) = some (some z, n, bytes)) (hz : z.cells.size = n) (hn : 0 < n) (hn2 : n ≤ 1000)
    (hx : a.eval x = .agg cs.toArray) (hc : cs.length = n) (h : wpList P ops Q rest (a.put o.dst (.slice (some ⟨w.heap.size, 0, none⟩) 1 1)) (w.alloc (.cells cs.toArray e))) : wpList P ops Q (o :: rest) a w := by
  obtain ⟨ie, hie, hz0, hs, _⟩ := info_of hinfo
  refine wpList_buildSlice hg t e 1 #[(0, x)] ho cs.toArray ie z hu hie hz0 (by rw [hs]; omega) (by rw [hs]; omega) ?_ h
  rw [hs, show (#[(0, x)].map fun (i, x) => (i, a.eval x)).toList = [(0, a.eval x)] by simp, hx]
  exact fill_one _ cs n (by rw [Array.size_map, Array.size_range]; omega) hc
/-- A page of a disk. -/
def pageAt (D : DS) (i j : Nat) : List Int := ((D.disks.getD i []).drop (j * 64)).take 64
def diffF (D : DS) (l : List Placed) : List Placed := l.filter fun x => !(pageAt D x.disk x.at_ == x.page)
section
variable {w : World} {d P c m : Nat} {B : List Nat} {D : DS}
theorem DAt.page_len (h : DAt w d P B c m D) (i j : Nat) (hi : i < B.length) (hj : j < m) : (pageAt D i j).length = 64 := by
  unfold pageAt
  have := h.dlen i hi
  rw [List.length_take, List.length_drop]; omega
theorem DAt.page_b (h : DAt w d P B c m D) (i j : Nat) (hi : i < B.length) : ∀ x ∈ pageAt D i j, IsB x := fun x hx => h.dbytes i hi x (List.mem_of_mem_drop (List.mem_of_mem_take hx))
theorem DAt.page_range (h : DAt w d P B c m D) (i j : Nat) (hi : i < B.length) (hj : j < m) : w.rangeAt (B.getD i 0) (j * 64) (encB (pageAt D i j)) := by
  intro q v hv
  have hl := h.dlen i hi
  have hq : q < 64 := by
    have := (List.getElem?_eq_some_iff.1 hv).1
    rw [List.length_map, h.page_len i j hi hj] at this; exact this
  rw [h.byte i hi (j * 64 + q) (by omega)]
  obtain ⟨dk, hdk⟩ : ∃ dk, dk = D.disks.getD i [] := ⟨_, rfl⟩
  unfold pageAt at hv
  rw [← hdk] at hl hv ⊢
  unfold encB at hv
  rw [List.getElem?_map, List.getElem?_take, if_pos hq, List.getElem?_drop, List.getElem?_eq_getElem (by omega)] at hv
  rw [← hv]
  unfold rd
  rw [Int.toNat_natCast, List.getD_eq_getElem?_getD, List.getElem?_eq_getElem (by omega)]
  rfl
end
theorem info133f : (Tryz.prog.info? 133).map (fun i => (i.zero, i.size, i.bytes)) = some (some (.agg Tryz.zeroCells133), 66, 80) := by kernel_rfl
theorem info131s : (Tryz.prog.info? 131).map (·.size) = some 64 := by
  have h := info131
  cases hi : Tryz.prog.info? 131 with
  | none => rw [hi] at h; cases h
  | some i =>
    rw [hi] at h
    simp only [Option.map_some, Option.some.injEq, Prod.mk.injEq] at h
    simp [h.2.1]
set_option maxHeartbeats 2000000 in
theorem diff_any {d P c m : Nat} {B : List Nat} {D : DS} (A : Option Addr) (g cp : Nat) (l : List Placed) (w : World) (h : DAt w d P B c m D) (hA : l ≠ [] → A = some ⟨g, 0, none⟩) (hp : PAt w g l) (hcp : l.length ≤ cp) (hl : l.length ≤ 100000)
    (hok : ∀ x ∈ l, x.Ok) (hin : ∀ x ∈ l, x.disk < B.length ∧ x.at_ < m) :
    Calls Tryz.prog 99 #[.pointer (some ⟨d, 0, none⟩), .slice A l.length cp] w fun e w' => ∃ v, e = .returned v ∧ pkd.R 133 w' w.heap.size (fun _ => True) v (diffF D l) ∧ Below w.heap.size w w' := by
  have H := Lib.hid h
  have HP := Lib.hid hp
  have HOK := Lib.hid hok
  have HA := Lib.hid hA
  have HIN := Lib.hid hin
  clear h hp hok hA hin
  go_enter Tryz.func99, Tryz.ntmps99
  go_wp2_with fail
  go_loopw [5, 10] (fun v i wr => ∃ (k : Nat), k ≤ l.length ∧ i = .int .i64 k ∧ Hid (pkd.R 133 wr w.heap.size (fun _ => True) v (diffF D (l.take k))) ∧ Hid (Below w.heap.size w wr)) (fun _ i _ => l.length - (intOf i).toNat)
  case atStart => exact ⟨0, by omega, rfl, Lib.hid (Kd.R_nil _ _ _ _ _), Lib.hid (Below.refl _ _)⟩
  case round =>
    obtain ⟨k, hk, rfl, hR, hB⟩ := hrel
    by_cases hlt : k < l.length
    · have eA : A = some ⟨g, 0, none⟩ := HA.out (by intro e; rw [e] at hlt; simp at hlt)
      obtain ⟨x, hx⟩ : ∃ x, x = l[k] := ⟨_, rfl⟩
      have hxk : l[k]? = some x := by rw [hx]; exact List.getElem?_eq_getElem hlt
      have hxm : x ∈ l := by rw [hx]; exact List.getElem_mem _
      have HXO := Lib.hid (HOK.out x hxm)
      have hxin := HIN.out x hxm
      have HR := Lib.hid ((HP.out.below hB.out) k x hxk)
      have HTK : Hid (diffF D (l.take (k + 1)) = diffF D (l.take k) ++ if !(pageAt D x.disk x.at_ == x.page) then [x] else []) := Lib.hid (by
        unfold diffF
        rw [List.take_add_one, hxk, List.filter_append]
        congr 1
        simp [List.filter_cons])
      subst eA
      clear hx hxk hxm
      have HSZ : Hid ((Tryz.prog.info? 133).map (·.size) = some (pcells x).length) := Lib.hid (by rw [info133]; simp [pcells, HXO.out.len])
      have HS2 : Hid (Tryz.zeroCells133.size = (pcells x).toArray.size) := Lib.hid ((show Tryz.zeroCells133.size = 66 from rfl).trans (by simp [pcells_len HXO.out]))
      have HS3 : Hid ((pcells x).toArray.all (·.oneCell') = true) := Lib.hid (pcells_one x)
      have HS4 : Hid ((Tryz.prog.info? 133).map (·.size) = some (pcells x).toArray.size) := Lib.hid (by rw [List.size_toArray]; exact HSZ.out)
      go_wp2_with (first
        | (refine wpList_load_mid rfl 133 (.tmp 12) rfl g (k * 66) rfl (pcells x) _ HR.out Tryz.underlying133 rfl HSZ.out ?_)
        | (refine wpList_store_rowTo rfl 133 (.tmp 7) (.tmp 13) rfl rfl wr.heap.size (pcells x).toArray rfl rfl 133 Tryz.zeroCells133 (heap_alloc_last wr _) HS4.out HS2.out HS3.out ?_; rw [World.setRow_alloc_new]))
      have HBX := Lib.hid (Box.new wr (pcells x).toArray 133)
      have HBW : Hid (Below w.heap.size w (wr.alloc (.cells (pcells x).toArray 133))) := Lib.hid (below_al hB.out _)
      have HBR : Hid (Below wr.heap.size wr (wr.alloc (.cells (pcells x).toArray 133))) := Lib.hid (below_al (Below.refl _ _) _)
      obtain ⟨W, hW⟩ : ∃ W, W = wr.alloc (.cells (pcells x).toArray 133) := ⟨_, rfl⟩
      rw [← hW] at HBX HBW HBR ⊢
      clear hW HSZ HS2 HS3 HS4
      have HDW := Lib.hid (H.out.below HBW.out)
      have c0 : W.cell? ⟨wr.heap.size, 0, none⟩ = some (.int .i64 x.disk) := HBX.out.cell 0
      have c1 : W.cell? ⟨wr.heap.size, 1, none⟩ = some (.int .i64 x.at_) := HBX.out.cell 1
      have c2 : W.cell? ⟨d, 0, none⟩ = some (.slice (some ⟨P, 0, none⟩) B.length c) := HDW.out.f0
      have c3 : W.cell? ⟨P, x.disk, none⟩ = some (.slice (some ⟨B.getD x.disk 0, 0, none⟩) m m) := HDW.out.row x.disk hxin.1
      have r1 : W.rangeAt (B.getD x.disk 0) (x.at_ * 64) (encB (pageAt D x.disk x.at_)) := HDW.out.page_range x.disk x.at_ hxin.1 hxin.2
      have r2 : W.rangeAt wr.heap.size 2 (encB x.page) := by
        intro j v hv
        have := HBX.out.cell (2 + j)
        rw [this]
        simp only [pcells, List.getElem?_toArray]
        rw [List.getElem?_append_right (by simp)]
        simp only [List.length_cons, List.length_nil]
        rw [show 2 + j - (0 + 1 + 1) = j by omega]
        exact hv
      obtain ⟨pa, hpa⟩ : ∃ pa, pa = pageAt D x.disk x.at_ := ⟨_, rfl⟩
      obtain ⟨pb, hpb⟩ : ∃ pb, pb = x.page := ⟨_, rfl⟩
      obtain ⟨b, hb⟩ : ∃ b, b = B.getD x.disk 0 := ⟨_, rfl⟩
      have la : pa.length = 64 := by rw [hpa]; exact HDW.out.page_len _ _ hxin.1 hxin.2
      have lb : pb.length = 64 := by rw [hpb]; exact HXO.out.len
      have hneq := fun W' : World => run_neq_pages W' pa pb (by rw [hpa]; exact HDW.out.page_b _ _ hxin.1) (by rw [hpb]; exact HXO.out.bytes) la lb
      rw [← hpa, ← hpb] at HTK
      rw [← hpa, ← hb] at r1
      rw [← hb] at c3
      rw [← hpb] at r2
      obtain ⟨ca, hca⟩ : ∃ ca, ca = encB pa := ⟨_, rfl⟩
      obtain ⟨cb, hcb⟩ : ∃ cb, cb = encB pb := ⟨_, rfl⟩
      have la2 : ca.length = 64 := by rw [hca, List.length_map, la]
      have lb2 : cb.length = 64 := by rw [hcb, List.length_map, lb]
      rw [← hca] at r1 hneq
      rw [← hcb] at r2 hneq
      have i1 : (0 : Int) ≤ (x.disk : Int) := by omega
      have i2 : (x.disk : Int) < (B.length : Int) := by omega
      have i3 : (0 : Int) ≤ (x.at_ : Int) := by omega
      have i4 : (x.at_ : Int) < (m : Int) := by omega
      have i5 := H.out.cap
      have i6 := H.out.few
      have hu := Tryz.underlying131
      have hia : (Tryz.prog.info? 131).map (·.size) = some ca.length := by rw [la2]; exact info131s
      have hib : (Tryz.prog.info? 131).map (·.size) = some cb.length := by rw [lb2]; exact info131s
      obtain ⟨rr, hrr⟩ : ∃ rr, rr = (pa == pb) := ⟨_, rfl⟩
      rw [← hrr] at HTK hneq
      have HX := Lib.hid (And.intro hpa (And.intro hpb (And.intro hb (And.intro hca (And.intro hcb (And.intro la (And.intro lb hrr)))))))
      clear hpa hpb hb hca hcb la lb hrr hxin
      refine wp_region_held_drew (S := (fun W => (W.cell? ⟨wr.heap.size, 0, none⟩ = some (.int .i64 x.disk) ∧ W.cell? ⟨wr.heap.size, 1, none⟩ = some (.int .i64 x.at_)) ∧ W.cell? ⟨d, 0, none⟩ = some (.slice (some ⟨P, 0, none⟩) B.length c) ∧ W.cell? ⟨P, x.disk, none⟩ = some (.slice (some ⟨b, 0, none⟩) m m) ∧ W.rangeAt b (x.at_ * 64) ca ∧ W.rangeAt wr.heap.size 2 cb)) (by kernel_rfl) (by exact ⟨⟨c0, c1⟩, c2, c3, r1, r2⟩) (fun hS => ?_)
      refine wpAnyH_take (i := 0) (oi := { dst := some 14, op := Op.move (Operand.tmp 0), type := 50, pos := "vault.go:264", after := #[], guard := none }) (v := ?v0) rfl (by kernel_rfl) (by kernel_rfl) (by kernel_rfl) (fun _ _ _ h => h) (Or.inl ⟨by rfl, ?y0⟩) hS ?r0
      case y0 =>
        intro w' hSw
        obtain ⟨⟨q0, q1⟩, q2, q3, q4, q5⟩ := hSw
        go_simp
        try with_reducible rfl
      try simp only [Act.put, List.setIfInBounds_toArray, List.set_cons_zero, List.set_cons_succ]
      refine wpAnyH_take (i := 1) (oi := { dst := some 15, op := Op.nilCheck (Operand.tmp 14), type := 0, pos := "vault.go:264", after := #[{ on := 0, ground := Ground.data }], guard := none }) (v := ?v1) rfl (by kernel_rfl) (by kernel_rfl) (by kernel_rfl) (fun _ _ _ h => h) (Or.inl ⟨by rfl, ?y1⟩) hS ?r1
      case y1 =>
        intro w' hSw
        obtain ⟨⟨q0, q1⟩, q2, q3, q4, q5⟩ := hSw
        go_simp
        try with_reducible rfl
      try simp only [Act.put, List.setIfInBounds_toArray, List.set_cons_zero, List.set_cons_succ]
      refine wpAnyH_take (i := 2) (oi := { dst := some 16, op := Op.fieldAddr 127 (Operand.tmp 15) 0, type := 0, pos := "vault.go:264", after := #[{ on := 1, ground := Ground.data }], guard := none }) (v := ?v2) rfl (by kernel_rfl) (by kernel_rfl) (by kernel_rfl) (fun _ _ _ h => h) (Or.inl ⟨by rfl, ?y2⟩) hS ?r2
      case y2 =>
        intro w' hSw
        obtain ⟨⟨q0, q1⟩, q2, q3, q4, q5⟩ := hSw
        go_simp
        try with_reducible rfl
      try simp only [Act.put, List.setIfInBounds_toArray, List.set_cons_zero, List.set_cons_succ]
      refine wpAnyH_take (i := 3) (oi := { dst := some 17, op := Op.load 125 (Operand.tmp 16), type := 125, pos := "vault.go:264", after := #[{ on := 2, ground := Ground.data }], guard := none }) (v := ?v3) rfl (by kernel_rfl) (by kernel_rfl) (by kernel_rfl) (fun _ _ _ h => h) (Or.inl ⟨by rfl, ?y3⟩) hS ?r3
      case y3 =>
        intro w' hSw
        obtain ⟨⟨q0, q1⟩, q2, q3, q4, q5⟩ := hSw
        go_simp
        try with_reducible rfl
      try simp only [Act.put, List.setIfInBounds_toArray, List.set_cons_zero, List.set_cons_succ]
      refine wpAnyH_take (i := 4) (oi := { dst := some 18, op := Op.fieldAddr 133 (Operand.tmp 7) 0, type := 0, pos := "vault.go:264", after := #[], guard := none }) (v := ?v4) rfl (by kernel_rfl) (by kernel_rfl) (by kernel_rfl) (fun _ _ _ h => h) (Or.inl ⟨by rfl, ?y4⟩) hS ?r4
      case y4 =>
        intro w' hSw
        obtain ⟨⟨q0, q1⟩, q2, q3, q4, q5⟩ := hSw
        go_simp
        try with_reducible rfl
      try simp only [Act.put, List.setIfInBounds_toArray, List.set_cons_zero, List.set_cons_succ]
      refine wpAnyH_take (i := 5) (oi := { dst := some 19, op := Op.load 3 (Operand.tmp 18), type := 3, pos := "vault.go:264", after := #[{ on := 4, ground := Ground.data }], guard := none }) (v := ?v5) rfl (by kernel_rfl) (by kernel_rfl) (by kernel_rfl) (fun _ _ _ h => h) (Or.inl ⟨by rfl, ?y5⟩) hS ?r5
      case y5 =>
        intro w' hSw
        obtain ⟨⟨q0, q1⟩, q2, q3, q4, q5⟩ := hSw
        go_simp
        try with_reducible rfl
      try simp only [Act.put, List.setIfInBounds_toArray, List.set_cons_zero, List.set_cons_succ]
      refine wpAnyH_take (i := 6) (oi := { dst := some 20, op := Op.indexAddr 125 (Operand.tmp 17) (Operand.tmp 19), type := 0, pos := "vault.go:264", after := #[{ on := 3, ground := Ground.data }, { on := 5, ground := Ground.data }], guard := none }) (v := ?v6) rfl (by kernel_rfl) (by kernel_rfl) (by kernel_rfl) (fun _ _ _ h => h) (Or.inl ⟨by rfl, ?y6⟩) hS ?r6
      case y6 =>
        intro w' hSw
        obtain ⟨⟨q0, q1⟩, q2, q3, q4, q5⟩ := hSw
        go_simp
        try with_reducible rfl
      try simp only [Act.put, List.setIfInBounds_toArray, List.set_cons_zero, List.set_cons_succ]
      refine wpAnyH_take (i := 7) (oi := { dst := some 21, op := Op.load 128 (Operand.tmp 20), type := 128, pos := "vault.go:264", after := #[{ on := 6, ground := Ground.data }], guard := none }) (v := ?v7) rfl (by kernel_rfl) (by kernel_rfl) (by kernel_rfl) (fun _ _ _ h => h) (Or.inl ⟨by rfl, ?y7⟩) hS ?r7
      case y7 =>
        intro w' hSw
        obtain ⟨⟨q0, q1⟩, q2, q3, q4, q5⟩ := hSw
        go_simp
        try with_reducible rfl
      try simp only [Act.put, List.setIfInBounds_toArray, List.set_cons_zero, List.set_cons_succ]
      refine wpAnyH_take (i := 8) (oi := { dst := some 22, op := Op.fieldAddr 133 (Operand.tmp 7) 1, type := 0, pos := "vault.go:264", after := #[], guard := none }) (v := ?v8) rfl (by kernel_rfl) (by kernel_rfl) (by kernel_rfl) (fun _ _ _ h => h) (Or.inl ⟨by rfl, ?y8⟩) hS ?r8
      case y8 =>
        intro w' hSw
        obtain ⟨⟨q0, q1⟩, q2, q3, q4, q5⟩ := hSw
        go_simp
        try with_reducible rfl
      try simp only [Act.put, List.setIfInBounds_toArray, List.set_cons_zero, List.set_cons_succ]
      refine wpAnyH_take (i := 9) (oi := { dst := some 23, op := Op.load 3 (Operand.tmp 22), type := 3, pos := "vault.go:264", after := #[{ on := 8, ground := Ground.data }], guard := none }) (v := ?v9) rfl (by kernel_rfl) (by kernel_rfl) (by kernel_rfl) (fun _ _ _ h => h) (Or.inl ⟨by rfl, ?y9⟩) hS ?r9
      case y9 =>
        intro w' hSw
        obtain ⟨⟨q0, q1⟩, q2, q3, q4, q5⟩ := hSw
        go_simp
        try with_reducible rfl
      try simp only [Act.put, List.setIfInBounds_toArray, List.set_cons_zero, List.set_cons_succ]
      refine wpAnyH_take (i := 10) (oi := { dst := some 24, op := Op.indexAddr 128 (Operand.tmp 21) (Operand.tmp 23), type := 0, pos := "vault.go:264", after := #[{ on := 7, ground := Ground.data }, { on := 9, ground := Ground.data }], guard := none }) (v := ?v10) rfl (by kernel_rfl) (by kernel_rfl) (by kernel_rfl) (fun _ _ _ h => h) (Or.inl ⟨by rfl, ?y10⟩) hS ?r10
      case y10 =>
        intro w' hSw
        obtain ⟨⟨q0, q1⟩, q2, q3, q4, q5⟩ := hSw
        go_simp
        try with_reducible rfl
      try simp only [Act.put, List.setIfInBounds_toArray, List.set_cons_zero, List.set_cons_succ]
      refine wpAnyH_take (i := 11) (oi := { dst := some 25, op := Op.load 131 (Operand.tmp 24), type := 131, pos := "vault.go:264", after := #[{ on := 10, ground := Ground.data }], guard := none }) rfl (by kernel_rfl) (by kernel_rfl) (by kernel_rfl) (fun _ _ _ h => h) (yieldsIf_load_mid (by rfl) 131 _ rfl b (x.at_ * 64) rfl ca _ (fun w' hSw => hSw.2.2.2.1) hu rfl hia) hS ?r11
      try simp only [Act.put, List.setIfInBounds_toArray, List.set_cons_zero, List.set_cons_succ]
      refine wpAnyH_take (i := 12) (oi := { dst := some 26, op := Op.fieldAddr 133 (Operand.tmp 7) 2, type := 0, pos := "vault.go:264", after := #[], guard := none }) (v := ?v12) rfl (by kernel_rfl) (by kernel_rfl) (by kernel_rfl) (fun _ _ _ h => h) (Or.inl ⟨by rfl, ?y12⟩) hS ?r12
      case y12 =>
        intro w' hSw
        obtain ⟨⟨q0, q1⟩, q2, q3, q4, q5⟩ := hSw
        go_simp
        try with_reducible rfl
      try simp only [Act.put, List.setIfInBounds_toArray, List.set_cons_zero, List.set_cons_succ]
      refine wpAnyH_take (i := 13) (oi := { dst := some 27, op := Op.load 131 (Operand.tmp 26), type := 131, pos := "vault.go:264", after := #[{ on := 12, ground := Ground.data }], guard := none }) rfl (by kernel_rfl) (by kernel_rfl) (by kernel_rfl) (fun _ _ _ h => h) (yieldsIf_load_mid (by rfl) 131 _ rfl wr.heap.size 2 rfl cb _ (fun w' hSw => hSw.2.2.2.2) hu rfl hib) hS ?r13
      try simp only [Act.put, List.setIfInBounds_toArray, List.set_cons_zero, List.set_cons_succ]
      refine wpAnyH_take (i := 14) (oi := { dst := some 28, op := Op.binOp BinOp.neq 131 (Operand.tmp 25) (Operand.tmp 27) 131, type := 4, pos := "vault.go:264", after := #[{ on := 11, ground := Ground.data }, { on := 13, ground := Ground.data }], guard := none }) (v := ?v14) rfl (by kernel_rfl) (by kernel_rfl) (by kernel_rfl) (fun _ _ _ h => h) (Or.inl ⟨by rfl, ?y14⟩) hS ?r14
      case y14 =>
        intro w' hSw
        go_simp
        try with_reducible rfl
      try simp only [Act.put, List.setIfInBounds_toArray, List.set_cons_zero, List.set_cons_succ]
      refine wpAnyH_done (by kernel_rfl) ?_ _
      clear hS r1 r2 c0 c1 c2 c3 hneq hia hib hu i1 i2 i3 i4
      cases rr with
      | true =>
        have HTK2 : Hid (diffF D (l.take (k + 1)) = diffF D (l.take k)) := Lib.hid (by rw [HTK.out]; simp)
        have HR2 : Hid (pkd.R 133 W.drew w.heap.size (fun _ => True) u5 (diffF D (l.take (k + 1)))) := Lib.hid (by rw [HTK2.out]; exact Kd.R_below hR.out HBR.out.drew)
        have HB2 : Hid (Below w.heap.size w W.drew) := Lib.hid HBW.out.drew
        clear HTK
        go_wp2_with fail
        go_roundw
        case rel => exact ⟨k + 1, by omega, by go_num, HR2, HB2⟩
        case measure => simp [intOf]; omega
      | false =>
        have HTK2 : Hid (diffF D (l.take (k + 1)) = diffF D (l.take k) ++ [x]) := Lib.hid (by rw [HTK.out]; simp)
        have HR2 : Hid (pkd.R 133 W.drew w.heap.size (fun _ => True) u5 (diffF D (l.take k))) := Lib.hid (Kd.R_below hR.out HBR.out.drew)
        have HB2 : Hid (Below w.heap.size w W.drew) := Lib.hid HBW.out.drew
        have HHP : Hid (W.drew.heap[wr.heap.size]? = some (.cells (pcells x).toArray 133 (0, 0))) := Lib.hid HBX.out
        have HS4 : Hid ((Tryz.prog.info? 133).map (·.size) = some (pcells x).toArray.size) := Lib.hid (by rw [List.size_toArray, pcells_len HXO.out]; exact info133)
        have hdl : (diffF D (l.take k)).length ≤ 100000 := by
          have h1 : (diffF D (l.take k)).length ≤ (l.take k).length := List.length_filter_le _ _
          rw [List.length_take] at h1
          omega
        have hpl66 : (pcells x).length = 66 := pcells_len HXO.out
        clear HTK
        go_wp2_with (first
          | (refine wpList_load_row rfl 133 (.tmp 7) rfl wr.heap.size rfl 133 (pcells x).toArray (0, 0) _ HHP.out Tryz.underlying133 rfl HS4.out ?_)
          | (refine wpList_build1 rfl 129 133 (.tmp 30) rfl (pcells x) (.agg Tryz.zeroCells133) 66 80 Tryz.underlying129 info133f rfl (by decide) (by decide) rfl hpl66 ?_)
          | ((with_reducible refine gate_builtin (b := .append) (xs := #[.tmp 29, .tmp 31]) rfl ?_); at_builtin; refine Kd.R_append pkd (w0 := w) w.heap.size rfl (.tmp 29) (.tmp 31) 129 133 (.agg Tryz.zeroCells133) 80 rfl Tryz.underlying129 info133f rfl (by decide) (by omega) u5 (diffF D (l.take k)) x (pcells x) (fun _ => True) (fun _ => False) rfl rfl ?aP (fun _ hk => hk.elim) ?aF ?aO ?aB ?aS ?aL ?_; (case aP => exact ⟨HXO.out, rfl⟩); (case aF => exact (fun _ _ => trivial)); (case aO => exact HR2.out); (case aB => exact HB2.out); (case aS => exact HB2.out.size); (case aL => omega); intro v1 w2 ho hb hg hat; have ho1 := Lib.hid ho; have hb1 := Lib.hid hb; clear ho hg hat hb))
        go_roundw
        case rel => exact ⟨k + 1, by omega, by go_num, by rw [HTK2.out]; exact ho1, hb1⟩
        case measure => simp [intOf]; omega
    · have hkl : k = l.length := by omega
      subst hkl
      have e1 : l.take l.length = l := List.take_length
      rw [e1] at hR
      go_wp2_with fail
      go_ret
      exact ⟨_, rfl, hR.out, hB.out⟩
end Go.Proofs.YtkdjibejnncmfaaGreatDoor.Co

/- A vault in memory; the walks of Room, Life, Text, Enough, down. -/
namespace Go.Proofs.YtkdjibejnncmfaaGreatDoor.Co
open Go.RowKit Go.Proofs.YtkdjibejnncmfaaGreatDoorW.PrintWords Go.Proofs.YtkdjibejnncmfaaGreatDoorW.PrintLast Go.Proofs.YtkdjibejnncmfaaGreatDoorW.PrintMore
set_option linter.unusedVariables false
set_option linter.unusedSimpArgs false
set_option maxRecDepth 100000
structure VS where
  falls : Int
  text : ByteArray
  life : Nat
  enough : Nat
/-- A vault in memory. -/
structure VAt (w : World) (v d : Nat) (V : VS) : Prop where
  box : Box w v 137 #[.pointer (some ⟨d, 0, none⟩), .int .i64 V.falls, .string V.text, .int .i64 V.life, .int .i64 V.enough]
  en : V.enough ≤ 12
  li : V.life ≤ 1099511627776
section
variable {w w' : World} {v d : Nat} {V : VS}
theorem VAt.below (h : VAt w v d V) (hb : Below w.heap.size w w') : VAt w' v d V := ⟨h.box.below hb h.box.lt, h.en, h.li⟩
theorem VAt.fr {B : List Nat} (h : VAt w v d V) (hb : Fr d B w w') (h1 : v ≠ d) (h2 : v ∉ B) : VAt w' v d V := ⟨hb.box h.box h1 h2, h.en, h.li⟩
theorem VAt.g0 (h : VAt w v d V) : w.cell? ⟨v, 0, none⟩ = some (.pointer (some ⟨d, 0, none⟩)) := h.box.cell 0
theorem VAt.g1 (h : VAt w v d V) : w.cell? ⟨v, 1, none⟩ = some (.int .i64 V.falls) := h.box.cell 1
theorem VAt.g2 (h : VAt w v d V) : w.cell? ⟨v, 2, none⟩ = some (.string V.text) := h.box.cell 2
theorem VAt.g3 (h : VAt w v d V) : w.cell? ⟨v, 3, none⟩ = some (.int .i64 V.life) := h.box.cell 3
theorem VAt.g4 (h : VAt w v d V) : w.cell? ⟨v, 4, none⟩ = some (.int .i64 V.enough) := h.box.cell 4
end
theorem Life_any {v d : Nat} {V : VS} (w : World) (h : VAt w v d V) : Calls Tryz.prog 41 #[.pointer (some ⟨v, 0, none⟩)] w fun e w' => e = .returned (.int .i64 V.life) ∧ w = w' := by
  have g3 := h.g3
  go_enter Tryz.func41, Tryz.ntmps41
  go_wp2_with fail
  go_ret
  exact ⟨rfl, rfl⟩
theorem Text_any {v d : Nat} {V : VS} (w : World) (h : VAt w v d V) : Calls Tryz.prog 43 #[.pointer (some ⟨v, 0, none⟩)] w fun e w' => e = .returned (.string V.text) ∧ w = w' := by
  have g2 := h.g2
  go_enter Tryz.func43, Tryz.ntmps43
  go_wp2_with fail
  go_ret
  exact ⟨rfl, rfl⟩
theorem Enough_any {v d : Nat} {V : VS} (w : World) (h : VAt w v d V) : Calls Tryz.prog 45 #[.pointer (some ⟨v, 0, none⟩)] w fun e w' => e = .returned (.int .i64 V.enough) ∧ w = w' := by
  have g4 := h.g4
  go_enter Tryz.func45, Tryz.ntmps45
  go_wp2_with fail
  go_ret
  exact ⟨rfl, rfl⟩
def roomF (m k : Nat) : Nat := min (40 * k * (m / 2) - 4) 4000
set_option maxHeartbeats 1000000 in
theorem Room_any {v d P c m : Nat} {B : List Nat} {D : DS} {V : VS} (w : World) (h : VAt w v d V) (hD : DAt w d P B c m D) (hk : 1 ≤ V.enough) :
    Calls Tryz.prog 40 #[.pointer (some ⟨v, 0, none⟩)] w fun e w' => e = .returned (.int .i64 (roomF m V.enough : Nat)) ∧ Below w.heap.size w w' := by
  have g0 := h.g0
  have g4 := h.g4
  have d0 : w.drew.cell? ⟨v, 0, none⟩ = some (.pointer (some ⟨d, 0, none⟩)) := g0
  have d4 : w.drew.cell? ⟨v, 4, none⟩ = some (.int .i64 V.enough) := g4
  have hen := h.en
  have hm1 := hD.two
  have hm2 := hD.few
  have HS : Hid (Calls Tryz.prog 95 #[.pointer (some ⟨d, 0, none⟩)] w.drew fun e w' => e = .returned (.int .i64 ((m / 2 : Nat) : Int)) ∧ w.drew = w') := Lib.hid (slot_any w.drew (hD.below (Below.refl _ _).drew))
  obtain ⟨q, hq⟩ : ∃ q, q = m / 2 := ⟨_, rfl⟩
  have hq1 : 1 ≤ q ∧ q ≤ 512 := by omega
  obtain ⟨k, hk'⟩ : ∃ k, k = V.enough := ⟨_, rfl⟩
  obtain ⟨p, hp⟩ : ∃ p, p = 40 * k * q := ⟨_, rfl⟩
  have hp1 : 40 ≤ p := by
    rw [hp]
    calc 40 = 40 * 1 * 1 := by omega
      _ ≤ 40 * k * q := Nat.mul_le_mul (Nat.mul_le_mul_left _ (by omega)) hq1.1
  have hp2 : p ≤ 245760 := by
    rw [hp]
    calc 40 * k * q ≤ 40 * 12 * 512 := Nat.mul_le_mul (Nat.mul_le_mul_left _ (by omega)) hq1.2
      _ = 245760 := by omega
  have hmul : (40 * (k : Int)) * (q : Int) = (p : Int) := by rw [hp]; simp
  have hR : Hid (roomF m V.enough = min (p - 4) 4000) := Lib.hid (by unfold roomF; rw [hp, hk', hq])
  rw [← hq] at HS
  rw [← hk'] at g4 d4 hen hk
  have hw1 : IntKind.i64.wrap (40 * (k : Int)) = 40 * (k : Int) := IntWalk.i64_in _ ⟨by omega, by omega⟩
  have hw2 : IntKind.i64.wrap (p : Int) = (p : Int) := IntWalk.i64_in _ ⟨by omega, by omega⟩
  have hw3 : IntKind.i64.wrap ((p : Int) - 4) = (p : Int) - 4 := IntWalk.i64_in _ ⟨by omega, by omega⟩
  have hw4 : IntKind.i64.wrap 4000 = 4000 := IntWalk.i64_in _ ⟨by omega, by omega⟩
  clear hp hq hk' h hD
  have hc : (p : Int) - 4 < 4000 ∨ (p : Int) - 4 = 4000 ∨ 4000 < (p : Int) - 4 := by omega
  rcases hc with hc | hc | hc
  all_goals
    go_enter Tryz.func40, Tryz.ntmps40
    go_wp2_with fail
    go_region_held3 (fun W => W.cell? ⟨v, 0, none⟩ = some (.pointer (some ⟨d, 0, none⟩)) ∧ W.cell? ⟨v, 4, none⟩ = some (.int .i64 k)) (first | exact ⟨d0, d4⟩ | assumption)
      ((go_at_call 95; refine HS.out.mono ?_; rintro e w' ⟨rfl, rfl⟩))
    all_goals
      go_wp2_with fail
      go_ret
      exact ⟨by rw [hR.out]; refine ret_int' ?_; omega, (Below.refl _ _).drew⟩
end Go.Proofs.YtkdjibejnncmfaaGreatDoor.Co

/- The walks of Vault.down, wrong. -/
namespace Go.Proofs.YtkdjibejnncmfaaGreatDoor.Co
open Go.RowKit Go.Proofs.YtkdjibejnncmfaaGreatDoorW.PrintWords Go.Proofs.YtkdjibejnncmfaaGreatDoorW.PrintLast Go.Proofs.YtkdjibejnncmfaaGreatDoorW.PrintMore
set_option linter.unusedVariables false
set_option linter.unusedSimpArgs false
set_option maxRecDepth 100000
def downF (D : DS) (V : VS) : Bool := D.down || !(D.falls == V.falls)
set_option maxHeartbeats 1000000 in
theorem down_any {v d P c m : Nat} {B : List Nat} {D : DS} {V : VS} (w : World) (h : VAt w v d V) (hD : DAt w d P B c m D) :
    Calls Tryz.prog 96 #[.pointer (some ⟨v, 0, none⟩)] w fun e w' => e = .returned (.bool (downF D V)) ∧ Below w.heap.size w w' := by
  have d0 : w.cell? ⟨v, 0, none⟩ = some (.pointer (some ⟨d, 0, none⟩)) := h.g0
  have d1 : w.cell? ⟨v, 1, none⟩ = some (.int .i64 V.falls) := h.g1
  have d3 : w.cell? ⟨d, 3, none⟩ = some (.bool D.down) := hD.f3
  have d4 : w.cell? ⟨d, 4, none⟩ = some (.int .i64 D.falls) := hD.f4
  obtain ⟨x, hx⟩ : ∃ x, x = V.falls := ⟨_, rfl⟩
  obtain ⟨y, hy⟩ : ∃ y, y = D.falls := ⟨_, rfl⟩
  obtain ⟨b, hb⟩ : ∃ b, b = D.down := ⟨_, rfl⟩
  have HR : Hid (downF D V = (b || !(y == x))) := Lib.hid (by unfold downF; rw [hx, hy, hb])
  rw [← hx] at d1
  rw [← hy] at d4
  rw [← hb] at d3
  clear hx hy hb h hD
  cases b with
  | true =>
    go_enter Tryz.func96, Tryz.ntmps96
    go_wp2_with fail
    go_quiet (fail)
    all_goals
      go_wp2_with fail
      go_ret
      exact ⟨by rw [HR.out]; rfl, below_drN (Below.refl _ _) _⟩
  | false =>
    go_enter Tryz.func96, Tryz.ntmps96
    go_wp2_with fail
    go_quiet (fail)
    all_goals
      go_wp2_with fail
      go_ret
      exact ⟨by rw [HR.out]; rfl, below_drN (Below.refl _ _) _⟩
end Go.Proofs.YtkdjibejnncmfaaGreatDoor.Co

/- What image computes. -/
namespace Go.Proofs.YtkdjibejnncmfaaGreatDoor.Co
open Go.RowKit Go.Proofs.YtkdjibejnncmfaaGreatDoorW.PrintWords Go.Proofs.YtkdjibejnncmfaaGreatDoorW.PrintLast Go.Proofs.YtkdjibejnncmfaaGreatDoorW.PrintMore
set_option linter.unusedVariables false
set_option linter.unusedSimpArgs false
set_option maxRecDepth 100000
def dataF (text : ByteArray) (enough : Nat) : List Int := setL (setL (List.replicate (neededF text.size enough * 40 * enough) 0) 0 (leB text.size 4)) 4 (wrBytes text)
def partF (data : List Int) (enough i j : Nat) : ByteArray := strOfNums ((data.drop ((i * enough + j) * 40)).take 40)
def stripeL (data : List Int) (enough i : Nat) : List ByteArray := (List.range enough).map fun j => partF data enough i j
def piecesF (n : Nat) (text : ByteArray) (enough i : Nat) : List ByteArray := someTo (firstL enough) (stripeL (dataF text enough) enough i) n
def placedF (n m : Nat) (text : ByteArray) (life enough disk i : Nat) : Placed :=
  ⟨disk, firstF m life + i, madeF n life (neededF text.size enough) enough disk (firstF m life + i) (vs (piecesF n text enough i) disk)⟩
def imageF (n m : Nat) (text : ByteArray) (life enough : Nat) : List Placed :=
  (List.range n).flatMap fun disk => (List.range (neededF text.size enough)).map fun i => placedF n m text life enough disk i
theorem leB_b (x n : Nat) : ∀ b ∈ leB x n, IsB b := by
  induction n generalizing x with
  | zero => intro b hb; simp [leB] at hb
  | succ n ih =>
    intro b hb
    rcases List.mem_cons.1 hb with rfl | h
    · have : x % 256 < 256 := Nat.mod_lt _ (by omega)
      exact ⟨by omega, by omega⟩
    · exact ih _ b h
theorem setL_b {l bs : List Int} {off : Nat} (h1 : ∀ x ∈ l, IsB x) (h2 : ∀ x ∈ bs, IsB x) : ∀ x ∈ setL l off bs, IsB x := fun x hx => (setL_mem hx).elim (h1 x) (h2 x)
theorem zeros_b (n : Nat) : ∀ x ∈ List.replicate n (0 : Int), IsB x := fun x hx => by rw [(List.mem_replicate.1 hx).2]; exact ⟨by omega, by omega⟩
theorem madeF_b (n life stripes enough disk at_ : Nat) (piece : ByteArray) (he : enough ≤ 12) (hd : disk ≤ 12) : ∀ x ∈ madeF n life stripes enough disk at_ piece, IsB x := by
  have h1 : ∀ x ∈ mp1 piece, IsB x := setL_b (zeros_b _) (fun x hx => wrBytes_b piece x (List.mem_of_mem_take hx))
  have h2 : ∀ x ∈ mp2 life piece, IsB x := setL_b h1 (leB_b _ _)
  have h3 : ∀ x ∈ mp3 life stripes piece, IsB x := setL_b h2 (leB_b _ _)
  have h4 : ∀ x ∈ mp4 life stripes enough disk piece, IsB x := by
    intro x hx
    rcases List.mem_or_eq_of_mem_set hx with h | rfl
    · rcases List.mem_or_eq_of_mem_set h with h | rfl
      · exact h3 x h
      · exact ⟨by omega, by omega⟩
    · exact ⟨by omega, by omega⟩
  have h5 : ∀ x ∈ mp5 n life stripes enough disk piece, IsB x := setL_b h4 (leB_b _ _)
  unfold madeF
  exact setL_b h5 (leB_b _ _)
theorem firstF_le {m life : Nat} (hm : m ≤ 1024) : firstF m life ≤ 512 := by
  unfold firstF
  have h1 : life % 2 ≤ 1 := by omega
  calc life % 2 * (m / 2) ≤ 1 * (m / 2) := Nat.mul_le_mul_right _ h1
    _ ≤ 512 := by omega
theorem placed_mk {d a : Nat} {p : List Int} (h1 : p.length = 64) (h2 : ∀ b ∈ p, IsB b) (h3 : d ≤ 100000) (h4 : a ≤ 100000) : (Placed.mk d a p).Ok := ⟨h1, h2, h3, h4⟩
theorem placedF_ok {n m : Nat} {text : ByteArray} {life enough disk i : Nat} (hm : m ≤ 1024) (he : enough ≤ 12) (hd : disk ≤ 12) (hi : i ≤ 1024) : (placedF n m text life enough disk i).Ok := by
  have h1 := firstF_le (life := life) hm
  have h2 := madeF_len n life (neededF text.size enough) enough disk (firstF m life + i) (vs (piecesF n text enough i) disk)
  have h3 := madeF_b n life (neededF text.size enough) enough disk (firstF m life + i) (vs (piecesF n text enough i) disk) he hd
  unfold placedF
  exact placed_mk h2 h3 (by omega) (by omega)
end Go.Proofs.YtkdjibejnncmfaaGreatDoor.Co

/- What a sound page is; the walk of sound. -/
namespace Go.Proofs.YtkdjibejnncmfaaGreatDoor.Co
open Go.RowKit Go.Proofs.YtkdjibejnncmfaaGreatDoorW.PrintWords Go.Proofs.YtkdjibejnncmfaaGreatDoorW.PrintLast Go.Proofs.YtkdjibejnncmfaaGreatDoorW.PrintMore
set_option linter.unusedVariables false
set_option linter.unusedSimpArgs false
set_option maxRecDepth 100000
/-- A kind: the life, the stripes, how many pieces are enough. -/
abbrev Kn := Nat × Nat × Nat
abbrev kV (x : Kn) : Value := kindV x.1 x.2.1 x.2.2
def cutL (pg : List Int) (i k : Nat) : List Int := (pg.drop i).take k
def lifeOf (pg : List Int) : Nat := ofLE (cutL pg 40 8)
def kindOf (pg : List Int) : Kn := (lifeOf pg, ofLE (cutL pg 48 2), (rd pg 50).toNat)
/-- The tests of a page, but for its place. -/
def pageB (n m : Nat) (pg : List Int) (disk at_ : Nat) : Bool :=
  ofLE (cutL pg 56 8) == psum pg at_ && decide (1 ≤ lifeOf pg) && decide (lifeOf pg ≤ 1099511627776) && decide (1 ≤ (kindOf pg).2.1) && decide ((kindOf pg).2.1 ≤ m / 2) && decide (1 ≤ (kindOf pg).2.2) && decide ((kindOf pg).2.2 ≤ n) && (rd pg 51 == (disk : Int)) && ofLE (cutL pg 52 4) == n
def soundB (n m : Nat) (pg : List Int) (disk at_ : Nat) : Bool :=
  pageB n m pg disk at_ && decide (firstF m (lifeOf pg) ≤ at_) && decide (at_ < firstF m (lifeOf pg) + (kindOf pg).2.1)
theorem cutL_len {pg : List Int} {i k : Nat} (hl : pg.length = 64) (h : i + k ≤ 64) : (cutL pg i k).length = k := by
  unfold cutL; rw [List.length_take, List.length_drop]; omega
theorem cutL_mem {pg : List Int} {i k : Nat} {x : Int} (h : x ∈ cutL pg i k) : x ∈ pg := List.mem_of_mem_drop (List.mem_of_mem_take h)
theorem rd_cutL {pg : List Int} {i k j : Nat} (hl : pg.length = 64) (h : i + k ≤ 64) (hj : j < k) : rd (cutL pg i k) j = rd pg ((i + j : Nat) : Int) := by
  unfold rd cutL
  rw [Int.toNat_natCast, Int.toNat_natCast, List.getD_eq_getElem?_getD, List.getD_eq_getElem?_getD, List.getElem?_take, if_pos hj, List.getElem?_drop]
theorem get_pg (b off : Nat) (pg : List Int) (i k c : Nat) (w : World) (hl : pg.length = 64) (hb : ∀ x ∈ pg, IsB x) (hik : i + k ≤ 64) (hk8 : k ≤ 8) (hbl : b < w.heap.size) (hc : ∀ j : Nat, j < 64 → w.cell? ⟨b, off + j, none⟩ = some (.int .u8 (rd pg j))) :
    Calls Tryz.prog 156 #[.slice (some ⟨b, off + i, none⟩) k c] w fun e w' => e = .returned (.int .u64 (ofLE (cutL pg i k) : Nat)) ∧ Below w.heap.size w w' := by
  have hlen := cutL_len (i := i) (k := k) hl hik
  have h := get_any b (off + i) c (cutL pg i k) w (by omega) (fun x hx => hb x (cutL_mem hx)) hbl (fun j hj => by
    rw [hlen] at hj
    rw [rd_cutL hl hik hj, Nat.add_assoc]
    exact hc (i + j) (by omega))
  rw [hlen] at h
  exact h
theorem rd_pg_b {pg : List Int} (hl : pg.length = 64) (hb : ∀ x ∈ pg, IsB x) (j : Nat) (hj : j < 64) : IsB (rd pg j) := by
  rw [rd_nat pg j (by omega)]; exact hb _ (List.getElem_mem _)
theorem and_mask41 (x : Nat) (h : x < 18446744073709551616) : Go.bits .and .u64 (x : Int) 2199023255551 = ((x % 2199023255552 : Nat) : Int) := by
  have h1 : Go.bits .and .u64 (x : Int) (2199023255551 : Nat) = ((x &&& 2199023255551 : Nat) : Int) := by
    show IntKind.u64.wrap ((BitVec.ofInt 64 (x : Int) &&& BitVec.ofInt 64 ((2199023255551 : Nat) : Int)).toNat : Int) = _
    rw [BitVec.toNat_and, ofInt_n 64 x (by omega), ofInt_n 64 2199023255551 (by omega), IntKind.wrap_u64]
    have : x &&& 2199023255551 ≤ x := Nat.and_le_left
    omega
  have h2 : x &&& 2199023255551 = x % 2199023255552 := Nat.and_two_pow_sub_one_eq_mod x 41
  rw [h2] at h1
  exact h1
end Go.Proofs.YtkdjibejnncmfaaGreatDoor.Co

/- Regions that draw, whose own operations only read, and whose calls make memory. -/
namespace Go.Proofs.YtkdjibejnncmfaaGreatDoor.Co
open Go.RowKit Go.Proofs.YtkdjibejnncmfaaGreatDoorW.PrintWords Go.Proofs.YtkdjibejnncmfaaGreatDoorW.PrintLast Go.Proofs.YtkdjibejnncmfaaGreatDoorW.PrintMore
set_option linter.unusedVariables false
set_option linter.unusedSimpArgs false
set_option maxRecDepth 100000
/-- The worlds in which nothing that lay there in w has changed. -/
def BW (w : World) : Type := { W : World // Below w.heap.size w W }
instance (w : World) : Nonempty (BW w) := ⟨⟨w, Below.refl _ _⟩⟩
theorem wp_region_bw {P : Program} {id : Nat} {Q : Exit → Act → World → Prop} {a : Act} {w : World} {l : List Oper} (hm : P.follows .mixedOrders = true) (hB : Region.lexB .any l.toArray = true)
    (h : wpQuiet P l.toArray (fun w' => ∃ W : BW w, w' = W.val) (fun a' => ∀ w', (∃ W : BW w, w' = W.val) → Q .normal a' w') l a) : (Code.region id l.toArray true).wp P Q a w :=
  wp_region_quiet (C := fun w' => ∃ W : BW w, w' = W.val) hm hB ⟨⟨w.drew, (Below.refl _ _).drew⟩, rfl⟩ (by simpa using h)
theorem BW.call {P : Program} {f : FuncId} {args : Array Value} {w : World} {W : BW w} {v : Value} (h : Calls P f args W.val fun e w' => e = .returned v ∧ Below W.val.heap.size W.val w') :
    Calls P f args W.val fun e w'' => e = .returned v ∧ ∃ W2 : BW w, w'' = W2.val :=
  h.mono fun _ w' ⟨he, hb⟩ => ⟨he, ⟨w', belt W.property hb⟩, rfl⟩
theorem BW.same {P : Program} {f : FuncId} {args : Array Value} {w : World} {W : BW w} {v : Value} (h : Calls P f args W.val fun e w' => e = .returned v ∧ W.val = w') :
    Calls P f args W.val fun e w'' => e = .returned v ∧ ∃ W2 : BW w, w'' = W2.val :=
  h.mono fun _ w' ⟨he, hb⟩ => ⟨he, W, hb.symm⟩
theorem BW.cell {w : World} {p : Addr} {v : Value} (h : w.cell? p = some v) (W : BW w) : W.val.cell? p = some v := cell_below W.property h
theorem rel_call2 {P : Program} {f : FuncId} {args : Array Value} {W wr : World} {Q : Ending → Prop} (h : Calls P f args W fun e w' => Q e ∧ Below W.heap.size W w') (hb : Below wr.heap.size wr W) :
    Calls P f args W fun e w' => Q e ∧ Below wr.heap.size wr w' ∧ Below W.heap.size W w' := h.mono fun _ _ h => ⟨h.1, hb.trans (h.2.mono hb.size), h.2⟩
/-- A box that was made just before a draw and a call. -/
theorem box_after (w : World) (cs : Array Value) (e : TypeId) {w' : World} (hb : Below (w.alloc (.cells cs e)).drew.heap.size (w.alloc (.cells cs e)).drew w') : Box w' w.heap.size e cs :=
  Box.below (w := (w.alloc (.cells cs e)).drew) (Box.new w cs e) hb (by simp)
theorem below_set {g o : Nat} {w w' : World} (h : Below g w w') (v : Value) : Below g w (w'.setCell ⟨g, o, none⟩ v) := h.setCell (Nat.le_refl g) v
end Go.Proofs.YtkdjibejnncmfaaGreatDoor.Co
