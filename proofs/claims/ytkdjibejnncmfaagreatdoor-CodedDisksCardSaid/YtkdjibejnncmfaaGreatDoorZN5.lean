/- Arguments that are slices of texts or of whole numbers: what the walks ask of them. -/
import Derived.Test.YtkdjibejnncmfaaGreatDoorZK71
import Derived.Test.YtkdjibejnncmfaaGreatDoorZShut
import Derived.SliceStrings
namespace Go.Proofs.YtkdjibejnncmfaaGreatDoor.Co
open Go.RowKit Go.ChangeShapes Go.WideShapes Go.Proofs.YtkdjibejnncmfaaGreatDoorW.PrintWords Go.Proofs.YtkdjibejnncmfaaGreatDoorW.PrintLast Go.Proofs.YtkdjibejnncmfaaGreatDoorW.PrintMore
set_option linter.unusedVariables false
set_option linter.unusedSimpArgs false
set_option maxRecDepth 100000
theorem tcells9 : Tryz.prog.cellsOf 9 = 1 := by kernel_rfl
theorem tcells3 : Tryz.prog.cellsOf 3 = 1 := by kernel_rfl
theorem tl_of {H : Type} {enc : TypeId × Value → H} {W : World} {base : Nat} {v : Value} {d : DataW H} {ps : List MemPlace} (hv : Value.okWide Tryz.prog W .any base 33 v) (h : DataW.Trod enc Tryz.prog W 0 (fun _ => true) true 33 v d ps) :
    ∃ A c l, v = .slice A l.length c ∧ TL W A c l := by
  obtain ⟨a0, len, cap, rfl⟩ := okWide_slice Tryz.underlying33 hv
  obtain ⟨fuel, hf⟩ := h
  rcases open_strings Tryz.underlying33 Tryz.underlying9 tcells9 hf with ⟨hcs, hx⟩ | ⟨a, len', cap', ss, hcs, _, hl, hm, hz, hx, hcell, hws⟩
  · simp [Value.cells] at hcs
    obtain ⟨rfl, rfl, rfl⟩ := hcs
    exact ⟨none, 0, [], rfl, ⟨Kd.C_of_reads (d := ByteArray.empty) ⟨rfl, by simp, fun h => absurd h (by simp)⟩, by simp, by omega, fun s hs => by cases hs⟩⟩
  · simp [Value.cells] at hcs
    obtain ⟨rfl, rfl, rfl⟩ := hcs
    simp only [if_true] at hz
    have hlt : (ss.take len).length = len := by rw [List.length_take]; omega
    unfold maxLen at hm hws
    refine ⟨some a, cap, ss.take len, by rw [hlt], ⟨Kd.C_of_reads (d := ByteArray.empty) ⟨rfl, by rw [hlt]; omega, fun h => ⟨a, rfl, fun j hj => ?_⟩⟩, by rw [hlt]; exact hl, hm, fun s hs => hws s (List.mem_of_mem_take hs)⟩⟩
    rw [hlt] at hj
    rw [hcell j (by omega)]
    simp [List.getD, hj]
theorem ints_of {H : Type} {enc : TypeId × Value → H} {W : World} {base : Nat} {v : Value} {d : DataW H} {ps : List MemPlace} (hv : Value.okWide Tryz.prog W .any base 34 v) (h : DataW.Trod enc Tryz.prog W 0 (fun _ => true) true 34 v d ps) :
    ∃ A c l, v = .slice A l.length c ∧ Kd.C (Kd.int .i64) W A l.length l ∧ l.length ≤ c ∧ c ≤ 9223372036854775807 ∧ ∀ x ∈ l, -9223372036854775808 ≤ x ∧ x ≤ 9223372036854775807 := by
  obtain ⟨a0, len, cap, rfl⟩ := okWide_slice Tryz.underlying34 hv
  obtain ⟨fuel, hf⟩ := h
  rcases open_ints Tryz.underlying34 Tryz.underlying3 tcells3 hf with ⟨hcs, hx⟩ | ⟨a, len', cap', zs, hcs, _, hl, hm, hz, hx, hcell, hwz⟩
  · simp [Value.cells] at hcs
    obtain ⟨rfl, rfl, rfl⟩ := hcs
    exact ⟨none, 0, [], rfl, Kd.C_of_reads (d := 0) ⟨rfl, by simp, fun h => absurd h (by simp)⟩, by simp, by omega, fun s hs => by cases hs⟩
  · simp [Value.cells] at hcs
    obtain ⟨rfl, rfl, rfl⟩ := hcs
    simp only [if_true] at hz
    have hlt : (zs.take len).length = len := by rw [List.length_take]; omega
    unfold maxLen at hm
    refine ⟨some a, cap, zs.take len, by rw [hlt], Kd.C_of_reads (d := 0) ⟨rfl, by rw [hlt]; omega, fun h => ⟨a, rfl, fun j hj => ?_⟩⟩, by rw [hlt]; exact hl, hm, fun x hx => ?_⟩
    · rw [hlt] at hj
      rw [hcell j (by omega)]
      simp [List.getD, hj]
    · have := hwz x (List.mem_of_mem_take hx)
      simpa [Lit.wf, IntKind.min, IntKind.max, IntKind.signed, IntKind.bits] using this
theorem int_of {x : Int} (w : (Lit.int .i64 x).wf = true) : -9223372036854775808 ≤ x ∧ x ≤ 9223372036854775807 := by
  simpa [Lit.wf, IntKind.min, IntKind.max, IntKind.signed, IntKind.bits] using w
theorem byte_of {x : Int} (w : (Lit.int .u8 x).wf = true) : IsB x := by
  have hx : 0 ≤ x ∧ x ≤ 255 := by simpa [Lit.wf, IntKind.min, IntKind.max, IntKind.signed, IntKind.bits] using w
  exact ⟨hx.1, by omega⟩
/-- CodedStraight returns true, whatever comes in. -/
theorem straight_any {A Am : Option Addr} {c cm : Nat} {l m : List ByteArray} {n y : Int} {w : World} (hl : TL w A c l) (hm : TL w Am cm m) (hy : IsB y) :
    Calls Tryz.prog 6 #[.slice A l.length c, .slice Am m.length cm, .int .i64 n, .int .u8 y] w fun e w' => e = .returned (.bool true) ∧ Below w.heap.size w w' := by
  cases h : (dataB l n 100 && dataB m n 100 && l.length == m.length && (vs l 0).size == (vs m 0).size) with
  | false => exact straight_no hl hm h
  | true =>
    simp only [Bool.and_eq_true, beq_iff_eq] at h
    obtain ⟨⟨⟨h1, h2⟩, h3⟩, h4⟩ := h
    have hn := dataB_iff h1
    obtain ⟨N, rfl⟩ := Int.eq_ofNat_of_zero_le (show 0 ≤ n by omega)
    have := straight_yes hl hm hy h1 h2 rfl h3.symm h4
    rw [← h3]
    exact this
end Go.Proofs.YtkdjibejnncmfaaGreatDoor.Co
