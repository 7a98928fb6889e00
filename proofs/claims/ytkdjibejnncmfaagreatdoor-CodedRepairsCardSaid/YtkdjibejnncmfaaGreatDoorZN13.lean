/- CodedRepairs: the faults as an argument; the law returns true, whatever comes in. -/
import Derived.Test.YtkdjibejnncmfaaGreatDoorZK75
import Derived.Test.YtkdjibejnncmfaaGreatDoorZN5
import Derived.Deep.SlicePairs
namespace Go.Proofs.YtkdjibejnncmfaaGreatDoor.Co
open Go.RowKit Go.ChangeShapes Go.WideShapes Go.Deep Go.Proofs.YtkdjibejnncmfaaGreatDoorW.PrintWords Go.Proofs.YtkdjibejnncmfaaGreatDoorW.PrintLast Go.Proofs.YtkdjibejnncmfaaGreatDoorW.PrintMore
set_option linter.unusedVariables false
set_option linter.unusedSimpArgs false
set_option maxRecDepth 100000
/-- Faults as an argument. -/
structure FL (w : World) (A : Option Addr) (c : Nat) (F : List (Int × ByteArray)) (gf ff : Nat) : Prop where
  at_ : F.length ≠ 0 → A = some ⟨gf, ff, none⟩
  fa : FA w gf ff F
  cap : F.length ≤ c
  ok : ∀ x ∈ F, (-9223372036854775808 ≤ x.1 ∧ x.1 ≤ 9223372036854775807) ∧ x.2.size ≤ 9223372036854775807
theorem cells79 : Tryz.prog.cellsOf 79 = 2 := by kernel_rfl
theorem faults_of {H : Type} {enc : TypeId × Value → H} {W : World} {base : Nat} {v : Value} {d : DataW H} {ps : List MemPlace} (hv : Value.okWide Tryz.prog W .any base 76 v) (h : DataW.Trod enc Tryz.prog W 0 (fun _ => true) true 76 v d ps) :
    ∃ A c F gf ff, v = .slice A F.length c ∧ FL W A c F gf ff := by
  obtain ⟨a0, len, cap, rfl⟩ := okWide_slice Tryz.underlying76 hv
  obtain ⟨fuel, hf⟩ := h
  rcases open_slice_pairs Tryz.underlying76 Tryz.underlying79 cells79 rfl rfl tcells3 tcells9 hf with ⟨hcs, hx⟩ | ⟨a, len', cap', m, n, V0, V1, D0, D1, P0, P1, hcs, _, hl, hm, hmm, hx, hi⟩
  · simp [Value.cells] at hcs
    obtain ⟨rfl, rfl, rfl⟩ := hcs
    exact ⟨none, 0, [], 0, 0, rfl, fun h => absurd rfl h, fun i x h => by simp at h, Nat.le_refl _, fun x h => by cases h⟩
  · simp [Value.cells] at hcs
    obtain ⟨rfl, rfl, rfl⟩ := hcs
    simp only [if_true] at hmm
    have key : ∀ i, i < len → ∃ (x : Int) (s : ByteArray), W.cell? (a.add (i * 2)) = some (.int .i64 x) ∧ W.cell? (a.add (i * 2 + 1)) = some (.string s) ∧ (-9223372036854775808 ≤ x ∧ x ≤ 9223372036854775807) ∧ s.size ≤ 9223372036854775807 := fun i hil => by
      obtain ⟨h0, h1, t0, t1⟩ := hi i (by omega)
      obtain ⟨x, e0, _, w0⟩ := DataW.trod_int Tryz.underlying3 t0
      obtain ⟨s, e1, _, w1⟩ := DataW.trod_string Tryz.underlying9 t1
      simp at e0 e1
      rw [e0] at h0
      rw [e1] at h1
      exact ⟨x, s, h0, h1, int_of w0, by unfold maxLen at w1; exact w1⟩
    obtain ⟨q, hq⟩ : ∃ q : Nat → Int × ByteArray, ∀ i, i < len → W.cell? (a.add (i * 2)) = some (.int .i64 (q i).1) ∧ W.cell? (a.add (i * 2 + 1)) = some (.string (q i).2) ∧ (-9223372036854775808 ≤ (q i).1 ∧ (q i).1 ≤ 9223372036854775807) ∧ (q i).2.size ≤ 9223372036854775807 := by
      refine Go.Deep.choose_lt (p := fun (i : Nat) (y : Int × ByteArray) => W.cell? (a.add (i * 2)) = some (.int .i64 y.1) ∧ W.cell? (a.add (i * 2 + 1)) = some (.string y.2) ∧ (-9223372036854775808 ≤ y.1 ∧ y.1 ≤ 9223372036854775807) ∧ y.2.size ≤ 9223372036854775807) (fun i hil => ?_)
      obtain ⟨x, s, h0, h1, h2, h3⟩ := key i hil
      exact ⟨(x, s), h0, h1, h2, h3⟩
    obtain ⟨g, o, sp⟩ := a
    have hsp : len ≠ 0 → sp = none := fun h0 => World.cell?_spot (hq 0 (by omega)).1
    have hlen : ((List.range len).map q).length = len := by simp
    refine ⟨some ⟨g, o, sp⟩, cap, (List.range len).map q, g, o, by rw [hlen], fun h0 => by rw [hsp (by rw [hlen] at h0; exact h0)], fun i x hx => ?_, by rw [hlen]; exact hl, fun x hx => ?_⟩
    · have hil : i < len := by
        have := (List.getElem?_eq_some_iff.1 hx).1
        rw [hlen] at this; exact this
      have ex : x = q i := by simpa [hil] using hx.symm
      subst ex
      obtain ⟨h0, h1, _, _⟩ := hq i hil
      have e := hsp (by omega)
      subst e
      intro j v hj
      match j, hj with
      | 0, hj =>
        simp at hj
        subst hj
        have ea : (⟨g, o, none⟩ : Addr).add (i * 2) = ⟨g, o + i * 2 + 0, none⟩ := by rw [Addr.add_lit, Nat.add_zero]
        rw [ea] at h0
        exact h0
      | 1, hj =>
        simp at hj
        subst hj
        have ea : (⟨g, o, none⟩ : Addr).add (i * 2 + 1) = ⟨g, o + i * 2 + 1, none⟩ := by rw [Addr.add_lit, Nat.add_assoc]
        rw [ea] at h1
        exact h1
      | j + 2, hj => simp at hj
    · obtain ⟨i, hi, rfl⟩ := List.mem_map.1 hx
      exact (hq i (List.mem_range.1 hi)).2.2
/-- CodedRepairs returns true, whatever comes in. -/
theorem rep_any {A Af : Option Addr} {c cf gf ff : Nat} {l : List ByteArray} {F : List (Int × ByteArray)} {n t y : Int} {w : World} (hl : TL w A c l) (hF : FL w Af cf F gf ff) (ht : -9223372036854775808 ≤ t ∧ t ≤ 9223372036854775807) (hy : IsB y) :
    Calls Tryz.prog 9 #[.slice A l.length c, .int .i64 n, .slice Af F.length cf, .int .i64 t, .int .u8 y] w fun e w' => e = .returned (.bool true) ∧ Below w.heap.size w w' := by
  cases h : (dataB l n 8 && decide (n ≤ 9) && decide (F.length ≤ 50)) with
  | false => exact rep_no hl h
  | true =>
    simp only [Bool.and_eq_true, decide_eq_true_eq] at h
    obtain ⟨⟨h1, h2⟩, h3⟩ := h
    have hn := dataB_iff h1
    obtain ⟨N, rfl⟩ := Int.eq_ofNat_of_zero_le (show 0 ≤ n by omega)
    exact rep_yes hl hF.at_ hF.fa rfl hF.cap hF.ok ht hy h1 (by omega) rfl h3
end Go.Proofs.YtkdjibejnncmfaaGreatDoor.Co
