/- Lists of operations as an argument. -/
import Derived.Test.YtkdjibejnncmfaaGreatDoorZK96
import Derived.Test.YtkdjibejnncmfaaGreatDoorZN5
import Derived.Deep.Fields
import Derived.Deep.SlicePairs
namespace Go.Proofs.YtkdjibejnncmfaaGreatDoor.Co
open Go.RowKit Go.ChangeShapes Go.WideShapes Go.Deep Go.Proofs.YtkdjibejnncmfaaGreatDoorW.PrintWords Go.Proofs.YtkdjibejnncmfaaGreatDoorW.PrintLast Go.Proofs.YtkdjibejnncmfaaGreatDoorW.PrintMore
set_option linter.unusedVariables false
set_option linter.unusedSimpArgs false
set_option maxRecDepth 100000
theorem cells93 : Tryz.prog.cellsOf 93 = 7 := by kernel_rfl
/-- The cells of a row of structs of one cell a field. -/
theorem cells_of_row {H : Type} {enc : TypeId × Value → H} {W : World} {base : Nat} {t e : TypeId} {fs : Array Field} {fuel len cap : Nat} {a0 : Option Addr} {x : DataW H × List MemPlace} (ht : Tryz.prog.underlying t = some (.slice e)) (he : Tryz.prog.underlying e = some (.struct fs))
    (hone : oneCellFields Tryz.prog fs = true) (hC : Tryz.prog.cellsOf e = fs.size) (h : DataW.trod enc Tryz.prog W base (fun _ => true) true fuel t [.slice a0 len cap] = some x) :
    (a0 = none ∧ len = 0 ∧ cap = 0) ∨ ∃ a, a0 = some a ∧ len ≤ cap ∧ cap ≤ maxLen ∧ ∀ i, i < len → ∀ (j : Nat) (f : Field), fs[j]? = some f → ∃ (v : Value) (y : DataW H × List MemPlace) (n : Nat), W.cell? (a.add (i * fs.size + j)) = some v ∧ DataW.trod enc Tryz.prog W base (fun _ => true) true n f.type [v] = some y := by
  rcases open_slice ht h with ⟨h1, _⟩ | ⟨a, len2, cap2, m, n, D, Pl, hcs, _, hl, hm, hmm, _, hi⟩
  · left
    injection h1 with h1 _
    injection h1 with h1 h2 h3
    exact ⟨h1, h2, h3⟩
  · right
    injection hcs with hcs _
    injection hcs with e1 e2 e3
    subst e1
    subst e2
    subst e3
    simp only [if_true] at hmm
    refine ⟨a, rfl, hl, hm, fun i hil j f hj => ?_⟩
    obtain ⟨cs, hc, hd⟩ := hi i (by omega)
    rw [hC] at hc
    obtain ⟨ys, n2, _, _, hlen, hyl, hf⟩ := DataW.trod_struct he hd
    obtain ⟨hoff, hk⟩ := hone_of hone j f hj
    have hjl : j < fs.size := (Array.getElem?_eq_some_iff.1 hj).1
    obtain ⟨_, hcl, hat⟩ := World.cells?_some hc
    have hjc : j < cs.length := by omega
    have h2 := hf j f hj
    rw [hoff, hk, List.drop_eq_getElem_cons hjc, List.getElem?_eq_getElem (show j < ys.length by omega)] at h2
    refine ⟨cs[j], _, _, ?_, h2⟩
    have h3 := hat j hjl
    rw [Go.Deep.add_add, List.getElem?_eq_getElem hjc] at h3
    exact h3
theorem ops_of {H : Type} {enc : TypeId × Value → H} {W : World} {base : Nat} {v : Value} {d : DataW H} {ps : List MemPlace} (hv : Value.okWide Tryz.prog W .any base 88 v) (h : DataW.Trod enc Tryz.prog W 0 (fun _ => true) true 88 v d ps) :
    ∃ A c F gf ff, v = .slice A F.length c ∧ OL W A c F gf ff := by
  obtain ⟨a0, len, cap, rfl⟩ := okWide_slice Tryz.underlying88 hv
  obtain ⟨fuel, hf⟩ := h
  rcases cells_of_row Tryz.underlying88 Tryz.underlying93 (by kernel_rfl) cells93 hf with ⟨rfl, rfl, rfl⟩ | ⟨a, rfl, hl, hm, hi⟩
  · exact ⟨none, 0, [], 0, 0, rfl, fun h => absurd rfl h, fun i x h => by simp at h, Nat.le_refl _, fun x h => by cases h⟩
  · have key : ∀ i, i < len → ∃ x : OpS, (∀ (j : Nat) v, x.cells[j]? = some v → W.cell? (a.add (i * 7 + j)) = some v) ∧ x.Ok := fun i hil => by
      obtain ⟨u0, y0, n0, c0, t0⟩ := hi i hil 0 _ rfl
      obtain ⟨u1, y1, n1, c1, t1⟩ := hi i hil 1 _ rfl
      obtain ⟨u2, y2, n2, c2, t2⟩ := hi i hil 2 _ rfl
      obtain ⟨u3, y3, n3, c3, t3⟩ := hi i hil 3 _ rfl
      obtain ⟨u4, y4, n4, c4, t4⟩ := hi i hil 4 _ rfl
      obtain ⟨u5, y5, n5, c5, t5⟩ := hi i hil 5 _ rfl
      obtain ⟨u6, y6, n6, c6, t6⟩ := hi i hil 6 _ rfl
      obtain ⟨k, e0, _, _⟩ := DataW.trod_int Tryz.underlying3 t0
      obtain ⟨di, e1, _, _⟩ := DataW.trod_int Tryz.underlying3 t1
      obtain ⟨pg, e2, _, _⟩ := DataW.trod_int Tryz.underlying3 t2
      obtain ⟨pl, e3, _, _⟩ := DataW.trod_int Tryz.underlying3 t3
      obtain ⟨nn, e4, _, w4⟩ := DataW.trod_int Tryz.underlying3 t4
      obtain ⟨y, e5, _, w5⟩ := DataW.trod_int Tryz.underlying5 t5
      obtain ⟨s, e6, _, w6⟩ := DataW.trod_string Tryz.underlying9 t6
      simp at e0 e1 e2 e3 e4 e5 e6
      subst e0
      subst e1
      subst e2
      subst e3
      subst e4
      subst e5
      subst e6
      refine ⟨⟨k, di, pg, pl, nn, y, s⟩, fun j v hj => ?_, (int_of w4).2, byte_of w5, by unfold maxLen at w6; exact w6⟩
      unfold OpS.cells at hj
      match j, hj with
      | 0, hj => simp at hj; subst hj; exact c0
      | 1, hj => simp at hj; subst hj; exact c1
      | 2, hj => simp at hj; subst hj; exact c2
      | 3, hj => simp at hj; subst hj; exact c3
      | 4, hj => simp at hj; subst hj; exact c4
      | 5, hj => simp at hj; subst hj; exact c5
      | 6, hj => simp at hj; subst hj; exact c6
      | j + 7, hj => simp at hj
    obtain ⟨q, hq⟩ : ∃ q : Nat → OpS, ∀ i, i < len → (∀ (j : Nat) v, (q i).cells[j]? = some v → W.cell? (a.add (i * 7 + j)) = some v) ∧ (q i).Ok := by
      refine ⟨fun i => if h : i < len then Classical.choose (key i h) else ⟨0, 0, 0, 0, 0, 0, ⟨#[]⟩⟩, fun i hil => ?_⟩
      simp only [dif_pos hil]
      exact Classical.choose_spec (key i hil)
    obtain ⟨g, o, sp⟩ := a
    have hsp : len ≠ 0 → sp = none := fun h0 => World.cell?_spot ((hq 0 (by omega)).1 0 _ rfl)
    have hlen : ((List.range len).map q).length = len := by simp
    refine ⟨some ⟨g, o, sp⟩, cap, (List.range len).map q, g, o, by rw [hlen], fun h0 => by rw [hsp (by rw [hlen] at h0; exact h0)], fun i x hx => ?_, by rw [hlen]; exact hl, fun x hx => ?_⟩
    · have hil : i < len := by
        have := (List.getElem?_eq_some_iff.1 hx).1
        rw [hlen] at this; exact this
      have ex : x = q i := by simpa [hil] using hx.symm
      subst ex
      have e := hsp (by omega)
      subst e
      intro j v hj
      have h1 := (hq i hil).1 j v hj
      rw [Addr.add_lit] at h1
      rw [Nat.add_assoc]
      exact h1
    · obtain ⟨i, hi2, rfl⟩ := List.mem_map.1 hx
      exact (hq i (List.mem_range.1 hi2)).2
end Go.Proofs.YtkdjibejnncmfaaGreatDoor.Co
