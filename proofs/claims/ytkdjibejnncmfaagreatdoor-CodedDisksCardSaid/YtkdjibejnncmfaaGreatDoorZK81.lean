/- The reference's disks in memory: the same disks, pages as texts; zeros, Arm, Restart, has, Read. -/
import Derived.Test.YtkdjibejnncmfaaGreatDoorZK80
import Derived.Test.YtkdjibejnncmfaaGreatDoorZK74
namespace Go.Proofs.YtkdjibejnncmfaaGreatDoor.Co
open Go.RowKit Go.Proofs.YtkdjibejnncmfaaGreatDoorW.PrintWords Go.Proofs.YtkdjibejnncmfaaGreatDoorW.PrintLast Go.Proofs.YtkdjibejnncmfaaGreatDoorW.PrintMore
set_option linter.unusedVariables false
set_option linter.unusedSimpArgs false
set_option maxRecDepth 100000
/-- The pages of a disk, as texts. -/
def pagesL (D : DS) (i m : Nat) : List ByteArray := (List.range m).map fun (j : Nat) => strOfNums (pageAt D i j)
theorem pagesL_len (D : DS) (i m : Nat) : (pagesL D i m).length = m := by simp [pagesL]
theorem vs_pages (D : DS) (i m j : Nat) (h : j < m) : vs (pagesL D i m) j = strOfNums (pageAt D i j) := vs_map _ m j h
abbrev rowE (m : Nat) (e : Nat × Nat) : Value := .slice (some ⟨e.1, 0, none⟩) m e.2
/-- The reference's disks: the variable r, the row Q of the disks' rows, the disks' rows E (block and capacity); m pages each; all made since base. -/
structure RAt (w : World) (base r Q : Nat) (E : List (Nat × Nat)) (c m : Nat) (D : DS) : Prop where
  box : Box w r 150 #[.slice (some ⟨Q, 0, none⟩) E.length c, .int .i64 D.armed, .int .i64 D.part, .bool D.down, .int .i64 D.falls]
  outer : w.ownsRow base 33 1 (.slice (some ⟨Q, 0, none⟩) E.length c) E.length (E.map (rowE m))
  row : ∀ i e, E[i]? = some e → OW w base e.1 m e.2 (pagesL D i m)
  nodup : (E.map Prod.fst).Nodup
  rge : base ≤ r
  cap : E.length ≤ c
section
variable {w w' : World} {base r Q c m : Nat} {E : List (Nat × Nat)} {D : DS}
theorem RAt.below (h : RAt w base r Q E c m D) (hb : Below w.heap.size w w') : RAt w' base r Q E c m D :=
  { h with box := h.box.below hb h.box.lt, outer := own_below h.outer hb, row := fun i e he => (h.row i e he).below hb }
theorem RAt.f0 (h : RAt w base r Q E c m D) : w.cell? ⟨r, 0, none⟩ = some (.slice (some ⟨Q, 0, none⟩) E.length c) := h.box.cell 0
theorem RAt.f1 (h : RAt w base r Q E c m D) : w.cell? ⟨r, 1, none⟩ = some (.int .i64 D.armed) := h.box.cell 1
theorem RAt.f2 (h : RAt w base r Q E c m D) : w.cell? ⟨r, 2, none⟩ = some (.int .i64 D.part) := h.box.cell 2
theorem RAt.f3 (h : RAt w base r Q E c m D) : w.cell? ⟨r, 3, none⟩ = some (.bool D.down) := h.box.cell 3
theorem RAt.f4 (h : RAt w base r Q E c m D) : w.cell? ⟨r, 4, none⟩ = some (.int .i64 D.falls) := h.box.cell 4
theorem RAt.rowC (h : RAt w base r Q E c m D) (i : Nat) (e : Nat × Nat) (he : E[i]? = some e) : w.cell? ⟨Q, i, none⟩ = some (rowE m e) := by
  have hi : i < E.length := (List.getElem?_eq_some_iff.1 he).1
  rw [h.outer.cellAt i (by omega), List.getElem?_map, he]
  rfl
theorem RAt.pageC (h : RAt w base r Q E c m D) (i j : Nat) (e : Nat × Nat) (he : E[i]? = some e) (hj : j < m) : w.cell? ⟨e.1, j, none⟩ = some (.string (strOfNums (pageAt D i j))) := by
  rw [← vs_pages D i m j hj]
  exact (h.row i e he).cell j hj
end
theorem zeros_text : strOfNums (List.replicate 64 0) = strOfNums (List.replicate 64 0) := rfl
theorem refHas_any {base r Q c m : Nat} {E : List (Nat × Nat)} {D : DS} (i j : Int) (w : World) (h : RAt w base r Q E c m D) :
    Calls Tryz.prog 141 #[.pointer (some ⟨r, 0, none⟩), .int .i64 i, .int .i64 j] w fun e w' => e = .returned (.bool (hasF E.length m i j)) ∧ w = w' := by
  have f0 := h.f0
  have H := Lib.hid h
  have hc := h.cap
  clear h
  by_cases h1 : 0 ≤ i
  · by_cases h2 : i < (E.length : Int)
    · obtain ⟨i', rfl⟩ := Int.eq_ofNat_of_zero_le h1
      have hi : i' < E.length := by omega
      have r0 := H.out.rowC i' E[i'] (List.getElem?_eq_getElem hi)
      by_cases h3 : 0 ≤ j
      · have hF : Hid (hasF E.length m (i' : Int) j = decide (j < (m : Int))) := Lib.hid (by unfold hasF; simp [h2, h3])
        go_enter Tryz.func141, Tryz.ntmps141
        go_wp2_with fail
        go_ret
        exact ⟨ret_bool' (by rw [hF.out]), rfl⟩
      · have hF : Hid (hasF E.length m (i' : Int) j = false) := Lib.hid (by unfold hasF; simp [h3])
        have h3' : j < 0 := by omega
        go_enter Tryz.func141, Tryz.ntmps141
        go_wp2_with fail
        go_ret
        exact ⟨ret_bool' (by rw [hF.out]), rfl⟩
    · have hF : Hid (hasF E.length m i j = false) := Lib.hid (by unfold hasF; simp [h2])
      have h2' : (E.length : Int) ≤ i := by omega
      go_enter Tryz.func141, Tryz.ntmps141
      go_wp2_with fail
      go_ret
      exact ⟨ret_bool' (by rw [hF.out]), rfl⟩
  · have hF : Hid (hasF E.length m i j = false) := Lib.hid (by unfold hasF; simp [h1])
    have h1' : i < 0 := by omega
    go_enter Tryz.func141, Tryz.ntmps141
    go_wp2_with fail
    go_ret
    exact ⟨ret_bool' (by rw [hF.out]), rfl⟩
end Go.Proofs.YtkdjibejnncmfaaGreatDoor.Co
