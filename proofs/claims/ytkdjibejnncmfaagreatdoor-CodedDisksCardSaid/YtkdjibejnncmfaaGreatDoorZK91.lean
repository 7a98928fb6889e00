/- The program's disks and the reference's beside each other: what one's operations keep of the other. -/
import Derived.Test.YtkdjibejnncmfaaGreatDoorZK90
namespace Go.Proofs.YtkdjibejnncmfaaGreatDoor.Co
open Go.RowKit Go.Proofs.YtkdjibejnncmfaaGreatDoorW.PrintWords Go.Proofs.YtkdjibejnncmfaaGreatDoorW.PrintLast Go.Proofs.YtkdjibejnncmfaaGreatDoorW.PrintMore
set_option linter.unusedVariables false
set_option linter.unusedSimpArgs false
set_option maxRecDepth 100000
/-- The blocks of the program's disks are none of the reference's. -/
structure Far (d P : Nat) (B : List Nat) (r Q : Nat) (E : List (Nat × Nat)) : Prop where
  no : ∀ x y, (x = d ∨ x = P ∨ x ∈ B) → (y = r ∨ y = Q ∨ y ∈ E.map Prod.fst) → x ≠ y
theorem Fr.heap {d : Nat} {B : List Nat} {w w' : World} (h : Fr d B w w') {g : Nat} {o : Obj} (ho : w.heap[g]? = some o) (h1 : g ≠ d) (h2 : g ∉ B) : w'.heap[g]? = some o := by
  have hl : g < w.heap.size := by
    by_cases hh : g < w.heap.size
    · exact hh
    · rw [Array.getElem?_eq_none (by omega)] at ho; cases ho
  rw [h.block g hl h1 h2, ho]
theorem RAt.fr {w w' : World} {base d P r Q c m : Nat} {B : List Nat} {E : List (Nat × Nat)} {D : DS} (h : RAt w base r Q E c m D) (hF : Far d P B r Q E) (hf : Fr d B w w') : RAt w' base r Q E c m D := by
  have hk : ∀ y, (y = r ∨ y = Q ∨ y ∈ E.map Prod.fst) → y ≠ d ∧ y ∉ B := fun y hy => ⟨fun e => hF.no d y (Or.inl rfl) hy e.symm, fun hm => hF.no y y (Or.inr (Or.inr hm)) hy rfl⟩
  refine { h with box := hf.box h.box (hk r (Or.inl rfl)).1 (hk r (Or.inl rfl)).2, outer := ?_, row := fun i e he => ?_ }
  · refine own_move h.outer (fun k hk2 => ?_)
    have e : Q = k := by simpa [Value.ownBlock] using hk2
    subst e
    obtain ⟨cs, ho⟩ := own_typed h.outer Q rfl
    rw [ho]
    exact hf.heap ho (hk Q (Or.inr (Or.inl rfl))).1 (hk Q (Or.inr (Or.inl rfl))).2
  · have hr := h.row i e he
    have hm : e.1 ∈ E.map Prod.fst := List.mem_map.2 ⟨e, List.mem_of_getElem? he, rfl⟩
    refine ⟨own_move hr.own (fun k hk2 => ?_), hr.len, hr.ge, hr.hcap, hr.capm⟩
    have e2 : e.1 = k := by simpa [Value.ownBlock] using hk2
    rw [← e2]
    obtain ⟨cs, ho⟩ := own_typed hr.own e.1 rfl
    rw [ho]
    exact hf.heap ho (hk e.1 (Or.inr (Or.inr hm))).1 (hk e.1 (Or.inr (Or.inr hm))).2
theorem DAt.fr {w w' : World} {d P r Q c m : Nat} {B : List Nat} {E : List (Nat × Nat)} {D : DS} (h : DAt w d P B c m D) (hF : Far d P B r Q E) (hf : Fr r (E.map Prod.fst) w w') : DAt w' d P B c m D := by
  have hk : ∀ x, (x = d ∨ x = P ∨ x ∈ B) → x ≠ r ∧ x ∉ E.map Prod.fst := fun x hx => ⟨hF.no x r hx (Or.inl rfl), fun hm => hF.no x x hx (Or.inr (Or.inr hm)) rfl⟩
  obtain ⟨cs, h1, h2⟩ := h.rows
  exact { h with
    box := hf.box h.box (hk d (Or.inl rfl)).1 (hk d (Or.inl rfl)).2
    rows := ⟨cs, hf.box h1 (hk P (Or.inr (Or.inl rfl))).1 (hk P (Or.inr (Or.inl rfl))).2, h2⟩
    disk := fun i b l hb hl => hf.box (h.disk i b l hb hl) (hk b (Or.inr (Or.inr (List.mem_of_getElem? hb)))).1 (hk b (Or.inr (Or.inr (List.mem_of_getElem? hb)))).2 }
end Go.Proofs.YtkdjibejnncmfaaGreatDoor.Co
