/- A page of the reference's disks is written anew; what a page is when bytes on it are written. -/
import Derived.Test.YtkdjibejnncmfaaGreatDoorZK83
namespace Go.Proofs.YtkdjibejnncmfaaGreatDoor.Co
open Go.RowKit Go.Proofs.YtkdjibejnncmfaaGreatDoorW.PrintWords Go.Proofs.YtkdjibejnncmfaaGreatDoorW.PrintLast Go.Proofs.YtkdjibejnncmfaaGreatDoorW.PrintMore
set_option linter.unusedVariables false
set_option linter.unusedSimpArgs false
set_option maxRecDepth 100000
theorem cut_part {L bs : List Int} {a o : Nat} (h1 : a + 64 ≤ L.length) (h2 : o + bs.length ≤ 64) : cutL (setL L (a + o) bs) a 64 = setL (cutL L a 64) o bs := by
  have hc : (cutL L a 64).length = 64 := by unfold cutL; rw [List.length_take, List.length_drop]; omega
  apply List.ext_getElem?
  intro t
  rw [cut_get, setL_get (cutL L a 64) o bs t (by omega), cut_get]
  by_cases ht : t < 64
  · rw [if_pos ht, setL_get L (a + o) bs (a + t) (by omega)]
    by_cases h3 : o ≤ t ∧ t < o + bs.length
    · rw [if_pos h3, if_pos (by omega), show a + t - (a + o) = t - o by omega]
    · rw [if_neg h3, if_neg (by omega), if_pos ht]
  · rw [if_neg ht, if_neg (by omega), if_neg ht]
/-- Bytes on a page are written. -/
theorem page_put {n m : Nat} {D : DS} (hl : D.disks.length = n) (hz : ∀ l ∈ D.disks, l.length = 64 * m) {i j i2 j2 o : Nat} {bs : List Int} (hi : i < n) (hj : j < m) (hj2 : j2 < m) (ho : o + bs.length ≤ 64) :
    pageAt (D.put i (j * 64 + o) bs) i2 j2 = if i = i2 ∧ j = j2 then setL (pageAt D i j) o bs else pageAt D i2 j2 := by
  have hi3 : i < D.disks.length := by omega
  have hr : (D.disks.getD i []).length = 64 * m := by
    rw [List.getD_eq_getElem?_getD, List.getElem?_eq_getElem hi3]
    exact hz _ (List.getElem_mem _)
  have e : ∀ (X : DS) (a b : Nat), pageAt X a b = cutL (X.disks.getD a []) (b * 64) 64 := fun X a b => rfl
  rw [e, e, e]
  have hd : (D.put i (j * 64 + o) bs).disks.getD i2 [] = if i = i2 then setL (D.disks.getD i []) (j * 64 + o) bs else D.disks.getD i2 [] := by
    show (D.disks.set i _).getD i2 [] = _
    rw [List.getD_eq_getElem?_getD, List.getElem?_set]
    by_cases he : i = i2
    · subst he
      rw [if_pos rfl, if_pos rfl, if_pos hi3]
      rfl
    · rw [if_neg he, if_neg he, List.getD_eq_getElem?_getD]
  rw [hd]
  by_cases he : i = i2
  · subst he
    rw [if_pos rfl]
    by_cases hej : j = j2
    · subst hej
      rw [if_pos ⟨rfl, rfl⟩]
      exact cut_part (by omega) ho
    · rw [if_neg (fun h => hej h.2), cut_out (by omega) (by omega)]
  · rw [if_neg he, if_neg (fun h => he h.1)]
theorem RAt.page {w : World} {base r Q c m : Nat} {E : List (Nat × Nat)} {D D' : DS} (h : RAt w base r Q E c m D) (i j : Nat) (e : Nat × Nat) (s : ByteArray) (he : E[i]? = some e)
    (h1 : pagesL D' i m = (pagesL D i m).set j s) (h2 : ∀ k, k ≠ i → pagesL D' k m = pagesL D k m) (h3 : D'.armed = D.armed) (h4 : D'.part = D.part) (h5 : D'.down = D.down) (h6 : D'.falls = D.falls) :
    RAt (w.setCell ⟨e.1, j, none⟩ (.string s)) base r Q E c m D' := by
  have ht : ∀ {k : Nat} {t : Nat} {cs : Array Value}, t ≠ 9 → w.heap[k]? = some (.cells cs t (0, 0)) → k ≠ e.1 := fun {k t cs} hn hk hke => by
    obtain ⟨cs2, hk2⟩ := own_typed (h.row i e he).own e.1 rfl
    rw [hke, hk2] at hk
    injection hk with hk
    injection hk with _ hk3
    exact hn hk3.symm
  refine ⟨?_, ?_, fun k f hf => ?_, h.nodup, h.rge, h.cap⟩
  · rw [h3, h4, h5, h6]
    exact h.box.far (ht (by decide) h.box) _
  · refine ownsRow_setCell_other h.outer ?_ _
    obtain ⟨cs, hk⟩ := own_typed h.outer Q rfl
    intro e2
    injection e2 with e2
    exact ht (by decide) hk e2
  · by_cases hk : k = i
    · subst hk
      rw [he] at hf
      injection hf with hf
      subst hf
      rw [h1]
      exact (h.row k e he).set j s
    · have hr := h.row k f hf
      rw [h2 k hk]
      refine ⟨ownsRow_setCell_other hr.own ?_ _, hr.len, hr.ge, hr.hcap, hr.capm⟩
      intro e2
      injection e2 with e2
      have e3 : f.1 = e.1 := e2
      have hki : k < (E.map Prod.fst).length := by rw [List.length_map]; exact (List.getElem?_eq_some_iff.1 hf).1
      have hii : i < (E.map Prod.fst).length := by rw [List.length_map]; exact (List.getElem?_eq_some_iff.1 he).1
      have q1 : (E.map Prod.fst)[k]? = some f.1 := by rw [List.getElem?_map, hf]; rfl
      have q2 : (E.map Prod.fst)[i]? = some e.1 := by rw [List.getElem?_map, he]; rfl
      have q3 : (E.map Prod.fst)[k]? = (E.map Prod.fst)[i]? := by rw [q1, q2, e3]
      exact hk ((List.getElem?_inj hki h.nodup).1 q3)
end Go.Proofs.YtkdjibejnncmfaaGreatDoor.Co
