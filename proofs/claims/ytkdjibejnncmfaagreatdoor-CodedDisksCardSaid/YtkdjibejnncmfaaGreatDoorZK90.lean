/- The reference's Lose, whatever comes in. -/
import Derived.Test.YtkdjibejnncmfaaGreatDoorZK89
namespace Go.Proofs.YtkdjibejnncmfaaGreatDoor.Co
open Go.RowKit Go.Proofs.YtkdjibejnncmfaaGreatDoorW.PrintWords Go.Proofs.YtkdjibejnncmfaaGreatDoorW.PrintLast Go.Proofs.YtkdjibejnncmfaaGreatDoorW.PrintMore
set_option linter.unusedVariables false
set_option linter.unusedSimpArgs false
set_option maxRecDepth 100000
theorem RAt.congr {w : World} {base r Q c m : Nat} {E : List (Nat × Nat)} {D D' : DS} (h : RAt w base r Q E c m D) (hp : ∀ k, pagesL D' k m = pagesL D k m) (h3 : D'.armed = D.armed) (h4 : D'.part = D.part) (h5 : D'.down = D.down) (h6 : D'.falls = D.falls) : RAt w base r Q E c m D' :=
  { h with
    box := by rw [h3, h4, h5, h6]; exact h.box
    row := fun i e he => by rw [hp]; exact h.row i e he }
theorem wr_zero : wrBytes zeroT = List.replicate 64 0 := by unfold zeroT; exact wr_str (zeros_b 64)
theorem loseTo_page {n m : Nat} {D : DS} (hz : Dz n m D) {i : Nat} (hi : i < n) (i2 j2 : Nat) (hj2 : j2 < m) : ∀ k, k ≤ m → pageAt (loseTo D i k) i2 j2 = if i = i2 ∧ j2 < k then List.replicate 64 0 else pageAt D i2 j2
  | 0, _ => by rw [if_neg (by omega)]; rfl
  | k + 1, hk => by
    have ih := loseTo_page hz hi i2 j2 hj2 k (by omega)
    have hd := loseTo_dz hz hi k
    have hp := page_put hd.len hd.size (i := i) (j := k) (i2 := i2) (j2 := j2) (o := 0) (bs := wrBytes zeroT) hi (by omega) hj2 (by rw [wr_zero]; simp)
    rw [Nat.add_zero] at hp
    show pageAt ((loseTo D i k).put i (k * 64) (wrBytes zeroT)) i2 j2 = _
    rw [hp]
    by_cases h1 : i = i2 ∧ k = j2
    · rw [if_pos h1, if_pos ⟨h1.1, by omega⟩, setL_full (hd.page hi (by omega)) (by rw [wr_zero]; simp), wr_zero]
    · rw [if_neg h1, ih]
      by_cases h2 : i = i2 ∧ j2 < k
      · rw [if_pos h2, if_pos ⟨h2.1, by omega⟩]
      · rw [if_neg h2, if_neg (fun h3 => by omega)]
theorem loseTo_fields (D : DS) (i : Nat) : ∀ k, (loseTo D i k).armed = D.armed ∧ (loseTo D i k).part = D.part ∧ (loseTo D i k).down = D.down ∧ (loseTo D i k).falls = D.falls
  | 0 => ⟨rfl, rfl, rfl, rfl⟩
  | k + 1 => loseTo_fields D i k
theorem lost_page {n m : Nat} {D : DS} (hz : Dz n m D) {i : Nat} (hi : i < n) (i2 j2 : Nat) (hj2 : j2 < m) : pageAt (D.put i 0 (List.replicate (64 * m) 0)) i2 j2 = if i = i2 then List.replicate 64 0 else pageAt D i2 j2 := by
  have hi3 : i < D.disks.length := by have := hz.len; omega
  have hr : (D.disks.getD i []).length = 64 * m := by
    rw [List.getD_eq_getElem?_getD, List.getElem?_eq_getElem hi3]
    exact hz.size _ (List.getElem_mem _)
  have hd : (D.put i 0 (List.replicate (64 * m) 0)).disks.getD i2 [] = if i = i2 then setL (D.disks.getD i []) 0 (List.replicate (64 * m) 0) else D.disks.getD i2 [] := by
    show (D.disks.set i _).getD i2 [] = _
    rw [List.getD_eq_getElem?_getD, List.getElem?_set]
    by_cases he : i = i2
    · subst he
      rw [if_pos rfl, if_pos rfl, if_pos hi3]
      rfl
    · rw [if_neg he, if_neg he, List.getD_eq_getElem?_getD]
  unfold pageAt
  rw [hd]
  by_cases he : i = i2
  · rw [if_pos he, if_pos he]
    apply List.ext_getElem?
    intro t
    rw [List.getElem?_take, List.getElem?_replicate]
    by_cases ht : t < 64
    · rw [if_pos ht, if_pos ht, List.getElem?_drop, setL_get _ 0 _ _ (by rw [List.length_replicate]; omega), if_pos (by rw [List.length_replicate]; omega), List.getElem?_replicate, if_pos (by omega)]
    · rw [if_neg ht, if_neg ht]
  · rw [if_neg he, if_neg he]
set_option maxHeartbeats 1000000 in
theorem refLose_any {base r Q c m : Nat} {E : List (Nat × Nat)} {D : DS} (i : Int) (w : World) (h : RAt w base r Q E c m D) (hz : Dz E.length m D) (hm : m ≤ 1024) (hm1 : 1 ≤ m) :
    Calls Tryz.prog 112 #[.pointer (some ⟨r, 0, none⟩), .int .i64 i] w fun e w' => e = .returned (.int .i64 (loseF E.length m D i).2) ∧ RAt w' base r Q E c m (loseF E.length m D i).1 ∧ Fr r (E.map Prod.fst) w w' := by
  by_cases h1 : 0 ≤ i ∧ i < (E.length : Int)
  · obtain ⟨i', rfl⟩ := Int.eq_ofNat_of_zero_le h1.1
    have hi : i' < E.length := by omega
    have hF : loseF E.length m D (i' : Int) = (D.put i' 0 (List.replicate (64 * m) 0), 0) := by
      unfold loseF hasF
      rw [if_pos (by simp; omega), Int.toNat_natCast]
    rw [hF]
    refine (refLose_loop i' w h hz hi hm).mono ?_
    rintro e w' ⟨rfl, hR, hFr⟩
    obtain ⟨q1, q2, q3, q4⟩ := loseTo_fields D i' m
    refine ⟨rfl, hR.congr (fun k => ?_) q1.symm q2.symm q3.symm q4.symm, hFr⟩
    unfold pagesL
    refine List.map_congr_left (fun t ht => ?_)
    have ht2 := List.mem_range.1 ht
    rw [lost_page hz hi k t ht2, loseTo_page hz hi k t ht2 m (Nat.le_refl _)]
    by_cases hk : i' = k
    · rw [if_pos hk, if_pos ⟨hk, ht2⟩]
    · rw [if_neg hk, if_neg (fun q => hk q.1)]
  · have hF : loseF E.length m D i = (D, 1) := by
      unfold loseF hasF
      rw [if_neg (by simp; omega)]
    rw [hF]
    have f0 := h.f0
    have H := Lib.hid h
    clear hF
    by_cases h2 : i < 0
    · clear f0 h
      go_enter Tryz.func112, Tryz.ntmps112
      go_wp2_with fail
      go_ret
      exact ⟨rfl, H.out, Fr.refl _ _ _⟩
    · have h3 : (E.length : Int) ≤ i := by omega
      clear h
      go_enter Tryz.func112, Tryz.ntmps112
      go_wp2_with fail
      go_ret
      exact ⟨rfl, H.out, Fr.refl _ _ _⟩
end Go.Proofs.YtkdjibejnncmfaaGreatDoor.Co
