/- The walk of the reference's Write, but for the write at which the power goes off. -/
import Derived.Test.YtkdjibejnncmfaaGreatDoorZK84
namespace Go.Proofs.YtkdjibejnncmfaaGreatDoor.Co
open Go.RowKit Go.Proofs.YtkdjibejnncmfaaGreatDoorW.PrintWords Go.Proofs.YtkdjibejnncmfaaGreatDoorW.PrintLast Go.Proofs.YtkdjibejnncmfaaGreatDoorW.PrintMore
set_option linter.unusedVariables false
set_option linter.unusedSimpArgs false
set_option maxRecDepth 100000
/-- Disks' rows are as long as they should be. -/
structure Dz (n m : Nat) (D : DS) : Prop where
  len : D.disks.length = n
  size : ∀ l ∈ D.disks, l.length = 64 * m
theorem pages_put {n m : Nat} {D : DS} (h : Dz n m D) {i j o : Nat} {bs : List Int} (hi : i < n) (hj : j < m) (ho : o + bs.length ≤ 64) : pagesL (D.put i (j * 64 + o) bs) i m = (pagesL D i m).set j (strOfNums (setL (pageAt D i j) o bs)) := by
  apply List.ext_getElem?
  intro t
  rw [List.getElem?_set]
  by_cases ht : t < m
  · have e1 : ∀ X : DS, (pagesL X i m)[t]? = some (strOfNums (pageAt X i t)) := fun X => by unfold pagesL; rw [List.getElem?_map, List.getElem?_range ht]; rfl
    rw [e1, e1, page_put h.len h.size hi hj ht ho]
    by_cases hjt : j = t
    · rw [if_pos ⟨rfl, hjt⟩, if_pos hjt, if_pos (by rw [pagesL_len]; exact hj)]
    · rw [if_neg (fun q => hjt q.2), if_neg hjt]
  · rw [List.getElem?_eq_none (by rw [pagesL_len]; omega), if_neg (by omega), List.getElem?_eq_none (by rw [pagesL_len]; omega)]
theorem pages_else {n m : Nat} {D : DS} (h : Dz n m D) {i j o k : Nat} {bs : List Int} (hi : i < n) (hj : j < m) (ho : o + bs.length ≤ 64) (hk : k ≠ i) : pagesL (D.put i (j * 64 + o) bs) k m = pagesL D k m := by
  unfold pagesL
  refine List.map_congr_left (fun t ht => ?_)
  rw [page_put h.len h.size hi hj (List.mem_range.1 ht) ho, if_neg (fun q => hk q.1.symm)]
theorem Dz.page {n m : Nat} {D : DS} (h : Dz n m D) {i j : Nat} (hi : i < n) (hj : j < m) : (pageAt D i j).length = 64 := by
  have hi3 : i < D.disks.length := by have := h.len; omega
  have hr : (D.disks.getD i []).length = 64 * m := by
    rw [List.getD_eq_getElem?_getD, List.getElem?_eq_getElem hi3]
    exact h.size _ (List.getElem_mem _)
  unfold pageAt
  rw [List.length_take, List.length_drop]
  omega
theorem setL_full {pg bs : List Int} (h1 : pg.length = 64) (h2 : bs.length = 64) : setL pg 0 bs = bs := by
  apply List.ext_getElem?
  intro t
  rw [setL_get pg 0 bs t (by omega)]
  by_cases ht : t < 64
  · rw [if_pos (by omega), Nat.sub_zero]
  · rw [if_neg (by omega), List.getElem?_eq_none (by omega), List.getElem?_eq_none (by omega)]
/-- A whole page is written. -/
theorem RAt.whole {w : World} {base r Q c m : Nat} {E : List (Nat × Nat)} {D : DS} (h : RAt w base r Q E c m D) (hz : Dz E.length m D) {i j : Nat} (e : Nat × Nat) {s : ByteArray} (he : E[i]? = some e) (hj : j < m) (hs : s.size = 64) :
    RAt (w.setCell ⟨e.1, j, none⟩ (.string s)) base r Q E c m (D.put i (j * 64) (wrBytes s)) := by
  have hi : i < E.length := (List.getElem?_eq_some_iff.1 he).1
  have hw : (wrBytes s).length = 64 := by rw [wrBytes_length, hs]
  have h1 := pages_put hz (o := 0) (bs := wrBytes s) hi hj (by omega)
  rw [Nat.add_zero, setL_full (hz.page hi hj) hw, str_wr] at h1
  refine h.page i j e s he h1 (fun k hk => ?_) rfl rfl rfl rfl
  have := pages_else hz (o := 0) (bs := wrBytes s) hi hj (by omega) hk
  rw [Nat.add_zero] at this
  exact this
set_option maxHeartbeats 2000000 in
theorem refWrite_on {base r Q c m : Nat} {E : List (Nat × Nat)} {D : DS} (i j : Int) (s : ByteArray) (w : World) (h : RAt w base r Q E c m D) (hz : Dz E.length m D) (hs : s.size ≤ 9223372036854775807) (ha0 : 0 ≤ D.armed) (ha1 : D.armed ≤ 9223372036854775807) (hno : D.armed = 1 → D.down = false → hasF E.length m i j = true → s.size ≠ 64) :
    Calls Tryz.prog 109 #[.pointer (some ⟨r, 0, none⟩), .int .i64 i, .int .i64 j, .string s] w fun e w' => e = .returned (.int .i64 (writeF E.length m D i j s).2) ∧ RAt w' base r Q E c m (writeF E.length m D i j s).1 ∧ Fr r (E.map Prod.fst) w w' := by
  have f0 := h.f0
  have f1 := h.f1
  have f3 := h.f3
  have H := Lib.hid h
  have hcap := h.cap
  clear h
  by_cases h1 : D.down = true
  · have HW : Hid (writeF E.length m D i j s = (D, 91)) := Lib.hid (by unfold writeF; rw [if_pos h1])
    rw [h1] at f3
    clear f0 f1
    go_enter Tryz.func109, Tryz.ntmps109
    go_wp2_with fail
    go_ret
    exact ⟨by rw [HW.out]; rfl, by rw [HW.out]; exact H.out, Fr.refl _ _ _⟩
  · have h1' : D.down = false := by simpa using h1
    rw [h1'] at f3
    by_cases h2 : hasF E.length m i j = true
    · by_cases h3 : s.size = 64
      · have hne : D.armed ≠ 1 := fun e => hno e h1' h2 h3
        clear hno
        obtain ⟨i', j', rfl, rfl, hi, hj⟩ : ∃ i' j' : Nat, i = (i' : Int) ∧ j = (j' : Int) ∧ i' < E.length ∧ j' < m := by
          unfold hasF at h2
          simp only [Bool.and_eq_true, decide_eq_true_eq] at h2
          exact ⟨i.toNat, j.toNat, by omega, by omega, by omega, by omega⟩
        obtain ⟨⟨b, cb⟩, he⟩ : ∃ e, E[i']? = some e := ⟨_, List.getElem?_eq_getElem hi⟩
        have hin : (i' : Int) < (E.length : Int) := by omega
        have hjm : (j' : Int) < (m : Int) := by omega
        have h3' : ((s.size : Int) != 64) = false := by simp; omega
        have hcb : m ≤ cb := (H.out.row i' (b, cb) he).hcap
        have r0 := H.out.rowC i' (b, cb) he
        have p0 := H.out.pageC i' j' (b, cb) he hj
        have pf := (H.out.row i' (b, cb) he).frozen j'
        have HE := Lib.hid he
        dsimp only at r0 p0 pf
        clear he
        by_cases h4 : D.armed = 0
        · rw [h4] at f1
          have HW : Hid (writeF E.length m D i' j' s = (D.put i' (j' * 64) (wrBytes s), 0)) := Lib.hid (by
            unfold writeF
            rw [h1', h2, h4]
            simp [h3, DS.put, h4])
          have HX := Lib.hid (H.out.whole hz (b, cb) HE.out hj h3)
          have HBM : Hid (b ∈ E.map Prod.fst) := Lib.hid (List.mem_map.2 ⟨(b, cb), List.mem_of_getElem? HE.out, rfl⟩)
          obtain ⟨px, hpx⟩ : ∃ px, px = strOfNums (pageAt D i' j') := ⟨_, rfl⟩
          rw [← hpx] at p0
          clear hpx h3 h4
          go_enter Tryz.func109, Tryz.ntmps109
          go_wp2_with (go_at_call 141; refine (refHas_any _ _ w H.out).mono ?_; rintro e w' ⟨rfl, rfl⟩; rw [h2])
          go_ret
          exact ⟨by rw [HW.out]; rfl, by rw [HW.out]; exact HX.out, (Fr.refl r _ w).set ⟨b, j', none⟩ _ (.inr HBM.out)⟩
        · obtain ⟨ar, har⟩ : ∃ ar, ar = D.armed - 1 := ⟨_, rfl⟩
          have har2 : D.armed = ar + 1 := by omega
          have har3 : 0 < ar := by omega
          have har4 : ar + 1 ≤ 9223372036854775807 := by omega
          obtain ⟨D1, hD1⟩ : ∃ D1 : DS, D1 = { D with armed := ar } := ⟨_, rfl⟩
          have HW : Hid (writeF E.length m D i' j' s = (D1.put i' (j' * 64) (wrBytes s), 0)) := Lib.hid (by
            unfold writeF
            rw [h1', h2, if_neg (by simp), if_neg (by simp [h3]), if_neg hne, if_pos (by omega), hD1, har]
            rfl)
          have H1 : RAt (w.setCell ⟨r, 1, none⟩ (.int .i64 ar)) base r Q E c m D1 := H.out.fld (D' := D1) 1 (.int .i64 ar) (by rw [hD1]) (by rw [hD1]; rfl)
          have hz1 : Dz E.length m D1 := by rw [hD1]; exact ⟨hz.len, hz.size⟩
          have u0 := H1.f0
          have ur := H1.rowC i' (b, cb) HE.out
          have up := H1.pageC i' j' (b, cb) HE.out hj
          have uf := (H1.row i' (b, cb) HE.out).frozen j'
          dsimp only at ur up uf
          have HX := Lib.hid (H1.whole hz1 (b, cb) HE.out hj h3)
          have HBM : Hid (b ∈ E.map Prod.fst) := Lib.hid (List.mem_map.2 ⟨(b, cb), List.mem_of_getElem? HE.out, rfl⟩)
          obtain ⟨px, hpx⟩ : ∃ px, px = strOfNums (pageAt D1 i' j') := ⟨_, rfl⟩
          rw [← hpx] at up
          rw [har2] at f1 hne ha0 ha1
          have fz1 := H.out.box.frozen 1
          have hn1 : ¬ ar + 1 = 1 := by omega
          have hn2 : (0 : Int) < ar + 1 := by omega
          clear hpx h3 h4 har har2 hD1 H1 hz1 p0 pf r0
          go_enter Tryz.func109, Tryz.ntmps109
          go_wp2_with (go_at_call 141; refine (refHas_any _ _ w H.out).mono ?_; rintro e w' ⟨rfl, rfl⟩; rw [h2])
          go_ret
          exact ⟨by rw [HW.out]; rfl, by rw [HW.out]; exact HX.out, ((Fr.refl r (E.map Prod.fst) w).set ⟨r, 1, none⟩ _ (.inl rfl)).set ⟨b, j', none⟩ _ (.inr HBM.out)⟩
      · have h3' : ((s.size : Int) != 64) = true := by simp; omega
        have HW : Hid (writeF E.length m D i j s = (D, 1)) := Lib.hid (by unfold writeF; rw [h1', h2]; simp [h3])
        clear h3
        go_enter Tryz.func109, Tryz.ntmps109
        go_wp2_with (go_at_call 141; refine (refHas_any _ _ w H.out).mono ?_; rintro e w' ⟨rfl, rfl⟩; rw [h2])
        go_ret
        exact ⟨by rw [HW.out]; rfl, by rw [HW.out]; exact H.out, Fr.refl _ _ _⟩
    · have h2' : hasF E.length m i j = false := by simpa using h2
      have HW : Hid (writeF E.length m D i j s = (D, 1)) := Lib.hid (by unfold writeF; rw [h1', h2']; simp)
      go_enter Tryz.func109, Tryz.ntmps109
      go_wp2_with (go_at_call 141; refine (refHas_any _ _ w H.out).mono ?_; rintro e w' ⟨rfl, rfl⟩; rw [h2'])
      go_ret
      exact ⟨by rw [HW.out]; rfl, by rw [HW.out]; exact H.out, Fr.refl _ _ _⟩
end Go.Proofs.YtkdjibejnncmfaaGreatDoor.Co
