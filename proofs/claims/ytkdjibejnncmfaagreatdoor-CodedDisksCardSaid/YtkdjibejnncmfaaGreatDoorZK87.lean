/- The walk of the reference's Write at the write at which the power goes off. -/
import Derived.Test.YtkdjibejnncmfaaGreatDoorZK86
import Derived.StillTailTactics
namespace Go.Proofs.YtkdjibejnncmfaaGreatDoor.Co
open Go.RowKit Go.Proofs.YtkdjibejnncmfaaGreatDoorW.PrintWords Go.Proofs.YtkdjibejnncmfaaGreatDoorW.PrintLast Go.Proofs.YtkdjibejnncmfaaGreatDoorW.PrintMore
set_option linter.unusedVariables false
set_option linter.unusedSimpArgs false
set_option maxRecDepth 100000
set_option maxHeartbeats 4000000 in
theorem refWrite_off {base r Q c m : Nat} {E : List (Nat × Nat)} {D : DS} (i' j' pt : Nat) (s : ByteArray) (w : World) (h : RAt w base r Q E c m D) (hz : Dz E.length m D) (hby : ∀ l ∈ D.disks, ∀ x ∈ l, IsB x) (hi : i' < E.length) (hj : j' < m) (hs : s.size = 64) (hd : D.down = false) (ha : D.armed = 1) (hp : D.part = (pt : Int)) (hp2 : pt ≤ 64) (hf0 : 0 ≤ D.falls) (hf1 : D.falls < 9223372036854775807) :
    Calls Tryz.prog 109 #[.pointer (some ⟨r, 0, none⟩), .int .i64 (i' : Int), .int .i64 (j' : Int), .string s] w fun e w' => e = .returned (.int .i64 91) ∧ RAt w' base r Q E c m { D.put i' (j' * 64) ((wrBytes s).take pt) with armed := 0, down := true, falls := D.falls + 1 } ∧ Fr r (E.map Prod.fst) w w' := by
  have f1 := h.f1
  have f3 := h.f3
  rw [ha] at f1
  rw [hd] at f3
  have fz1 := h.box.frozen 1
  have H := Lib.hid h
  have hcap := h.cap
  have h2 : hasF E.length m (i' : Int) (j' : Int) = true := by unfold hasF; simp; omega
  obtain ⟨⟨b, cb⟩, he⟩ : ∃ e, E[i']? = some e := ⟨_, List.getElem?_eq_getElem hi⟩
  have HE := Lib.hid he
  have H1 := h.fld (D' := { D with armed := 0 }) 1 (.int .i64 0) rfl rfl
  have g3 := H1.f3
  have gz3 := H1.box.frozen 3
  have H2 := H1.fld (D' := { D with armed := 0, down := true }) 3 (.bool true) rfl rfl
  have k4 := H2.f4
  have kz4 := H2.box.frozen 4
  obtain ⟨fl, hfl⟩ : ∃ fl, fl = D.falls + 1 := ⟨_, rfl⟩
  obtain ⟨D1, hD1⟩ : ∃ D1 : DS, D1 = { D with armed := 0, down := true, falls := fl } := ⟨_, rfl⟩
  have H3 : RAt _ base r Q E c m D1 := H2.fld (D' := D1) 4 (.int .i64 fl) (by rw [hD1]) (by rw [hD1]; rfl)
  dsimp only at g3 k4
  have hz1 : Dz E.length m D1 := by rw [hD1]; exact ⟨hz.len, hz.size⟩
  have hpg1 : pageAt D1 i' j' = pageAt D i' j' := by rw [hD1]; rfl
  have hpl := hz.page hi hj
  have hpb : ∀ x ∈ pageAt D i' j', IsB x := fun x hx => by
    unfold pageAt at hx
    have hi3 : i' < D.disks.length := by have := hz.len; omega
    have hx2 := List.mem_of_mem_drop (List.mem_of_mem_take hx)
    rw [List.getD_eq_getElem?_getD, List.getElem?_eq_getElem hi3] at hx2
    exact hby _ (List.getElem_mem _) x hx2
  obtain ⟨px, hpx⟩ : ∃ px, px = strOfNums (pageAt D i' j') := ⟨_, rfl⟩
  have hpz : px.size = 64 := by rw [hpx, str_size, hpl]
  have hcb : m ≤ cb := (H3.row i' (b, cb) he).hcap
  have HT : Hid (s.extract 0 pt ++ px.extract pt px.size = strOfNums (setL (pageAt D i' j') 0 ((wrBytes s).take pt))) := Lib.hid (by rw [hpz, hpx]; exact head_text hpl hpb hs hp2)
  have hwl : ((wrBytes s).take pt).length ≤ 64 := by rw [List.length_take]; omega
  have HQ1 := pages_put hz1 (o := 0) (bs := (wrBytes s).take pt) hi hj (by omega)
  rw [Nat.add_zero, hpg1, ← HT.out] at HQ1
  have HQ2 : ∀ k, k ≠ i' → pagesL (D1.put i' (j' * 64) ((wrBytes s).take pt)) k m = pagesL D1 k m := fun k hk => by
    have := pages_else hz1 (o := 0) (bs := (wrBytes s).take pt) hi hj (by omega) hk
    rw [Nat.add_zero] at this
    exact this
  have HFN : Hid (∀ V, RAt V base r Q E c m D1 → RAt (V.setCell ⟨b, j', none⟩ (.string (s.extract 0 pt ++ px.extract pt px.size))) base r Q E c m { D.put i' (j' * 64) ((wrBytes s).take pt) with armed := 0, down := true, falls := D.falls + 1 }) := Lib.hid (fun V hV => by
    have := hV.page i' j' (b, cb) _ HE.out HQ1 HQ2 rfl rfl rfl rfl
    have e : D1.put i' (j' * 64) ((wrBytes s).take pt) = { D.put i' (j' * 64) ((wrBytes s).take pt) with armed := 0, down := true, falls := D.falls + 1 } := by rw [hD1, hfl]; rfl
    rw [e] at this
    exact this)
  have HPX : Hid (∀ V, RAt V base r Q E c m D1 → V.cell? ⟨b, j', none⟩ = some (.string px)) := Lib.hid (fun V hV => by have := hV.pageC i' j' (b, cb) HE.out hj; rw [hpg1, ← hpx] at this; exact this)
  have HPT : Hid (D1.part = (pt : Int)) := Lib.hid (by rw [hD1]; exact hp)
  have HBM : Hid (b ∈ E.map Prod.fst) := Lib.hid (List.mem_map.2 ⟨(b, cb), List.mem_of_getElem? he, rfl⟩)
  have HH3 := Lib.hid H3
  have HFL := Lib.hid hfl
  have hs' : ((s.size : Int) != 64) = false := by simp; omega
  have hin : (i' : Int) < (E.length : Int) := by omega
  have hjm : (j' : Int) < (m : Int) := by omega
  have hpt0 : (0 : Int) ≤ (pt : Int) := by omega
  have hpt1 : (pt : Int) ≤ (s.size : Int) := by omega
  have hpt2 : (pt : Int) ≤ (px.size : Int) := by omega
  have hsz : ((s.extract 0 pt).size : Int) + ((px.extract pt px.size).size : Int) ≤ 9223372036854775807 := by
    have a1 : (s.extract 0 pt).size ≤ 64 := by rw [ByteArray.size_extract]; omega
    have a2 : (px.extract pt px.size).size ≤ 64 := by rw [ByteArray.size_extract]; omega
    omega
  have hsz2 : (s.extract 0 pt).size + (px.extract pt px.size).size ≤ 9223372036854775807 := by omega
  have hsl1 : ∀ V : World, (Instr.slice 9 (.string s) none (some (.int .i64 (pt : Int))) none).run Tryz.prog V = .ok (.string (s.extract 0 pt)) V := fun V => by
    rw [run_slice_string_to_if V 9 s .i64 (pt : Int) Tryz.underlying9, if_pos ⟨hpt0, hpt1⟩, Int.toNat_natCast]
  have hsl2 : ∀ V : World, (Instr.slice 9 (.string px) (some (.int .i64 (pt : Int))) none none).run Tryz.prog V = .ok (.string (px.extract pt px.size)) V := fun V => by
    rw [run_slice_string_from_if V 9 px .i64 (pt : Int) Tryz.underlying9, if_pos ⟨hpt0, hpt2⟩, Int.toNat_natCast]
  clear h he H1 H2 H3 hD1 hz1 hpg1 hpl hpb hpx HQ1 HQ2 hz hby hd ha hp hfl
  go_enter Tryz.func109, Tryz.ntmps109
  go_upto_region 9 with (go_at_call 141; refine (refHas_any _ _ w H.out).mono ?_; rintro e w' ⟨rfl, rfl⟩; rw [h2])
  obtain ⟨W3, hW3⟩ : ∃ W3, W3 = ((w.setCell ⟨r, 1, none⟩ (.int .i64 0)).setCell ⟨r, 3, none⟩ (.bool true)).setCell ⟨r, 4, none⟩ (.int .i64 fl) := ⟨_, rfl⟩
  have HFR : Hid (Fr r (E.map Prod.fst) w W3) := Lib.hid (by rw [hW3]; exact (((Fr.refl r (E.map Prod.fst) w).set ⟨r, 1, none⟩ _ (.inl rfl)).set ⟨r, 3, none⟩ _ (.inl rfl)).set ⟨r, 4, none⟩ _ (.inl rfl))
  rw [← HFL.out, ← hW3]
  rw [← hW3] at HH3
  clear hW3 f1 f3 fz1 g3 gz3 k4 kz4
  have t0 := HH3.out.f0
  have t2 := HH3.out.f2
  have tr := HH3.out.rowC i' (b, cb) HE.out
  have tp := HPX.out W3 HH3.out
  rw [HPT.out] at t2
  try dsimp only at tr
  go_still_tail 31, (by kernel_rfl)
  change wpList _ _ _ _ _ W3.drew
  obtain ⟨w2, hw2⟩ : ∃ w2, w2 = W3.drew := ⟨_, rfl⟩
  have H2 : Hid (RAt w2 base r Q E c m D1) := Lib.hid (by rw [hw2]; exact HH3.out.below (Below.refl _ _).drew)
  have HFR2 : Hid (Fr r (E.map Prod.fst) w w2) := Lib.hid (by rw [hw2]; exact HFR.out.trans (Fr.of_below (Below.refl _ _).drew))
  have u0 := H2.out.f0
  have u2 := H2.out.f2
  have ur := H2.out.rowC i' (b, cb) HE.out
  have up := HPX.out w2 H2.out
  have uf := (H2.out.row i' (b, cb) HE.out).frozen j'
  rw [HPT.out] at u2
  try dsimp only at ur up uf
  rw [← hw2]
  clear hw2 t0 t2 tr tp
  go_wp2_with fail
  go_ret
  have hfin := HFN.out _ H2.out
  rw [hpz] at hfin
  exact ⟨rfl, hfin, HFR2.out.set ⟨b, j', none⟩ _ (.inr HBM.out)⟩
end Go.Proofs.YtkdjibejnncmfaaGreatDoor.Co
