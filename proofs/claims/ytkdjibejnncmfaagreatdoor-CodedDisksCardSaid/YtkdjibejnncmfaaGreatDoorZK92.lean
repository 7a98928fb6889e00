/- The walk of the reference's Rot. -/
import Derived.Test.YtkdjibejnncmfaaGreatDoorZK91
import Derived.Test.YtkdjibejnncmfaaGreatDoorB4
import Derived.Test.YtkdjibejnncmfaaGreatDoorZN40
namespace Go.Proofs.YtkdjibejnncmfaaGreatDoor.Co
open Go.RowKit Go.Proofs.YtkdjibejnncmfaaGreatDoorW.PrintWords Go.Proofs.YtkdjibejnncmfaaGreatDoorW.PrintLast Go.Proofs.YtkdjibejnncmfaaGreatDoorW.PrintMore
set_option linter.unusedVariables false
set_option linter.unusedSimpArgs false
set_option maxRecDepth 100000
set_option maxHeartbeats 2000000 in
theorem refRot_on {base r Q c m : Nat} {E : List (Nat × Nat)} {D : DS} (i j p : Nat) (y : Int) (w : World) (h : RAt w base r Q E c m D) (hz : Dz E.length m D) (hb : ∀ l ∈ D.disks, ∀ x ∈ l, IsB x) (hi : i < E.length) (hj : j < m) (hp : p < 64) (hy : IsB y) :
    Calls Tryz.prog 113 #[.pointer (some ⟨r, 0, none⟩), .int .i64 (i : Int), .int .i64 (j : Int), .int .i64 (p : Int), .int .u8 y] w fun e w' => e = .returned (.int .i64 0) ∧ RAt w' base r Q E c m (D.put i (j * 64 + p) [xorI (rd (D.disks.getD i []) ((j * 64 + p : Nat) : Int)) y]) ∧ Fr r (E.map Prod.fst) w w' := by
  have f0 := h.f0
  have H := Lib.hid h
  have hcap := h.cap
  have h2 : hasF E.length m (i : Int) (j : Int) = true := by unfold hasF; simp; omega
  obtain ⟨⟨b, cb⟩, he⟩ : ∃ e, E[i]? = some e := ⟨_, List.getElem?_eq_getElem hi⟩
  have HE := Lib.hid he
  have r0 := h.rowC i (b, cb) he
  have p0 := h.pageC i j (b, cb) he hj
  have hcb : m ≤ cb := (h.row i (b, cb) he).hcap
  have hpl := hz.page hi hj
  obtain ⟨px, hpx⟩ : ∃ px, px = strOfNums (pageAt D i j) := ⟨_, rfl⟩
  have hpz : px.size = 64 := by rw [hpx, str_size, hpl]
  rw [← hpx] at p0
  try dsimp only at r0 p0
  have hin : (i : Int) < (E.length : Int) := by omega
  have hjm : (j : Int) < (m : Int) := by omega
  have hp64 : (p : Int) < 64 := by omega
  have hp0 : (0 : Int) ≤ (p : Int) := by omega
  have hjcb : (j : Int) < (cb : Int) := by omega
  have hic : (i : Int) < (c : Int) := by omega
  have hpb : ∀ x ∈ pageAt D i j, IsB x := fun x hx => by
    unfold pageAt at hx
    have hi3 : i < D.disks.length := by have := hz.len; omega
    have hx2 := List.mem_of_mem_drop (List.mem_of_mem_take hx)
    rw [List.getD_eq_getElem?_getD, List.getElem?_eq_getElem hi3] at hx2
    exact hb _ (List.getElem_mem _) x hx2
  have hrd : rd (D.disks.getD i []) ((j * 64 + p : Nat) : Int) = rd (pageAt D i j) (p : Int) := by
    unfold rd pageAt
    rw [Int.toNat_natCast, Int.toNat_natCast, List.getD_eq_getElem?_getD, List.getD_eq_getElem?_getD (l := List.take _ _), List.getElem?_take, if_pos hp, List.getElem?_drop]
  obtain ⟨z, hzz⟩ : ∃ z, z = xorI (rd (pageAt D i j) (p : Int)) y := ⟨_, rfl⟩
  have hzb : IsB z := by rw [hzz]; exact xor_b (hpb _ (rd_mem _ p (by omega))) hy
  have hpp : p < px.size := by omega
  have hbt : ((px[p]'hpp).toNat : Int) = rd (pageAt D i j) (p : Int) := by
    rw [← bt_get px p hpp, hpx]
    exact bt_nums _ (fun r hr => hpb _ (rd_mem _ r hr)) p (by omega)
  have HXZ : Hid (Go.bits .xor .u8 ((px[p]'hpp).toNat : Int) y = z) := Lib.hid (by rw [hbt, hzz])
  have HT : Hid (px.extract 0 p ++ strOfNums [z] ++ px.extract (p + 1) px.size = strOfNums (setL (pageAt D i j) p [z])) := Lib.hid (by rw [hpz, hpx]; exact mid_text hpl hpb hp hzb)
  have HQ1 := pages_put hz (o := p) (bs := [z]) hi hj (by simp; omega)
  have HQ2 : ∀ k, k ≠ i → pagesL (D.put i (j * 64 + p) [z]) k m = pagesL D k m := fun k hk => pages_else hz (o := p) (bs := [z]) hi hj (by simp; omega) hk
  rw [← HT.out] at HQ1
  have HFN : Hid (∀ V, RAt V base r Q E c m D → RAt (V.setCell ⟨b, j, none⟩ (.string (px.extract 0 p ++ strOfNums [z] ++ px.extract (p + 1) px.size))) base r Q E c m (D.put i (j * 64 + p) [z])) := Lib.hid (fun V hV => hV.page i j (b, cb) _ HE.out HQ1 HQ2 rfl rfl rfl rfl)
  have HRZ : Hid (xorI (rd (D.disks.getD i []) ((j * 64 + p : Nat) : Int)) y = z) := Lib.hid (by rw [hrd, hzz])
  rw [HRZ.out]
  have HBM : Hid (b ∈ E.map Prod.fst) := Lib.hid (List.mem_map.2 ⟨(b, cb), List.mem_of_getElem? he, rfl⟩)
  obtain ⟨WA, hWA⟩ : ∃ WA, WA = (w.alloc (.cells #[.int .u8 z] 5)).drew := ⟨_, rfl⟩
  have hBA : Below w.heap.size w WA := by rw [hWA]; exact (below_al (Below.refl _ _) _).drew
  have HRA := Lib.hid (h.below hBA)
  have HS0 : Hid (w.drew.cell? ⟨r, 0, none⟩ = some (.slice (some ⟨Q, 0, none⟩) E.length c) ∧ w.drew.cell? ⟨Q, i, none⟩ = some (.slice (some ⟨b, 0, none⟩) m cb)) := Lib.hid ⟨f0, r0⟩
  have HS1 : Hid (WA.cell? ⟨r, 0, none⟩ = some (.slice (some ⟨Q, 0, none⟩) E.length c) ∧ WA.cell? ⟨Q, i, none⟩ = some (.slice (some ⟨b, 0, none⟩) m cb)) := Lib.hid ⟨cell_below hBA f0, cell_below hBA r0⟩
  have HPC := Lib.hid (HRA.out.pageC i j (b, cb) he hj)
  have HPF := Lib.hid ((HRA.out.row i (b, cb) he).frozen j)
  have HFA : Hid (Fr r (E.map Prod.fst) w WA) := Lib.hid (Fr.of_below hBA)
  have hcv : (convert 46 9 (.slice (some ⟨w.heap.size, 0, none⟩) 1 1)).run Tryz.prog WA = .ok (.string (strOfNums [z])) WA := by
    rw [hWA]
    refine run_convert_bytes_arg _ 46 5 Tryz.underlying46 Tryz.underlying5 w.heap.size 0 1 1 _ rfl (fun t ht => ?_) 9 Tryz.underlying9
    have h0 := (Box.new w #[.int .u8 z] 5).cell 0
    obtain rfl : t = 0 := by omega
    exact h0
  have hw64 : IntKind.i64.wrap ((p : Int) + 1) = (p : Int) + 1 := IntWalk.i64_in _ (by omega)
  have hp1 : (0 : Int) ≤ (p : Int) + 1 := by omega
  have hpt1 : (p : Int) ≤ (px.size : Int) := by omega
  have hpt2 : (p : Int) + 1 ≤ (px.size : Int) := by omega
  have hpt3 : ((p : Int) + 1).toNat = p + 1 := by omega
  have hsl1 : ∀ V : World, (Instr.slice 9 (.string px) none (some (.int .i64 (p : Int))) none).run Tryz.prog V = .ok (.string (px.extract 0 p)) V := fun V => by
    rw [run_slice_string_to_if V 9 px .i64 (p : Int) Tryz.underlying9, if_pos ⟨hp0, hpt1⟩, Int.toNat_natCast]
  have hsl2 : ∀ V : World, (Instr.slice 9 (.string px) (some (.int .i64 ((p : Int) + 1))) none none).run Tryz.prog V = .ok (.string (px.extract (p + 1) px.size)) V := fun V => by
    rw [run_slice_string_from_if V 9 px .i64 ((p : Int) + 1) Tryz.underlying9, if_pos ⟨hp1, hpt2⟩, hpt3]
  have z1 : (px.extract 0 p).size ≤ 64 := by rw [ByteArray.size_extract]; omega
  have z2 : (px.extract (p + 1) px.size).size ≤ 64 := by rw [ByteArray.size_extract]; omega
  have z3 : (strOfNums [z]).size ≤ 1 := by rw [str_size]; simp
  obtain ⟨t1, ht1⟩ : ∃ t1, t1 = px.extract 0 p := ⟨_, rfl⟩
  obtain ⟨t2, ht2⟩ : ∃ t2, t2 = strOfNums [z] := ⟨_, rfl⟩
  obtain ⟨t3, ht3⟩ : ∃ t3, t3 = px.extract (p + 1) px.size := ⟨_, rfl⟩
  rw [← ht1] at z1 hsl1
  rw [← ht2] at z3 hcv
  rw [← ht3] at z2 hsl2
  rw [← ht1, ← ht2, ← ht3] at HFN
  have HN2 : Hid (¬ 9223372036854775807 < t1.size + t2.size) := Lib.hid (by omega)
  have HN4 : Hid (¬ 9223372036854775807 < (t1 ++ t2).size + t3.size) := Lib.hid (by rw [ByteArray.size_append]; omega)
  have HN6 : Hid (¬ 9223372036854775807 < t1.size + t2.size + t3.size) := Lib.hid (by omega)
  have HWA := Lib.hid hWA
  clear h he hpx hz hb hzz hzb hbt hpb hrd HQ1 HQ2 hpl hWA hBA hpt3 z1 z2 z3 ht1 ht2 ht3
  go_enter Tryz.func113, Tryz.ntmps113
  go_upto_region 4 with (go_at_call 141; refine (refHas_any _ _ w H.out).mono ?_; rintro e w' ⟨rfl, rfl⟩; rw [h2])
  refine wp_region_until (L := 25) (S := (fun W => W.cell? ⟨r, 0, none⟩ = some (.slice (some ⟨Q, 0, none⟩) E.length c) ∧ W.cell? ⟨Q, i, none⟩ = some (.slice (some ⟨b, 0, none⟩) m cb))) (by kernel_rfl) HS0.out (fun hS => ?_)
  refine wpUntil.take (i := 0) (oi := { dst := some 35, op := Op.move (Operand.tmp 0), type := 89, pos := "ref.go:314", after := #[], guard := none }) (v := ?va0) rfl (by kernel_rfl) (by kernel_rfl) (by kernel_rfl) (by kernel_rfl) (fun _ _ _ h => h) (Or.inl ⟨by rfl, ?ya0⟩) hS ?ra0
  case ya0 =>
    intro w' hSw
    obtain ⟨p0, p1⟩ := hSw
    go_simp
    try with_reducible rfl
  try simp only [Act.put, List.setIfInBounds_toArray, List.set_cons_zero, List.set_cons_succ]
  refine wpUntil.take (i := 1) (oi := { dst := some 36, op := Op.nilCheck (Operand.tmp 35), type := 0, pos := "ref.go:314", after := #[{ on := 0, ground := Ground.data }], guard := none }) (v := ?va1) rfl (by kernel_rfl) (by kernel_rfl) (by kernel_rfl) (by kernel_rfl) (fun _ _ _ h => h) (Or.inl ⟨by rfl, ?ya1⟩) hS ?ra1
  case ya1 =>
    intro w' hSw
    obtain ⟨p0, p1⟩ := hSw
    go_simp
    try with_reducible rfl
  try simp only [Act.put, List.setIfInBounds_toArray, List.set_cons_zero, List.set_cons_succ]
  refine wpUntil.take (i := 2) (oi := { dst := some 37, op := Op.fieldAddr 150 (Operand.tmp 36) 0, type := 0, pos := "ref.go:314", after := #[{ on := 1, ground := Ground.data }], guard := none }) (v := ?va2) rfl (by kernel_rfl) (by kernel_rfl) (by kernel_rfl) (by kernel_rfl) (fun _ _ _ h => h) (Or.inl ⟨by rfl, ?ya2⟩) hS ?ra2
  case ya2 =>
    intro w' hSw
    obtain ⟨p0, p1⟩ := hSw
    go_simp
    try with_reducible rfl
  try simp only [Act.put, List.setIfInBounds_toArray, List.set_cons_zero, List.set_cons_succ]
  refine wpUntil.take (i := 3) (oi := { dst := some 38, op := Op.load 148 (Operand.tmp 37), type := 148, pos := "ref.go:314", after := #[{ on := 2, ground := Ground.data }], guard := none }) (v := ?va3) rfl (by kernel_rfl) (by kernel_rfl) (by kernel_rfl) (by kernel_rfl) (fun _ _ _ h => h) (Or.inl ⟨by rfl, ?ya3⟩) hS ?ra3
  case ya3 =>
    intro w' hSw
    obtain ⟨p0, p1⟩ := hSw
    go_simp
    try with_reducible rfl
  try simp only [Act.put, List.setIfInBounds_toArray, List.set_cons_zero, List.set_cons_succ]
  refine wpUntil.take (i := 4) (oi := { dst := some 39, op := Op.move (Operand.tmp 1), type := 3, pos := "ref.go:314", after := #[], guard := none }) (v := ?va4) rfl (by kernel_rfl) (by kernel_rfl) (by kernel_rfl) (by kernel_rfl) (fun _ _ _ h => h) (Or.inl ⟨by rfl, ?ya4⟩) hS ?ra4
  case ya4 =>
    intro w' hSw
    obtain ⟨p0, p1⟩ := hSw
    go_simp
    try with_reducible rfl
  try simp only [Act.put, List.setIfInBounds_toArray, List.set_cons_zero, List.set_cons_succ]
  refine wpUntil.take (i := 5) (oi := { dst := some 40, op := Op.indexAddr 148 (Operand.tmp 38) (Operand.tmp 39), type := 0, pos := "ref.go:314", after := #[{ on := 3, ground := Ground.data }, { on := 4, ground := Ground.data }], guard := none }) (v := ?va5) rfl (by kernel_rfl) (by kernel_rfl) (by kernel_rfl) (by kernel_rfl) (fun _ _ _ h => h) (Or.inl ⟨by rfl, ?ya5⟩) hS ?ra5
  case ya5 =>
    intro w' hSw
    obtain ⟨p0, p1⟩ := hSw
    go_simp
    try with_reducible rfl
  try simp only [Act.put, List.setIfInBounds_toArray, List.set_cons_zero, List.set_cons_succ]
  refine wpUntil.take (i := 6) (oi := { dst := some 41, op := Op.load 33 (Operand.tmp 40), type := 33, pos := "ref.go:314", after := #[{ on := 5, ground := Ground.data }], guard := none }) (v := ?va6) rfl (by kernel_rfl) (by kernel_rfl) (by kernel_rfl) (by kernel_rfl) (fun _ _ _ h => h) (Or.inl ⟨by rfl, ?ya6⟩) hS ?ra6
  case ya6 =>
    intro w' hSw
    obtain ⟨p0, p1⟩ := hSw
    go_simp
    try with_reducible rfl
  try simp only [Act.put, List.setIfInBounds_toArray, List.set_cons_zero, List.set_cons_succ]
  refine wpUntil.take (i := 7) (oi := { dst := some 42, op := Op.move (Operand.tmp 2), type := 3, pos := "ref.go:314", after := #[], guard := none }) (v := ?va7) rfl (by kernel_rfl) (by kernel_rfl) (by kernel_rfl) (by kernel_rfl) (fun _ _ _ h => h) (Or.inl ⟨by rfl, ?ya7⟩) hS ?ra7
  case ya7 =>
    intro w' hSw
    obtain ⟨p0, p1⟩ := hSw
    go_simp
    try with_reducible rfl
  try simp only [Act.put, List.setIfInBounds_toArray, List.set_cons_zero, List.set_cons_succ]
  refine wpUntil.take (i := 8) (oi := { dst := some 43, op := Op.move (Operand.tmp 11), type := 9, pos := "ref.go:314", after := #[], guard := none }) (v := ?va8) rfl (by kernel_rfl) (by kernel_rfl) (by kernel_rfl) (by kernel_rfl) (fun _ _ _ h => h) (Or.inl ⟨by rfl, ?ya8⟩) hS ?ra8
  case ya8 =>
    intro w' hSw
    obtain ⟨p0, p1⟩ := hSw
    go_simp
    try with_reducible rfl
  try simp only [Act.put, List.setIfInBounds_toArray, List.set_cons_zero, List.set_cons_succ]
  refine wpUntil.take (i := 9) (oi := { dst := some 44, op := Op.move (Operand.tmp 3), type := 3, pos := "ref.go:314", after := #[], guard := none }) (v := ?va9) rfl (by kernel_rfl) (by kernel_rfl) (by kernel_rfl) (by kernel_rfl) (fun _ _ _ h => h) (Or.inl ⟨by rfl, ?ya9⟩) hS ?ra9
  case ya9 =>
    intro w' hSw
    obtain ⟨p0, p1⟩ := hSw
    go_simp
    try with_reducible rfl
  try simp only [Act.put, List.setIfInBounds_toArray, List.set_cons_zero, List.set_cons_succ]
  refine wpUntil.take (i := 10) (oi := { dst := some 45, op := Op.slice 9 (Operand.tmp 43) none (some (Operand.tmp 44)) none, type := 9, pos := "ref.go:314", after := #[{ on := 8, ground := Ground.data }, { on := 9, ground := Ground.data }], guard := none }) (v := ?va10) rfl (by kernel_rfl) (by kernel_rfl) (by kernel_rfl) (by kernel_rfl) (fun _ _ _ h => h) (Or.inl ⟨by rfl, ?ya10⟩) hS ?ra10
  case ya10 =>
    intro w' hSw
    obtain ⟨p0, p1⟩ := hSw
    go_simp
    try with_reducible rfl
  try simp only [Act.put, List.setIfInBounds_toArray, List.set_cons_zero, List.set_cons_succ]
  refine wpUntil.take (i := 11) (oi := { dst := some 46, op := Op.move (Operand.tmp 11), type := 9, pos := "ref.go:314", after := #[], guard := none }) (v := ?va11) rfl (by kernel_rfl) (by kernel_rfl) (by kernel_rfl) (by kernel_rfl) (fun _ _ _ h => h) (Or.inl ⟨by rfl, ?ya11⟩) hS ?ra11
  case ya11 =>
    intro w' hSw
    obtain ⟨p0, p1⟩ := hSw
    go_simp
    try with_reducible rfl
  try simp only [Act.put, List.setIfInBounds_toArray, List.set_cons_zero, List.set_cons_succ]
  refine wpUntil.take (i := 12) (oi := { dst := some 47, op := Op.move (Operand.tmp 3), type := 3, pos := "ref.go:314", after := #[], guard := none }) (v := ?va12) rfl (by kernel_rfl) (by kernel_rfl) (by kernel_rfl) (by kernel_rfl) (fun _ _ _ h => h) (Or.inl ⟨by rfl, ?ya12⟩) hS ?ra12
  case ya12 =>
    intro w' hSw
    obtain ⟨p0, p1⟩ := hSw
    go_simp
    try with_reducible rfl
  try simp only [Act.put, List.setIfInBounds_toArray, List.set_cons_zero, List.set_cons_succ]
  refine wpUntil.take (i := 13) (oi := { dst := some 48, op := Op.index 9 (Operand.tmp 46) (Operand.tmp 47), type := 5, pos := "ref.go:314", after := #[{ on := 11, ground := Ground.data }, { on := 12, ground := Ground.data }], guard := none }) (v := ?va13) rfl (by kernel_rfl) (by kernel_rfl) (by kernel_rfl) (by kernel_rfl) (fun _ _ _ h => h) (Or.inl ⟨by rfl, ?ya13⟩) hS ?ra13
  case ya13 =>
    intro w' hSw
    obtain ⟨p0, p1⟩ := hSw
    go_simp
    try with_reducible rfl
  try simp only [Act.put, List.setIfInBounds_toArray, List.set_cons_zero, List.set_cons_succ]
  refine wpUntil.take (i := 14) (oi := { dst := some 49, op := Op.move (Operand.tmp 4), type := 5, pos := "ref.go:314", after := #[], guard := none }) (v := ?va14) rfl (by kernel_rfl) (by kernel_rfl) (by kernel_rfl) (by kernel_rfl) (fun _ _ _ h => h) (Or.inl ⟨by rfl, ?ya14⟩) hS ?ra14
  case ya14 =>
    intro w' hSw
    obtain ⟨p0, p1⟩ := hSw
    go_simp
    try with_reducible rfl
  try simp only [Act.put, List.setIfInBounds_toArray, List.set_cons_zero, List.set_cons_succ]
  refine wpUntil.take (i := 15) (oi := { dst := some 50, op := Op.binOp BinOp.xor 5 (Operand.tmp 48) (Operand.tmp 49) 5, type := 5, pos := "ref.go:314", after := #[{ on := 13, ground := Ground.data }, { on := 14, ground := Ground.data }], guard := none }) (v := ?va15) rfl (by kernel_rfl) (by kernel_rfl) (by kernel_rfl) (by kernel_rfl) (fun _ _ _ h => h) (Or.inl ⟨by rfl, ?ya15⟩) hS ?ra15
  case ya15 =>
    intro w' hSw
    obtain ⟨p0, p1⟩ := hSw
    go_simp
    try with_reducible rfl
  try simp only [Act.put, List.setIfInBounds_toArray, List.set_cons_zero, List.set_cons_succ]
  refine wpUntil.take (i := 19) (oi := { dst := some 54, op := Op.move (Operand.tmp 11), type := 9, pos := "ref.go:314", after := #[], guard := none }) (v := ?va19) rfl (by kernel_rfl) (by kernel_rfl) (by kernel_rfl) (by kernel_rfl) (fun _ _ _ h => h) (Or.inl ⟨by rfl, ?ya19⟩) hS ?ra19
  case ya19 =>
    intro w' hSw
    obtain ⟨p0, p1⟩ := hSw
    go_simp
    try with_reducible rfl
  try simp only [Act.put, List.setIfInBounds_toArray, List.set_cons_zero, List.set_cons_succ]
  refine wpUntil.take (i := 20) (oi := { dst := some 55, op := Op.move (Operand.tmp 3), type := 3, pos := "ref.go:314", after := #[], guard := none }) (v := ?va20) rfl (by kernel_rfl) (by kernel_rfl) (by kernel_rfl) (by kernel_rfl) (fun _ _ _ h => h) (Or.inl ⟨by rfl, ?ya20⟩) hS ?ra20
  case ya20 =>
    intro w' hSw
    obtain ⟨p0, p1⟩ := hSw
    go_simp
    try with_reducible rfl
  try simp only [Act.put, List.setIfInBounds_toArray, List.set_cons_zero, List.set_cons_succ]
  refine wpUntil.take (i := 21) (oi := { dst := some 56, op := Op.binOp BinOp.add 3 (Operand.tmp 55) (Operand.const (Value.int IntKind.i64 1)) 3, type := 3, pos := "ref.go:314", after := #[{ on := 20, ground := Ground.data }], guard := none }) (v := ?va21) rfl (by kernel_rfl) (by kernel_rfl) (by kernel_rfl) (by kernel_rfl) (fun _ _ _ h => h) (Or.inl ⟨by rfl, ?ya21⟩) hS ?ra21
  case ya21 =>
    intro w' hSw
    obtain ⟨p0, p1⟩ := hSw
    go_simp
    try with_reducible rfl
  try simp only [Act.put, List.setIfInBounds_toArray, List.set_cons_zero, List.set_cons_succ]
  refine wpUntil.take (i := 22) (oi := { dst := some 57, op := Op.slice 9 (Operand.tmp 54) (some (Operand.tmp 56)) none none, type := 9, pos := "ref.go:314", after := #[{ on := 19, ground := Ground.data }, { on := 21, ground := Ground.data }], guard := none }) (v := ?va22) rfl (by kernel_rfl) (by kernel_rfl) (by kernel_rfl) (by kernel_rfl) (fun _ _ _ h => h) (Or.inl ⟨by rfl, ?ya22⟩) hS ?ra22
  case ya22 =>
    intro w' hSw
    obtain ⟨p0, p1⟩ := hSw
    go_simp
    try with_reducible rfl
  try simp only [Act.put, List.setIfInBounds_toArray, List.set_cons_zero, List.set_cons_succ]
  refine wpUntil.only (i := 16) (oi := { dst := some 51, op := Op.buildSlice 46 1 #[(0, Operand.tmp 50)], type := 46, pos := "ref.go:314", after := #[{ on := 15, ground := Ground.data }], guard := none }) rfl (by kernel_rfl) (fun K hK => ?_)
  rw [if_pos (by rfl)]
  go_simp
  rw [HXZ.out, ← HWA.out]
  refine hK.out _ _ (fun _ => HS1.out) ?_
  clear hK K
  try simp only [Act.put, List.setIfInBounds_toArray, List.set_cons_zero, List.set_cons_succ]
  refine wpUntil.only (i := 17) (oi := { dst := some 52, op := Op.convert 46 9 (Operand.tmp 51), type := 9, pos := "ref.go:314", after := #[{ on := 16, ground := Ground.data }], guard := none }) rfl (by kernel_rfl) (fun K hK => ?_)
  rw [if_pos (by rfl)]
  go_simp
  refine hK.out _ _ (fun _ => HS1.out) ?_
  clear hK K
  try simp only [Act.put, List.setIfInBounds_toArray, List.set_cons_zero, List.set_cons_succ]
  refine wpUntil.only (i := 18) (oi := { dst := some 53, op := Op.binOp BinOp.add 9 (Operand.tmp 45) (Operand.tmp 52) 9, type := 9, pos := "ref.go:314", after := #[{ on := 10, ground := Ground.data }, { on := 17, ground := Ground.data }], guard := none }) rfl (by kernel_rfl) (fun K hK => ?_)
  rw [if_pos (by rfl)]
  go_simp
  rw [if_neg HN2.out]
  refine hK.out _ _ (fun _ => HS1.out) ?_
  clear hK K
  try simp only [Act.put, List.setIfInBounds_toArray, List.set_cons_zero, List.set_cons_succ]
  refine wpUntil.only (i := 23) (oi := { dst := some 58, op := Op.binOp BinOp.add 9 (Operand.tmp 53) (Operand.tmp 57) 9, type := 9, pos := "ref.go:314", after := #[{ on := 18, ground := Ground.data }, { on := 22, ground := Ground.data }], guard := none }) rfl (by kernel_rfl) (fun K hK => ?_)
  rw [if_pos (by rfl)]
  go_simp
  first | rw [if_neg HN4.out] | rw [if_neg HN6.out]
  refine hK.out _ _ (fun _ => HS1.out) ?_
  clear hK K
  try simp only [Act.put, List.setIfInBounds_toArray, List.set_cons_zero, List.set_cons_succ]
  refine wpUntil.only (i := 24) (oi := { dst := some 59, op := Op.indexAddr 33 (Operand.tmp 41) (Operand.tmp 42), type := 0, pos := "ref.go:314", after := #[{ on := 6, ground := Ground.data }, { on := 7, ground := Ground.data }, { on := 0, ground := Ground.phase }, { on := 1, ground := Ground.phase }, { on := 2, ground := Ground.phase }, { on := 3, ground := Ground.phase }, { on := 4, ground := Ground.phase }, { on := 5, ground := Ground.phase }, { on := 6, ground := Ground.phase }, { on := 7, ground := Ground.phase }, { on := 8, ground := Ground.phase }, { on := 9, ground := Ground.phase }, { on := 10, ground := Ground.phase }, { on := 11, ground := Ground.phase }, { on := 12, ground := Ground.phase }, { on := 13, ground := Ground.phase }, { on := 14, ground := Ground.phase }, { on := 15, ground := Ground.phase }, { on := 16, ground := Ground.phase }, { on := 17, ground := Ground.phase }, { on := 18, ground := Ground.phase }, { on := 19, ground := Ground.phase }, { on := 20, ground := Ground.phase }, { on := 21, ground := Ground.phase }, { on := 22, ground := Ground.phase }, { on := 23, ground := Ground.phase }], guard := none }) rfl (by kernel_rfl) (fun K hK => ?_)
  rw [if_pos (by rfl)]
  go_simp
  refine hK.out _ _ (fun _ => HS1.out) ?_
  clear hK K
  try simp only [Act.put, List.setIfInBounds_toArray, List.set_cons_zero, List.set_cons_succ]
  refine wpUntil.only (i := 25) (oi := { dst := none, op := Op.store 9 (Operand.tmp 59) (Operand.tmp 58), type := 0, pos := "ref.go:314", after := #[{ on := 24, ground := Ground.data }, { on := 23, ground := Ground.data }, { on := 0, ground := Ground.phase }, { on := 1, ground := Ground.phase }, { on := 2, ground := Ground.phase }, { on := 3, ground := Ground.phase }, { on := 4, ground := Ground.phase }, { on := 5, ground := Ground.phase }, { on := 6, ground := Ground.phase }, { on := 7, ground := Ground.phase }, { on := 8, ground := Ground.phase }, { on := 9, ground := Ground.phase }, { on := 10, ground := Ground.phase }, { on := 11, ground := Ground.phase }, { on := 12, ground := Ground.phase }, { on := 13, ground := Ground.phase }, { on := 14, ground := Ground.phase }, { on := 15, ground := Ground.phase }, { on := 16, ground := Ground.phase }, { on := 17, ground := Ground.phase }, { on := 18, ground := Ground.phase }, { on := 19, ground := Ground.phase }, { on := 20, ground := Ground.phase }, { on := 21, ground := Ground.phase }, { on := 22, ground := Ground.phase }, { on := 23, ground := Ground.phase }], guard := none }) rfl (by kernel_rfl) (fun K hK => ?_)
  have pc := HPC.out
  have pf := HPF.out
  try dsimp only at pc pf
  rw [if_pos (by rfl)]
  go_simp
  refine hK.out _ _ (fun hne => absurd rfl hne) ?_
  clear hK K
  try simp only [Act.put, List.setIfInBounds_toArray, List.set_cons_zero, List.set_cons_succ]
  refine wpUntil.done (by kernel_rfl) ?_ _
  clear hS
  go_wp2_with fail
  go_ret
  exact ⟨rfl, HFN.out _ HRA.out, HFA.out.set ⟨b, j, none⟩ _ (.inr HBM.out)⟩
theorem refRot_any {base r Q c m : Nat} {E : List (Nat × Nat)} {D : DS} (i j p y : Int) (w : World) (h : RAt w base r Q E c m D) (hk : Dok E.length m D) (hy : IsB y) :
    Calls Tryz.prog 113 #[.pointer (some ⟨r, 0, none⟩), .int .i64 i, .int .i64 j, .int .i64 p, .int .u8 y] w fun e w' => e = .returned (.int .i64 (rotF E.length m D i j p y).2) ∧ RAt w' base r Q E c m (rotF E.length m D i j p y).1 ∧ Fr r (E.map Prod.fst) w w' := by
  have H := Lib.hid h
  cases h1 : hasF E.length m i j with
  | false =>
    have HF : Hid (rotF E.length m D i j p y = (D, 1)) := Lib.hid (by unfold rotF; rw [h1]; rfl)
    rw [HF.out]
    clear h
    go_enter Tryz.func113, Tryz.ntmps113
    go_wp2_with (go_at_call 141; refine (refHas_any _ _ w H.out).mono ?_; rintro e w' ⟨rfl, rfl⟩; rw [h1])
    go_ret
    exact ⟨rfl, H.out, Fr.refl _ _ _⟩
  | true =>
    by_cases h2 : 0 ≤ p ∧ p < 64
    · obtain ⟨hp0, hp1⟩ := h2
      have hh := h1
      unfold hasF at hh
      simp only [Bool.and_eq_true, decide_eq_true_eq] at hh
      obtain ⟨I, rfl⟩ := Int.eq_ofNat_of_zero_le (show 0 ≤ i by omega)
      obtain ⟨J, rfl⟩ := Int.eq_ofNat_of_zero_le (show 0 ≤ j by omega)
      obtain ⟨N, rfl⟩ := Int.eq_ofNat_of_zero_le hp0
      have HF : rotF E.length m D (I : Int) (J : Int) (N : Int) y = (D.put I (J * 64 + N) [xorI (rd (D.disks.getD I []) ((J * 64 + N : Nat) : Int)) y], 0) := by
        unfold rotF
        rw [h1, if_pos (by simp; omega), Int.toNat_natCast, Int.toNat_natCast, Int.toNat_natCast]
      rw [HF]
      exact refRot_on I J N y w h hk.z hk.bytes (by omega) (by omega) (by omega) hy
    · have HF : Hid (rotF E.length m D i j p y = (D, 1)) := Lib.hid (by unfold rotF; rw [h1, if_neg (by simp; omega)])
      rw [HF.out]
      clear h
      by_cases h3 : p < 0
      · go_enter Tryz.func113, Tryz.ntmps113
        go_wp2_with (go_at_call 141; refine (refHas_any _ _ w H.out).mono ?_; rintro e w' ⟨rfl, rfl⟩; rw [h1])
        go_ret
        exact ⟨rfl, H.out, Fr.refl _ _ _⟩
      · have h4 : 64 ≤ p := by omega
        go_enter Tryz.func113, Tryz.ntmps113
        go_wp2_with (go_at_call 141; refine (refHas_any _ _ w H.out).mono ?_; rintro e w' ⟨rfl, rfl⟩; rw [h1])
        go_ret
        exact ⟨rfl, H.out, Fr.refl _ _ _⟩
end Go.Proofs.YtkdjibejnncmfaaGreatDoor.Co
