/- Contracts of package coded, part 6. -/
import Derived.Test.YtkdjibejnncmfaaGreatDoorB5
import Derived.Laws.Tables
/- Words for image: a page and its place is built; what the data are. -/
namespace Go.Proofs.YtkdjibejnncmfaaGreatDoor.Co
open Go.RowKit Go.Proofs.YtkdjibejnncmfaaGreatDoorW.PrintWords Go.Proofs.YtkdjibejnncmfaaGreatDoorW.PrintLast Go.Proofs.YtkdjibejnncmfaaGreatDoorW.PrintMore
set_option linter.unusedVariables false
set_option linter.unusedSimpArgs false
set_option maxRecDepth 100000
theorem foldl_set_off (off : Nat) (cs : List Value) : ∀ (k : Nat) (a : Array Value), a.size = off + k + cs.length → (cs.zipIdx k).foldl (fun c x => c.setIfInBounds (off + x.2) x.1) a = (a.toList.take (off + k) ++ cs).toArray := by
  induction cs with
  | nil =>
    intro k a h
    rw [List.take_of_length_le (by simp at h ⊢; omega)]
    simp
  | cons v cs ih =>
    intro k a h
    simp only [List.length_cons] at h
    rw [List.zipIdx_cons, List.foldl_cons, ih (k + 1) _ (by simp; omega)]
    congr 1
    rw [Array.toList_setIfInBounds, ← Nat.add_assoc, List.take_add_one, List.take_set_of_le (by omega), List.getElem?_set_self (by simp; omega)]
    simp
theorem run_build_placed (w : World) (disk at_ : Nat) (pg : List Int) (hl : pg.length = 64) :
    (Instr.build 133 #[(0, .int .i64 disk), (1, .int .i64 at_), (2, pageV pg)]).run Tryz.prog w = .ok (.agg (pcells ⟨disk, at_, pg⟩).toArray) w := by
  refine run_build w 133 _ _ ?_
  obtain ⟨it, hit, hz, hs, _⟩ := info_of info133f
  obtain ⟨i3, hi3, _, hs3, _⟩ := info_of info3
  have h131 := info131s
  cases hi131 : Tryz.prog.info? 131 with
  | none => rw [hi131] at h131; cases h131
  | some i131 =>
    rw [hi131] at h131
    simp only [Option.map_some, Option.some.injEq] at h131
    unfold Program.built
    simp only [hit, Tryz.underlying133, hz]
    simp [hi3, hi131, hs3, h131, Instr.fill, Value.cells, hl]
    have hz66 : Tryz.zeroCells133.size = 66 := rfl
    have hfo := foldl_set_off 2 (encB pg) 0 ((Tryz.zeroCells133.setIfInBounds 0 (.int .i64 disk)).setIfInBounds 1 (.int .i64 at_)) (by simp [hl, hz66])
    rw [hfo]
    have h2 : List.take (2 + 0) ((Tryz.zeroCells133.setIfInBounds 0 (Value.int .i64 (disk : Int))).setIfInBounds 1 (Value.int .i64 (at_ : Int))).toList = [.int .i64 disk, .int .i64 at_] := by
      obtain ⟨a, b, l, hab⟩ : ∃ a b l, Tryz.zeroCells133 = ⟨a :: b :: l⟩ := ⟨_, _, _, rfl⟩
      rw [hab]
      simp
    rw [h2]
    rfl
theorem exec_build {P : Program} {w : World} (ρ : Operand → Value) (o : Oper) (t : TypeId) (parts : Array (Nat × Operand)) (ho : o.op = .build t parts) (cells : Array Value)
    (h : (Instr.build t (parts.map fun (i, x) => (i, ρ x))).run P w = .ok (.agg cells) w) : (execOp ρ o).run P w = .ok (.value (.agg cells)) w := by
  unfold execOp
  simp only [ho]
  simp [h, Result.andThen]
theorem exec_build3 {P : Program} {w : World} (ρ : Operand → Value) (o : Oper) (t : TypeId) (x0 x1 x2 : Operand) (v0 v1 v2 : Value) (ho : o.op = .build t #[(0, x0), (1, x1), (2, x2)]) (h0 : ρ x0 = v0) (h1 : ρ x1 = v1) (h2 : ρ x2 = v2) (cells : Array Value)
    (h : (Instr.build t #[(0, v0), (1, v1), (2, v2)]).run P w = .ok (.agg cells) w) : (execOp ρ o).run P w = .ok (.value (.agg cells)) w :=
  exec_build ρ o t _ ho cells (by simpa [h0, h1, h2] using h)
theorem run_bs_placed (W : World) (cs : List Value) (hc : cs.length = 66) : (Instr.buildSlice 129 1 #[(0, .agg cs.toArray)]).run Tryz.prog W = .ok (.slice (some ⟨W.heap.size, 0, none⟩) 1 1) (W.alloc (.cells cs.toArray 133)) := by
  obtain ⟨ie, hie, hz0, hs, _⟩ := info_of info133f
  have := run_buildSlice (P := Tryz.prog) W 129 133 1 #[(0, .agg cs.toArray)] cs.toArray ie (.agg Tryz.zeroCells133) Tryz.underlying129 hie hz0 (by rw [hs]; omega) (by rw [hs]; omega) (by
    rw [hs]
    exact fill_one _ cs 66 (by rw [Array.size_map, Array.size_range]) hc)
  exact this
theorem needed_le (len k : Nat) (hk : 1 ≤ k) : 4 + len ≤ neededF len k * 40 * k := by
  unfold neededF
  have h1 : (4 + len + 40 * k - 1) / (40 * k) * (40 * k) + (4 + len + 40 * k - 1) % (40 * k) = 4 + len + 40 * k - 1 := by rw [Nat.mul_comm]; exact Nat.div_add_mod _ _
  have h2 : (4 + len + 40 * k - 1) % (40 * k) < 40 * k := Nat.mod_lt _ (by omega)
  rw [Nat.mul_assoc]
  omega
theorem needed_pos (len k : Nat) (hk : 1 ≤ k) : 1 ≤ neededF len k := by
  have := needed_le len k hk
  rcases Nat.eq_zero_or_pos (neededF len k) with h | h
  · rw [h] at this; simp at this
  · exact h
theorem dataF_len (text : ByteArray) (k : Nat) : (dataF text k).length = neededF text.size k * 40 * k := by
  unfold dataF; rw [setL_length, setL_length, List.length_replicate]
theorem dataF_b (text : ByteArray) (k : Nat) : ∀ x ∈ dataF text k, IsB x := setL_b (setL_b (zeros_b _) (leB_b _ _)) (wrBytes_b text)
/-- Lists of texts, in memory of the call's own. -/
structure PiecesAt (w : World) (base : Nat) (v : Value) (k n : Nat) (f : Nat → List ByteArray) : Prop where
  ex : ∃ V : Nat → Value, w.ownsRow base 33 1 v k ((List.range k).map V) ∧ ∀ i, i < k → Kd.R Kd.string 9 w base (fun _ => True) (V i) (f i) ∧ (f i).length = n
theorem PiecesAt.nil (w : World) (base n : Nat) (f : Nat → List ByteArray) : PiecesAt w base (.slice none 0 0) 0 n f := ⟨⟨fun _ => nilS, World.ownsRow_nil _ _ _ _, fun i hi => by omega⟩⟩
theorem PiecesAt.below {w w' : World} {base k n : Nat} {v : Value} {f : Nat → List ByteArray} (h : PiecesAt w base v k n f) (hb : Below w.heap.size w w') : PiecesAt w' base v k n f := by
  obtain ⟨V, h1, h2⟩ := h.ex
  exact ⟨⟨V, own_below h1 hb, fun i hi => ⟨Kd.R_below (h2 i hi).1 hb, (h2 i hi).2⟩⟩⟩
theorem R_grown {w w' : World} {base : Nat} {v u : Value} {l : List ByteArray} {n : Nat} {xs : List Value} (hu : Kd.R Kd.string 9 w base (fun _ => True) u l) (hv : w.ownsRow base 33 1 v n xs) (hg : w.grownBy w' v.ownBlock) : Kd.R Kd.string 9 w' base (fun _ => True) u l := by
  have ho := Kd.own_of_R hu
  refine Kd.R_of_own (own_move ho (fun k hk => hg.block k (own_lt ho k hk) ?_)) (fun _ _ => trivial)
  intro e
  obtain ⟨c1, h1⟩ := own_typed ho k hk
  obtain ⟨c2, h2⟩ := own_typed hv k e.symm
  rw [h1] at h2
  injection h2 with h2
  injection h2 with _ h2
  cases h2
theorem PiecesAt.push {w w' : World} {base k n : Nat} {v v' u : Value} {f : Nat → List ByteArray} {V : Nat → Value} (h1 : w.ownsRow base 33 1 v k ((List.range k).map V)) (h2 : ∀ i, i < k → Kd.R Kd.string 9 w base (fun _ => True) (V i) (f i) ∧ (f i).length = n)
    (hu : Kd.R Kd.string 9 w base (fun _ => True) u (f k)) (hn : (f k).length = n) (hown : w'.ownsRow base 33 1 v' (k + 1) ((List.range k).map V ++ [u])) (hg : w.grownBy w' v.ownBlock) : PiecesAt w' base v' (k + 1) n f := by
  refine ⟨⟨fun i => if i = k then u else V i, ?_, fun i hi => ?_⟩⟩
  · have : (List.range (k + 1)).map (fun i => if i = k then u else V i) = (List.range k).map V ++ [u] := by
      rw [List.range_succ, List.map_append]
      congr 1
      · apply List.map_congr_left
        intro i hi
        have := List.mem_range.1 hi
        rw [if_neg (by omega)]
      · simp
    rw [this]; exact hown
  · dsimp only
    by_cases e : i = k
    · subst e; rw [if_pos rfl]; exact ⟨R_grown hu h1 hg, hn⟩
    · rw [if_neg e]
      exact ⟨R_grown (h2 i (by omega)).1 h1 hg, (h2 i (by omega)).2⟩
theorem exec_bs1 {P : Program} {w w' : World} (ρ : Operand → Value) (o : Oper) (t : TypeId) (x0 : Operand) (v0 u : Value) (ho : o.op = .buildSlice t 1 #[(0, x0)]) (h0 : ρ x0 = v0)
    (h : (Instr.buildSlice t 1 #[(0, v0)]).run P w = .ok u w') : (execOp ρ o).run P w = .ok (.value u) w' := by
  unfold execOp
  simp only [ho]
  simp [h0, h, Result.andThen]
theorem wp_of_exec {P : Program} {o : Oper} {a : Act} {w w' : World} {K : Act → World → Prop} {Q : Exit → Act → World → Prop} {v : Value} (h : (execOp a.eval o).run P w = .ok (.value v) w') (hk : K (a.put o.dst v) w') : o.wp P a w K Q := by
  unfold Oper.wp
  rw [h]
  exact hk
theorem info33 : (Tryz.prog.info? 33).map (fun i => (i.zero, i.size, i.bytes)) = some (some nilS, 1, 24) := by kernel_rfl
end Go.Proofs.YtkdjibejnncmfaaGreatDoor.Co

/- The walk of image. -/
namespace Go.Proofs.YtkdjibejnncmfaaGreatDoor.Co
open Go.RowKit Go.Proofs.YtkdjibejnncmfaaGreatDoorW.PrintWords Go.Proofs.YtkdjibejnncmfaaGreatDoorW.PrintLast Go.Proofs.YtkdjibejnncmfaaGreatDoorW.PrintMore
set_option linter.unusedVariables false
set_option linter.unusedSimpArgs false
set_option maxRecDepth 100000
theorem len_flat {α : Type} (f : Nat → List α) (k : Nat) (h : ∀ i, (f i).length = k) : ∀ n, ((List.range n).flatMap f).length = n * k
  | 0 => by simp
  | n + 1 => by rw [List.range_succ, List.flatMap_append, List.length_append, len_flat f k h n, List.flatMap_singleton, h, Nat.add_mul, Nat.one_mul]
theorem vs_someTo (pts : List Int) (vals : List ByteArray) (n i : Nat) (h : i < n) : vs (someTo pts vals n) (i : Int) = pieceF pts vals (i : Int) := by
  unfold vs rdOf someTo
  rw [Int.toNat_natCast, List.getD_eq_getElem?_getD, List.getElem?_map, List.getElem?_range h]
  rfl
set_option maxHeartbeats 4000000 in
theorem image_any {d P c m : Nat} {B : List Nat} {D : DS} (text : ByteArray) (life en : Nat) (w : World) (h : DAt w d P B c m D) (he : 1 ≤ en) (he2 : en ≤ B.length) (hl : life ≤ 4000000000000) (hst : neededF text.size en ≤ m / 2) :
    Calls Tryz.prog 94 #[.pointer (some ⟨d, 0, none⟩), .string text, .int .i64 life, .int .i64 en] w fun e w' => ∃ v, e = .returned v ∧ pkd.R 133 w' w.heap.size (fun _ => True) v (imageF B.length m text life en) ∧ Below w.heap.size w w' := by
  have H := Lib.hid h
  have hmost := h.most
  have hfew := h.few
  clear h
  obtain ⟨st, hst'⟩ : ∃ st, st = neededF text.size en := ⟨_, rfl⟩
  have hst1 := needed_pos text.size en he
  have hle := needed_le text.size en he
  rw [← hst'] at hst hst1 hle
  obtain ⟨N, hN⟩ : ∃ N, N = st * 40 * en := ⟨_, rfl⟩
  rw [← hN] at hle
  have hNb : N ≤ 245760 := by
    rw [hN]
    calc st * 40 * en ≤ 512 * 40 * 12 := Nat.mul_le_mul (Nat.mul_le_mul_right _ (by omega)) (by omega)
      _ = 245760 := by omega
  have hN40 : 40 ≤ N := by
    rw [hN]
    calc 40 = 1 * 40 * 1 := by omega
      _ ≤ st * 40 * en := Nat.mul_le_mul (Nat.mul_le_mul_right _ hst1) he
  have HNE : Hid (∀ W, Calls Tryz.prog 130 #[.string text, .int .i64 (en : Int)] W fun e w' => e = .returned (.int .i64 (st : Nat)) ∧ W = w') := Lib.hid (fun W => by rw [hst']; exact needed_any text en W (by omega) he (by omega))
  have hm2 : (st : Int) * 40 * (en : Int) = (N : Int) := by
    have e1 : (st : Int) * 40 * (en : Int) = ((st * 40 * en : Nat) : Int) := by rw [Int.natCast_mul, Int.natCast_mul]; rfl
    rw [e1, ← hN]
  have hmk : ∀ W : World, (Instr.makeSlice 46 (.int .i64 (N : Int)) (.int .i64 (N : Int))).run Tryz.prog W = .ok (.slice (some ⟨W.heap.size, 0, none⟩) N N) (W.alloc (.cells (encB (List.replicate N 0)).toArray 5)) := by
    intro W
    have h1 := run_make_row' (P := Tryz.prog) 46 5 (.int .u8 0) 1 Tryz.underlying46 info5 rfl .i64 .i64 N (by omega) (by omega) W
    rw [madeCells_one] at h1
    rw [h1, show (encB (List.replicate N 0)).toArray = Array.replicate N (Value.int .u8 0) from zeros_eq N]
  have HST := Lib.hid (And.intro hst' hN)
  clear hst' hN
  go_enter Tryz.func94, Tryz.ntmps94
  go_upto_region 2 with (go_at_call 130; refine (HNE.out _).mono ?_; rintro e w2 ⟨rfl, rfl⟩)
  have HBX := Lib.hid (Box.new w #[.int .i64 life, .int .i64 st, .int .i64 en] 139)
  obtain ⟨W0, hW0⟩ : ∃ W0, W0 = w.alloc (.cells #[.int .i64 life, .int .i64 st, .int .i64 en] 139) := ⟨_, rfl⟩
  rw [← hW0] at HBX ⊢
  have HB0 : Hid (Below w.heap.size w W0) := Lib.hid (by rw [hW0]; exact below_al (Below.refl _ _) _)
  have hsz0 : W0.heap.size = w.heap.size + 1 := by rw [hW0]; simp
  clear hW0
  have d1 := HBX.out.cell 1
  simp only [List.getElem?_toArray, List.getElem?_cons_zero, List.getElem?_cons_succ] at d1
  go_upto_region 3 with fail
  obtain ⟨gd, hgd⟩ : ∃ gd, gd = w.heap.size + 1 := ⟨_, rfl⟩
  have HDX0 : Hid (Box (W0.alloc (.cells (Array.replicate N (.int .u8 0)) 5)) gd 5 (encB (List.replicate N 0)).toArray) := Lib.hid (by rw [zeros_eq, hgd, ← hsz0]; exact Box.new _ _ _)
  have HBX0 : Hid (Box (W0.alloc (.cells (Array.replicate N (.int .u8 0)) 5)) w.heap.size 139 #[.int .i64 life, .int .i64 st, .int .i64 en]) := Lib.hid (HBX.out.alloc _)
  have HB1 : Hid (Below w.heap.size w (W0.alloc (.cells (Array.replicate N (.int .u8 0)) 5))) := Lib.hid (below_al HB0.out _)
  obtain ⟨W1, hW1⟩ : ∃ W1, W1 = W0.alloc (.cells (Array.replicate N (.int .u8 0)) 5) := ⟨_, rfl⟩
  rw [← hW1] at HDX0 HBX0 HB1 ⊢
  rw [← hgd]
  have hgX : w.heap.size ≠ gd := by omega
  have HGD := Lib.hid (And.intro hgd hsz0)
  clear hW1 hgd hsz0 hmk hm2 HNE d1
  have HPUT : Hid (Calls Tryz.prog 131 #[.slice (some ⟨gd, 0, none⟩) 4 N, .int .u64 text.size] W1 fun e w' => e = .returned (.tuple #[]) ∧ w' = Co.setCells W1 gd 0 (encB (leB text.size 4))) := Lib.hid (put_any gd 0 4 N text.size 5 _ W1 (by omega) HDX0.out (by simp; omega) (by omega))
  have HDX1 := Lib.hid (box_put HDX0.out 0 (leB text.size 4))
  have HBX1 := Lib.hid (HBX0.out.sets_far hgX 0 (encB (leB text.size 4)))
  have HB2 := Lib.hid (setCells_below HB1.out gd 0 (by have := HGD.out.1; omega) (encB (leB text.size 4)))
  have hwu : IntKind.u64.wrap (text.size : Int) = (text.size : Int) := by rw [IntKind.wrap_u64]; omega
  have hN0 : ¬ N = 0 := by omega
  have hN4 : ¬ N = 4 := by omega
  have hN4' : 4 ≤ N := by omega
  go_upto_region 4 with (go_at_call 131; refine HPUT.out.mono ?_; rintro e w2 ⟨rfl, rfl⟩)
  obtain ⟨W2, hW2⟩ : ∃ W2, W2 = Co.setCells W1 gd 0 (encB (leB text.size 4)) := ⟨_, rfl⟩
  rw [← hW2] at HDX1 HBX1 HB2 ⊢
  clear hW2 HPUT hwu
  have hcp := run_copy_str (P := Tryz.prog) W2 46 9 3 5 gd 4 (N - 4) (N - 4) text Tryz.underlying46 sizeOf5 (fun q hq => by have := box_byte HDX1.out (4 + q) (by rw [setL_length]; simp; omega); rw [this]; rfl) (fun q hq => HDX1.out.frozen _)
  have htk : (wrBytes text).take (N - 4) = wrBytes text := List.take_of_length_le (by rw [wrBytes_length]; omega)
  rw [htk] at hcp
  have HDX2 : Hid (Box (Co.setCells W2 gd 4 (encB (wrBytes text))) gd 5 (encB (dataF text en)).toArray) := Lib.hid (by
    have := box_put HDX1.out 4 (wrBytes text)
    unfold dataF
    rw [← HST.out.1, ← HST.out.2]
    exact this)
  have HBX2 := Lib.hid (HBX1.out.sets_far hgX 4 (encB (wrBytes text)))
  have HB3 := Lib.hid (setCells_below HB2.out gd 4 (by have := HGD.out.1; omega) (encB (wrBytes text)))
  clear htk
  go_upto_region 5 with fail
  obtain ⟨W3, hW3⟩ : ∃ W3, W3 = Co.setCells W2 gd 4 (encB (wrBytes text)) := ⟨_, rfl⟩
  rw [← hW3] at HDX2 HBX2 HB3 ⊢
  clear hW3 hcp
  have d1 := HBX2.out.cell 1
  simp only [List.getElem?_toArray, List.getElem?_cons_zero, List.getElem?_cons_succ] at d1
  obtain ⟨data, hdata⟩ : ∃ data, data = dataF text en := ⟨_, rfl⟩
  rw [← hdata] at HDX2
  have hdl : data.length = N := by rw [hdata, dataF_len, ← HST.out.1, ← HST.out.2]
  have HDB : Hid (∀ x ∈ data, IsB x) := Lib.hid (by rw [hdata]; exact dataF_b text en)
  have HDL := Lib.hid (And.intro hdl hdata)
  clear hdl hdata hle hN0 hN4 hN4'
  go_wp2_with fail
  go_loopw [11, 44] (fun v i wr => ∃ k : Nat, k ≤ st ∧ i = .int .i64 k ∧ Hid (PiecesAt wr W3.heap.size v k B.length (piecesF B.length text en)) ∧ Hid (Below W3.heap.size W3 wr)) (fun _ i _ => st - (intOf i).toNat)
  case atStart => exact ⟨0, by omega, rfl, Lib.hid (PiecesAt.nil _ _ _ _), Lib.hid (Below.refl _ _)⟩
  case round =>
    obtain ⟨k, hk, rfl, hP, hBr⟩ := hrel
    by_cases hlt : k < st
    · obtain ⟨ke, hke⟩ : ∃ ke, ke = k * en := ⟨_, rfl⟩
      have hkeI : (k : Int) * (en : Int) = (ke : Int) := by rw [hke, Int.natCast_mul]
      have hkeN : ke + en ≤ st * en := by
        have := Nat.mul_le_mul_right en (show k + 1 ≤ st from hlt)
        rw [Nat.add_mul] at this
        omega
      have hN2 : N = (st * en) * 40 := by rw [HST.out.2, Nat.mul_assoc, Nat.mul_comm 40 en, ← Nat.mul_assoc]
      obtain ⟨se, hse⟩ : ∃ se, se = st * en := ⟨_, rfl⟩
      rw [← hse] at hkeN hN2
      have HKE := Lib.hid (And.intro hke hse)
      have HN2 := Lib.hid (And.intro hN2 hkeN)
      clear hke hse hN2
      go_wp2_with fail
      obtain ⟨wo, rfl⟩ : ∃ wo : World, wo = wr := ⟨_, rfl⟩
      go_loopw [13, 48] (fun l j w2 => ∃ q : Nat, q ≤ en ∧ j = .int .i64 q ∧ Hid (Kd.R Kd.string 9 w2 wo.heap.size (fun _ => True) l ((List.range q).map fun j => partF data en k j)) ∧ Hid (Below wo.heap.size wo w2)) (fun _ j _ => en - (intOf j).toNat)
      case atStart => exact ⟨0, by omega, rfl, Lib.hid (Kd.R_nil _ _ _ _ _), Lib.hid (Below.refl _ _)⟩
      case round =>
        obtain ⟨q, hq, rfl, hR, hB2⟩ := hrel
        by_cases hlt2 : q < en
        · obtain ⟨fr, hfr⟩ : ∃ fr, fr = (ke + q) * 40 := ⟨_, rfl⟩
          have hfrN : fr + 40 ≤ N := by have := HN2.out.1; have := HN2.out.2; omega
          have hcv : (convert 46 9 (.slice (some ⟨gd, fr, none⟩) 40 (N - fr))).run Tryz.prog wr = .ok (.string (partF data en k q)) wr := by
            unfold partF
            refine run_convert_bytes_arg wr 46 5 Tryz.underlying46 Tryz.underlying5 gd fr 40 (N - fr) ((data.drop ((k * en + q) * 40)).take 40) (by rw [List.length_take, List.length_drop, HDL.out.1, ← HKE.out.1]; omega) (fun j hj => ?_) 9 Tryz.underlying9
            have h1 := box_byte ((HDX2.out.below hBr.out HDX2.out.lt).below hB2.out (HDX2.out.below hBr.out HDX2.out.lt).lt) (fr + j) (by rw [HDL.out.1]; omega)
            rw [h1]
            unfold rd
            rw [Int.toNat_natCast, List.getD_eq_getElem?_getD, List.getD_eq_getElem?_getD, List.getElem?_take, if_pos hj, List.getElem?_drop, ← HKE.out.1, ← hfr]
          obtain ⟨sx, hsx⟩ : ∃ sx, sx = partF data en k q := ⟨_, rfl⟩
          rw [← hsx] at hcv
          have hsl : ∀ W : World, (Instr.slice 46 (.slice (some ⟨gd, 0, none⟩) N N) (some (.int .i64 (fr : Int))) (some (.int .i64 ((fr : Int) + 40))) none).run Tryz.prog W = .ok (.slice (some ⟨gd, fr, none⟩) 40 (N - fr)) W := by
            intro W
            have e1 : ((fr : Int) + 40) = ((fr + 40 : Nat) : Int) := by omega
            rw [e1]
            simp [go_sem, Tryz.underlying46, sizeOf5]
            rw [if_pos (by omega), if_pos (by omega), if_neg (by omega), show ((fr : Int) + 40).toNat - fr = 40 by omega]
          have hfrI : (ke : Int) * 40 + (q : Int) * 40 = (fr : Int) := by omega
          have hfrI2 : ((ke : Int) + (q : Int)) * 40 = (fr : Int) := by omega
          obtain ⟨pl, hpl⟩ : ∃ pl, pl = (List.range q).map fun j => partF data en k j := ⟨_, rfl⟩
          rw [← hpl] at hR
          have hpll : pl.length ≤ 12 := by rw [hpl]; simp; omega
          have HPL : Hid (((List.range (q + 1)).map fun j => partF data en k j) = pl ++ [sx]) := Lib.hid (by rw [List.range_succ, List.map_append, hpl, hsx]; rfl)
          have HFR := Lib.hid (And.intro hfr (And.intro hsx hpl))
          clear hfr hsx hpl
          go_wp2_with ((with_reducible refine gate_builtin (b := .append) (xs := #[.tmp 57, .tmp 64]) rfl ?_); at_builtin; refine Kd.R_append Kd.string (w0 := wo) wo.heap.size rfl (.tmp 57) (.tmp 64) 33 9 (.string ⟨#[]⟩) 16 rfl Tryz.underlying33 info9 rfl (by decide) (by omega) u13 pl sx [.string sx] (fun _ => True) (fun _ => False) rfl rfl ?aP (fun _ hk => hk.elim) ?aF ?aO ?aB ?aS ?aL ?_; (case aP => exact rfl); (case aF => exact (fun _ _ => trivial)); (case aO => exact hR.out); (case aB => exact hB2.out); (case aS => exact hB2.out.size); (case aL => omega); intro v1 w3 ho hb hg hat; have ho1 := Lib.hid ho; have hb1 := Lib.hid hb; clear ho hg hat hb)
          go_roundw
          case rel => exact ⟨q + 1, by omega, by go_num, by rw [HPL.out]; exact ho1, hb1⟩
          case measure => simp [intOf]; omega
        · have hqe : q = en := by omega
          subst hqe
          have hRl := hR.out
          obtain ⟨lst, hlst⟩ : ∃ lst, lst = (List.range q).map fun j => partF data q k j := ⟨_, rfl⟩
          rw [← hlst] at hRl
          have hll : lst.length = q := by rw [hlst]; simp
          obtain ⟨Al, cl, ev, hcl, hCl⟩ := Kd.R_reads hRl
          subst ev
          rw [hll] at hcl hCl
          have hclM : cl ≤ 9223372036854775807 := own_cap (Kd.own_of_R hRl)
          have hsz : ∀ i : Nat, i < lst.length → (vs lst i).size = 40 := by
            intro i hi2
            have hm := vs_mem lst i hi2
            obtain ⟨z, hz⟩ : ∃ z, z = vs lst i := ⟨_, rfl⟩
            rw [← hz] at hm ⊢
            rw [hlst] at hm
            obtain ⟨y, hy, e⟩ := List.mem_map.1 hm
            have hy2 := List.mem_range.1 hy
            rw [← e]
            unfold partF
            rw [strOfNums_size, List.length_take, List.length_drop, HDL.out.1, ← HKE.out.1]
            have := HN2.out.1
            have := HN2.out.2
            omega
          have HPF : Hid (piecesF B.length text q k = someTo (firstL q) lst B.length) := Lib.hid (by
            unfold piecesF stripeL
            rw [← HDL.out.2, ← hlst])
          have HBq := Lib.hid (belt hBr.out hB2.out)
          have HPq := Lib.hid (hP.out.below hB2.out)
          have HCL := Lib.hid hCl
          have HSZ := Lib.hid hsz
          have HLL := Lib.hid (And.intro hll hlst)
          rw [hll]
          clear hRl hR hll hlst hCl hsz
          have HFI : Hid (∀ W, Below wr.heap.size wr W → Calls Tryz.prog 79 #[.int .i64 (q : Int)] W fun e w' => ∃ A1 c1, e = .returned (.slice A1 q c1) ∧ q ≤ c1 ∧ Kd.C (Kd.int .i64) w' A1 q (firstL q) ∧ Below W.heap.size W w') := Lib.hid (fun W hW => by
            refine (first_any q W (by omega)).mono ?_
            rintro e w' ⟨v, rfl, hR1, hb⟩
            obtain ⟨A1, c1, ev, hc1, hC1⟩ := Kd.R_reads hR1
            rw [firstL_length] at ev hc1 hC1
            exact ⟨A1, c1, by rw [ev], hc1, hC1, hb⟩)
          have HTH : Hid (∀ W A1 c1, Below wr.heap.size wr W → q ≤ c1 → Kd.C (Kd.int .i64) W A1 q (firstL q) → Calls Tryz.prog 78 #[.slice A1 q c1, .slice Al q cl] W fun e w' => ∃ g A' c', e = .returned (.agg #[.slice A' q c', .pointer (some ⟨g, 0, none⟩), .slice Al q cl]) ∧ Poly w' g A' c' (firstL q) Al cl lst 40 ∧ Below W.heap.size W w') := Lib.hid (fun W A1 c1 hW hc1 hC1 => by
            have hCl2 := Kd.C_below HCL.out hW
            have := through_any A1 c1 (firstL q) Al cl lst 40 W (by rw [firstL_length]; exact hC1) (by rw [firstL_length]; exact hc1) (fun i hi2 => by rw [firstL_length] at hi2; rw [rd_firstL q i hi2]; exact ⟨by omega, by omega⟩) (by rw [firstL_length]; omega) (by rw [HLL.out.1]; exact hCl2) (by rw [HLL.out.1]; exact hcl) (by rw [firstL_length, HLL.out.1]) (by rw [HLL.out.1]; omega) HSZ.out (by omega)
            rw [firstL_length, HLL.out.1] at this
            exact this)
          have HCN : Hid (∀ W, Below wr.heap.size wr W → Calls Tryz.prog 92 #[.pointer (some ⟨d, 0, none⟩)] W fun e w' => e = .returned (.int .i64 B.length) ∧ W = w') := Lib.hid (fun W hW => Count_any W (H.out.below (belt (belt HB3.out HBq.out) hW)))
          have HSO : Hid (∀ W g A' c', Poly W g A' c' (firstL q) Al cl lst 40 → Calls Tryz.prog 80 #[.agg #[.slice A' q c', .pointer (some ⟨g, 0, none⟩), .slice Al q cl], .int .i64 B.length] W fun e w' => ∃ v, e = .returned v ∧ Kd.R Kd.string 9 w' W.heap.size (fun _ => True) v (piecesF B.length text q k) ∧ Below W.heap.size W w') := Lib.hid (fun W g A' c' hP => by
            have := some_any B.length W hP hmost
            rw [firstL_length, HLL.out.1] at this
            rw [HPF.out]
            exact this)
          obtain ⟨V, hV1, hV2⟩ := HPq.out.ex
          have HV := Lib.hid (And.intro hV1 hV2)
          have hpl1 : (piecesF B.length text q k).length = B.length := by rw [HPF.out, someTo_length]
          have HPL := Lib.hid hpl1
          have HSZq := Lib.hid (And.intro hBr.out.size hB2.out.size)
          obtain ⟨i0, hi0, hz0, hz1, hz2⟩ := info_of info33
          clear hV1 hV2 hpl1
          go_upto_region 17 with (first
            | (go_at_call 79; refine (HFI.out _ (by (repeat (first | assumption | exact Below.refl _ _)))).mono ?_; rintro e w3 ⟨A1, c1, rfl, hc1, hC1, hb3⟩; have HC1 := Lib.hid hC1; clear hC1)
            | (go_at_call 78; refine (HTH.out _ _ _ (by assumption) (by assumption) HC1.out).mono ?_; rintro e w4 ⟨g, A', c', rfl, hPo, hb4⟩; have HPO := Lib.hid hPo; have hb5 := belt hb3 hb4; clear hPo hb4)
            | (go_at_call 92; refine (HCN.out _ (by assumption)).mono ?_; rintro e w5 ⟨rfl, rfl⟩)
            | (go_at_call 80; refine (HSO.out _ _ _ _ HPO.out).mono ?_; rintro e w6 ⟨vo, rfl, hRo, hb6⟩; obtain ⟨A6, c6, ev6, hc6, hC6⟩ := Kd.R_reads hRo; rw [HPL.out] at ev6; subst ev6; have HRO := Lib.hid hRo; have HB6 := Lib.hid (belt hb5 hb6); clear hRo hb6 hc6 hC6)
            | (at_builtin; refine wpList_append_own_at _ rfl (.tmp 67) (.tmp 75) 148 rfl W3.heap.size 33 i0 nilS 1 24 Tryz.underlying148 hi0 hz0 hz1 hz2 rfl (by decide) u11 k ((List.range k).map V) rfl (own_below HV.out.1 (below_al HB6.out _)) ⟨w6.heap.size, 0, none⟩ 1 1 [.slice A6 B.length c6] rfl rfl (cell_one_new _ _ _) (fun u hu => by cases List.mem_singleton.1 hu; rfl) (by unfold maxLen; omega) (by omega) (by have h1 := HSZq.out; have h2 := HB6.out.size; simp; omega) ?_; intro v' w7 hown hgrow hnil hat; have HOWN := Lib.hid hown; have HGROW := Lib.hid hgrow; clear hown hgrow hnil hat))
          have HP9 : Hid (PiecesAt w7 W3.heap.size v' (k + 1) B.length (piecesF B.length text q)) := Lib.hid (by
            have hbw : Below wr.heap.size wr (w6.alloc (.cells #[.slice A6 B.length c6] 33)) := below_al HB6.out _
            refine PiecesAt.push (own_below HV.out.1 hbw) (fun i hi2 => ⟨Kd.R_below (HV.out.2 i hi2).1 hbw, (HV.out.2 i hi2).2⟩) (Kd.R_below (Kd.R_lower HRO.out ?_) (below_al (Below.refl _ _) _)) HPL.out HOWN.out HGROW.out
            have h1 := HSZq.out
            have h2 := (belt hb3 (Below.refl _ _)).size
            have h3 := hb5.size
            omega)
          have HB9 : Hid (Below W3.heap.size W3 w7) := Lib.hid ((below_al (belt (belt hBr.out hB2.out) HB6.out) _).grown HGROW.out (by have h1 := HSZq.out; have h2 := HB6.out.size; simp; omega) (fun j hj => own_base HV.out.1 j hj))
          clear hi0 hz0 hz1 hz2 hb3 hb5
          go_wp2_with fail
          go_roundw
          case rel => exact ⟨k + 1, by omega, by go_num, HP9, HB9⟩
          case measure => simp [intOf]; omega
    · have hks : k = st := by omega
      subst hks
      obtain ⟨V, hV1, hV2⟩ := hP.out.ex
      obtain ⟨q0, hq0⟩ : ∃ q0, k = q0 + 1 := ⟨k - 1, by omega⟩
      have hV1' := hV1
      rw [hq0] at hV1'
      obtain ⟨gp, cp, ev⟩ := ownsRow_succ hV1'
      subst ev
      rw [← hq0] at hV1' ⊢
      have hcp : k ≤ cp := by
        rcases hV1'.2 with ⟨h1, _⟩ | ⟨g', cap, cur, h1, _, _, h3, _⟩
        · cases h1
        · injection h1 with _ _ h4; omega
      have hpc : ∀ i : Nat, i < k → wr.cell? ⟨gp, i, none⟩ = some (V i) := by
        intro i hi
        have := World.ownsRow.cells hV1' (g := gp) (by simp [Value.ownBlock]) i (V i) (by simp [hi])
        have e : (⟨gp, 0, none⟩ : Addr).add i = ⟨gp, i, none⟩ := by simp [Addr.add]; exact fun h => h.symm
        rw [e] at this
        exact this
      have HPC := Lib.hid hpc
      have HV2 := Lib.hid hV2
      have HBw := Lib.hid (belt HB3.out hBr.out)
      clear hV1 hV1' hV2 hpc hP hq0
      go_wp2_with (go_at_call 92; refine (Count_any wr (H.out.below HBw.out)).mono ?_; rintro e w5 ⟨rfl, rfl⟩)
      obtain ⟨wq, hwq⟩ : ∃ wq, wq = wr := ⟨_, rfl⟩
      rw [← hwq] at HPC HV2 HBw hBr ⊢
      clear hwq
      have HBXq := Lib.hid (HBX2.out.below hBr.out HBX2.out.lt)
      have HIM : Hid (imageF B.length m text life en = (List.range B.length).flatMap fun disk => (List.range k).map fun i => placedF B.length m text life en disk i) := Lib.hid (by unfold imageF; rw [← HST.out.1])
      have hkm : k ≤ 512 := by omega
      go_loopw [16, 80] (fun v i w2 => ∃ dk : Nat, dk ≤ B.length ∧ i = .int .i64 dk ∧ Hid (pkd.R 133 w2 wq.heap.size (fun _ => True) v ((List.range dk).flatMap fun disk => (List.range k).map fun i => placedF B.length m text life en disk i)) ∧ Hid (Below wq.heap.size wq w2)) (fun _ i _ => B.length - (intOf i).toNat)
      case atStart => exact ⟨0, by omega, rfl, Lib.hid (Kd.R_nil _ _ _ _ _), Lib.hid (Below.refl _ _)⟩
      case round =>
        obtain ⟨dk, hdk, rfl, hR, hB2⟩ := hrel
        by_cases hlt : dk < B.length
        · have hXr := HBXq.out.below hB2.out HBXq.out.lt
          have d1 := hXr.cell 1
          simp only [List.getElem?_toArray, List.getElem?_cons_zero, List.getElem?_cons_succ] at d1
          have HXr := Lib.hid hXr
          obtain ⟨done, hdone⟩ : ∃ done, done = (List.range dk).flatMap fun disk => (List.range k).map fun i => placedF B.length m text life en disk i := ⟨_, rfl⟩
          have hdl : done.length = dk * k := by
            rw [hdone]
            exact len_flat _ k (fun i => by simp) dk
          have hdl2 : done.length ≤ 6144 := by
            rw [hdl]
            calc dk * k ≤ 12 * 512 := Nat.mul_le_mul (by omega) hkm
              _ = 6144 := by omega
          have HDN : Hid (((List.range (dk + 1)).flatMap fun disk => (List.range k).map fun i => placedF B.length m text life en disk i) = done ++ (List.range k).map fun i => placedF B.length m text life en dk i) := Lib.hid (by rw [List.range_succ, List.flatMap_append, ← hdone, List.flatMap_singleton])
          rw [← hdone] at hR
          clear hdone hdl hXr
          obtain ⟨wo, rfl⟩ : ∃ wo : World, wo = wr := ⟨_, rfl⟩
          go_wp2_with fail
          go_loopw [16, 85] (fun v i w2 => ∃ q : Nat, q ≤ k ∧ i = .int .i64 q ∧ Hid (pkd.R 133 w2 wq.heap.size (fun _ => True) v (done ++ (List.range q).map fun i => placedF B.length m text life en dk i)) ∧ Hid (Below wq.heap.size wq w2)) (fun _ i _ => k - (intOf i).toNat)
          case atStart => exact ⟨0, by omega, rfl, by simpa using hR, hB2⟩
          case round =>
            obtain ⟨q, hq, rfl, hR2, hB3⟩ := hrel
            by_cases hlt2 : q < k
            · have HBw3 := Lib.hid (belt HBw.out hB3.out)
              have HX3 := Lib.hid (HBXq.out.below hB3.out HBXq.out.lt)
              have e0 := HX3.out.cell 0
              have e1 := HX3.out.cell 1
              have e2 := HX3.out.cell 2
              simp only [List.getElem?_toArray, List.getElem?_cons_zero, List.getElem?_cons_succ] at e0 e1 e2
              obtain ⟨fi, hfi⟩ : ∃ fi, fi = firstF m life := ⟨_, rfl⟩
              have hfi2 : fi ≤ 512 := by rw [hfi]; exact firstF_le hfew
              have HFC : Hid (Calls Tryz.prog 132 #[.agg #[.int .i64 life, .int .i64 k, .int .i64 en], .pointer (some ⟨d, 0, none⟩)] wr fun e w' => e = .returned (.int .i64 (fi : Nat)) ∧ Below wr.heap.size wr w') := Lib.hid (by
                rw [hfi]
                exact first_kind life k en wr (H.out.below HBw3.out) (by omega))
              have HFI := Lib.hid hfi
              clear hfi d1
              go_upto_region 26 with (go_at_call 132; refine HFC.out.mono ?_; rintro e w5 ⟨rfl, hb5⟩; have HB5 := Lib.hid hb5; clear hb5)
              have e6 : ((fi : Int) + (q : Int)) = ((fi + q : Nat) : Int) := by omega
              rw [e6]
              obtain ⟨ax, hax⟩ : ∃ ax, ax = fi + q := ⟨_, rfl⟩
              rw [← hax]
              have hax2 : ax ≤ 1024 := by omega
              obtain ⟨hRv, hRl⟩ := HV2.out q hlt2
              obtain ⟨Av, cv, eV, hcv, hCv⟩ := Kd.R_reads hRv
              rw [hRl] at eV hcv
              obtain ⟨adv, eA, hxv⟩ := Kd.at_string hCv (dk : Int) (by omega) (by rw [hRl]; omega)
              subst eA
              simp only [Int.toNat_natCast] at hxv
              have hxv' : wq.cell? (adv.add dk) = some (.string (vs (piecesF B.length text en q) (dk : Int))) := hxv
              obtain ⟨sx, hsx⟩ : ∃ sx, sx = vs (piecesF B.length text en q) (dk : Int) := ⟨_, rfl⟩
              rw [← hsx] at hxv'
              have hpq := HPC.out q hlt2
              rw [eV] at hpq
              have KF : Hid (∀ W, Below wq.heap.size wq W → (W.cell? ⟨w.heap.size, 0, none⟩ = some (.int .i64 life) ∧ W.cell? ⟨w.heap.size, 1, none⟩ = some (.int .i64 k) ∧ W.cell? ⟨w.heap.size, 2, none⟩ = some (.int .i64 en)) ∧ W.cell? ⟨gp, q, none⟩ = some (.slice (some adv) B.length cv) ∧ W.cell? (adv.add dk) = some (.string sx)) := Lib.hid (fun W hW => by
                have hXW := HBXq.out.below hW HBXq.out.lt
                exact ⟨⟨hXW.cell 0, hXW.cell 1, hXW.cell 2⟩, cell_below hW hpq, cell_below hW hxv'⟩)
              have hss : sx.size ≤ 9223372036854775807 := by
                rw [hsx]
                unfold piecesF
                rw [vs_someTo _ _ _ dk (by omega)]
                unfold pieceF
                rw [strOfNums_size, outTo_length]
                have h1 : vs (stripeL (dataF text en) en q) 0 = partF (dataF text en) en q 0 := by
                  unfold vs rdOf stripeL
                  rw [List.getD_eq_getElem?_getD, List.getElem?_map, List.getElem?_range (by show 0 < en; omega)]
                  rfl
                rw [h1]
                unfold partF
                rw [strOfNums_size, List.length_take]
                omega
              have hBq5 := belt hB3.out HB5.out
              obtain ⟨pg, hpg⟩ : ∃ pg, pg = madeF B.length life k en dk ax sx := ⟨_, rfl⟩
              have hpl : pg.length = 64 := by rw [hpg]; exact madeF_len _ _ _ _ _ _ _
              have HMD : Hid (Calls Tryz.prog 133 #[.agg #[.int .i64 life, .int .i64 k, .int .i64 en], .pointer (some ⟨d, 0, none⟩), .int .i64 dk, .int .i64 ax, .string sx] w5.drew fun e w' => e = .returned (pageV pg) ∧ Below w5.heap.size w5 w') := Lib.hid (by
                rw [hpg]
                exact (made_any life k en dk ax sx w5.drew (H.out.below (belt HBw.out hBq5).drew) (by omega) (by omega) (by omega) (by omega) (by omega) hss).mono (fun _ _ h => ⟨h.1, belt (Below.refl _ _).drew h.2⟩))
              have HPX : Hid ((⟨dk, ax, pg⟩ : Placed) = placedF B.length m text life en dk q) := Lib.hid (by
                unfold placedF
                rw [← HST.out.1, ← HFI.out, ← hax, hpg, hsx])
              have HOKX : Hid ((⟨dk, ax, pg⟩ : Placed).Ok) := Lib.hid (by rw [HPX.out]; exact placedF_ok hfew (by omega) (by omega) (by omega))
              obtain ⟨X, hX⟩ : ∃ X : Placed, X = ⟨dk, ax, pg⟩ := ⟨_, rfl⟩
              rw [← hX] at HPX HOKX
              have hbd : ∀ W : World, (Instr.build 133 #[(0, .int .i64 (dk : Int)), (1, .int .i64 (ax : Int)), (2, pageV pg)]).run Tryz.prog W = .ok (.agg (pcells X).toArray) W := fun W => by rw [hX]; exact run_build_placed W dk ax pg hpl
              obtain ⟨pc, hpc⟩ : ∃ pc, pc = pcells X := ⟨_, rfl⟩
              rw [← hpc] at hbd
              have hbs : ∀ W : World, (Instr.buildSlice 129 1 #[(0, .agg pc.toArray)]).run Tryz.prog W = .ok (.slice (some ⟨W.heap.size, 0, none⟩) 1 1) (W.alloc (.cells pc.toArray 133)) := fun W => run_bs_placed W pc (by rw [hpc]; exact pcells_len HOKX.out)
              obtain ⟨pgv, hpgv⟩ : ∃ pgv, pgv = pageV pg := ⟨_, rfl⟩
              rw [← hpgv] at HMD hbd
              obtain ⟨lst, hlst⟩ : ∃ lst, lst = done ++ (List.range q).map fun i => placedF B.length m text life en dk i := ⟨_, rfl⟩
              have hll : lst.length ≤ 10000 := by rw [hlst, List.length_append, List.length_map, List.length_range]; omega
              rw [← hlst] at hR2
              have HLS : Hid (done ++ (List.range (q + 1)).map (fun i => placedF B.length m text life en dk i) = lst ++ [X]) := Lib.hid (by
                rw [List.range_succ, List.map_append, ← List.append_assoc, ← hlst, HPX.out]; rfl)
              have HPCC := Lib.hid (And.intro hpc hlst)
              have i1 : (0 : Int) ≤ (q : Int) := by omega
              have i2 : (q : Int) < (k : Int) := by omega
              have i3 : (0 : Int) ≤ (dk : Int) := by omega
              have i4 : (dk : Int) < (B.length : Int) := by omega
              have HBQ5 := Lib.hid hBq5
              have HAX := Lib.hid (And.intro hax hX)
              clear e6 hax hRv hRl eV hcv hCv hxv hxv' hsx hpq hss hBq5 hpg hpl hX hpc hpgv hlst e0 e1 e2
              refine wp_region_until (L := 18) (S := fun W => (W.cell? ⟨w.heap.size, 0, none⟩ = some (.int .i64 life) ∧ W.cell? ⟨w.heap.size, 1, none⟩ = some (.int .i64 k) ∧ W.cell? ⟨w.heap.size, 2, none⟩ = some (.int .i64 en)) ∧ W.cell? ⟨gp, q, none⟩ = some (.slice (some adv) B.length cv) ∧ W.cell? (adv.add dk) = some (.string sx)) (by kernel_rfl) (KF.out _ HBQ5.out.drew) (fun hS => ?_)
              refine wpUntil.take (i := 0) (oi := { dst := some 93, op := Op.move (Operand.tmp 16), type := 129, pos := "vault.go:254", after := #[], guard := none }) (v := ?va0) rfl (by kernel_rfl) (by kernel_rfl) (by kernel_rfl) (by kernel_rfl) (fun _ _ _ h => h) (Or.inl ⟨by rfl, ?ya0⟩) hS ?ra0
              case ya0 =>
                intro w' hSw
                obtain ⟨⟨q1, q2, q3⟩, q4, q5⟩ := hSw
                go_simp
                try with_reducible rfl
              try simp only [Act.put, List.setIfInBounds_toArray, List.set_cons_zero, List.set_cons_succ]
              refine wpUntil.take (i := 1) (oi := { dst := some 94, op := Op.move (Operand.tmp 17), type := 3, pos := "vault.go:254", after := #[], guard := none }) (v := ?va1) rfl (by kernel_rfl) (by kernel_rfl) (by kernel_rfl) (by kernel_rfl) (fun _ _ _ h => h) (Or.inl ⟨by rfl, ?ya1⟩) hS ?ra1
              case ya1 =>
                intro w' hSw
                obtain ⟨⟨q1, q2, q3⟩, q4, q5⟩ := hSw
                go_simp
                try with_reducible rfl
              try simp only [Act.put, List.setIfInBounds_toArray, List.set_cons_zero, List.set_cons_succ]
              refine wpUntil.take (i := 2) (oi := { dst := some 95, op := Op.move (Operand.tmp 19), type := 3, pos := "vault.go:254", after := #[], guard := none }) (v := ?va2) rfl (by kernel_rfl) (by kernel_rfl) (by kernel_rfl) (by kernel_rfl) (fun _ _ _ h => h) (Or.inl ⟨by rfl, ?ya2⟩) hS ?ra2
              case ya2 =>
                intro w' hSw
                obtain ⟨⟨q1, q2, q3⟩, q4, q5⟩ := hSw
                go_simp
                try with_reducible rfl
              try simp only [Act.put, List.setIfInBounds_toArray, List.set_cons_zero, List.set_cons_succ]
              refine wpUntil.take (i := 3) (oi := { dst := some 96, op := Op.load 139 (Operand.tmp 9), type := 139, pos := "vault.go:254", after := #[], guard := none }) (v := ?va3) rfl (by kernel_rfl) (by kernel_rfl) (by kernel_rfl) (by kernel_rfl) (fun _ _ _ h => h) (Or.inl ⟨by rfl, ?ya3⟩) hS ?ra3
              case ya3 =>
                intro w' hSw
                obtain ⟨⟨q1, q2, q3⟩, q4, q5⟩ := hSw
                go_simp
                try with_reducible rfl
              try simp only [Act.put, List.setIfInBounds_toArray, List.set_cons_zero, List.set_cons_succ]
              refine wpUntil.take (i := 4) (oi := { dst := some 97, op := Op.move (Operand.tmp 0), type := 50, pos := "vault.go:254", after := #[], guard := none }) (v := ?va4) rfl (by kernel_rfl) (by kernel_rfl) (by kernel_rfl) (by kernel_rfl) (fun _ _ _ h => h) (Or.inl ⟨by rfl, ?ya4⟩) hS ?ra4
              case ya4 =>
                intro w' hSw
                obtain ⟨⟨q1, q2, q3⟩, q4, q5⟩ := hSw
                go_simp
                try with_reducible rfl
              try simp only [Act.put, List.setIfInBounds_toArray, List.set_cons_zero, List.set_cons_succ]
              refine wpUntil.take (i := 5) (oi := { dst := some 98, op := Op.move (Operand.tmp 17), type := 3, pos := "vault.go:254", after := #[], guard := none }) (v := ?va5) rfl (by kernel_rfl) (by kernel_rfl) (by kernel_rfl) (by kernel_rfl) (fun _ _ _ h => h) (Or.inl ⟨by rfl, ?ya5⟩) hS ?ra5
              case ya5 =>
                intro w' hSw
                obtain ⟨⟨q1, q2, q3⟩, q4, q5⟩ := hSw
                go_simp
                try with_reducible rfl
              try simp only [Act.put, List.setIfInBounds_toArray, List.set_cons_zero, List.set_cons_succ]
              refine wpUntil.take (i := 6) (oi := { dst := some 99, op := Op.move (Operand.tmp 19), type := 3, pos := "vault.go:254", after := #[], guard := none }) (v := ?va6) rfl (by kernel_rfl) (by kernel_rfl) (by kernel_rfl) (by kernel_rfl) (fun _ _ _ h => h) (Or.inl ⟨by rfl, ?ya6⟩) hS ?ra6
              case ya6 =>
                intro w' hSw
                obtain ⟨⟨q1, q2, q3⟩, q4, q5⟩ := hSw
                go_simp
                try with_reducible rfl
              try simp only [Act.put, List.setIfInBounds_toArray, List.set_cons_zero, List.set_cons_succ]
              refine wpUntil.take (i := 7) (oi := { dst := some 100, op := Op.move (Operand.tmp 11), type := 148, pos := "vault.go:254", after := #[], guard := none }) (v := ?va7) rfl (by kernel_rfl) (by kernel_rfl) (by kernel_rfl) (by kernel_rfl) (fun _ _ _ h => h) (Or.inl ⟨by rfl, ?ya7⟩) hS ?ra7
              case ya7 =>
                intro w' hSw
                obtain ⟨⟨q1, q2, q3⟩, q4, q5⟩ := hSw
                go_simp
                try with_reducible rfl
              try simp only [Act.put, List.setIfInBounds_toArray, List.set_cons_zero, List.set_cons_succ]
              refine wpUntil.take (i := 8) (oi := { dst := some 101, op := Op.move (Operand.tmp 18), type := 3, pos := "vault.go:254", after := #[], guard := none }) (v := ?va8) rfl (by kernel_rfl) (by kernel_rfl) (by kernel_rfl) (by kernel_rfl) (fun _ _ _ h => h) (Or.inl ⟨by rfl, ?ya8⟩) hS ?ra8
              case ya8 =>
                intro w' hSw
                obtain ⟨⟨q1, q2, q3⟩, q4, q5⟩ := hSw
                go_simp
                try with_reducible rfl
              try simp only [Act.put, List.setIfInBounds_toArray, List.set_cons_zero, List.set_cons_succ]
              refine wpUntil.take (i := 9) (oi := { dst := some 102, op := Op.indexAddr 148 (Operand.tmp 100) (Operand.tmp 101), type := 0, pos := "vault.go:254", after := #[{ on := 7, ground := Ground.data }, { on := 8, ground := Ground.data }], guard := none }) (v := ?va9) rfl (by kernel_rfl) (by kernel_rfl) (by kernel_rfl) (by kernel_rfl) (fun _ _ _ h => h) (Or.inl ⟨by rfl, ?ya9⟩) hS ?ra9
              case ya9 =>
                intro w' hSw
                obtain ⟨⟨q1, q2, q3⟩, q4, q5⟩ := hSw
                go_simp
                try with_reducible rfl
              try simp only [Act.put, List.setIfInBounds_toArray, List.set_cons_zero, List.set_cons_succ]
              refine wpUntil.take (i := 10) (oi := { dst := some 103, op := Op.load 33 (Operand.tmp 102), type := 33, pos := "vault.go:254", after := #[{ on := 9, ground := Ground.data }], guard := none }) (v := ?va10) rfl (by kernel_rfl) (by kernel_rfl) (by kernel_rfl) (by kernel_rfl) (fun _ _ _ h => h) (Or.inl ⟨by rfl, ?ya10⟩) hS ?ra10
              case ya10 =>
                intro w' hSw
                obtain ⟨⟨q1, q2, q3⟩, q4, q5⟩ := hSw
                go_simp
                try with_reducible rfl
              try simp only [Act.put, List.setIfInBounds_toArray, List.set_cons_zero, List.set_cons_succ]
              refine wpUntil.take (i := 11) (oi := { dst := some 104, op := Op.move (Operand.tmp 17), type := 3, pos := "vault.go:254", after := #[], guard := none }) (v := ?va11) rfl (by kernel_rfl) (by kernel_rfl) (by kernel_rfl) (by kernel_rfl) (fun _ _ _ h => h) (Or.inl ⟨by rfl, ?ya11⟩) hS ?ra11
              case ya11 =>
                intro w' hSw
                obtain ⟨⟨q1, q2, q3⟩, q4, q5⟩ := hSw
                go_simp
                try with_reducible rfl
              try simp only [Act.put, List.setIfInBounds_toArray, List.set_cons_zero, List.set_cons_succ]
              refine wpUntil.take (i := 12) (oi := { dst := some 105, op := Op.indexAddr 33 (Operand.tmp 103) (Operand.tmp 104), type := 0, pos := "vault.go:254", after := #[{ on := 10, ground := Ground.data }, { on := 11, ground := Ground.data }], guard := none }) (v := ?va12) rfl (by kernel_rfl) (by kernel_rfl) (by kernel_rfl) (by kernel_rfl) (fun _ _ _ h => h) (Or.inl ⟨by rfl, ?ya12⟩) hS ?ra12
              case ya12 =>
                intro w' hSw
                obtain ⟨⟨q1, q2, q3⟩, q4, q5⟩ := hSw
                go_simp
                try with_reducible rfl
              try simp only [Act.put, List.setIfInBounds_toArray, List.set_cons_zero, List.set_cons_succ]
              refine wpUntil.take (i := 13) (oi := { dst := some 106, op := Op.load 9 (Operand.tmp 105), type := 9, pos := "vault.go:254", after := #[{ on := 12, ground := Ground.data }], guard := none }) (v := ?va13) rfl (by kernel_rfl) (by kernel_rfl) (by kernel_rfl) (by kernel_rfl) (fun _ _ _ h => h) (Or.inl ⟨by rfl, ?ya13⟩) hS ?ra13
              case ya13 =>
                intro w' hSw
                obtain ⟨⟨q1, q2, q3⟩, q4, q5⟩ := hSw
                go_simp
                try with_reducible rfl
              try simp only [Act.put, List.setIfInBounds_toArray, List.set_cons_zero, List.set_cons_succ]
              refine wpUntil.only (i := 14) (oi := { dst := some 107, op := Op.call { callee := Callee.value (Operand.func 133), args := #[Operand.tmp 96, Operand.tmp 97, Operand.tmp 98, Operand.tmp 99, Operand.tmp 106], argTypes := #[139, 50, 3, 3, 9] }, type := 131, pos := "vault.go:254", after := #[{ on := 3, ground := Ground.data }, { on := 4, ground := Ground.data }, { on := 5, ground := Ground.data }, { on := 6, ground := Ground.data }, { on := 13, ground := Ground.data }], guard := none }) rfl (by kernel_rfl) (fun K hK => ?_)
              rw [if_pos (by rfl)]
              go_simp
              refine HMD.out.mono ?_
              rintro e w8 ⟨rfl, hb8⟩
              have HB8 := Lib.hid (belt HBQ5.out hb8)
              have HB58 := Lib.hid (belt HB5.out hb8)
              clear hS hb8
              have hS := KF.out w8 HB8.out
              refine hK.out _ _ (fun _ => hS) ?_
              clear hK K
              try simp only [Act.put, List.setIfInBounds_toArray, List.set_cons_zero, List.set_cons_succ]
              refine wpUntil.take (i := 15) (oi := { dst := some 108, op := Op.build 133 #[(0, Operand.tmp 94), (1, Operand.tmp 95), (2, Operand.tmp 107)], type := 133, pos := "vault.go:254", after := #[{ on := 1, ground := Ground.data }, { on := 2, ground := Ground.data }, { on := 14, ground := Ground.data }], guard := none }) (v := .agg pc.toArray) rfl (by kernel_rfl) (by kernel_rfl) (by kernel_rfl) (by kernel_rfl) (fun _ _ _ h => h) (Or.inl ⟨by rfl, ?ya15⟩) hS ?ra15
              case ya15 =>
                intro w' hSw
                refine exec_build3 _ _ 133 (.tmp 94) (.tmp 95) (.tmp 107) (.int .i64 dk) (.int .i64 ax) pgv rfl ?_ ?_ ?_ pc.toArray (hbd w')
                · rfl
                · rfl
                · rfl
              try simp only [Act.put, List.setIfInBounds_toArray, List.set_cons_zero, List.set_cons_succ]
              refine wpUntil.only (i := 16) (oi := { dst := some 109, op := Op.buildSlice 129 1 #[(0, Operand.tmp 108)], type := 129, pos := "vault.go:254", after := #[{ on := 15, ground := Ground.data }], guard := none }) rfl (by kernel_rfl) (fun K hK => ?_)
              rw [if_pos (by rfl)]
              refine wp_of_exec (exec_bs1 _ _ _ _ _ _ rfl rfl (hbs w8)) ?_
              refine hK.out _ _ (fun _ => KF.out _ (below_al HB8.out _)) ?_
              clear hK K
              try simp only [Act.put, List.setIfInBounds_toArray, List.set_cons_zero, List.set_cons_succ]
              have hszq := HB8.out.size
              refine wpUntil.only (i := 17) (oi := { dst := some 110, op := Op.call { callee := Callee.builtin Builtin.append, args := #[Operand.tmp 93, Operand.tmp 109], argTypes := #[129, 129] }, type := 129, pos := "vault.go:254", after := #[{ on := 0, ground := Ground.data }, { on := 16, ground := Ground.data }, { on := 14, ground := Ground.chain }], guard := none }) rfl (by kernel_rfl) (fun K hK => ?_)
              refine Kd.R_append_step pkd (w0 := wq) wq.heap.size (by rfl) (.tmp 93) (.tmp 109) 129 133 (.agg Tryz.zeroCells133) 80 rfl Tryz.underlying129 info133f rfl (by decide) (by omega) u16 lst X pc (fun _ => True) (fun _ => False) rfl rfl ?aP (fun _ hk => hk.elim) (fun _ _ => trivial) ?aO ?aB ?aS (by omega) ?_
              case aP => exact ⟨HOKX.out, HPCC.out.1⟩
              case aO => exact Kd.R_below hR2.out HB58.out
              case aB => exact HB8.out
              case aS => exact HB8.out.size
              intro v1 w9 ho hb hg hat
              have HO9 := Lib.hid ho
              have HB9 := Lib.hid hb
              clear ho hb hg hat
              refine hK.out _ _ (fun _ => KF.out _ HB9.out) ?_
              clear hK K
              try simp only [Act.put, List.setIfInBounds_toArray, List.set_cons_zero, List.set_cons_succ]
              refine wpUntil.only (i := 18) (oi := { dst := some 16, op := Op.assign (Operand.tmp 110), type := 129, pos := "vault.go:254", after := #[{ on := 17, ground := Ground.data }, { on := 17, ground := Ground.chain }, { on := 0, ground := Ground.phase }, { on := 1, ground := Ground.phase }, { on := 2, ground := Ground.phase }, { on := 3, ground := Ground.phase }, { on := 4, ground := Ground.phase }, { on := 5, ground := Ground.phase }, { on := 6, ground := Ground.phase }, { on := 7, ground := Ground.phase }, { on := 8, ground := Ground.phase }, { on := 9, ground := Ground.phase }, { on := 10, ground := Ground.phase }, { on := 11, ground := Ground.phase }, { on := 12, ground := Ground.phase }, { on := 13, ground := Ground.phase }, { on := 14, ground := Ground.phase }, { on := 15, ground := Ground.phase }, { on := 16, ground := Ground.phase }, { on := 17, ground := Ground.phase }], guard := none }) rfl (by kernel_rfl) (fun K hK => ?_)
              rw [if_pos (by rfl)]
              go_simp
              refine hK.out _ _ (fun hne => absurd rfl hne) ?_
              clear hK K
              try simp only [Act.put, List.setIfInBounds_toArray, List.set_cons_zero, List.set_cons_succ]
              refine wpUntil.done (by kernel_rfl) ?_ _
              clear hS hbd hbs i1 i2 i3 i4
              go_wp2_with fail
              go_roundw
              case rel => exact ⟨q + 1, by omega, by go_num, by rw [HLS.out]; exact HO9, HB9⟩
              case measure => simp [intOf]; omega
            · have hqk : q = k := by omega
              have HR9 : Hid (pkd.R 133 wr wq.heap.size (fun _ => True) u16 ((List.range (dk + 1)).flatMap fun disk => (List.range k).map fun i => placedF B.length m text life en disk i)) := Lib.hid (by rw [HDN.out, ← hqk]; exact hR2.out)
              go_wp2_with fail
              go_roundw
              case rel => exact ⟨dk + 1, by omega, by go_num, HR9, hB3⟩
              case measure => simp [intOf]; omega
        · have hde : dk = B.length := by omega
          subst hde
          go_wp2_with fail
          go_ret
          exact ⟨_, rfl, by rw [HIM.out]; exact Kd.R_lower hR.out HBw.out.size, belt HBw.out hB2.out⟩
end Go.Proofs.YtkdjibejnncmfaaGreatDoor.Co

/- The walks of wrong and Heal. -/
namespace Go.Proofs.YtkdjibejnncmfaaGreatDoor.Co
open Go.RowKit Go.Proofs.YtkdjibejnncmfaaGreatDoorW.PrintWords Go.Proofs.YtkdjibejnncmfaaGreatDoorW.PrintLast Go.Proofs.YtkdjibejnncmfaaGreatDoorW.PrintMore
set_option linter.unusedVariables false
set_option linter.unusedSimpArgs false
set_option maxRecDepth 100000
/-- A slice of pages that lie from block base on. -/
def PL (w : World) (base : Nat) (v : Value) (l : List Placed) : Prop := ∃ A g c, v = .slice A l.length c ∧ l.length ≤ c ∧ (l ≠ [] → A = some ⟨g, 0, none⟩) ∧ PAt w g l ∧ base ≤ g ∧ ∀ x ∈ l, x.Ok
theorem PL.of_R {w : World} {base : Nat} {ok : Nat → Prop} {v : Value} {l : List Placed} (h : pkd.R 133 w base ok v l) : PL w base v l := by
  obtain ⟨A, c, ev, hc, _⟩ := Kd.R_reads h
  obtain ⟨hok, hr⟩ := pkd_reads h
  rcases hr with ⟨hl, A', c', ev'⟩ | ⟨g, c', ev', hc', hp, hb, _⟩
  · exact ⟨A, base, c, ev, hc, fun h => absurd hl h, fun i x hx => by rw [hl] at hx; simp at hx, Nat.le_refl _, hok⟩
  · exact ⟨_, g, c', ev', hc', fun _ => rfl, hp, hb, hok⟩
theorem PL.below {w w' : World} {base : Nat} {v : Value} {l : List Placed} (h : PL w base v l) (hb : Below w.heap.size w w') : PL w' base v l := by
  obtain ⟨A, g, c, h1, h2, h3, h4, h5, h6⟩ := h
  exact ⟨A, g, c, h1, h2, h3, h4.below hb, h5, h6⟩
theorem imageF_len (n m : Nat) (text : ByteArray) (life en : Nat) : (imageF n m text life en).length = n * neededF text.size en := by
  unfold imageF
  exact len_flat _ _ (fun i => by simp) n
theorem imageF_mem {n m : Nat} {text : ByteArray} {life en : Nat} {x : Placed} (h : x ∈ imageF n m text life en) : ∃ disk i, disk < n ∧ i < neededF text.size en ∧ x = placedF n m text life en disk i := by
  unfold imageF at h
  obtain ⟨disk, h1, h2⟩ := List.mem_flatMap.1 h
  obtain ⟨i, h3, h4⟩ := List.mem_map.1 h2
  exact ⟨disk, i, List.mem_range.1 h1, List.mem_range.1 h3, h4.symm⟩
theorem firstF_in {m life i st : Nat} (hi : i < st) (hst : st ≤ m / 2) : firstF m life + i < m := by
  unfold firstF
  have h1 : life % 2 ≤ 1 := by omega
  have h2 : life % 2 * (m / 2) ≤ 1 * (m / 2) := Nat.mul_le_mul_right _ h1
  omega
theorem imageF_in {n m : Nat} {text : ByteArray} {life en : Nat} (hst : neededF text.size en ≤ m / 2) : ∀ x ∈ imageF n m text life en, x.disk < n ∧ x.at_ < m := by
  intro x hx
  obtain ⟨disk, i, h1, h2, rfl⟩ := imageF_mem hx
  exact ⟨h1, firstF_in h2 hst⟩
theorem image_len_le {n m : Nat} {text : ByteArray} {life en : Nat} (hn : n ≤ 12) (hm : m ≤ 1024) (hst : neededF text.size en ≤ m / 2) : (imageF n m text life en).length ≤ 6144 := by
  rw [imageF_len]
  calc n * neededF text.size en ≤ 12 * 512 := Nat.mul_le_mul hn (by omega)
    _ = 6144 := by omega
theorem image_pl {d P c m : Nat} {B : List Nat} {D : DS} (text : ByteArray) (life en : Nat) (w : World) (h : DAt w d P B c m D) (he : 1 ≤ en) (he2 : en ≤ B.length) (hl : life ≤ 4000000000000) (hst : neededF text.size en ≤ m / 2) :
    Calls Tryz.prog 94 #[.pointer (some ⟨d, 0, none⟩), .string text, .int .i64 life, .int .i64 en] w fun e w' => ∃ v, e = .returned v ∧ PL w' w.heap.size v (imageF B.length m text life en) ∧ Below w.heap.size w w' :=
  (image_any text life en w h he he2 hl hst).mono fun e w' ⟨v, h1, h2, h3⟩ => ⟨v, h1, PL.of_R h2, h3⟩
theorem diff_pl {d P c m : Nat} {B : List Nat} {D : DS} (base : Nat) (v : Value) (l : List Placed) (w : World) (h : DAt w d P B c m D) (hp : PL w base v l) (hl : l.length ≤ 100000) (hin : ∀ x ∈ l, x.disk < B.length ∧ x.at_ < m) :
    Calls Tryz.prog 99 #[.pointer (some ⟨d, 0, none⟩), v] w fun e w' => ∃ u, e = .returned u ∧ PL w' w.heap.size u (diffF D l) ∧ Below w.heap.size w w' := by
  obtain ⟨A, g, cp, rfl, h2, h3, h4, h5, h6⟩ := hp
  exact (diff_any A g cp l w h h3 h4 h2 hl h6 hin).mono fun e w' ⟨v, h1, h2, h3⟩ => ⟨v, h1, PL.of_R h2, h3⟩
theorem all_pl {d P c m : Nat} {B : List Nat} {D : DS} (base : Nat) (v : Value) (l : List Placed) (w : World) (h : DAt w d P B c m D) (hp : PL w base v l) (hl : l.length ≤ 1000000) (hd : d < base) (hB : ∀ b ∈ B, b < base) (hfa : 0 ≤ D.falls) (hfb : D.falls < 9223372036854775807) :
    Calls Tryz.prog 93 #[.pointer (some ⟨d, 0, none⟩), v] w fun e w' => e = .returned (.int .i64 (allF B.length m D l).2) ∧ DAt w' d P B c m (allF B.length m D l).1 ∧ Fr d B w w' := by
  obtain ⟨A, g, cp, rfl, h2, h3, h4, h5, h6⟩ := hp
  exact all_any A g cp l w h h3 h4 h2 hl (by omega) (fun hm => by have := hB g hm; omega) h6 hfa hfb
theorem DAt.B_lt {w : World} {d P c m : Nat} {B : List Nat} {D : DS} (h : DAt w d P B c m D) : ∀ b ∈ B, b < w.heap.size := by
  intro b hb
  obtain ⟨i, hi, rfl⟩ := List.getElem_of_mem hb
  have := h.lt_B i hi
  rw [List.getD_eq_getElem?_getD, List.getElem?_eq_getElem hi] at this
  exact this
def wrongF (n m : Nat) (D : DS) (V : VS) : List Placed := diffF D (imageF n m V.text V.life V.enough)
/-- What a vault's numbers are. -/
structure VOk (n m : Nat) (V : VS) : Prop where
  e1 : 1 ≤ V.enough
  e2 : V.enough ≤ n
  st : neededF V.text.size V.enough ≤ m / 2
  l1 : 1 ≤ V.life
  l2 : V.life ≤ 1099511627776
  tx : V.text.size ≤ 4000
set_option maxHeartbeats 2000000 in
theorem wrong_any {v d P c m : Nat} {B : List Nat} {D : DS} {V : VS} (w : World) (h : VAt w v d V) (hD : DAt w d P B c m D) (hV : VOk B.length m V) :
    Calls Tryz.prog 100 #[.pointer (some ⟨v, 0, none⟩)] w fun e w' => ∃ u, e = .returned u ∧ PL w' w.heap.size u (wrongF B.length m D V) ∧ Below w.heap.size w w' := by
  have H := Lib.hid h
  have HD := Lib.hid hD
  have HV := Lib.hid hV
  have hmost := hD.most
  have hfew := hD.few
  obtain ⟨tx, htx⟩ : ∃ tx, tx = V.text := ⟨_, rfl⟩
  obtain ⟨li, hli⟩ : ∃ li, li = V.life := ⟨_, rfl⟩
  obtain ⟨en, hen⟩ : ∃ en, en = V.enough := ⟨_, rfl⟩
  have KF : Hid (∀ W, Below w.heap.size w W → W.cell? ⟨v, 0, none⟩ = some (.pointer (some ⟨d, 0, none⟩)) ∧ W.cell? ⟨v, 2, none⟩ = some (.string tx) ∧ W.cell? ⟨v, 3, none⟩ = some (.int .i64 li) ∧ W.cell? ⟨v, 4, none⟩ = some (.int .i64 en)) := Lib.hid (fun W hW => by
    have := h.below hW
    rw [htx, hli, hen]
    exact ⟨this.g0, this.g2, this.g3, this.g4⟩)
  have HIM : Hid (∀ W, Below w.heap.size w W → Calls Tryz.prog 94 #[.pointer (some ⟨d, 0, none⟩), .string tx, .int .i64 li, .int .i64 en] W fun e w' => ∃ u, e = .returned u ∧ PL w' w.heap.size u (imageF B.length m tx li en) ∧ Below w.heap.size w w') := Lib.hid (fun W hW => by
    rw [htx, hli, hen]
    refine (image_pl V.text V.life V.enough W (hD.below hW) hV.e1 hV.e2 (by have := hV.l2; omega) hV.st).mono ?_
    rintro e w' ⟨u, h1, h2, h3⟩
    obtain ⟨A, g, c', k1, k2, k3, k4, k5, k6⟩ := h2
    exact ⟨u, h1, ⟨A, g, c', k1, k2, k3, k4, Nat.le_trans hW.size k5, k6⟩, belt hW h3⟩)
  have HDF : Hid (∀ W u, Below w.heap.size w W → PL W w.heap.size u (imageF B.length m tx li en) → Calls Tryz.prog 99 #[.pointer (some ⟨d, 0, none⟩), u] W fun e w' => ∃ u', e = .returned u' ∧ PL w' w.heap.size u' (wrongF B.length m D V) ∧ Below w.heap.size w w') := Lib.hid (fun W u hW hp => by
    rw [htx, hli, hen] at hp
    refine (diff_pl w.heap.size u _ W (hD.below hW) hp (by have := image_len_le (n := B.length) (m := m) (life := V.life) hmost hfew hV.st; omega) (imageF_in hV.st)).mono ?_
    rintro e w' ⟨u', h1, h2, h3⟩
    obtain ⟨A, g, c', k1, k2, k3, k4, k5, k6⟩ := h2
    exact ⟨u', h1, ⟨A, g, c', k1, k2, k3, k4, Nat.le_trans hW.size k5, k6⟩, belt hW h3⟩)
  clear h hD hV htx hli hen
  go_enter Tryz.func100, Tryz.ntmps100
  go_upto_region 1 with fail
  refine wp_region_until (L := 22) (S := fun W => W.cell? ⟨v, 0, none⟩ = some (.pointer (some ⟨d, 0, none⟩)) ∧ W.cell? ⟨v, 2, none⟩ = some (.string tx) ∧ W.cell? ⟨v, 3, none⟩ = some (.int .i64 li) ∧ W.cell? ⟨v, 4, none⟩ = some (.int .i64 en)) (by kernel_rfl) (KF.out _ (Below.refl _ _).drew) (fun hS => ?_)
  refine wpUntil.take (i := 0) (oi := { dst := some 3, op := Op.move (Operand.tmp 0), type := 53, pos := "vault.go:375", after := #[], guard := none }) (v := ?va0) rfl (by kernel_rfl) (by kernel_rfl) (by kernel_rfl) (by kernel_rfl) (fun _ _ _ h => h) (Or.inl ⟨by rfl, ?ya0⟩) hS ?ra0
  case ya0 =>
    intro w' hSw
    obtain ⟨q0, q2, q3, q4⟩ := hSw
    go_simp
    try with_reducible rfl
  try simp only [Act.put, List.setIfInBounds_toArray, List.set_cons_zero, List.set_cons_succ]
  refine wpUntil.take (i := 1) (oi := { dst := some 4, op := Op.nilCheck (Operand.tmp 3), type := 0, pos := "vault.go:375", after := #[{ on := 0, ground := Ground.data }], guard := none }) (v := ?va1) rfl (by kernel_rfl) (by kernel_rfl) (by kernel_rfl) (by kernel_rfl) (fun _ _ _ h => h) (Or.inl ⟨by rfl, ?ya1⟩) hS ?ra1
  case ya1 =>
    intro w' hSw
    obtain ⟨q0, q2, q3, q4⟩ := hSw
    go_simp
    try with_reducible rfl
  try simp only [Act.put, List.setIfInBounds_toArray, List.set_cons_zero, List.set_cons_succ]
  refine wpUntil.take (i := 2) (oi := { dst := some 5, op := Op.fieldAddr 137 (Operand.tmp 4) 0, type := 0, pos := "vault.go:375", after := #[{ on := 1, ground := Ground.data }], guard := none }) (v := ?va2) rfl (by kernel_rfl) (by kernel_rfl) (by kernel_rfl) (by kernel_rfl) (fun _ _ _ h => h) (Or.inl ⟨by rfl, ?ya2⟩) hS ?ra2
  case ya2 =>
    intro w' hSw
    obtain ⟨q0, q2, q3, q4⟩ := hSw
    go_simp
    try with_reducible rfl
  try simp only [Act.put, List.setIfInBounds_toArray, List.set_cons_zero, List.set_cons_succ]
  refine wpUntil.take (i := 3) (oi := { dst := some 6, op := Op.load 50 (Operand.tmp 5), type := 50, pos := "vault.go:375", after := #[{ on := 2, ground := Ground.data }], guard := none }) (v := ?va3) rfl (by kernel_rfl) (by kernel_rfl) (by kernel_rfl) (by kernel_rfl) (fun _ _ _ h => h) (Or.inl ⟨by rfl, ?ya3⟩) hS ?ra3
  case ya3 =>
    intro w' hSw
    obtain ⟨q0, q2, q3, q4⟩ := hSw
    go_simp
    try with_reducible rfl
  try simp only [Act.put, List.setIfInBounds_toArray, List.set_cons_zero, List.set_cons_succ]
  refine wpUntil.take (i := 4) (oi := { dst := some 7, op := Op.move (Operand.tmp 0), type := 53, pos := "vault.go:375", after := #[], guard := none }) (v := ?va4) rfl (by kernel_rfl) (by kernel_rfl) (by kernel_rfl) (by kernel_rfl) (fun _ _ _ h => h) (Or.inl ⟨by rfl, ?ya4⟩) hS ?ra4
  case ya4 =>
    intro w' hSw
    obtain ⟨q0, q2, q3, q4⟩ := hSw
    go_simp
    try with_reducible rfl
  try simp only [Act.put, List.setIfInBounds_toArray, List.set_cons_zero, List.set_cons_succ]
  refine wpUntil.take (i := 5) (oi := { dst := some 8, op := Op.nilCheck (Operand.tmp 7), type := 0, pos := "vault.go:375", after := #[{ on := 4, ground := Ground.data }], guard := none }) (v := ?va5) rfl (by kernel_rfl) (by kernel_rfl) (by kernel_rfl) (by kernel_rfl) (fun _ _ _ h => h) (Or.inl ⟨by rfl, ?ya5⟩) hS ?ra5
  case ya5 =>
    intro w' hSw
    obtain ⟨q0, q2, q3, q4⟩ := hSw
    go_simp
    try with_reducible rfl
  try simp only [Act.put, List.setIfInBounds_toArray, List.set_cons_zero, List.set_cons_succ]
  refine wpUntil.take (i := 6) (oi := { dst := some 9, op := Op.fieldAddr 137 (Operand.tmp 8) 0, type := 0, pos := "vault.go:375", after := #[{ on := 5, ground := Ground.data }], guard := none }) (v := ?va6) rfl (by kernel_rfl) (by kernel_rfl) (by kernel_rfl) (by kernel_rfl) (fun _ _ _ h => h) (Or.inl ⟨by rfl, ?ya6⟩) hS ?ra6
  case ya6 =>
    intro w' hSw
    obtain ⟨q0, q2, q3, q4⟩ := hSw
    go_simp
    try with_reducible rfl
  try simp only [Act.put, List.setIfInBounds_toArray, List.set_cons_zero, List.set_cons_succ]
  refine wpUntil.take (i := 7) (oi := { dst := some 10, op := Op.load 50 (Operand.tmp 9), type := 50, pos := "vault.go:375", after := #[{ on := 6, ground := Ground.data }], guard := none }) (v := ?va7) rfl (by kernel_rfl) (by kernel_rfl) (by kernel_rfl) (by kernel_rfl) (fun _ _ _ h => h) (Or.inl ⟨by rfl, ?ya7⟩) hS ?ra7
  case ya7 =>
    intro w' hSw
    obtain ⟨q0, q2, q3, q4⟩ := hSw
    go_simp
    try with_reducible rfl
  try simp only [Act.put, List.setIfInBounds_toArray, List.set_cons_zero, List.set_cons_succ]
  refine wpUntil.take (i := 8) (oi := { dst := some 11, op := Op.move (Operand.tmp 0), type := 53, pos := "vault.go:375", after := #[], guard := none }) (v := ?va8) rfl (by kernel_rfl) (by kernel_rfl) (by kernel_rfl) (by kernel_rfl) (fun _ _ _ h => h) (Or.inl ⟨by rfl, ?ya8⟩) hS ?ra8
  case ya8 =>
    intro w' hSw
    obtain ⟨q0, q2, q3, q4⟩ := hSw
    go_simp
    try with_reducible rfl
  try simp only [Act.put, List.setIfInBounds_toArray, List.set_cons_zero, List.set_cons_succ]
  refine wpUntil.take (i := 9) (oi := { dst := some 12, op := Op.nilCheck (Operand.tmp 11), type := 0, pos := "vault.go:375", after := #[{ on := 8, ground := Ground.data }], guard := none }) (v := ?va9) rfl (by kernel_rfl) (by kernel_rfl) (by kernel_rfl) (by kernel_rfl) (fun _ _ _ h => h) (Or.inl ⟨by rfl, ?ya9⟩) hS ?ra9
  case ya9 =>
    intro w' hSw
    obtain ⟨q0, q2, q3, q4⟩ := hSw
    go_simp
    try with_reducible rfl
  try simp only [Act.put, List.setIfInBounds_toArray, List.set_cons_zero, List.set_cons_succ]
  refine wpUntil.take (i := 10) (oi := { dst := some 13, op := Op.fieldAddr 137 (Operand.tmp 12) 2, type := 0, pos := "vault.go:375", after := #[{ on := 9, ground := Ground.data }], guard := none }) (v := ?va10) rfl (by kernel_rfl) (by kernel_rfl) (by kernel_rfl) (by kernel_rfl) (fun _ _ _ h => h) (Or.inl ⟨by rfl, ?ya10⟩) hS ?ra10
  case ya10 =>
    intro w' hSw
    obtain ⟨q0, q2, q3, q4⟩ := hSw
    go_simp
    try with_reducible rfl
  try simp only [Act.put, List.setIfInBounds_toArray, List.set_cons_zero, List.set_cons_succ]
  refine wpUntil.take (i := 11) (oi := { dst := some 14, op := Op.load 9 (Operand.tmp 13), type := 9, pos := "vault.go:375", after := #[{ on := 10, ground := Ground.data }], guard := none }) (v := ?va11) rfl (by kernel_rfl) (by kernel_rfl) (by kernel_rfl) (by kernel_rfl) (fun _ _ _ h => h) (Or.inl ⟨by rfl, ?ya11⟩) hS ?ra11
  case ya11 =>
    intro w' hSw
    obtain ⟨q0, q2, q3, q4⟩ := hSw
    go_simp
    try with_reducible rfl
  try simp only [Act.put, List.setIfInBounds_toArray, List.set_cons_zero, List.set_cons_succ]
  refine wpUntil.take (i := 12) (oi := { dst := some 15, op := Op.move (Operand.tmp 0), type := 53, pos := "vault.go:375", after := #[], guard := none }) (v := ?va12) rfl (by kernel_rfl) (by kernel_rfl) (by kernel_rfl) (by kernel_rfl) (fun _ _ _ h => h) (Or.inl ⟨by rfl, ?ya12⟩) hS ?ra12
  case ya12 =>
    intro w' hSw
    obtain ⟨q0, q2, q3, q4⟩ := hSw
    go_simp
    try with_reducible rfl
  try simp only [Act.put, List.setIfInBounds_toArray, List.set_cons_zero, List.set_cons_succ]
  refine wpUntil.take (i := 13) (oi := { dst := some 16, op := Op.nilCheck (Operand.tmp 15), type := 0, pos := "vault.go:375", after := #[{ on := 12, ground := Ground.data }], guard := none }) (v := ?va13) rfl (by kernel_rfl) (by kernel_rfl) (by kernel_rfl) (by kernel_rfl) (fun _ _ _ h => h) (Or.inl ⟨by rfl, ?ya13⟩) hS ?ra13
  case ya13 =>
    intro w' hSw
    obtain ⟨q0, q2, q3, q4⟩ := hSw
    go_simp
    try with_reducible rfl
  try simp only [Act.put, List.setIfInBounds_toArray, List.set_cons_zero, List.set_cons_succ]
  refine wpUntil.take (i := 14) (oi := { dst := some 17, op := Op.fieldAddr 137 (Operand.tmp 16) 3, type := 0, pos := "vault.go:375", after := #[{ on := 13, ground := Ground.data }], guard := none }) (v := ?va14) rfl (by kernel_rfl) (by kernel_rfl) (by kernel_rfl) (by kernel_rfl) (fun _ _ _ h => h) (Or.inl ⟨by rfl, ?ya14⟩) hS ?ra14
  case ya14 =>
    intro w' hSw
    obtain ⟨q0, q2, q3, q4⟩ := hSw
    go_simp
    try with_reducible rfl
  try simp only [Act.put, List.setIfInBounds_toArray, List.set_cons_zero, List.set_cons_succ]
  refine wpUntil.take (i := 15) (oi := { dst := some 18, op := Op.load 3 (Operand.tmp 17), type := 3, pos := "vault.go:375", after := #[{ on := 14, ground := Ground.data }], guard := none }) (v := ?va15) rfl (by kernel_rfl) (by kernel_rfl) (by kernel_rfl) (by kernel_rfl) (fun _ _ _ h => h) (Or.inl ⟨by rfl, ?ya15⟩) hS ?ra15
  case ya15 =>
    intro w' hSw
    obtain ⟨q0, q2, q3, q4⟩ := hSw
    go_simp
    try with_reducible rfl
  try simp only [Act.put, List.setIfInBounds_toArray, List.set_cons_zero, List.set_cons_succ]
  refine wpUntil.take (i := 16) (oi := { dst := some 19, op := Op.move (Operand.tmp 0), type := 53, pos := "vault.go:375", after := #[], guard := none }) (v := ?va16) rfl (by kernel_rfl) (by kernel_rfl) (by kernel_rfl) (by kernel_rfl) (fun _ _ _ h => h) (Or.inl ⟨by rfl, ?ya16⟩) hS ?ra16
  case ya16 =>
    intro w' hSw
    obtain ⟨q0, q2, q3, q4⟩ := hSw
    go_simp
    try with_reducible rfl
  try simp only [Act.put, List.setIfInBounds_toArray, List.set_cons_zero, List.set_cons_succ]
  refine wpUntil.take (i := 17) (oi := { dst := some 20, op := Op.nilCheck (Operand.tmp 19), type := 0, pos := "vault.go:375", after := #[{ on := 16, ground := Ground.data }], guard := none }) (v := ?va17) rfl (by kernel_rfl) (by kernel_rfl) (by kernel_rfl) (by kernel_rfl) (fun _ _ _ h => h) (Or.inl ⟨by rfl, ?ya17⟩) hS ?ra17
  case ya17 =>
    intro w' hSw
    obtain ⟨q0, q2, q3, q4⟩ := hSw
    go_simp
    try with_reducible rfl
  try simp only [Act.put, List.setIfInBounds_toArray, List.set_cons_zero, List.set_cons_succ]
  refine wpUntil.take (i := 18) (oi := { dst := some 21, op := Op.fieldAddr 137 (Operand.tmp 20) 4, type := 0, pos := "vault.go:375", after := #[{ on := 17, ground := Ground.data }], guard := none }) (v := ?va18) rfl (by kernel_rfl) (by kernel_rfl) (by kernel_rfl) (by kernel_rfl) (fun _ _ _ h => h) (Or.inl ⟨by rfl, ?ya18⟩) hS ?ra18
  case ya18 =>
    intro w' hSw
    obtain ⟨q0, q2, q3, q4⟩ := hSw
    go_simp
    try with_reducible rfl
  try simp only [Act.put, List.setIfInBounds_toArray, List.set_cons_zero, List.set_cons_succ]
  refine wpUntil.take (i := 19) (oi := { dst := some 22, op := Op.load 3 (Operand.tmp 21), type := 3, pos := "vault.go:375", after := #[{ on := 18, ground := Ground.data }], guard := none }) (v := ?va19) rfl (by kernel_rfl) (by kernel_rfl) (by kernel_rfl) (by kernel_rfl) (fun _ _ _ h => h) (Or.inl ⟨by rfl, ?ya19⟩) hS ?ra19
  case ya19 =>
    intro w' hSw
    obtain ⟨q0, q2, q3, q4⟩ := hSw
    go_simp
    try with_reducible rfl
  try simp only [Act.put, List.setIfInBounds_toArray, List.set_cons_zero, List.set_cons_succ]
  refine wpUntil.only (i := 20) (oi := { dst := some 23, op := Op.call { callee := Callee.value (Operand.func 94), args := #[Operand.tmp 10, Operand.tmp 14, Operand.tmp 18, Operand.tmp 22], argTypes := #[50, 9, 3, 3] }, type := 129, pos := "vault.go:375", after := #[{ on := 7, ground := Ground.data }, { on := 11, ground := Ground.data }, { on := 15, ground := Ground.data }, { on := 19, ground := Ground.data }], guard := none }) rfl (by kernel_rfl) (fun K hK => ?_)
  rw [if_pos (by rfl)]
  go_simp
  refine (HIM.out _ (Below.refl _ _).drew).mono ?_
  rintro e w2 ⟨u, rfl, hP2, hb2⟩
  have HP2 := Lib.hid hP2
  have HB2 := Lib.hid hb2
  refine hK.out _ _ (fun _ => KF.out _ hb2) ?_
  clear hP2 hb2
  clear hK K
  try simp only [Act.put, List.setIfInBounds_toArray, List.set_cons_zero, List.set_cons_succ]
  refine wpUntil.only (i := 21) (oi := { dst := some 24, op := Op.call { callee := Callee.value (Operand.func 99), args := #[Operand.tmp 6, Operand.tmp 23], argTypes := #[50, 129] }, type := 129, pos := "vault.go:375", after := #[{ on := 3, ground := Ground.data }, { on := 20, ground := Ground.data }, { on := 20, ground := Ground.chain }], guard := none }) rfl (by kernel_rfl) (fun K hK => ?_)
  rw [if_pos (by rfl)]
  go_simp
  refine (HDF.out _ _ HB2.out HP2.out).mono ?_
  rintro e w3 ⟨u', rfl, hP3, hb3⟩
  have HP3 := Lib.hid hP3
  have HB3 := Lib.hid hb3
  refine hK.out _ _ (fun _ => KF.out _ hb3) ?_
  clear hP3 hb3
  clear hK K
  try simp only [Act.put, List.setIfInBounds_toArray, List.set_cons_zero, List.set_cons_succ]
  refine wpUntil.only (i := 22) (oi := { dst := some 2, op := Op.assign (Operand.tmp 24), type := 129, pos := "vault.go:375", after := #[{ on := 21, ground := Ground.data }, { on := 21, ground := Ground.chain }, { on := 0, ground := Ground.phase }, { on := 1, ground := Ground.phase }, { on := 2, ground := Ground.phase }, { on := 3, ground := Ground.phase }, { on := 4, ground := Ground.phase }, { on := 5, ground := Ground.phase }, { on := 6, ground := Ground.phase }, { on := 7, ground := Ground.phase }, { on := 8, ground := Ground.phase }, { on := 9, ground := Ground.phase }, { on := 10, ground := Ground.phase }, { on := 11, ground := Ground.phase }, { on := 12, ground := Ground.phase }, { on := 13, ground := Ground.phase }, { on := 14, ground := Ground.phase }, { on := 15, ground := Ground.phase }, { on := 16, ground := Ground.phase }, { on := 17, ground := Ground.phase }, { on := 18, ground := Ground.phase }, { on := 19, ground := Ground.phase }, { on := 20, ground := Ground.phase }, { on := 21, ground := Ground.phase }], guard := none }) rfl (by kernel_rfl) (fun K hK => ?_)
  rw [if_pos (by rfl)]
  go_simp
  refine hK.out _ _ (fun hne => absurd rfl hne) ?_
  clear hK K
  try simp only [Act.put, List.setIfInBounds_toArray, List.set_cons_zero, List.set_cons_succ]
  refine wpUntil.done (by kernel_rfl) ?_ _
  clear hS
  go_wp2_with fail
  go_ret
  exact ⟨_, rfl, HP3.out, HB3.out⟩
end Go.Proofs.YtkdjibejnncmfaaGreatDoor.Co

/- The walks of Heal and Wrong. -/
namespace Go.Proofs.YtkdjibejnncmfaaGreatDoor.Co
open Go.RowKit Go.Proofs.YtkdjibejnncmfaaGreatDoorW.PrintWords Go.Proofs.YtkdjibejnncmfaaGreatDoorW.PrintLast Go.Proofs.YtkdjibejnncmfaaGreatDoorW.PrintMore
set_option linter.unusedVariables false
set_option linter.unusedSimpArgs false
set_option maxRecDepth 100000
def healF (n m : Nat) (D : DS) (V : VS) : (Int × Int) × DS :=
  if downF D V then ((0, 91), D) else
    if (allF n m D (wrongF n m D V)).2 = 0 then (((wrongF n m D V).length, 0), (allF n m D (wrongF n m D V)).1) else ((0, (allF n m D (wrongF n m D V)).2), (allF n m D (wrongF n m D V)).1)
theorem wrongF_len {n m : Nat} {D : DS} {V : VS} (hn : n ≤ 12) (hm : m ≤ 1024) (hV : VOk n m V) : (wrongF n m D V).length ≤ 6144 := by
  unfold wrongF diffF
  exact Nat.le_trans (List.length_filter_le _ _) (image_len_le hn hm hV.st)
set_option maxHeartbeats 2000000 in
theorem Heal_any {v d P c m : Nat} {B : List Nat} {D : DS} {V : VS} (w : World) (h : VAt w v d V) (hD : DAt w d P B c m D) (hV : VOk B.length m V) (hfa : 0 ≤ D.falls) (hfb : D.falls < 9223372036854775807) :
    Calls Tryz.prog 52 #[.pointer (some ⟨v, 0, none⟩)] w fun e w' => e = .returned (.tuple #[.int .i64 (healF B.length m D V).1.1, .int .i64 (healF B.length m D V).1.2]) ∧ DAt w' d P B c m (healF B.length m D V).2 ∧ Fr d B w w' := by
  have H := Lib.hid h
  have HD := Lib.hid hD
  have HDN := Lib.hid (down_any w h hD)
  have HW : Hid (∀ W, Below w.heap.size w W → Calls Tryz.prog 100 #[.pointer (some ⟨v, 0, none⟩)] W fun e w' => ∃ u, e = .returned u ∧ PL w' W.heap.size u (wrongF B.length m D V) ∧ Below W.heap.size W w') := Lib.hid (fun W hW => wrong_any W (h.below hW) (hD.below hW) hV)
  have HLW : Hid ((wrongF B.length m D V).length ≤ 6144) := Lib.hid (wrongF_len hD.most hD.few hV)
  have HAL : Hid (∀ W base u, Below w.heap.size w W → w.heap.size ≤ base → PL W base u (wrongF B.length m D V) → Calls Tryz.prog 93 #[.pointer (some ⟨d, 0, none⟩), u] W fun e w' => e = .returned (.int .i64 (allF B.length m D (wrongF B.length m D V)).2) ∧ DAt w' d P B c m (allF B.length m D (wrongF B.length m D V)).1 ∧ Fr d B w w') := Lib.hid (fun W base u hW hb hp => by
    refine (all_pl base u _ W (hD.below hW) hp (by have := HLW.out; omega) (by have := hD.lt_d; omega) (fun b hb2 => by have := hD.B_lt b hb2; omega) hfa hfb).mono ?_
    rintro e w' ⟨h1, h2, h3⟩
    exact ⟨h1, h2, (Fr.of_below hW).trans h3⟩)
  clear h hD
  cases hd : downF D V with
  | true =>
    rw [hd] at HDN
    have HR : Hid (healF B.length m D V = ((0, 91), D)) := Lib.hid (by unfold healF; rw [hd]; rfl)
    clear hd
    go_enter Tryz.func52, Tryz.ntmps52
    go_wp2_with (go_at_call 96; refine HDN.out.mono ?_; rintro e w2 ⟨rfl, hb2⟩; have HB2 := Lib.hid hb2; clear hb2)
    go_ret2
    exact ⟨by rw [HR.out] <;> rfl, by rw [HR.out]; exact HD.out.below HB2.out, Fr.of_below HB2.out⟩
  | false =>
    rw [hd] at HDN
    obtain ⟨wl, hwl⟩ : ∃ wl, wl = wrongF B.length m D V := ⟨_, rfl⟩
    obtain ⟨r, hr⟩ : ∃ r, r = allF B.length m D wl := ⟨_, rfl⟩
    have HR : Hid (healF B.length m D V = if r.2 = 0 then (((wl.length : Int), 0), r.1) else ((0, r.2), r.1)) := Lib.hid (by unfold healF; rw [hd, ← hwl, ← hr]; rfl)
    rw [← hwl] at HW HAL HLW
    rw [← hr] at HAL
    have g0 : ∀ W, Below w.heap.size w W → W.cell? ⟨v, 0, none⟩ = some (.pointer (some ⟨d, 0, none⟩)) := fun W hW => (H.out.below hW).g0
    have HG0 := Lib.hid g0
    clear hd hwl hr g0
    by_cases hr0 : r.2 = 0
    · have HR2 : Hid (healF B.length m D V = (((wl.length : Int), 0), r.1)) := Lib.hid (by rw [HR.out, if_pos hr0])
      rw [hr0] at HAL
      clear hr0
      go_enter Tryz.func52, Tryz.ntmps52
      go_upto_region 4 with (first
        | (go_at_call 96; refine HDN.out.mono ?_; rintro e w2 ⟨rfl, hb2⟩; have HB2 := Lib.hid hb2; clear hb2)
        | (go_at_call 100; refine (HW.out _ HB2.out).mono ?_; rintro e w3 ⟨u, rfl, hP3, hb3⟩; have HP3 := Lib.hid hP3; have HB3 := Lib.hid (belt HB2.out hb3); clear hP3 hb3))
      have q0 := HG0.out _ HB3.out
      obtain ⟨A, gg, cc, hu, hu2⟩ := HP3.out
      have HU := Lib.hid hu2
      subst hu
      clear hu2
      go_wp2_with (go_at_call 93; refine (HAL.out _ _ _ HB3.out (by exact HB2.out.size) HP3.out).mono ?_; rintro e w4 ⟨rfl, hD4, hf4⟩; have HD4 := Lib.hid hD4; have HF4 := Lib.hid hf4; clear hD4 hf4)
      go_ret2
      exact ⟨by rw [HR2.out] <;> rfl, by rw [HR2.out]; exact HD4.out, HF4.out⟩
    · have HR2 : Hid (healF B.length m D V = ((0, r.2), r.1)) := Lib.hid (by rw [HR.out, if_neg hr0])
      have e0 : ((r.2 : Int) == 0) = false := by simpa using hr0
      clear hr0
      go_enter Tryz.func52, Tryz.ntmps52
      go_upto_region 4 with (first
        | (go_at_call 96; refine HDN.out.mono ?_; rintro e w2 ⟨rfl, hb2⟩; have HB2 := Lib.hid hb2; clear hb2)
        | (go_at_call 100; refine (HW.out _ HB2.out).mono ?_; rintro e w3 ⟨u, rfl, hP3, hb3⟩; have HP3 := Lib.hid hP3; have HB3 := Lib.hid (belt HB2.out hb3); clear hP3 hb3))
      have q0 := HG0.out _ HB3.out
      obtain ⟨A, gg, cc, hu, hu2⟩ := HP3.out
      have HU := Lib.hid hu2
      subst hu
      clear hu2
      go_wp2_with (go_at_call 93; refine (HAL.out _ _ _ HB3.out (by exact HB2.out.size) HP3.out).mono ?_; rintro e w4 ⟨rfl, hD4, hf4⟩; have HD4 := Lib.hid hD4; have HF4 := Lib.hid hf4; clear hD4 hf4)
      go_ret2
      exact ⟨by rw [HR2.out] <;> rfl, by rw [HR2.out]; exact HD4.out, HF4.out⟩
/-- Pairs of numbers in memory. -/
def prk : Kd (Int × Int) where
  sz := 2
  E := []
  K := fun _ x cs => cs = [.int .i64 x.1, .int .i64 x.2]
  M := fun _ _ _ x cs => cs = [.int .i64 x.1, .int .i64 x.2]
  K_len := fun h => by rw [h]; rfl
  K_one := fun {w x cs} h u hu => by
    rw [h] at hu
    rcases List.mem_cons.1 hu with rfl | hu
    · rfl
    · rcases List.mem_cons.1 hu with rfl | hu
      · rfl
      · cases hu
  K_below := fun _ h => h
  K_of_M := fun h => h
  M_mono := fun _ h => h
  M_bound := fun h => h
  M_move := fun _ h => h
  M_lower := fun _ h => h
theorem info68 : (Tryz.prog.info? 68).map (fun i => (i.zero, i.size, i.bytes)) = some (some (.agg #[.int .i64 0, .int .i64 0]), 2, 16) := by kernel_rfl
def pairsOf (l : List Placed) : List (Int × Int) := l.map fun x => ((x.disk : Int), (x.at_ : Int))
def WrongF (n m : Nat) (D : DS) (V : VS) : List (Int × Int) × Int := if downF D V then ([], 91) else (pairsOf (wrongF n m D V), 0)
set_option maxHeartbeats 2000000 in
theorem Wrong_any {v d P c m : Nat} {B : List Nat} {D : DS} {V : VS} (w : World) (h : VAt w v d V) (hD : DAt w d P B c m D) (hV : VOk B.length m V) :
    Calls Tryz.prog 46 #[.pointer (some ⟨v, 0, none⟩)] w fun e w' => ∃ u, e = .returned (.tuple #[u, .int .i64 (WrongF B.length m D V).2]) ∧ prk.R 68 w' w.heap.size (fun _ => True) u (WrongF B.length m D V).1 ∧ Below w.heap.size w w' := by
  have HDN := Lib.hid (down_any w h hD)
  have HW : Hid (∀ W, Below w.heap.size w W → Calls Tryz.prog 100 #[.pointer (some ⟨v, 0, none⟩)] W fun e w' => ∃ u, e = .returned u ∧ PL w' W.heap.size u (wrongF B.length m D V) ∧ Below W.heap.size W w') := Lib.hid (fun W hW => wrong_any W (h.below hW) (hD.below hW) hV)
  have HLW : Hid ((wrongF B.length m D V).length ≤ 6144) := Lib.hid (wrongF_len hD.most hD.few hV)
  clear h hD
  cases hd : downF D V with
  | true =>
    rw [hd] at HDN
    have HR : Hid (WrongF B.length m D V = ([], 91)) := Lib.hid (by unfold WrongF; rw [hd]; rfl)
    clear hd
    go_enter Tryz.func46, Tryz.ntmps46
    go_wp2_with (go_at_call 96; refine HDN.out.mono ?_; rintro e w2 ⟨rfl, hb2⟩; have HB2 := Lib.hid hb2; clear hb2)
    go_ret2
    exact ⟨_, by rw [HR.out] <;> rfl, by rw [HR.out]; exact Kd.R_nil _ _ _ _ _, HB2.out⟩
  | false =>
    rw [hd] at HDN
    obtain ⟨wl, hwl⟩ : ∃ wl, wl = wrongF B.length m D V := ⟨_, rfl⟩
    have HR : Hid (WrongF B.length m D V = (pairsOf wl, 0)) := Lib.hid (by unfold WrongF; rw [hd, ← hwl]; rfl)
    rw [← hwl] at HW HLW
    clear hd hwl
    go_enter Tryz.func46, Tryz.ntmps46
    go_upto_region 5 with (first
      | (go_at_call 96; refine HDN.out.mono ?_; rintro e w2 ⟨rfl, hb2⟩; have HB2 := Lib.hid hb2; clear hb2)
      | (go_at_call 100; refine (HW.out _ HB2.out).mono ?_; rintro e w3 ⟨u, rfl, hP3, hb3⟩; obtain ⟨A, gg, cc, hu, hu2, hu3, hu4, hu5, hu6⟩ := hP3; subst hu; have HU := Lib.hid (And.intro hu2 (And.intro hu3 (And.intro hu4 (And.intro hu5 hu6)))); have HB3 := Lib.hid (belt HB2.out hb3); clear hb3 hu2 hu3 hu4 hu5 hu6))
    go_loopw [4, 12] (fun v i wr => ∃ k : Nat, k ≤ wl.length ∧ i = .int .i64 k ∧ Hid (prk.R 68 wr w3.heap.size (fun _ => True) v (pairsOf (wl.take k))) ∧ Hid (Below w3.heap.size w3 wr)) (fun _ i _ => wl.length - (intOf i).toNat)
    case atStart => exact ⟨0, by omega, rfl, Lib.hid (Kd.R_nil _ _ _ _ _), Lib.hid (Below.refl _ _)⟩
    case round =>
      obtain ⟨k, hk, rfl, hR, hB⟩ := hrel
      have hwl2 := HLW.out
      by_cases hlt : k < wl.length
      · obtain ⟨u1, u2, u3, u4, u5⟩ := HU.out
        have eA : A = some ⟨gg, 0, none⟩ := u2 (by intro e; rw [e] at hlt; simp at hlt)
        obtain ⟨x, hx⟩ : ∃ x, x = wl[k] := ⟨_, rfl⟩
        have hxk : wl[k]? = some x := by rw [hx]; exact List.getElem?_eq_getElem hlt
        have HXO := Lib.hid (u5 x (by rw [hx]; exact List.getElem_mem _))
        have HRG := Lib.hid ((u3.below hB.out) k x hxk)
        have HTK : Hid (pairsOf (wl.take (k + 1)) = pairsOf (wl.take k) ++ [((x.disk : Int), (x.at_ : Int))]) := Lib.hid (by
          unfold pairsOf
          rw [List.take_add_one, hxk, List.map_append]; rfl)
        have hpl : (pairsOf (wl.take k)).length ≤ 6144 := by unfold pairsOf; rw [List.length_map, List.length_take]; omega
        subst eA
        have HSZ : Hid ((Tryz.prog.info? 133).map (·.size) = some (pcells x).length) := Lib.hid (by rw [info133]; simp [pcells, HXO.out.len])
        have HS2 : Hid (Tryz.zeroCells133.size = (pcells x).toArray.size) := Lib.hid ((show Tryz.zeroCells133.size = 66 from rfl).trans (by simp [pcells_len HXO.out]))
        have HS3 : Hid ((pcells x).toArray.all (·.oneCell') = true) := Lib.hid (pcells_one x)
        have HS4 : Hid ((Tryz.prog.info? 133).map (·.size) = some (pcells x).toArray.size) := Lib.hid (by rw [List.size_toArray]; exact HSZ.out)
        have i1 : (0 : Int) ≤ (k : Int) := by omega
        have i2 : (k : Int) < (wl.length : Int) := by omega
        clear hx hxk u1 u2 u3 u4 u5
        go_upto_region 7 with (first
          | (refine wpList_load_mid rfl 133 (.tmp 14) rfl gg (k * 66) rfl (pcells x) _ HRG.out Tryz.underlying133 rfl HSZ.out ?_)
          | (refine wpList_store_rowTo rfl 133 (.tmp 6) (.tmp 15) rfl rfl wr.heap.size (pcells x).toArray rfl rfl 133 Tryz.zeroCells133 (heap_alloc_last wr _) HS4.out HS2.out HS3.out ?_; rw [World.setRow_alloc_new]))
        have HBX := Lib.hid (Box.new wr (pcells x).toArray 133)
        have HBR : Hid (Below wr.heap.size wr (wr.alloc (.cells (pcells x).toArray 133))) := Lib.hid (below_al (Below.refl _ _) _)
        obtain ⟨W, hW⟩ : ∃ W, W = wr.alloc (.cells (pcells x).toArray 133) := ⟨_, rfl⟩
        rw [← hW] at HBX HBR ⊢
        clear hW HSZ HS2 HS3 HS4
        have c0 : W.cell? ⟨wr.heap.size, 0, none⟩ = some (.int .i64 x.disk) := HBX.out.cell 0
        have c1 : W.cell? ⟨wr.heap.size, 1, none⟩ = some (.int .i64 x.at_) := HBX.out.cell 1
        have HR2 := Lib.hid (Kd.R_below hR.out HBR.out)
        have HB2' := Lib.hid (belt hB.out HBR.out)
        go_wp2_with ((with_reducible refine gate_builtin (b := .append) (xs := #[.tmp 16, .tmp 22]) rfl ?_); at_builtin; refine Kd.R_append prk (w0 := w3) w3.heap.size rfl (.tmp 16) (.tmp 22) 62 68 (.agg #[.int .i64 0, .int .i64 0]) 16 rfl Tryz.underlying62 info68 rfl (by decide) (by omega) u4 (pairsOf (wl.take k)) ((x.disk : Int), (x.at_ : Int)) [.int .i64 x.disk, .int .i64 x.at_] (fun _ => True) (fun _ => False) rfl rfl ?aP (fun _ hk => hk.elim) ?aF ?aO ?aB ?aS ?aL ?_; (case aP => exact rfl); (case aF => exact (fun _ _ => trivial)); (case aO => exact HR2.out); (case aB => exact HB2'.out); (case aS => exact HB2'.out.size); (case aL => omega); intro v1 w5 ho hb hg hat; have ho1 := Lib.hid ho; have hb1 := Lib.hid hb; clear ho hg hat hb)
        go_roundw
        case rel => exact ⟨k + 1, by omega, by go_num, by rw [HTK.out]; exact ho1, hb1⟩
        case measure => simp [intOf]; omega
      · have hkl : k = wl.length := by omega
        subst hkl
        have e1 : wl.take wl.length = wl := List.take_length
        rw [e1] at hR
        clear e1
        go_wp2_with fail
        go_ret2
        exact ⟨_, by rw [HR.out] <;> rfl, by rw [HR.out]; exact Kd.R_lower hR.out HB3.out.size, belt HB3.out hB.out⟩
end Go.Proofs.YtkdjibejnncmfaaGreatDoor.Co

/- The walk of Make. -/
namespace Go.Proofs.YtkdjibejnncmfaaGreatDoor.Co
open Go.RowKit Go.Proofs.YtkdjibejnncmfaaGreatDoorW.PrintWords Go.Proofs.YtkdjibejnncmfaaGreatDoorW.PrintLast Go.Proofs.YtkdjibejnncmfaaGreatDoorW.PrintMore
set_option linter.unusedVariables false
set_option linter.unusedSimpArgs false
set_option maxRecDepth 100000
def zeroP (disk at_ : Nat) : Placed := ⟨disk, at_, List.replicate 64 0⟩
def zerosL (n m : Nat) : List Placed := (List.range n).flatMap fun disk => (List.range m).map fun at_ => zeroP disk at_
def makeL (n m k : Nat) : List Placed := zerosL n m ++ imageF n m ⟨#[]⟩ 1 k
def makeF (n m : Nat) (D : DS) (k : Int) : Option VS × Int × DS :=
  if k < 1 ∨ (n : Int) < k then (none, 1, D) else if D.down then (none, 91, D) else
    if (allF n m D (makeL n m k.toNat)).2 = 0 then (some ⟨(allF n m D (makeL n m k.toNat)).1.falls, ⟨#[]⟩, 1, k.toNat⟩, 0, (allF n m D (makeL n m k.toNat)).1) else (none, (allF n m D (makeL n m k.toNat)).2, (allF n m D (makeL n m k.toNat)).1)
/-- What a call leaves that makes a vault. -/
def MadeP (d P c m : Nat) (B : List Nat) (r : Option VS × Int × DS) (w : World) (e : Ending) (w' : World) : Prop :=
  ∃ pv, e = .returned (.tuple #[.pointer pv, .int .i64 r.2.1]) ∧ DAt w' d P B c m r.2.2 ∧ Fr d B w w' ∧ (match r.1 with | none => pv = none | some V => ∃ v, pv = some ⟨v, 0, none⟩ ∧ w.heap.size ≤ v ∧ VAt w' v d V)
theorem run_build_zero (w : World) (disk at_ : Nat) :
    (Instr.build 133 #[(0, .int .i64 disk), (1, .int .i64 at_)]).run Tryz.prog w = .ok (.agg (pcells (zeroP disk at_)).toArray) w := by
  refine run_build w 133 _ _ ?_
  obtain ⟨it, hit, hz, hs, _⟩ := info_of info133f
  obtain ⟨i3, hi3, _, hs3, _⟩ := info_of info3
  have h131 := info131s
  cases hi131 : Tryz.prog.info? 131 with
  | none => rw [hi131] at h131; cases h131
  | some i131 =>
    rw [hi131] at h131
    simp only [Option.map_some, Option.some.injEq] at h131
    unfold Program.built
    simp only [hit, Tryz.underlying133, hz]
    simp [hi3, hi131, hs3, h131, Instr.fill, Value.cells]
    have hz66 : Tryz.zeroCells133.size = 66 := rfl
    have h2 : Tryz.zeroCells133 = ([Value.int .i64 0, Value.int .i64 0] ++ List.replicate 64 (Value.int .u8 0)).toArray := rfl
    rw [h2]
    simp [pcells, zeroP, encB]
theorem exec_build2 {P : Program} {w : World} (ρ : Operand → Value) (o : Oper) (t : TypeId) (x0 x1 : Operand) (v0 v1 : Value) (ho : o.op = .build t #[(0, x0), (1, x1)]) (h0 : ρ x0 = v0) (h1 : ρ x1 = v1) (cells : Array Value)
    (h : (Instr.build t #[(0, v0), (1, v1)]).run P w = .ok (.agg cells) w) : (execOp ρ o).run P w = .ok (.value (.agg cells)) w :=
  exec_build ρ o t _ ho cells (by simpa [h0, h1] using h)
theorem wpList_build2 {P : Program} {ops : Array Oper} {rest : List Oper} {o : Oper} {a : Act} {w : World} {Q : Exit → Act → World → Prop} (hg : o.guard = none) (t : TypeId) (x0 x1 : Operand) (v0 v1 : Value) (ho : o.op = .build t #[(0, x0), (1, x1)]) (h0 : a.eval x0 = v0) (h1 : a.eval x1 = v1) (cells : Array Value)
    (hr : (Instr.build t #[(0, v0), (1, v1)]).run P w = .ok (.agg cells) w) (h : wpList P ops Q rest (a.put o.dst (.agg cells)) w) : wpList P ops Q (o :: rest) a w :=
  wpList_plain hg fun K hK => wp_of_exec (exec_build2 _ _ t x0 x1 v0 v1 ho h0 h1 cells hr) (hK _ _ h)
theorem zeroP_ok {disk at_ : Nat} (h1 : disk ≤ 100000) (h2 : at_ ≤ 100000) : (zeroP disk at_).Ok := placed_mk (by simp) (zeros_b 64) h1 h2
set_option maxHeartbeats 4000000 in
theorem Make_any {d P c m : Nat} {B : List Nat} {D : DS} (k : Int) (w : World) (h : DAt w d P B c m D) (hfa : 0 ≤ D.falls) (hfb : D.falls < 9223372036854775807) :
    Calls Tryz.prog 39 #[.pointer (some ⟨d, 0, none⟩), .int .i64 k] w (MadeP d P c m B (makeF B.length m D k) w) := by
  have H := Lib.hid h
  have hmost := h.most
  have hfew := h.few
  have htwo := h.two
  have c0 := h.f0
  have c3 := h.f3
  clear h
  have HCN : Hid (Calls Tryz.prog 92 #[.pointer (some ⟨d, 0, none⟩)] w fun e w' => e = .returned (.int .i64 B.length) ∧ w = w') := Lib.hid (Count_any w H.out)
  by_cases hk : k < 1 ∨ (B.length : Int) < k
  · have HR : Hid (makeF B.length m D k = (none, 1, D)) := Lib.hid (by unfold makeF; rw [if_pos hk])
    by_cases hk1 : k < 1
    · go_enter Tryz.func39, Tryz.ntmps39
      go_wp2_with fail
      go_ret2
      exact ⟨none, by rw [HR.out] <;> rfl, by rw [HR.out]; exact H.out, Fr.refl _ _ _, by rw [HR.out] <;> rfl⟩
    · have hk2 : (B.length : Int) < k := by omega
      clear hk
      go_enter Tryz.func39, Tryz.ntmps39
      go_wp2_with (go_at_call 92; refine HCN.out.mono ?_; rintro e w2 ⟨rfl, rfl⟩)
      go_ret2
      exact ⟨none, by rw [HR.out] <;> rfl, by rw [HR.out]; exact H.out, Fr.refl _ _ _, by rw [HR.out] <;> rfl⟩
  · obtain ⟨q, hq⟩ : ∃ q : Nat, k = (q : Int) := ⟨k.toNat, by omega⟩
    subst hq
    have hq1 : 1 ≤ q := by omega
    have hq2 : q ≤ B.length := by omega
    have k1 : decide ((q : Int) < 1) = false := by simp; omega
    have k2 : decide ((B.length : Int) < (q : Int)) = false := by simp; omega
    have k2' : decide (B.length < q) = false := by simp; omega
    cases hdn : D.down with
    | true =>
      have HR : Hid (makeF B.length m D q = (none, 91, D)) := Lib.hid (by unfold makeF; rw [if_neg hk, if_pos hdn])
      rw [hdn] at c3
      clear hdn hk
      go_enter Tryz.func39, Tryz.ntmps39
      go_wp2_with (go_at_call 92; refine HCN.out.mono ?_; rintro e w2 ⟨rfl, rfl⟩)
      go_ret2
      exact ⟨none, by rw [HR.out] <;> rfl, by rw [HR.out]; exact H.out, Fr.refl _ _ _, by rw [HR.out] <;> rfl⟩
    | false =>
      have HR : Hid (makeF B.length m D q = if (allF B.length m D (makeL B.length m q)).2 = 0 then (some ⟨(allF B.length m D (makeL B.length m q)).1.falls, ⟨#[]⟩, 1, q⟩, 0, (allF B.length m D (makeL B.length m q)).1) else (none, (allF B.length m D (makeL B.length m q)).2, (allF B.length m D (makeL B.length m q)).1)) := Lib.hid (by
        unfold makeF; rw [if_neg hk, if_neg (by rw [hdn]; simp), Int.toNat_natCast])
      rw [hdn] at c3
      clear hdn hk
      go_enter Tryz.func39, Tryz.ntmps39
      go_upto_region 7 with (go_at_call 92; refine HCN.out.mono ?_; rintro e w2 ⟨rfl, rfl⟩)
      clear k1 k2 k2' c3
      go_loopw [6, 32] (fun v i w2 => ∃ dk : Nat, dk ≤ B.length ∧ i = .int .i64 dk ∧ Hid (pkd.R 133 w2 w.heap.size (fun _ => True) v ((List.range dk).flatMap fun disk => (List.range m).map fun at_ => zeroP disk at_)) ∧ Hid (Below w.heap.size w w2)) (fun _ i _ => B.length - (intOf i).toNat)
      case atStart => exact ⟨0, by omega, rfl, Lib.hid (Kd.R_nil _ _ _ _ _), Lib.hid (Below.refl _ _)⟩
      case round =>
        obtain ⟨dk, hdk, rfl, hR, hB2⟩ := hrel
        by_cases hlt : dk < B.length
        · obtain ⟨done, hdone⟩ : ∃ done, done = (List.range dk).flatMap fun disk => (List.range m).map fun at_ => zeroP disk at_ := ⟨_, rfl⟩
          have hdl : done.length = dk * m := by
            rw [hdone]
            exact len_flat _ m (fun i => by simp) dk
          have hdl2 : done.length ≤ 12288 := by
            rw [hdl]
            calc dk * m ≤ 12 * 1024 := Nat.mul_le_mul (by omega) hfew
              _ = 12288 := by omega
          have HDN : Hid (((List.range (dk + 1)).flatMap fun disk => (List.range m).map fun at_ => zeroP disk at_) = done ++ (List.range m).map fun at_ => zeroP dk at_) := Lib.hid (by rw [List.range_succ, List.flatMap_append, ← hdone, List.flatMap_singleton])
          rw [← hdone] at hR
          have r0 := (H.out.below hB2.out).row dk hlt
          clear hdone hdl c0
          obtain ⟨wo, rfl⟩ : ∃ wo : World, wo = wr := ⟨_, rfl⟩
          go_wp2_with fail
          go_loopw [6, 39] (fun v i w2 => ∃ q2 : Nat, q2 ≤ m ∧ i = .int .i64 q2 ∧ Hid (pkd.R 133 w2 w.heap.size (fun _ => True) v (done ++ (List.range q2).map fun at_ => zeroP dk at_)) ∧ Hid (Below w.heap.size w w2)) (fun _ i _ => m - (intOf i).toNat)
          case atStart => exact ⟨0, by omega, rfl, by simpa using hR, hB2⟩
          case round =>
            obtain ⟨q2, hq2', rfl, hR2, hB3⟩ := hrel
            clear r0
            by_cases hlt2 : q2 < m
            · obtain ⟨X, hX⟩ : ∃ X, X = zeroP dk q2 := ⟨_, rfl⟩
              have HOKX : Hid X.Ok := Lib.hid (by rw [hX]; exact zeroP_ok (by omega) (by omega))
              obtain ⟨pc, hpc⟩ : ∃ pc, pc = pcells X := ⟨_, rfl⟩
              have hpl : pc.length = 66 := by rw [hpc]; exact pcells_len HOKX.out
              have HBD : Hid (∀ W : World, (Instr.build 133 #[(0, .int .i64 (dk : Int)), (1, .int .i64 (q2 : Int))]).run Tryz.prog W = .ok (.agg pc.toArray) W) := Lib.hid (fun W => by rw [hpc, hX]; exact run_build_zero W dk q2)
              obtain ⟨lst, hlst⟩ : ∃ lst, lst = done ++ (List.range q2).map fun at_ => zeroP dk at_ := ⟨_, rfl⟩
              have hll : lst.length ≤ 20000 := by rw [hlst, List.length_append, List.length_map, List.length_range]; omega
              rw [← hlst] at hR2
              have HLS : Hid (done ++ (List.range (q2 + 1)).map (fun at_ => zeroP dk at_) = lst ++ [X]) := Lib.hid (by
                rw [List.range_succ, List.map_append, ← List.append_assoc, ← hlst, hX]; rfl)
              have HPC := Lib.hid (And.intro hpc (And.intro hlst hX))
              clear hX hpc hlst
              go_wp2_with (first
                | (refine wpList_build2 rfl 133 (.tmp 43) (.tmp 44) (.int .i64 dk) (.int .i64 q2) rfl rfl rfl pc.toArray (HBD.out _) ?_)
                | (refine wpList_build1 rfl 129 133 (.tmp 45) rfl pc (.agg Tryz.zeroCells133) 66 80 Tryz.underlying129 info133f rfl (by decide) (by decide) rfl hpl ?_)
                | ((with_reducible refine gate_builtin (b := .append) (xs := #[.tmp 42, .tmp 46]) rfl ?_); at_builtin; refine Kd.R_append pkd (w0 := w) w.heap.size rfl (.tmp 42) (.tmp 46) 129 133 (.agg Tryz.zeroCells133) 80 rfl Tryz.underlying129 info133f rfl (by decide) (by omega) u6 lst X pc (fun _ => True) (fun _ => False) rfl rfl ?aP (fun _ hk => hk.elim) ?aF ?aO ?aB ?aS ?aL ?_; (case aP => exact ⟨HOKX.out, HPC.out.1⟩); (case aF => exact (fun _ _ => trivial)); (case aO => exact hR2.out); (case aB => exact hB3.out); (case aS => exact hB3.out.size); (case aL => omega); intro v1 w3 ho hb hg hat; have ho1 := Lib.hid ho; have hb1 := Lib.hid hb; clear ho hg hat hb))
              go_roundw
              case rel => exact ⟨q2 + 1, by omega, by go_num, by rw [HLS.out]; exact ho1, hb1⟩
              case measure => simp [intOf]; omega
            · have hqm : q2 = m := by omega
              have HR9 : Hid (pkd.R 133 wr w.heap.size (fun _ => True) u6 ((List.range (dk + 1)).flatMap fun disk => (List.range m).map fun at_ => zeroP disk at_)) := Lib.hid (by rw [HDN.out, ← hqm]; exact hR2.out)
              go_wp2_with fail
              go_roundw
              case rel => exact ⟨dk + 1, by omega, by go_num, HR9, hB3⟩
              case measure => simp [intOf]; omega
        · have hde : dk = B.length := by omega
          subst hde
          clear c0
          obtain ⟨zs, hzs⟩ : ∃ zs, zs = zerosL B.length m := ⟨_, rfl⟩
          obtain ⟨im, him⟩ : ∃ im, im = imageF B.length m ⟨#[]⟩ 1 q := ⟨_, rfl⟩
          have hzl : zs.length ≤ 12288 := by
            rw [hzs]
            unfold zerosL
            rw [len_flat _ m (fun i => by simp)]
            calc B.length * m ≤ 12 * 1024 := Nat.mul_le_mul hmost hfew
              _ = 12288 := by omega
          have hn1 : neededF 0 q ≤ m / 2 := by
            have : neededF 0 q = 1 := by
              unfold neededF
              rw [Nat.div_eq_iff (by omega)]
              omega
            omega
          have hil : im.length ≤ 6144 := by rw [him]; exact image_len_le hmost hfew hn1
          have HIM : Hid (Calls Tryz.prog 94 #[.pointer (some ⟨d, 0, none⟩), .string ⟨#[]⟩, .int .i64 1, .int .i64 (q : Int)] wr fun e w' => ∃ v, e = .returned v ∧ pkd.R 133 w' wr.heap.size (fun _ => True) v im ∧ Below wr.heap.size wr w') := Lib.hid (by
            rw [him]
            exact image_any ⟨#[]⟩ 1 q wr (H.out.below hB2.out) hq1 hq2 (by omega) hn1)
          have hR' : Hid (pkd.R 133 wr w.heap.size (fun _ => True) u6 zs) := Lib.hid (by rw [hzs]; exact hR.out)
          clear hR
          have hR := hR'
          clear hR'
          obtain ⟨r, hr⟩ : ∃ r, r = allF B.length m D (zs ++ im) := ⟨_, rfl⟩
          have HR2 : Hid (makeF B.length m D q = if r.2 = 0 then (some ⟨r.1.falls, ⟨#[]⟩, 1, q⟩, 0, r.1) else (none, r.2, r.1)) := Lib.hid (by
            rw [HR.out]
            unfold makeL
            rw [← hzs, ← him, ← hr])
          have HAL : Hid (∀ W v1, Below w.heap.size w W → pkd.R 133 W w.heap.size (fun _ => True) v1 (zs ++ im) → Calls Tryz.prog 93 #[.pointer (some ⟨d, 0, none⟩), v1] W fun e w' => e = .returned (.int .i64 r.2) ∧ DAt w' d P B c m r.1 ∧ Fr d B w w') := Lib.hid (fun W v1 hW hp => by
            rw [hr]
            refine (all_pl w.heap.size v1 _ W (H.out.below hW) (PL.of_R hp) (by rw [List.length_append]; omega) H.out.lt_d H.out.B_lt hfa hfb).mono ?_
            rintro e w' ⟨h1, h2, h3⟩
            exact ⟨h1, h2, (Fr.of_below hW).trans h3⟩)
          clear hzs him hr hn1
          by_cases hr0 : r.2 = 0
          · have HR3 : Hid (makeF B.length m D q = (some ⟨r.1.falls, ⟨#[]⟩, 1, q⟩, 0, r.1)) := Lib.hid (by rw [HR2.out, if_pos hr0])
            rw [hr0] at HAL
            clear hr0
            go_upto_region 16 with (first
              | (go_at_call 94; refine (HIM.out).mono ?_; rintro e w4 ⟨vi, rfl, hRi, hb4⟩; obtain ⟨Ai, ci, evi, hci, hCi⟩ := Kd.R_reads hRi; subst evi; have HCI := Lib.hid hCi; have HB4 := Lib.hid hb4; clear hRi hb4 hCi hci)
              | ((with_reducible refine gate_builtin (b := .append) (xs := #[.tmp 51, .tmp 54]) rfl ?_); at_builtin; refine Kd.R_append_rows pkd (Rr := pkd.K w4) (w0 := w) w.heap.size rfl (.tmp 51) (.tmp 54) 129 133 (.agg Tryz.zeroCells133) 80 rfl Tryz.underlying129 info133f rfl (by decide) (by omega) u6 zs im Ai im.length ci (fun _ => True) (fun _ => False) rfl rfl ?aO ?aR ?aK (fun _ hk => hk.elim) (fun _ _ => trivial) ?aB ?aS ?aL ?_; (case aO => exact Kd.R_below hR.out HB4.out); (case aR => exact HCI.out); (case aK => exact (fun _ _ h => h)); (case aB => exact belt hB2.out HB4.out); (case aS => exact (belt hB2.out HB4.out).size); (case aL => omega); intro v1 w5 ho hb hg hat; have HO1 := Lib.hid ho; have HB5 := Lib.hid hb; clear ho hb hg hat)
              | (go_at_call 93; refine (HAL.out _ _ HB5.out HO1.out).mono ?_; rintro e w6 ⟨rfl, hD6, hf6⟩; have HD6 := Lib.hid hD6; have HF6 := Lib.hid hf6; clear hD6 hf6))
            have f4 := HD6.out.f4
            go_wp2_with fail
            go_ret2
            have hbe : Below w6.heap.size w6 (w6.alloc (.cells #[.pointer (some ⟨d, 0, none⟩), .int .i64 r.1.falls, .string ⟨#[]⟩, .int .i64 1, .int .i64 q] 137)) := below_al (Below.refl _ _) _
            exact ⟨some ⟨w6.heap.size, 0, none⟩, by rw [HR3.out] <;> rfl, by rw [HR3.out]; exact HD6.out.below hbe, HF6.out.trans (Fr.of_below hbe), by rw [HR3.out]; exact ⟨_, rfl, HF6.out.size, ⟨Box.new _ _ _, (by show q ≤ 12; omega), (by show 1 ≤ 1099511627776; omega)⟩⟩⟩
          · have HR3 : Hid (makeF B.length m D q = (none, r.2, r.1)) := Lib.hid (by rw [HR2.out, if_neg hr0])
            have e0 : ((r.2 : Int) == 0) = false := by simpa using hr0
            clear hr0
            go_upto_region 16 with (first
              | (go_at_call 94; refine (HIM.out).mono ?_; rintro e w4 ⟨vi, rfl, hRi, hb4⟩; obtain ⟨Ai, ci, evi, hci, hCi⟩ := Kd.R_reads hRi; subst evi; have HCI := Lib.hid hCi; have HB4 := Lib.hid hb4; clear hRi hb4 hCi hci)
              | ((with_reducible refine gate_builtin (b := .append) (xs := #[.tmp 51, .tmp 54]) rfl ?_); at_builtin; refine Kd.R_append_rows pkd (Rr := pkd.K w4) (w0 := w) w.heap.size rfl (.tmp 51) (.tmp 54) 129 133 (.agg Tryz.zeroCells133) 80 rfl Tryz.underlying129 info133f rfl (by decide) (by omega) u6 zs im Ai im.length ci (fun _ => True) (fun _ => False) rfl rfl ?aO ?aR ?aK (fun _ hk => hk.elim) (fun _ _ => trivial) ?aB ?aS ?aL ?_; (case aO => exact Kd.R_below hR.out HB4.out); (case aR => exact HCI.out); (case aK => exact (fun _ _ h => h)); (case aB => exact belt hB2.out HB4.out); (case aS => exact (belt hB2.out HB4.out).size); (case aL => omega); intro v1 w5 ho hb hg hat; have HO1 := Lib.hid ho; have HB5 := Lib.hid hb; clear ho hb hg hat)
              | (go_at_call 93; refine (HAL.out _ _ HB5.out HO1.out).mono ?_; rintro e w6 ⟨rfl, hD6, hf6⟩; have HD6 := Lib.hid hD6; have HF6 := Lib.hid hf6; clear hD6 hf6))
            go_wp2_with fail
            go_ret2
            exact ⟨none, by rw [HR3.out] <;> rfl, by rw [HR3.out]; exact HD6.out, HF6.out, by rw [HR3.out] <;> rfl⟩
end Go.Proofs.YtkdjibejnncmfaaGreatDoor.Co

/- The walk of next. -/
namespace Go.Proofs.YtkdjibejnncmfaaGreatDoor.Co
open Go.RowKit Go.Maps Go.Proofs.YtkdjibejnncmfaaGreatDoorW.PrintWords Go.Proofs.YtkdjibejnncmfaaGreatDoorW.PrintLast Go.Proofs.YtkdjibejnncmfaaGreatDoorW.PrintMore
set_option linter.unusedVariables false
set_option linter.unusedSimpArgs false
set_option maxRecDepth 100000
/-- The lives of all sound pages. -/
def lives (D : DS) (n m : Nat) : List Nat := (List.range n).flatMap fun disk => (List.range m).filterMap fun at_ => (soundK D n m disk at_).map fun x => x.1
def maxL (l : List Nat) (a : Nat) : Nat := l.foldl max a
theorem maxL_spec (l : List Nat) : ∀ a, a ≤ maxL l a ∧ (∀ x ∈ l, x ≤ maxL l a) ∧ (maxL l a = a ∨ maxL l a ∈ l) := by
  induction l with
  | nil => intro a; exact ⟨Nat.le_refl _, by simp, .inl rfl⟩
  | cons y l ih =>
    intro a
    obtain ⟨h1, h2, h3⟩ := ih (max a y)
    have e : maxL (y :: l) a = maxL l (max a y) := rfl
    rw [e]
    refine ⟨by omega, fun x hx => ?_, ?_⟩
    · rcases List.mem_cons.1 hx with rfl | hx
      · omega
      · exact h2 x hx
    · rcases h3 with h3 | h3
      · by_cases hay : a ≤ y
        · exact .inr (by rw [h3, Nat.max_eq_right hay]; exact List.mem_cons_self)
        · exact .inl (by rw [h3, Nat.max_eq_left (by omega)])
      · exact .inr (List.mem_cons_of_mem _ h3)
theorem lives_mem (D : DS) (n m : Nat) (y : Nat) : y ∈ lives D n m ↔ ∃ x, foundF D n m x ≠ [] ∧ x.1 = y := by
  unfold lives
  rw [List.mem_flatMap]
  constructor
  · rintro ⟨disk, h1, h2⟩
    obtain ⟨at_, h3, h4⟩ := List.mem_filterMap.1 h2
    cases hs : soundK D n m disk at_ with
    | none => rw [hs] at h4; cases h4
    | some x =>
      rw [hs] at h4
      injection h4 with h4
      exact ⟨x, (foundTo_ne D n m x n).2 ⟨disk, at_, List.mem_range.1 h1, List.mem_range.1 h3, hs⟩, h4⟩
  · rintro ⟨x, hx, rfl⟩
    obtain ⟨disk, at_, h1, h2, h3⟩ := (foundTo_ne D n m x n).1 hx
    exact ⟨disk, List.mem_range.2 h1, List.mem_filterMap.2 ⟨at_, List.mem_range.2 h2, by rw [h3]; rfl⟩⟩
def lifeMax (D : DS) (n m l0 : Nat) : Nat := maxL (lives D n m) l0
/-- Any number that is like the greatest life is it. -/
theorem lifeMax_unique {D : DS} {n m l0 L : Nat} (h1 : l0 ≤ L) (h2 : ∀ x, foundF D n m x ≠ [] → x.1 ≤ L) (h3 : L = l0 ∨ ∃ x, foundF D n m x ≠ [] ∧ x.1 = L) : L = lifeMax D n m l0 := by
  obtain ⟨k1, k2, k3⟩ := maxL_spec (lives D n m) l0
  unfold lifeMax
  have a : L ≤ maxL (lives D n m) l0 := by
    rcases h3 with rfl | ⟨x, hx, rfl⟩
    · exact k1
    · exact k2 _ ((lives_mem D n m _).2 ⟨x, hx, rfl⟩)
  have b : maxL (lives D n m) l0 ≤ L := by
    rcases k3 with h | h
    · rw [h]; exact h1
    · obtain ⟨x, hx, e⟩ := (lives_mem D n m _).1 h
      rw [← e]; exact h2 x hx
  omega
theorem found_ok {D : DS} {n m : Nat} {x : Kn} (h : foundF D n m x ≠ []) : 1 ≤ x.1 ∧ x.1 ≤ 1099511627776 ∧ 1 ≤ x.2.1 ∧ x.2.1 ≤ m / 2 ∧ 1 ≤ x.2.2 ∧ x.2.2 ≤ n := by
  obtain ⟨disk, at_, _, _, h3⟩ := (foundTo_ne D n m x n).1 h
  obtain ⟨h4, h5⟩ := soundK_some h3
  have := soundB_true h4
  rw [← h5] at this
  omega
theorem lifeMax_le {D : DS} {n m l0 : Nat} (h : l0 ≤ 1099511627776) : lifeMax D n m l0 ≤ 1099511627776 := by
  obtain ⟨_, _, k3⟩ := maxL_spec (lives D n m) l0
  unfold lifeMax
  rcases k3 with h1 | h1
  · omega
  · obtain ⟨x, hx, e⟩ := (lives_mem D n m _).1 h1
    have := found_ok hx
    omega
def nextF (D : DS) (n m vl : Nat) : Nat := if (lifeMax D n m vl + 1) % 2 = vl % 2 then lifeMax D n m vl + 2 else lifeMax D n m vl + 1
theorem FAt.has_of {w : World} {base M n : Nat} {F : FK} {G : Kn → Nat} {V : Kn → Nat → Value} {Dm : DataW Value} (hl : ∀ x, OkK x → Dm.atKey (klit x) (.held nilS) = .held (lookV F G x)) {x : Kn} (hx : OkK x) (hF : F x ≠ []) : has Dm (klit x) = true := by
  cases hh : has Dm (klit x) with
  | true => rfl
  | false =>
    have h1 := Maps.atKey_of_not_has hh (.held nilS)
    rw [hl x hx] at h1
    unfold lookV at h1
    rw [if_neg hF] at h1
    injection h1 with h1
    cases h1
abbrev mkK (x : Int × Int × Int) : Value := .agg #[.int .i64 x.1, .int .i64 x.2.1, .int .i64 x.2.2]
/-- A key that reads as a kind's is the kind. -/
theorem key_of {x : Int × Int × Int} {kl : Lit} {y : Kn} (h : keyOf Tryz.prog 139 (mkK x) = some kl) (hy : OkK y) (e : kl = klit y) : x = ((y.1 : Int), (y.2.1 : Int), (y.2.2 : Int)) := by
  have h2 := law139.inj h (by rw [e]; exact keyOf_kV hy)
  obtain ⟨a, b, c⟩ := x
  simp only [mkK, Value.agg.injEq, Array.mk.injEq, List.cons.injEq, Value.int.injEq, true_and, and_true] at h2
  obtain ⟨h3, h4, h5⟩ := h2
  rw [h3, h4, h5]
set_option maxHeartbeats 2000000 in
theorem next_any {v d P c m : Nat} {B : List Nat} {D : DS} {V : VS} (w : World) (h : VAt w v d V) (hD : DAt w d P B c m D) (hli : V.life ≤ 1099511627776) :
    Calls Tryz.prog 97 #[.pointer (some ⟨v, 0, none⟩)] w fun e w' => e = .returned (.int .i64 (nextF D B.length m V.life : Nat)) ∧ Below w.heap.size w w' := by
  have g0 := h.g0
  have g3 := h.g3
  have H := Lib.hid h
  have hmost := hD.most
  have hfew := hD.few
  have HF := Lib.hid (found_any w hD)
  have hnm : B.length * m ≤ 12288 := by
    calc B.length * m ≤ 12 * 1024 := Nat.mul_le_mul hmost hfew
      _ = 12288 := by omega
  obtain ⟨vl, hvl⟩ : ∃ vl, vl = V.life := ⟨_, rfl⟩
  rw [← hvl] at g3 hli
  have HVL := Lib.hid hvl
  clear h hD hvl
  go_enter Tryz.func97, Tryz.ntmps97
  go_upto_region 3 with (first
    | (go_at_call 134; refine HF.out.mono ?_; rintro e w2 ⟨M, G, Vv, rfl, hFA, hb2⟩; obtain ⟨Dm, hown, hism, hlook, hhas⟩ := hFA.own; have HLK := Lib.hid (And.intro hlook hhas); have HB2 := Lib.hid hb2; clear hFA hism hlook hhas hb2)
    | (at_range; refine wpList_range_own _ rfl _ 176 rfl 139 166 law139 Tryz.underlying176 RH _ _ _ rfl hown ?_; intro w3 hrg0 hg0 hs0))
  go_frame
  have HAT := Lib.hid (show ∀ kl, has Dm kl = true → ∃ x, OkK x ∧ kl = klit x ∧ foundF D B.length m x ≠ [] from HLK.out.2)
  have HHAS := Lib.hid (fun (x : Kn) (hx : OkK x) (hF : foundF D B.length m x ≠ []) => FAt.has_of (w := w2) (base := 0) (M := M) (n := 0) (V := Vv) HLK.out.1 hx hF)
  have HOK := Lib.hid (fun (x : Kn) (hF : foundF D B.length m x ≠ []) => found_ok hF)
  go_loopw [3] (fun jv wr => ∃ (left : Lit → Bool) (cnt L : Nat), wr.ranges Tryz.prog 139 RH M w2.heap.size (B.length * m) Dm left cnt ∧ jv = .int .i64 (L : Nat) ∧ vl ≤ L ∧ L ≤ 1099511627776 ∧ (∀ kl, left kl = true → has Dm kl = true) ∧ (∀ x, foundF D B.length m x ≠ [] → left (klit x) = false → x.1 ≤ L) ∧ (L = vl ∨ ∃ x, foundF D B.length m x ≠ [] ∧ x.1 = L) ∧ Below w.heap.size w wr)
    (fun _ wr => wr.rangeLeft M w2.heap.size)
  case atStart =>
    refine ⟨_, _, vl, hrg0, rfl, Nat.le_refl _, hli, fun _ h => h, fun x hx hl => ?_, .inl rfl, HB2.out.grown hg0 HB2.out.size (by simp)⟩
    exfalso
    obtain ⟨q1, q2, q3, q4, q5, q6⟩ := HOK.out x hx
    rw [HHAS.out x ⟨by omega, by omega, by omega⟩ hx] at hl
    cases hl
  case round =>
    obtain ⟨left, cnt, L, hrg, rfl, hL1, hL2, hL3, hL4, hL5, hbw⟩ := hrel
    have HL3 := Lib.hid hL3
    have HL4 := Lib.hid hL4
    have HL5 := Lib.hid hL5
    have HBW := Lib.hid hbw
    clear hL3 hL4 hL5 hbw
    go_wp2_with (first
      | (at_next; refine wpList_next_ranges _ rfl _ rfl 139 law139 RH mkK id (fun key kl hk => kinv hk) (fun v y _ => ⟨v, rfl⟩) M w2.heap.size (B.length * m) _ _ _ rfl hrg ?_ ?_)
      | go_in)
    · intro hc0 hl0
      have HL0 := Lib.hid hl0
      clear hl0
      have g3r : wr.cell? { block := v, off := 3 } = some (Value.int IntKind.i64 (vl : Nat)) := (HBW.out.cell (World.block_lt_of_cell? w _ g3)).trans g3
      have hL : L = lifeMax D B.length m V.life := by
        refine lifeMax_unique (by rw [← HVL.out]; exact hL1) (fun x hx => HL4.out x hx (HL0.out _)) ?_
        rw [← HVL.out]; exact HL5.out
      have HLL := Lib.hid hL
      clear hL hc0
      by_cases hpar : (L + 1) % 2 = vl % 2
      · have hp1 : (((L : Int) + 1) % 2 == (vl : Int) % 2) = true := by simp; omega
        go_wp2_with fail
        go_ret
        refine ⟨ret_int' ?_, HBW.out⟩
        unfold nextF
        rw [← HLL.out, ← HVL.out, if_pos hpar]
        omega
      · have hp1 : (((L : Int) + 1) % 2 == (vl : Int) % 2) = false := by simp; omega
        go_wp2_with fail
        go_ret
        refine ⟨ret_int' ?_, HBW.out⟩
        unfold nextF
        rw [← HLL.out, ← HVL.out, if_neg hpar]
        omega
    · intro x1 x2 x3 c kl y1 y2 w4 cnt4 hkey hlk hry hry2 hat hrg4 hlt4 hg4 hs4 hen
      obtain ⟨x, hx1, rfl, hx2⟩ := HAT.out kl (HL3.out kl hlk)
      obtain ⟨rfl, rfl, rfl⟩ : x1 = (x.1 : Int) ∧ x2 = (x.2.1 : Int) ∧ x3 = (x.2.2 : Int) := by
        have := key_of (x := (x1, x2, x3)) hkey hx1 rfl
        simpa using this
      have hrl := hrg4.left_eq
      have hrl0 := hrg.left_eq
      have HRG4 := Lib.hid hrg4
      have HHL := Lib.hid hlk
      have HX2 := Lib.hid hx2
      have HBW4 := Lib.hid (HBW.out.grown hg4 HBW.out.size (by intro k hk; injection hk with hk; have := HB2.out.size; omega))
      have hxb := HOK.out x hx2
      clear hkey hry hry2 hat hrg4 hg4 hx2 hlk
      go_wp2_with fail
      refine ⟨⟨_, cnt4, max L x.1, HRG4.out.alloc _, ?_, by omega, by omega, fun z hz => HL3.out z (by simp at hz; exact hz.1), fun z hz hl => ?_, ?_, HBW4.out.alloc HBW4.out.size _⟩, ?_⟩
      · by_cases hmx : L < x.1
        · rw [if_pos hmx, Nat.max_eq_right (by omega)]
        · rw [if_neg hmx, Nat.max_eq_left (by omega)]
      · cases hz2 : left (klit z) with
        | false => have := HL4.out z hz hz2; omega
        | true =>
          rw [hz2] at hl
          have e : klit z = klit x := by
            have : (klit z).sameKey (klit x) = true := by simpa using hl
            simpa [klit, Lit.sameKey] using this
          have hzb := HOK.out z hz
          rw [klit_inj ⟨by omega, by omega, by omega⟩ hx1 e]
          omega
      · by_cases hmx : L < x.1
        · exact .inr ⟨x, HX2.out, (Nat.max_eq_right (by omega)).symm⟩
        · rw [Nat.max_eq_left (by omega)]
          exact HL5.out
      · rw [(HRG4.out.alloc _).left_eq, hrl0]
        exact hlt4
end Go.Proofs.YtkdjibejnncmfaaGreatDoor.Co
