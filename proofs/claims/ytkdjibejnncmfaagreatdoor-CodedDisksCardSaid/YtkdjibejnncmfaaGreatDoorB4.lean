/- Contracts of package coded, part 4. -/
import Derived.Test.YtkdjibejnncmfaaGreatDoorB3
import Derived.Maps.RangeWalk
import Derived.DeepKeys4
/- The walk of sound. -/
namespace Go.Proofs.YtkdjibejnncmfaaGreatDoor.Co
open Go.RowKit Go.Proofs.YtkdjibejnncmfaaGreatDoorW.PrintWords Go.Proofs.YtkdjibejnncmfaaGreatDoorW.PrintLast Go.Proofs.YtkdjibejnncmfaaGreatDoorW.PrintMore
set_option linter.unusedVariables false
set_option linter.unusedSimpArgs false
set_option maxRecDepth 100000
/-- What sound hands back. -/
def SoundP (b : Bool) (k : Kn) (w : World) (e : Ending) (w' : World) : Prop := ∃ x : Kn, e = .returned (.tuple #[kV x, .bool b]) ∧ (b = true → x = k) ∧ Below w.heap.size w w'
set_option maxHeartbeats 8000000 in
theorem sound_any {d P c m : Nat} {B : List Nat} {D : DS} (disk at_ : Nat) (w : World) (h : DAt w d P B c m D) (hd : disk < B.length) (ha : at_ < m) :
    Calls Tryz.prog 150 #[.pointer (some ⟨d, 0, none⟩), .int .i64 disk, .int .i64 at_] w (SoundP (soundB B.length m (pageAt D disk at_) disk at_) (kindOf (pageAt D disk at_)) w) := by
  have c0 := h.f0
  have r0 := h.row disk hd
  obtain ⟨b, hb⟩ : ∃ b, b = B.getD disk 0 := ⟨_, rfl⟩
  obtain ⟨pg, hpg⟩ : ∃ pg, pg = pageAt D disk at_ := ⟨_, rfl⟩
  have hl : pg.length = 64 := by rw [hpg]; exact h.page_len disk at_ hd ha
  have hby : ∀ x ∈ pg, IsB x := by rw [hpg]; exact h.page_b disk at_ hd
  have hcl : ∀ j : Nat, j < 64 → w.cell? ⟨b, at_ * 64 + j, none⟩ = some (.int .u8 (rd pg j)) := by
    intro j hj
    have := h.page_range disk at_ hd ha j (.int .u8 (rd pg j)) (by
      rw [← hpg]
      unfold encB
      rw [List.getElem?_map, List.getElem?_eq_getElem (by omega), rd_nat pg j (by omega)]; rfl)
    rw [← hb] at this
    exact this
  have hbl : b < w.heap.size := by rw [hb]; exact h.lt_B disk hd
  rw [← hb] at r0
  rw [← hpg]
  have H := Lib.hid h
  have hcap := h.cap
  have hmost := h.most
  have hfew := h.few
  have HL := Lib.hid hl
  have HBY := Lib.hid hby
  have HC := Lib.hid hcl
  have HBL := Lib.hid hbl
  clear hl hby hcl h hb hbl hpg
  have e1 : (0 : Int) ≤ (disk : Int) := by omega
  have e2 : (disk : Int) < (B.length : Int) := by omega
  have e3 : (0 : Int) ≤ (at_ : Int) := by omega
  have e4 : (at_ : Int) < (m : Int) := by omega
  go_enter Tryz.func150, Tryz.ntmps150
  go_upto_region 1 with fail
  have HBOX := Lib.hid (Box.new w #[.int .i64 0, .int .i64 0, .int .i64 0] 139)
  obtain ⟨W0, hW0⟩ : ∃ W0, W0 = w.alloc (.cells #[.int .i64 0, .int .i64 0, .int .i64 0] 139) := ⟨_, rfl⟩
  rw [← hW0] at HBOX ⊢
  have HB0 : Hid (Below w.heap.size w W0) := Lib.hid (by rw [hW0]; exact below_al (Below.refl _ _) _)
  clear hW0
  have c0' := cell_below HB0.out c0
  have r0' := cell_below HB0.out r0
  clear c0 r0
  go_upto_region 2 with fail
  go_upto_region 3 with ((go_at_call 156; refine (get_pg b (at_ * 64) pg 40 8 _ W0 HL.out HBY.out (by decide) (by decide) (by have := HB0.out.size; have := HBL.out; omega) (fun j hj => cell_below HB0.out (HC.out j hj))).mono ?_; rintro e w1 ⟨rfl, hb1⟩; have HB1 := Lib.hid hb1; clear hb1))
  obtain ⟨lf, hlf⟩ : ∃ lf, lf = ofLE (cutL pg 40 8) := ⟨_, rfl⟩
  obtain ⟨st, hst⟩ : ∃ st, st = ofLE (cutL pg 48 2) := ⟨_, rfl⟩
  obtain ⟨en, hen⟩ : ∃ en : Nat, en = (rd pg 50).toNat := ⟨_, rfl⟩
  have hlf2 : lf < 18446744073709551616 := by
    rw [hlf]
    have := ofLE_lt (cutL pg 40 8) (fun x hx => HBY.out x (cutL_mem hx))
    rw [cutL_len HL.out (by decide)] at this
    exact this
  have hst2 : st < 65536 := by
    rw [hst]
    have := ofLE_lt (cutL pg 48 2) (fun x hx => HBY.out x (cutL_mem hx))
    rw [cutL_len HL.out (by decide)] at this
    exact this
  have hen1 : IsB (rd pg 50) := rd_pg_b HL.out HBY.out 50 (by decide)
  have hen2 : rd pg 50 = (en : Int) := by rw [hen]; have := hen1.1; omega
  have hen3 : en < 256 := by have := hen1.2; omega
  rw [← hlf]
  obtain ⟨l2, hl2⟩ : ∃ l2, l2 = lf % 2199023255552 := ⟨_, rfl⟩
  have hl3 : l2 < 2199023255552 := by rw [hl2]; exact Nat.mod_lt _ (by decide)
  have hand : Go.bits .and .u64 (lf : Int) 2199023255551 = (l2 : Int) := by rw [hl2]; exact and_mask41 lf hlf2
  have hw1 : IntKind.i64.wrap (l2 : Int) = (l2 : Int) := IntWalk.i64_in _ ⟨by omega, by omega⟩
  have hw2 : IntKind.i64.wrap (st : Int) = (st : Int) := IntWalk.i64_in _ ⟨by omega, by omega⟩
  have hw3 : IntKind.i64.wrap (en : Int) = (en : Int) := IntWalk.i64_in _ ⟨by omega, by omega⟩
  have HB1w : Hid (Below w.heap.size w w1) := Lib.hid (belt HB0.out HB1.out)
  have hc50 : w1.cell? ⟨b, at_ * 64 + 50, none⟩ = some (.int .u8 (en : Int)) := by
    have := cell_below HB1w.out (HC.out 50 (by decide))
    rw [show ((50 : Nat) : Int) = 50 from rfl, hen2] at this
    exact this
  have HBOX1 : Hid (Box w1 w.heap.size 139 #[.int .i64 0, .int .i64 0, .int .i64 0]) := Lib.hid (HBOX.out.below HB1.out HBOX.out.lt)
  have HG48 : Hid (∀ W : World, Below w1.heap.size w1 W → Calls Tryz.prog 156 #[.slice (some ⟨b, at_ * 64 + 48, none⟩) 2 16] W fun e w' => e = .returned (.int .u64 (st : Nat)) ∧ Below W.heap.size W w') := Lib.hid (fun W hW => by
    rw [hst]
    exact get_pg b (at_ * 64) pg 48 2 _ W HL.out HBY.out (by decide) (by decide) (by have := HB1w.out.size; have := hW.size; have := HBL.out; omega) (fun j hj => cell_below (belt HB1w.out hW) (HC.out j hj)))
  have HNAME := Lib.hid (And.intro hlf (And.intro hst (And.intro hen2 hl2)))
  have HBOUND := Lib.hid (And.intro hlf2 (And.intro hst2 (And.intro hen3 hl3)))
  clear hlf hst hen hen2 hl2 hlf2 hen1 c0' r0'
  go_cut [10] (fun v10 wx => ∃ X, v10 = .pointer (some ⟨X, 0, none⟩) ∧ Box wx X 139 #[.int .i64 l2, .int .i64 st, .int .i64 en] ∧ X ≠ w.heap.size ∧ Box wx w.heap.size 139 #[.int .i64 0, .int .i64 0, .int .i64 0] ∧ Below w.heap.size w wx)
  case first =>
    go_region_held3 (fun W' => Below w1.heap.size w1 W' ∧ W'.cell? ⟨b, at_ * 64 + 50, none⟩ = some (.int .u8 en)) (and_intros <;> first | ((repeat (first | assumption | exact Below.refl _ _ | apply Below.drew | apply below_al | apply below_set)); done) | (refine cell_below (w := w1) ?_ (by assumption); (repeat (first | assumption | exact Below.refl _ _ | apply Below.drew | apply below_al | apply below_set)); done)) ((go_at_call 156; refine (rel_call2 (wr := w1) (HG48.out _ (by (repeat (first | assumption | exact Below.refl _ _ | apply Below.drew | apply below_al)))) (by (repeat (first | assumption | exact Below.refl _ _ | apply Below.drew | apply below_al)))).mono ?_; rintro e w2 ⟨rfl, hb2, hb3⟩; try (have q := box_after w1 _ 139 hb3; have q0 := q.cell 0; have q1 := q.cell 1; have q2 := q.cell 2; have y0 := q.frozen 0; have y1 := q.frozen 1; have y2 := q.frozen 2; simp only [List.getElem?_toArray, List.getElem?_cons_zero, List.getElem?_cons_succ] at q0 q1 q2; have HQ := Lib.hid q; clear q)))
    all_goals (go_wp2_with fail; go_meet)
    · exact ⟨_, rfl, Box.new _ _ _, by have := hb2.size; have := HBOX1.out.lt; omega, (HBOX1.out.below hb2 HBOX1.out.lt).alloc _, below_al (belt HB1w.out hb2) _⟩
    · have hlt : w.heap.size < w1.heap.size := HBOX1.out.lt
      refine ⟨_, rfl, ((HQ.out.set 0 _).set 1 _).set 2 _, by omega, ?_, ?_⟩
      · exact (((HBOX1.out.below hb2 HBOX1.out.lt).far (p := ⟨w1.heap.size, 0, none⟩) (by show w.heap.size ≠ w1.heap.size; omega) _).far (p := ⟨w1.heap.size, 1, none⟩) (by show w.heap.size ≠ w1.heap.size; omega) _).far (p := ⟨w1.heap.size, 2, none⟩) (by show w.heap.size ≠ w1.heap.size; omega) _
      · exact ((((belt HB1w.out hb2).setCell (p := ⟨w1.heap.size, 0, none⟩) (Nat.le_of_lt hlt) _).setCell (p := ⟨w1.heap.size, 1, none⟩) (Nat.le_of_lt hlt) _).setCell (p := ⟨w1.heap.size, 2, none⟩) (Nat.le_of_lt hlt) _)
  case rest =>
    obtain ⟨X, rfl, hbx, hXn, hbox, hbc⟩ := hcut
    clear HG48 hc50 HBOX1 HB1 HBOX HB0 HB1w hw1 hw2 hw3 hand
    have HBC := Lib.hid hbc
    obtain ⟨x0, hx0⟩ : ∃ x0, x0 = ofLE (cutL pg 56 8) := ⟨_, rfl⟩
    obtain ⟨y0, hy0⟩ : ∃ y0, y0 = psum pg at_ := ⟨_, rfl⟩
    obtain ⟨cn, hcn⟩ : ∃ cn, cn = ofLE (cutL pg 52 4) := ⟨_, rfl⟩
    obtain ⟨q, hq⟩ : ∃ q, q = m / 2 := ⟨_, rfl⟩
    obtain ⟨dk, hdk⟩ : ∃ dk : Nat, rd pg 51 = (dk : Int) ∧ dk < 256 := by
      have h51 : IsB (rd pg 51) := rd_pg_b HL.out HBY.out 51 (by decide)
      exact ⟨(rd pg 51).toNat, by have := h51.1; omega, by have := h51.2; have := h51.1; omega⟩
    have hblc : ∀ W : BW wc, b < W.val.heap.size := fun W => by have := (belt HBC.out W.property).size; have := HBL.out; omega
    have hcc : ∀ (W : BW wc) (j : Nat), j < 64 → W.val.cell? ⟨b, at_ * 64 + j, none⟩ = some (.int .u8 (rd pg j)) := fun W j hj => cell_below (belt HBC.out W.property) (HC.out j hj)
    have H56 : Hid (∀ W : BW wc, Calls Tryz.prog 156 #[.slice (some ⟨b, at_ * 64 + 56, none⟩) 8 8] W.val fun e w'' => e = .returned (.int .u64 (x0 : Nat)) ∧ ∃ W2 : BW wc, w'' = W2.val) := Lib.hid (fun W => by
      rw [hx0]; exact BW.call (get_pg b (at_ * 64) pg 56 8 _ W.val HL.out HBY.out (by decide) (by decide) (hblc W) (hcc W)))
    have H52 : Hid (∀ W : BW wc, Calls Tryz.prog 156 #[.slice (some ⟨b, at_ * 64 + 52, none⟩) 4 12] W.val fun e w'' => e = .returned (.int .u64 (cn : Nat)) ∧ ∃ W2 : BW wc, w'' = W2.val) := Lib.hid (fun W => by
      rw [hcn]; exact BW.call (get_pg b (at_ * 64) pg 52 4 _ W.val HL.out HBY.out (by decide) (by decide) (hblc W) (hcc W)))
    have HSUM : Hid (∀ W : BW wc, Calls Tryz.prog 149 #[.pointer (some ⟨b, at_ * 64, none⟩), .int .i64 at_] W.val fun e w'' => e = .returned (.int .u64 (y0 : Nat)) ∧ ∃ W2 : BW wc, w'' = W2.val) := Lib.hid (fun W => by
      rw [hy0]; exact BW.call (psum_any b (at_ * 64) pg at_ W.val HL.out (hcc W) (by omega)))
    have H95 : Hid (∀ W : BW wc, Calls Tryz.prog 95 #[.pointer (some ⟨d, 0, none⟩)] W.val fun e w'' => e = .returned (.int .i64 (q : Nat)) ∧ ∃ W2 : BW wc, w'' = W2.val) := Lib.hid (fun W => by
      rw [hq]; exact BW.same (slot_any W.val (H.out.below (belt HBC.out W.property))))
    have H92 : Hid (∀ W : BW wc, Calls Tryz.prog 92 #[.pointer (some ⟨d, 0, none⟩)] W.val fun e w'' => e = .returned (.int .i64 B.length) ∧ ∃ W2 : BW wc, w'' = W2.val) := Lib.hid (fun W => by
      exact BW.same (Count_any W.val (H.out.below (belt HBC.out W.property))))
    have k51 : ∀ W : BW wc, W.val.cell? ⟨b, at_ * 64 + 51, none⟩ = some (.int .u8 (dk : Nat)) := fun W => by have := hcc W 51 (by decide); rw [show ((51 : Nat) : Int) = 51 from rfl, hdk.1] at this; exact this
    have kx1 : ∀ W : BW wc, W.val.cell? ⟨X, 1, none⟩ = some (.int .i64 (st : Nat)) := fun W => cell_below W.property (hbx.cell 1)
    have kx2 : ∀ W : BW wc, W.val.cell? ⟨X, 2, none⟩ = some (.int .i64 (en : Nat)) := fun W => cell_below W.property (hbx.cell 2)
    have hwd : IntKind.i64.wrap (dk : Int) = (dk : Int) := IntWalk.i64_in _ ⟨by have := hdk.2; omega, by have := hdk.2; omega⟩
    have hwn : IntKind.u64.wrap (B.length : Int) = (B.length : Int) := by rw [IntKind.wrap_u64]; omega
    have HN2 := Lib.hid (And.intro hx0 (And.intro hy0 (And.intro hcn (And.intro hq hdk))))
    have HX := Lib.hid (And.intro hbx (And.intro hXn hbox))
    clear hx0 hy0 hcn hq hdk hblc hcc hbx hXn hbox hbc
    have HPB : Hid (pageB B.length m pg disk at_ = (x0 == y0 && decide (1 ≤ lf) && decide (lf ≤ 1099511627776) && decide (1 ≤ st) && decide (st ≤ q) && decide (1 ≤ en) && decide (en ≤ B.length) && ((dk : Int) == (disk : Int)) && cn == B.length)) := Lib.hid (by
      obtain ⟨f1, f2, f3, f4⟩ := HNAME.out
      obtain ⟨f5, f6, f7, f8, f9, f10⟩ := HN2.out
      unfold pageB kindOf lifeOf
      rw [← f1, ← f2, f3, ← f5, ← f6, ← f7, ← f8, f9]
      simp only [Int.toNat_natCast])
    have HPB : Hid (pageB B.length m pg disk at_ = (x0 == y0 && decide (1 ≤ lf) && decide (lf ≤ 1099511627776) && decide (1 ≤ st) && decide (st ≤ q) && decide (1 ≤ en) && decide (en ≤ B.length) && ((dk : Int) == (disk : Int)) && cn == B.length)) := Lib.hid (by
      obtain ⟨f1, f2, f3, f4⟩ := HNAME.out
      obtain ⟨f5, f6, f7, f8, f9, f10⟩ := HN2.out
      unfold pageB kindOf lifeOf
      rw [← f1, ← f2, f3, ← f5, ← f6, ← f7, ← f8, f9]
      simp only [Int.toNat_natCast])
    have HPB : Hid (pageB B.length m pg disk at_ = (x0 == y0 && decide (1 ≤ lf) && decide (lf ≤ 1099511627776) && decide (1 ≤ st) && decide (st ≤ q) && decide (1 ≤ en) && decide (en ≤ B.length) && ((dk : Int) == (disk : Int)) && cn == B.length)) := Lib.hid (by
      obtain ⟨f1, f2, f3, f4⟩ := HNAME.out
      obtain ⟨f5, f6, f7, f8, f9, f10⟩ := HN2.out
      unfold pageB kindOf lifeOf
      rw [← f1, ← f2, f3, ← f5, ← f6, ← f7, ← f8, f9]
      simp only [Int.toNat_natCast])
    have HPB : Hid (pageB B.length m pg disk at_ = (x0 == y0 && decide (1 ≤ lf) && decide (lf ≤ 1099511627776) && decide (1 ≤ st) && decide (st ≤ q) && decide (1 ≤ en) && decide (en ≤ B.length) && ((dk : Int) == (disk : Int)) && cn == B.length)) := Lib.hid (by
      obtain ⟨f1, f2, f3, f4⟩ := HNAME.out
      obtain ⟨f5, f6, f7, f8, f9, f10⟩ := HN2.out
      unfold pageB kindOf lifeOf
      rw [← f1, ← f2, f3, ← f5, ← f6, ← f7, ← f8, f9]
      simp only [Int.toNat_natCast])
    have HPB : Hid (pageB B.length m pg disk at_ = (x0 == y0 && decide (1 ≤ lf) && decide (lf ≤ 1099511627776) && decide (1 ≤ st) && decide (st ≤ q) && decide (1 ≤ en) && decide (en ≤ B.length) && ((dk : Int) == (disk : Int)) && cn == B.length)) := Lib.hid (by
      obtain ⟨f1, f2, f3, f4⟩ := HNAME.out
      obtain ⟨f5, f6, f7, f8, f9, f10⟩ := HN2.out
      unfold pageB kindOf lifeOf
      rw [← f1, ← f2, f3, ← f5, ← f6, ← f7, ← f8, f9]
      simp only [Int.toNat_natCast])
    have HPB : Hid (pageB B.length m pg disk at_ = (x0 == y0 && decide (1 ≤ lf) && decide (lf ≤ 1099511627776) && decide (1 ≤ st) && decide (st ≤ q) && decide (1 ≤ en) && decide (en ≤ B.length) && ((dk : Int) == (disk : Int)) && cn == B.length)) := Lib.hid (by
      obtain ⟨f1, f2, f3, f4⟩ := HNAME.out
      obtain ⟨f5, f6, f7, f8, f9, f10⟩ := HN2.out
      unfold pageB kindOf lifeOf
      rw [← f1, ← f2, f3, ← f5, ← f6, ← f7, ← f8, f9]
      simp only [Int.toNat_natCast])
    have HPB : Hid (pageB B.length m pg disk at_ = (x0 == y0 && decide (1 ≤ lf) && decide (lf ≤ 1099511627776) && decide (1 ≤ st) && decide (st ≤ q) && decide (1 ≤ en) && decide (en ≤ B.length) && ((dk : Int) == (disk : Int)) && cn == B.length)) := Lib.hid (by
      obtain ⟨f1, f2, f3, f4⟩ := HNAME.out
      obtain ⟨f5, f6, f7, f8, f9, f10⟩ := HN2.out
      unfold pageB kindOf lifeOf
      rw [← f1, ← f2, f3, ← f5, ← f6, ← f7, ← f8, f9]
      simp only [Int.toNat_natCast])
    have HPB : Hid (pageB B.length m pg disk at_ = (x0 == y0 && decide (1 ≤ lf) && decide (lf ≤ 1099511627776) && decide (1 ≤ st) && decide (st ≤ q) && decide (1 ≤ en) && decide (en ≤ B.length) && ((dk : Int) == (disk : Int)) && cn == B.length)) := Lib.hid (by
      obtain ⟨f1, f2, f3, f4⟩ := HNAME.out
      obtain ⟨f5, f6, f7, f8, f9, f10⟩ := HN2.out
      unfold pageB kindOf lifeOf
      rw [← f1, ← f2, f3, ← f5, ← f6, ← f7, ← f8, f9]
      simp only [Int.toNat_natCast])
    have HPB : Hid (pageB B.length m pg disk at_ = (x0 == y0 && decide (1 ≤ lf) && decide (lf ≤ 1099511627776) && decide (1 ≤ st) && decide (st ≤ q) && decide (1 ≤ en) && decide (en ≤ B.length) && ((dk : Int) == (disk : Int)) && cn == B.length)) := Lib.hid (by
      obtain ⟨f1, f2, f3, f4⟩ := HNAME.out
      obtain ⟨f5, f6, f7, f8, f9, f10⟩ := HN2.out
      unfold pageB kindOf lifeOf
      rw [← f1, ← f2, f3, ← f5, ← f6, ← f7, ← f8, f9]
      simp only [Int.toNat_natCast])
    have HPB : Hid (pageB B.length m pg disk at_ = (x0 == y0 && decide (1 ≤ lf) && decide (lf ≤ 1099511627776) && decide (1 ≤ st) && decide (st ≤ q) && decide (1 ≤ en) && decide (en ≤ B.length) && ((dk : Int) == (disk : Int)) && cn == B.length)) := Lib.hid (by
      obtain ⟨f1, f2, f3, f4⟩ := HNAME.out
      obtain ⟨f5, f6, f7, f8, f9, f10⟩ := HN2.out
      unfold pageB kindOf lifeOf
      rw [← f1, ← f2, f3, ← f5, ← f6, ← f7, ← f8, f9]
      simp only [Int.toNat_natCast])
    have HPB : Hid (pageB B.length m pg disk at_ = (x0 == y0 && decide (1 ≤ lf) && decide (lf ≤ 1099511627776) && decide (1 ≤ st) && decide (st ≤ q) && decide (1 ≤ en) && decide (en ≤ B.length) && ((dk : Int) == (disk : Int)) && cn == B.length)) := Lib.hid (by
      obtain ⟨f1, f2, f3, f4⟩ := HNAME.out
      obtain ⟨f5, f6, f7, f8, f9, f10⟩ := HN2.out
      unfold pageB kindOf lifeOf
      rw [← f1, ← f2, f3, ← f5, ← f6, ← f7, ← f8, f9]
      simp only [Int.toNat_natCast])
    have HPB : Hid (pageB B.length m pg disk at_ = (x0 == y0 && decide (1 ≤ lf) && decide (lf ≤ 1099511627776) && decide (1 ≤ st) && decide (st ≤ q) && decide (1 ≤ en) && decide (en ≤ B.length) && ((dk : Int) == (disk : Int)) && cn == B.length)) := Lib.hid (by
      obtain ⟨f1, f2, f3, f4⟩ := HNAME.out
      obtain ⟨f5, f6, f7, f8, f9, f10⟩ := HN2.out
      unfold pageB kindOf lifeOf
      rw [← f1, ← f2, f3, ← f5, ← f6, ← f7, ← f8, f9]
      simp only [Int.toNat_natCast])
    go_upto_region 4 with fail
    go_cut [97] (fun v97 wx => v97 = .bool (!pageB B.length m pg disk at_) ∧ Below wc.heap.size wc wx)
    case first =>
      refine wp_region_bw (by kernel_rfl) (by kernel_rfl) ?_
      by_cases g0 : x0 = y0
      rotate_left
      · have t00 : ((x0 : Int) != (y0 : Int)) = true := by rw [bne_iff_ne]; omega
        have hp : Hid (pageB B.length m pg disk at_ = false) := Lib.hid (by rw [HPB.out]; simp; omega)
        clear g0
        repeat (go_big_quiet_step ((first | with_reducible exact H56.out _ | with_reducible exact HSUM.out _ | with_reducible exact H95.out _ | with_reducible exact H92.out _ | with_reducible exact H52.out _)))
        refine wpQuiet_nil ?_
        rintro _ ⟨⟨W, hBW⟩, rfl⟩
        have HBW2 := Lib.hid hBW
        clear hBW t00
        go_wp2_with fail
        go_meet
        exact ⟨by rw [hp.out]; rfl, HBW2.out⟩
      · skip
        have t00 : ((x0 : Int) != (y0 : Int)) = false := by rw [bne_eq_false_iff_eq]; omega
        have u0 := Lib.hid g0
        clear g0
        iterate 9 (go_big_quiet_step ((first | with_reducible exact H56.out _ | with_reducible exact HSUM.out _ | with_reducible exact H95.out _ | with_reducible exact H92.out _ | with_reducible exact H52.out _)))
        have g0 := u0.out
        by_cases g1 : lf < 1
        · have t10 : decide ((lf : Int) < 1) = true := by simp; omega
          have t11 : decide (lf < 1) = true := by simp; omega
          have hp : Hid (pageB B.length m pg disk at_ = false) := Lib.hid (by rw [HPB.out]; simp; omega)
          clear g0 g1
          repeat (go_big_quiet_step ((first | with_reducible exact H56.out _ | with_reducible exact HSUM.out _ | with_reducible exact H95.out _ | with_reducible exact H92.out _ | with_reducible exact H52.out _)))
          refine wpQuiet_nil ?_
          rintro _ ⟨⟨W, hBW⟩, rfl⟩
          have HBW2 := Lib.hid hBW
          clear hBW t00 t10 t11
          go_wp2_with fail
          go_meet
          exact ⟨by rw [hp.out]; rfl, HBW2.out⟩
        · skip
          have t10 : decide ((lf : Int) < 1) = false := by simp; omega
          have t11 : decide (lf < 1) = false := by simp; omega
          have u1 := Lib.hid g1
          clear g1
          iterate 4 (go_big_quiet_step ((first | with_reducible exact H56.out _ | with_reducible exact HSUM.out _ | with_reducible exact H95.out _ | with_reducible exact H92.out _ | with_reducible exact H52.out _)))
          have g1 := u1.out
          by_cases g2 : 1099511627776 < lf
          · have t20 : decide ((1099511627776 : Int) < (lf : Int)) = true := by simp; omega
            have t21 : decide (1099511627776 < lf) = true := by simp; omega
            have hp : Hid (pageB B.length m pg disk at_ = false) := Lib.hid (by rw [HPB.out]; simp; omega)
            clear g0 g1 g2
            repeat (go_big_quiet_step ((first | with_reducible exact H56.out _ | with_reducible exact HSUM.out _ | with_reducible exact H95.out _ | with_reducible exact H92.out _ | with_reducible exact H52.out _)))
            refine wpQuiet_nil ?_
            rintro _ ⟨⟨W, hBW⟩, rfl⟩
            have HBW2 := Lib.hid hBW
            clear hBW t00 t10 t11 t20 t21
            go_wp2_with fail
            go_meet
            exact ⟨by rw [hp.out]; rfl, HBW2.out⟩
          · skip
            have t20 : decide ((1099511627776 : Int) < (lf : Int)) = false := by simp; omega
            have t21 : decide (1099511627776 < lf) = false := by simp; omega
            have u2 := Lib.hid g2
            clear g2
            iterate 4 (go_big_quiet_step ((first | with_reducible exact H56.out _ | with_reducible exact HSUM.out _ | with_reducible exact H95.out _ | with_reducible exact H92.out _ | with_reducible exact H52.out _)))
            have g2 := u2.out
            by_cases g3 : st < 1
            · have t30 : decide ((st : Int) < 1) = true := by simp; omega
              have t31 : decide (st < 1) = true := by simp; omega
              have hp : Hid (pageB B.length m pg disk at_ = false) := Lib.hid (by rw [HPB.out]; simp; omega)
              clear g0 g1 g2 g3
              repeat (go_big_quiet_step ((first | with_reducible exact H56.out _ | with_reducible exact HSUM.out _ | with_reducible exact H95.out _ | with_reducible exact H92.out _ | with_reducible exact H52.out _)))
              refine wpQuiet_nil ?_
              rintro _ ⟨⟨W, hBW⟩, rfl⟩
              have HBW2 := Lib.hid hBW
              clear hBW t00 t10 t11 t20 t21 t30 t31
              go_wp2_with fail
              go_meet
              exact ⟨by rw [hp.out]; rfl, HBW2.out⟩
            · skip
              have t30 : decide ((st : Int) < 1) = false := by simp; omega
              have t31 : decide (st < 1) = false := by simp; omega
              have u3 := Lib.hid g3
              clear g3
              iterate 5 (go_big_quiet_step ((first | with_reducible exact H56.out _ | with_reducible exact HSUM.out _ | with_reducible exact H95.out _ | with_reducible exact H92.out _ | with_reducible exact H52.out _)))
              have g3 := u3.out
              by_cases g4 : q < st
              · have t40 : decide ((q : Int) < (st : Int)) = true := by simp; omega
                have t41 : decide (q < st) = true := by simp; omega
                have hp : Hid (pageB B.length m pg disk at_ = false) := Lib.hid (by rw [HPB.out]; simp; omega)
                clear g0 g1 g2 g3 g4
                repeat (go_big_quiet_step ((first | with_reducible exact H56.out _ | with_reducible exact HSUM.out _ | with_reducible exact H95.out _ | with_reducible exact H92.out _ | with_reducible exact H52.out _)))
                refine wpQuiet_nil ?_
                rintro _ ⟨⟨W, hBW⟩, rfl⟩
                have HBW2 := Lib.hid hBW
                clear hBW t00 t10 t11 t20 t21 t30 t31 t40 t41
                go_wp2_with fail
                go_meet
                exact ⟨by rw [hp.out]; rfl, HBW2.out⟩
              · skip
                have t40 : decide ((q : Int) < (st : Int)) = false := by simp; omega
                have t41 : decide (q < st) = false := by simp; omega
                have u4 := Lib.hid g4
                clear g4
                iterate 7 (go_big_quiet_step ((first | with_reducible exact H56.out _ | with_reducible exact HSUM.out _ | with_reducible exact H95.out _ | with_reducible exact H92.out _ | with_reducible exact H52.out _)))
                have g4 := u4.out
                by_cases g5 : en < 1
                · have t50 : decide ((en : Int) < 1) = true := by simp; omega
                  have t51 : decide (en < 1) = true := by simp; omega
                  have hp : Hid (pageB B.length m pg disk at_ = false) := Lib.hid (by rw [HPB.out]; simp; omega)
                  clear g0 g1 g2 g3 g4 g5
                  repeat (go_big_quiet_step ((first | with_reducible exact H56.out _ | with_reducible exact HSUM.out _ | with_reducible exact H95.out _ | with_reducible exact H92.out _ | with_reducible exact H52.out _)))
                  refine wpQuiet_nil ?_
                  rintro _ ⟨⟨W, hBW⟩, rfl⟩
                  have HBW2 := Lib.hid hBW
                  clear hBW t00 t10 t11 t20 t21 t30 t31 t40 t41 t50 t51
                  go_wp2_with fail
                  go_meet
                  exact ⟨by rw [hp.out]; rfl, HBW2.out⟩
                · skip
                  have t50 : decide ((en : Int) < 1) = false := by simp; omega
                  have t51 : decide (en < 1) = false := by simp; omega
                  have u5 := Lib.hid g5
                  clear g5
                  iterate 5 (go_big_quiet_step ((first | with_reducible exact H56.out _ | with_reducible exact HSUM.out _ | with_reducible exact H95.out _ | with_reducible exact H92.out _ | with_reducible exact H52.out _)))
                  have g5 := u5.out
                  by_cases g6 : B.length < en
                  · have t60 : decide ((B.length : Int) < (en : Int)) = true := by simp; omega
                    have t61 : decide (B.length < en) = true := by simp; omega
                    have hp : Hid (pageB B.length m pg disk at_ = false) := Lib.hid (by rw [HPB.out]; simp; omega)
                    clear g0 g1 g2 g3 g4 g5 g6
                    repeat (go_big_quiet_step ((first | with_reducible exact H56.out _ | with_reducible exact HSUM.out _ | with_reducible exact H95.out _ | with_reducible exact H92.out _ | with_reducible exact H52.out _)))
                    refine wpQuiet_nil ?_
                    rintro _ ⟨⟨W, hBW⟩, rfl⟩
                    have HBW2 := Lib.hid hBW
                    clear hBW t00 t10 t11 t20 t21 t30 t31 t40 t41 t50 t51 t60 t61
                    go_wp2_with fail
                    go_meet
                    exact ⟨by rw [hp.out]; rfl, HBW2.out⟩
                  · skip
                    have t60 : decide ((B.length : Int) < (en : Int)) = false := by simp; omega
                    have t61 : decide (B.length < en) = false := by simp; omega
                    have u6 := Lib.hid g6
                    clear g6
                    iterate 7 (go_big_quiet_step ((first | with_reducible exact H56.out _ | with_reducible exact HSUM.out _ | with_reducible exact H95.out _ | with_reducible exact H92.out _ | with_reducible exact H52.out _)))
                    have g6 := u6.out
                    by_cases g7 : dk = disk
                    rotate_left
                    · have t70 : ((dk : Int) != (disk : Int)) = true := by rw [bne_iff_ne]; omega
                      have hp : Hid (pageB B.length m pg disk at_ = false) := Lib.hid (by rw [HPB.out]; simp; omega)
                      clear g0 g1 g2 g3 g4 g5 g6 g7
                      repeat (go_big_quiet_step ((first | with_reducible exact H56.out _ | with_reducible exact HSUM.out _ | with_reducible exact H95.out _ | with_reducible exact H92.out _ | with_reducible exact H52.out _)))
                      refine wpQuiet_nil ?_
                      rintro _ ⟨⟨W, hBW⟩, rfl⟩
                      have HBW2 := Lib.hid hBW
                      clear hBW t00 t10 t11 t20 t21 t30 t31 t40 t41 t50 t51 t60 t61 t70
                      go_wp2_with fail
                      go_meet
                      exact ⟨by rw [hp.out]; rfl, HBW2.out⟩
                    · skip
                      have t70 : ((dk : Int) != (disk : Int)) = false := by rw [bne_eq_false_iff_eq]; omega
                      have u7 := Lib.hid g7
                      clear g7
                      iterate 9 (go_big_quiet_step ((first | with_reducible exact H56.out _ | with_reducible exact HSUM.out _ | with_reducible exact H95.out _ | with_reducible exact H92.out _ | with_reducible exact H52.out _)))
                      have g7 := u7.out
                      by_cases g8 : cn = B.length
                      rotate_left
                      · have t80 : ((cn : Int) != (B.length : Int)) = true := by rw [bne_iff_ne]; omega
                        have hp : Hid (pageB B.length m pg disk at_ = false) := Lib.hid (by rw [HPB.out]; simp; omega)
                        clear g0 g1 g2 g3 g4 g5 g6 g7 g8
                        repeat (go_big_quiet_step ((first | with_reducible exact H56.out _ | with_reducible exact HSUM.out _ | with_reducible exact H95.out _ | with_reducible exact H92.out _ | with_reducible exact H52.out _)))
                        refine wpQuiet_nil ?_
                        rintro _ ⟨⟨W, hBW⟩, rfl⟩
                        have HBW2 := Lib.hid hBW
                        clear hBW t00 t10 t11 t20 t21 t30 t31 t40 t41 t50 t51 t60 t61 t70 t80
                        go_wp2_with fail
                        go_meet
                        exact ⟨by rw [hp.out]; rfl, HBW2.out⟩
                      · skip
                        have t80 : ((cn : Int) != (B.length : Int)) = false := by rw [bne_eq_false_iff_eq]; omega
                        have hp : Hid (pageB B.length m pg disk at_ = true) := Lib.hid (by rw [HPB.out]; simp; omega)
                        clear g0 g1 g2 g3 g4 g5 g6 g7 g8
                        repeat (go_big_quiet_step ((first | with_reducible exact H56.out _ | with_reducible exact HSUM.out _ | with_reducible exact H95.out _ | with_reducible exact H92.out _ | with_reducible exact H52.out _)))
                        refine wpQuiet_nil ?_
                        rintro _ ⟨⟨W, hBW⟩, rfl⟩
                        have HBW2 := Lib.hid hBW
                        clear hBW t00 t10 t11 t20 t21 t30 t31 t40 t41 t50 t51 t60 t61 t70 t80
                        go_wp2_with fail
                        go_meet
                        exact ⟨by rw [hp.out]; rfl, HBW2.out⟩
    case rest =>
      obtain ⟨rfl, hBx⟩ := hcut
      rename_i wz
      have HBX := Lib.hid hBx
      have HBW := Lib.hid (belt HBC.out hBx)
      have z0 := (HX.out.2.2.below hBx HX.out.2.2.lt)
      have x0' := (HX.out.1.below hBx HX.out.1.lt)
      have a0 := z0.cell 0
      have a1 := z0.cell 1
      have a2 := z0.cell 2
      have b0 := z0.frozen 0
      have b1 := z0.frozen 1
      have b2 := z0.frozen 2
      have d0 := x0'.cell 0
      have d1 := x0'.cell 1
      have d2 := x0'.cell 2
      simp only [List.getElem?_toArray, List.getElem?_cons_zero, List.getElem?_cons_succ] at a0 a1 a2 d0 d1 d2
      have HZ0 := Lib.hid z0
      have HX0 := Lib.hid x0'
      clear hBx z0 x0' H56 H52 HSUM H95 H92 k51 kx1 kx2 hwd hwn
      cases hpb : pageB B.length m pg disk at_ with
      | false =>
        have HPF := Lib.hid hpb
        clear hpb
        have HS : Hid (soundB B.length m pg disk at_ = false) := Lib.hid (by unfold soundB; rw [HPF.out]; rfl)
        go_wp2_with fail
        have hq := ((HZ0.out.set 0 (.int .i64 0)).set 1 (.int .i64 0)).set 2 (.int .i64 0)
        have hbb : Below w.heap.size w (((wc.setCell ⟨w.heap.size, 0, none⟩ (.int .i64 0)).setCell ⟨w.heap.size, 1, none⟩ (.int .i64 0)).setCell ⟨w.heap.size, 2, none⟩ (.int .i64 0)) := below_set (below_set (below_set HBW.out _) _) _
        have q0 := hq.cell 0
        have q1 := hq.cell 1
        have q2 := hq.cell 2
        generalize (((wc.setCell ⟨w.heap.size, 0, none⟩ (.int .i64 0)).setCell ⟨w.heap.size, 1, none⟩ (.int .i64 0)).setCell ⟨w.heap.size, 2, none⟩ (.int .i64 0)) = wf at *
        simp at q0 q1 q2
        exact bodyPost_ret (v := .tuple #[.agg #[.int .i64 0, .int .i64 0, .int .i64 0], .bool false]) (by simp [results, Tryz.results150, go_sem, q0, q1, q2]) rfl ⟨(0, 0, 0), by rw [HS.out]; rfl, fun he => by rw [HS.out] at he; (cases he), hbb⟩
      | true =>
        have hpt : 1 ≤ lf ∧ lf ≤ 1099511627776 ∧ 1 ≤ st ∧ st ≤ q := by
          rw [HPB.out] at hpb
          simp only [Bool.and_eq_true, decide_eq_true_eq] at hpb
          omega
        have hl2 : l2 = lf := by
          have := HNAME.out.2.2.2
          rw [this]
          exact Nat.mod_eq_of_lt (by omega)
        have HPT := Lib.hid hpb
        clear hpb
        subst hl2
        obtain ⟨fi, hfi⟩ : ∃ fi, fi = firstF m l2 := ⟨_, rfl⟩
        have hfi2 : fi ≤ 512 := by rw [hfi]; exact firstF_le hfew
        have HF : Hid (Calls Tryz.prog 132 #[kindV l2 st en, .pointer (some ⟨d, 0, none⟩)] wc fun e w' => e = .returned (.int .i64 (fi : Nat)) ∧ Below wc.heap.size wc w') := Lib.hid (by
          rw [hfi]
          exact first_kind l2 st en wc (H.out.below HBW.out) (by omega))
        have HS : Hid (soundB B.length m pg disk at_ = (decide (fi ≤ at_) && decide (at_ < fi + st))) := Lib.hid (by
          unfold soundB
          have f1 := HNAME.out
          rw [HPT.out, Bool.true_and]
          unfold kindOf lifeOf
          rw [← f1.1, ← f1.2.1, ← hfi])
        have HK : Hid (kindOf pg = (l2, st, en)) := Lib.hid (by
          have f1 := HNAME.out
          unfold kindOf lifeOf
          rw [← f1.1, ← f1.2.1, f1.2.2.1]
          simp)
        have hst0 := HBOUND.out
        clear hfi
        go_upto_region 7 with (go_at_call 132; refine HF.out.mono ?_; rintro e w2 ⟨rfl, hb2⟩)
        have hbw2 := belt HBW.out hb2
        have z2 := HZ0.out.below hb2 HZ0.out.lt
        have x2 := HX0.out.below hb2 HX0.out.lt
        have HZ2 := Lib.hid z2
        obtain ⟨sI, hsI⟩ : ∃ sI : Int, sI = (at_ : Int) - (fi : Int) := ⟨_, rfl⟩
        rw [← hsI]
        have a0 := z2.cell 0
        have a1 := z2.cell 1
        have a2 := z2.cell 2
        have b0 := z2.frozen 0
        have b1 := z2.frozen 1
        have b2 := z2.frozen 2
        have d0 := x2.cell 0
        have d1 := x2.cell 1
        have d2 := x2.cell 2
        simp only [List.getElem?_toArray, List.getElem?_cons_zero, List.getElem?_cons_succ] at a0 a1 a2 d0 d1 d2
        have HBW2 := Lib.hid hbw2
        have hst1 := hst0.2.1
        have HFIN : ∀ bb : Bool, Hid (soundB B.length m pg disk at_ = bb) → ∀ w3 : World, w3 = ((w2.setCell ⟨w.heap.size, 0, none⟩ (.int .i64 l2)).setCell ⟨w.heap.size, 1, none⟩ (.int .i64 st)).setCell ⟨w.heap.size, 2, none⟩ (.int .i64 en) → Box w3 w.heap.size 139 #[.int .i64 l2, .int .i64 st, .int .i64 en] ∧ Below w.heap.size w w3 := by
          rintro bb _ w3 rfl
          exact ⟨((HZ2.out.set 0 _).set 1 _).set 2 _, below_set (below_set (below_set HBW2.out _) _) _⟩
        have HSI := Lib.hid hsI
        have hXb : X ≠ w.heap.size := HX.out.2.1
        have x3 := ((x2.far (p := ⟨w.heap.size, 0, none⟩) hXb (.int .i64 l2)).far (p := ⟨w.heap.size, 1, none⟩) hXb (.int .i64 st)).far (p := ⟨w.heap.size, 2, none⟩) hXb (.int .i64 en)
        have g0 := x3.cell 0
        have g1 := x3.cell 1
        have g2 := x3.cell 2
        simp only [List.getElem?_toArray, List.getElem?_cons_zero, List.getElem?_cons_succ] at g0 g1 g2
        clear hbw2 z2 x2 hb2 hsI hst0 HX HZ0 HX0 x3 hXb
        by_cases hs1 : 0 ≤ sI
        · cases hs2 : decide (sI < (st : Int)) with
          | false =>
            have HSB : Hid (soundB B.length m pg disk at_ = false) := Lib.hid (by rw [HS.out]; have h1 := HSI.out; simp at hs2; simp; omega)
            go_region
            all_goals
              go_wp2_with fail
              obtain ⟨hq, hbb⟩ := HFIN _ HSB _ rfl
              have q0 := hq.cell 0
              have q1 := hq.cell 1
              have q2 := hq.cell 2
              clear g0 g1 g2
              generalize (((w2.setCell ⟨w.heap.size, 0, none⟩ (.int .i64 l2)).setCell ⟨w.heap.size, 1, none⟩ (.int .i64 st)).setCell ⟨w.heap.size, 2, none⟩ (.int .i64 en)) = wf at *
              simp at q0 q1 q2
              exact bodyPost_ret (v := .tuple #[.agg #[.int .i64 l2, .int .i64 st, .int .i64 en], .bool false]) (by simp [results, Tryz.results150, go_sem, q0, q1, q2]) rfl ⟨(l2, st, en), by rw [HSB.out], fun _ => HK.out.symm, hbb.drew⟩
          | true =>
            have HSB : Hid (soundB B.length m pg disk at_ = true) := Lib.hid (by rw [HS.out]; have h1 := HSI.out; simp at hs2; simp; omega)
            go_region
            all_goals
              go_wp2_with fail
              obtain ⟨hq, hbb⟩ := HFIN _ HSB _ rfl
              have q0 := hq.cell 0
              have q1 := hq.cell 1
              have q2 := hq.cell 2
              clear g0 g1 g2
              generalize (((w2.setCell ⟨w.heap.size, 0, none⟩ (.int .i64 l2)).setCell ⟨w.heap.size, 1, none⟩ (.int .i64 st)).setCell ⟨w.heap.size, 2, none⟩ (.int .i64 en)) = wf at *
              simp at q0 q1 q2
              exact bodyPost_ret (v := .tuple #[.agg #[.int .i64 l2, .int .i64 st, .int .i64 en], .bool true]) (by simp [results, Tryz.results150, go_sem, q0, q1, q2]) rfl ⟨(l2, st, en), by rw [HSB.out], fun _ => HK.out.symm, hbb.drew⟩
        · have HSB : Hid (soundB B.length m pg disk at_ = false) := Lib.hid (by rw [HS.out]; have h1 := HSI.out; simp; omega)
          have hs2 : decide (0 ≤ sI) = false := by simpa using hs1
          go_region
          all_goals
            go_wp2_with fail
            obtain ⟨hq, hbb⟩ := HFIN _ HSB _ rfl
            have q0 := hq.cell 0
            have q1 := hq.cell 1
            have q2 := hq.cell 2
            clear g0 g1 g2
            generalize (((w2.setCell ⟨w.heap.size, 0, none⟩ (.int .i64 l2)).setCell ⟨w.heap.size, 1, none⟩ (.int .i64 st)).setCell ⟨w.heap.size, 2, none⟩ (.int .i64 en)) = wf at *
            simp at q0 q1 q2
            exact bodyPost_ret (v := .tuple #[.agg #[.int .i64 l2, .int .i64 st, .int .i64 en], .bool false]) (by simp [results, Tryz.results150, go_sem, q0, q1, q2]) rfl ⟨(l2, st, en), by rw [HSB.out], fun _ => HK.out.symm, hbb.drew⟩
end Go.Proofs.YtkdjibejnncmfaaGreatDoor.Co

/- A map from kinds to rows of rows, in memory. -/
namespace Go.Proofs.YtkdjibejnncmfaaGreatDoor.Co
open Go.RowKit Go.Maps Go.Proofs.YtkdjibejnncmfaaGreatDoorW.PrintWords Go.Proofs.YtkdjibejnncmfaaGreatDoorW.PrintLast Go.Proofs.YtkdjibejnncmfaaGreatDoorW.PrintMore
set_option linter.unusedVariables false
set_option linter.unusedSimpArgs false
set_option maxRecDepth 100000
theorem row139 : (139 : TypeId) < Tryz.prog.types.size := of_decide_eq_true (by kernel_rfl)
theorem laidOut : laidOutB Tryz.prog = true := by kernel_rfl
theorem kt139 : Tryz.prog.keyType 139 = true := by kernel_rfl
theorem cellsOf139 : Tryz.prog.cellsOf 139 = 3 := by kernel_rfl
theorem cellsOf3 : Tryz.prog.cellsOf 3 = 1 := by kernel_rfl
theorem tsz : ∃ d, Tryz.prog.types.size = d + 1 := Nat.exists_eq_succ_of_ne_zero (Nat.ne_of_gt (Nat.lt_of_le_of_lt (Nat.zero_le _) row139))
theorem law139 : Keyed Tryz.prog 139 := Keyed.of_law (deep_law_laid laidOut (m := 2) (by omega) row139 (by kernel_rfl) (by kernel_rfl))
theorem kl_int (d : Nat) (n : Int) (h : (Lit.int .i64 n).wf = true) : Tryz.prog.keyLits (d + 1) 3 [.int .i64 n] = some [.int .i64 n] := by
  unfold Program.keyLits
  rw [Tryz.underlying3]
  simp [h]
theorem kl_kind (d : Nat) (a b c : Int) (ha : (Lit.int .i64 a).wf = true) (hb : (Lit.int .i64 b).wf = true) (hc : (Lit.int .i64 c).wf = true) : Tryz.prog.keyLits (d + 1 + 1) 139 [.int .i64 a, .int .i64 b, .int .i64 c] = some [.int .i64 a, .int .i64 b, .int .i64 c] := by
  unfold Program.keyLits
  rw [Tryz.underlying139]
  simp [cellsOf139, cellsOf3, kl_int, ha, hb, hc]
theorem kof (a b c : Int) (ha : (Lit.int .i64 a).wf = true) (hb : (Lit.int .i64 b).wf = true) (hc : (Lit.int .i64 c).wf = true) : keyOf Tryz.prog 139 (.agg #[.int .i64 a, .int .i64 b, .int .i64 c]) = some (.string (keyBytes [.int .i64 a, .int .i64 b, .int .i64 c])) := by
  obtain ⟨d, hd⟩ := tsz
  unfold keyOf
  rw [Tryz.underlying139]
  simp only [kt139, hd]
  simp [Value.formed, Tryz.underlying139, cellsOf139, Value.cells]
  rw [kl_kind d a b c ha hb hc]
  simp
theorem kl_int_inv {d : Nat} {v : Value} {l : List Lit} (h : Tryz.prog.keyLits (d + 1) 3 [v] = some l) : ∃ n, v = .int .i64 n := by
  unfold Program.keyLits at h
  rw [Tryz.underlying3] at h
  cases v <;> simp at h
  rename_i k n
  obtain ⟨⟨rfl, h2⟩, _⟩ := h
  exact ⟨n, rfl⟩
theorem kinv {v : Value} {kl : Lit} (h : keyOf Tryz.prog 139 v = some kl) : ∃ x : Int × Int × Int, v = .agg #[.int .i64 x.1, .int .i64 x.2.1, .int .i64 x.2.2] := by
  obtain ⟨d, hd⟩ := tsz
  unfold keyOf at h
  rw [Tryz.underlying139] at h
  simp only [kt139, hd] at h
  cases hf : v.formed Tryz.prog 139 with
  | false => rw [hf] at h; simp at h
  | true =>
    rw [hf] at h
    simp at h
    obtain ⟨ls, hk, _⟩ := h
    unfold Value.formed at hf
    rw [Tryz.underlying139] at hf
    cases v <;> simp [cellsOf139] at hf
    rename_i cs
    obtain ⟨cs⟩ := cs
    simp at hf
    match cs, hf with
    | [c0, c1, c2], _ =>
      simp only [Value.cells] at hk
      unfold Program.keyLits at hk
      rw [Tryz.underlying139] at hk
      simp [cellsOf139, cellsOf3] at hk
      cases h0 : Tryz.prog.keyLits (d + 1) 3 [c0] with
      | none => rw [h0] at hk; simp at hk
      | some l0 =>
        cases h1 : Tryz.prog.keyLits (d + 1) 3 [c1] with
        | none => rw [h0, h1] at hk; simp at hk
        | some l1 =>
          cases h2 : Tryz.prog.keyLits (d + 1) 3 [c2] with
          | none => rw [h0, h1, h2] at hk; simp at hk
          | some l2 =>
            obtain ⟨n0, rfl⟩ := kl_int_inv h0
            obtain ⟨n1, rfl⟩ := kl_int_inv h1
            obtain ⟨n2, rfl⟩ := kl_int_inv h2
            exact ⟨(n0, n1, n2), rfl⟩
/-- Kinds whose numbers are small. -/
def OkK (x : Kn) : Prop := x.1 < 4000000000000 ∧ x.2.1 ≤ 70000 ∧ x.2.2 ≤ 300
theorem wf_i64 (n : Nat) (h : n < 9223372036854775808) : (Lit.int .i64 (n : Int)).wf = true := by
  have h1 : IntKind.i64.min = -9223372036854775808 := by decide
  have h2 : IntKind.i64.max = 9223372036854775807 := by decide
  simp [Lit.wf, h1, h2]
  omega
def klit (x : Kn) : Lit := .string (keyBytes [.int .i64 x.1, .int .i64 x.2.1, .int .i64 x.2.2])
theorem keyOf_kV {x : Kn} (h : OkK x) : keyOf Tryz.prog 139 (kV x) = some (klit x) :=
  kof _ _ _ (wf_i64 _ (by have := h.1; omega)) (wf_i64 _ (by have := h.2.1; omega)) (wf_i64 _ (by have := h.2.2; omega))
theorem kV_inj {x y : Kn} (h : kV x = kV y) : x = y := by
  obtain ⟨a, b, c⟩ := x
  obtain ⟨a', b', c'⟩ := y
  simp only [Value.agg.injEq, Array.mk.injEq, List.cons.injEq, Value.int.injEq, true_and, and_true] at h
  obtain ⟨h1, h2, h3⟩ := h
  have : a = a' ∧ b = b' ∧ c = c' := by omega
  obtain ⟨rfl, rfl, rfl⟩ := this
  rfl
theorem klit_inj {x y : Kn} (hx : OkK x) (hy : OkK y) (h : klit x = klit y) : x = y :=
  kV_inj (law139.inj (keyOf_kV hx) (by rw [h]; exact keyOf_kV hy))
theorem klit_key {x : Kn} (hx : OkK x) : WideAt.IsKeyLit (klit x) := law139.key (keyOf_kV hx)
/-- An element reads as itself. -/
abbrev RH : Value → Option (DataW Value × List MemPlace) := fun v => some (.held v, [])
abbrev nilS : Value := .slice none 0 0
theorem zero166 (w : World) : (zeroValue 166).run Tryz.prog w = .ok nilS w := by kernel_rfl
abbrev FK := Kn → List (List Int)
def lookV (F : FK) (G : Kn → Nat) (x : Kn) : Value := if F x = [] then nilS else .slice (some ⟨G x, 0, none⟩) (F x).length (F x).length
/-- Block M is a map of kinds: F tells the rows, G their blocks, V the rows' slices. -/
structure FAt (w : World) (base M n : Nat) (F : FK) (G : Kn → Nat) (V : Kn → Nat → Value) : Prop where
  own : ∃ D, w.ownsMap Tryz.prog 139 RH M n D ∧ IsMap D ∧ (∀ x, OkK x → D.atKey (klit x) (.held nilS) = .held (lookV F G x)) ∧ (∀ kl, has D kl = true → ∃ x, OkK x ∧ kl = klit x ∧ F x ≠ [])
  ok : ∀ x, F x ≠ [] → OkK x
  row : ∀ x, F x ≠ [] → Box w (G x) 34 ((List.range (F x).length).map (V x)).toArray ∧ base ≤ G x
  inner : ∀ x i, i < (F x).length → w.ownsRow base 3 1 (V x i) ((F x).getD i []).length (((F x).getD i []).map (Value.int .i64))
  apart : ∀ x i y j, i < (F x).length → j < (F y).length → (x, i) ≠ (y, j) → (V x i).ownBlock = none ∨ (V x i).ownBlock ≠ (V y j).ownBlock
  gapart : ∀ x y, F x ≠ [] → F y ≠ [] → G x = G y → x = y
  hM : base ≤ M
section
variable {w w' : World} {base M n : Nat} {F : FK} {G : Kn → Nat} {V : Kn → Nat → Value}
theorem FAt.lookup (h : FAt w base M n F G V) {x : Kn} (hx : OkK x) : (Instr.lookup 176 (.map (some M)) (kV x) false).run Tryz.prog w = .ok (lookV F G x) w := by
  obtain ⟨D, ho, hm, hl, _⟩ := h.own
  obtain ⟨v, ps, h1, h2⟩ := ho.lookup law139 Tryz.underlying176 (zero166 w) (zd := .held nilS) (zp := []) rfl (keyOf_kV hx)
  rw [hl x hx] at h2
  simp only [Option.some.injEq, Prod.mk.injEq, DataW.held.injEq] at h2
  rw [h1, h2.1]
theorem FAt.ne_M (h : FAt w base M n F G V) : ∃ es clock, w.heap[M]? = some (.map es clock) := by
  obtain ⟨D, ho, _⟩ := h.own
  obtain ⟨es, clock, hb, _⟩ := ho
  exact ⟨es, clock, hb⟩
theorem FAt.M_lt (h : FAt w base M n F G V) : M < w.heap.size := by
  obtain ⟨es, clock, hb⟩ := h.ne_M
  exact (Array.getElem?_eq_some_iff.1 hb).1
/-- The map and its rows stay while nothing but other blocks is written. -/
theorem FAt.below (h : FAt w base M n F G V) (hb : Below w.heap.size w w') : FAt w' base M n F G V := by
  obtain ⟨D, ho, hm, hl, hh⟩ := h.own
  refine { h with own := ⟨D, ?_, hm, hl, hh⟩, row := fun x hx => ?_, inner := fun x i hi => own_below (h.inner x i hi) hb }
  · have hlt := ho.lt
    obtain ⟨es, clock, hb2, F1, hs, hD⟩ := ho
    exact ⟨es, clock, (hb.block M hlt).trans hb2, F1, hs, hD⟩
  · obtain ⟨h1, h2⟩ := h.row x hx
    exact ⟨h1.below hb h1.lt, h2⟩
def updF {α : Type} (F : Kn → α) (x : Kn) (v : α) : Kn → α := fun y => if y = x then v else F y
theorem updF_same {α : Type} (F : Kn → α) (x : Kn) (v : α) : updF F x v x = v := by unfold updF; rw [if_pos rfl]
theorem updF_other {α : Type} (F : Kn → α) {x y : Kn} (v : α) (h : y ≠ x) : updF F x v y = F y := by unfold updF; rw [if_neg h]
/-- A new kind. -/
theorem FAt.make (h : FAt w base M n F G V) {x : Kn} (hx : OkK x) (hF : F x = []) (hs : 1 ≤ x.2.1) (hn : n < maxLen) {w1 : World} (hbw : Below w.heap.size w w1) {g : Nat} (hg : w.heap.size ≤ g) (hbase : base ≤ g) (hnew : Box w1 g 34 (Array.replicate x.2.1 nilS)) :
    ∃ w', (Instr.mapUpdate 176 (.map (some M)) (kV x) (.slice (some ⟨g, 0, none⟩) x.2.1 x.2.1)).run Tryz.prog w1 = .ok () w' ∧
      FAt w' base M (n + 1) (updF F x (List.replicate x.2.1 [])) (updF G x g) (updF V x (fun _ => nilS)) ∧ w1.grownBy w' (some M) := by
  have h1 := h.below hbw
  obtain ⟨D, ho1, hm, hl, hh⟩ := h1.own
  obtain ⟨w', hrun, hown, hgr⟩ := ho1.update law139 Tryz.underlying176 hn (val := .slice (some ⟨g, 0, none⟩) x.2.1 x.2.1) (keyOf_kV hx) rfl
  refine ⟨w', hrun, ?_, hgr⟩
  have hne : List.replicate x.2.1 ([] : List Int) ≠ [] := by intro e; have := congrArg List.length e; simp at this; omega
  have boxM : ∀ g e cs, Box w1 g e cs → some g ≠ some M := by
    intro g e cs hb e2
    injection e2 with e2
    subst e2
    obtain ⟨es, clock, hb2⟩ := h1.ne_M
    unfold Box at hb
    rw [hb] at hb2
    cases hb2
  have ownM : ∀ v k xs, w1.ownsRow base 3 1 v k xs → v.ownBlock = none ∨ v.ownBlock ≠ some M := by
    intro v k xs ho2
    by_cases e : v.ownBlock = none
    · exact .inl e
    · refine .inr fun e2 => ?_
      obtain ⟨cells, hc⟩ := own_typed ho2 M e2
      obtain ⟨es, clock, hb2⟩ := h1.ne_M
      rw [hc] at hb2
      cases hb2
  have own_kept : ∀ v k xs, w1.ownsRow base 3 1 v k xs → w'.ownsRow base 3 1 v k xs := by
    intro v k xs ho2
    refine own_move ho2 (fun k hk => hgr.block k (own_lt ho2 k hk) ?_)
    intro e
    rcases ownM v _ xs ho2 with h3 | h3
    · rw [h3] at hk; cases hk
    · exact h3 (hk.trans e)
  refine { own := ⟨_, hown, hm.put _ _, ?_, ?_⟩, ok := ?_, row := ?_, inner := ?_, apart := ?_, gapart := ?_, hM := h.hM }
  · intro y hy
    by_cases e : y = x
    · subst e
      rw [Maps.atKey_put_same hm (klit_key hx)]
      unfold lookV
      rw [updF_same, updF_same, if_neg hne, List.length_replicate]
    · rw [Maps.atKey_put_other (fun e2 => e (klit_inj hy hx e2)), hl y hy]
      unfold lookV
      rw [updF_other _ _ e, updF_other _ _ e]
  · intro kl hk
    by_cases e : kl = klit x
    · exact ⟨x, hx, e, by rw [updF_same]; exact hne⟩
    · rw [Maps.has_put_other e] at hk
      obtain ⟨y, h1, h2, h3⟩ := hh kl hk
      have hyx : y ≠ x := fun e2 => e (by rw [h2, e2])
      exact ⟨y, h1, h2, by rw [updF_other _ _ hyx]; exact h3⟩
  · intro y hy
    by_cases e : y = x
    · subst e; exact hx
    · rw [updF_other _ _ e] at hy; exact h.ok y hy
  · intro y hy
    by_cases e : y = x
    · subst e
      rw [updF_same, updF_same, updF_same, List.length_replicate]
      refine ⟨?_, hbase⟩
      have : ((List.range y.2.1).map (fun _ => nilS)).toArray = Array.replicate y.2.1 nilS := by
        apply Array.ext
        · simp
        · intro i h1 h2; simp
      rw [this]
      exact hnew.grown hgr (boxM _ _ _ hnew)
    · rw [updF_other _ _ e] at hy
      rw [updF_other _ _ e, updF_other _ _ e, updF_other _ _ e]
      obtain ⟨h2, h3⟩ := h1.row y hy
      exact ⟨h2.grown hgr (boxM _ _ _ h2), h3⟩
  · intro y i hi
    by_cases e : y = x
    · subst e
      rw [updF_same, updF_same]
      rw [updF_same, List.length_replicate] at hi
      have : (List.replicate y.2.1 ([] : List Int)).getD i [] = [] := by
        rw [List.getD_eq_getElem?_getD, List.getElem?_replicate]; split <;> rfl
      rw [this]
      exact World.ownsRow_nil _ _ _ _
    · rw [updF_other _ _ e] at hi
      rw [updF_other _ _ e, updF_other _ _ e]
      exact own_kept _ _ _ (h1.inner y i hi)
  · intro y i z j hi hj hne2
    by_cases e : y = x
    · subst e
      rw [updF_same]
      exact .inl rfl
    · rw [updF_other _ _ e] at hi ⊢
      by_cases e2 : z = x
      · subst e2
        rw [updF_same]
        by_cases e3 : (V y i).ownBlock = none
        · exact .inl e3
        · exact .inr (by intro e4; exact e3 e4)
      · rw [updF_other _ _ e2] at hj ⊢
        exact h.apart y i z j hi hj hne2
  · intro y z hy hz e
    by_cases e1 : y = x
    · subst e1
      by_cases e2 : z = y
      · exact e2.symm
      · rw [updF_same, updF_other _ _ e2] at e
        rw [updF_other _ _ e2] at hz
        have := (h.row z hz).1.lt
        omega
    · rw [updF_other _ _ e1] at e hy
      by_cases e2 : z = x
      · subst e2
        rw [updF_same] at e
        have := (h.row y hy).1.lt
        omega
      · rw [updF_other _ _ e2] at e hz
        exact h.gapart y z hy hz e
end
end Go.Proofs.YtkdjibejnncmfaaGreatDoor.Co

/- A disk more in a row of a kind. -/
namespace Go.Proofs.YtkdjibejnncmfaaGreatDoor.Co
open Go.RowKit Go.Maps Go.Proofs.YtkdjibejnncmfaaGreatDoorW.PrintWords Go.Proofs.YtkdjibejnncmfaaGreatDoorW.PrintLast Go.Proofs.YtkdjibejnncmfaaGreatDoorW.PrintMore
set_option linter.unusedVariables false
set_option linter.unusedSimpArgs false
set_option maxRecDepth 100000
section
variable {w w' w1 w2 : World} {base M n : Nat} {F : FK} {G : Kn → Nat} {V : Kn → Nat → Value}
theorem FAt.box_ne_own (h : FAt w base M n F G V) {x y : Kn} {i : Nat} (hx : F x ≠ []) (hi : i < (F y).length) : some (G x) ≠ (V y i).ownBlock := by
  intro e
  obtain ⟨cells, hc⟩ := own_typed (h.inner y i hi) (G x) e.symm
  have := (h.row x hx).1
  unfold Box at this
  rw [this] at hc
  cases hc
theorem FAt.M_ne_own (h : FAt w base M n F G V) {y : Kn} {i : Nat} (hi : i < (F y).length) : some M ≠ (V y i).ownBlock := by
  intro e
  obtain ⟨cells, hc⟩ := own_typed (h.inner y i hi) M e.symm
  obtain ⟨es, clock, hb⟩ := h.ne_M
  rw [hb] at hc
  cases hc
theorem FAt.cell (h : FAt w base M n F G V) {x : Kn} {i : Nat} (hi : i < (F x).length) : w.cell? ⟨G x, i, none⟩ = some (V x i) ∧ w.frozen? ⟨G x, i, none⟩ = false := by
  have hx : F x ≠ [] := by intro e; rw [e] at hi; simp at hi
  obtain ⟨h1, _⟩ := h.row x hx
  refine ⟨?_, h1.frozen i⟩
  rw [h1.cell i]
  simp [hi]
/-- What is behind an append to a row is seen at the other blocks. -/
theorem FAt.cell_grown (h : FAt w1 base M n F G V) {x : Kn} {i : Nat} (hi : i < (F x).length) (hg : w1.grownBy w2 (V x i).ownBlock) : w2.cell? ⟨G x, i, none⟩ = some (V x i) ∧ w2.frozen? ⟨G x, i, none⟩ = false := by
  have hx : F x ≠ [] := by intro e; rw [e] at hi; simp at hi
  have hb := (h.row x hx).1.grown hg (h.box_ne_own hx hi)
  refine ⟨?_, hb.frozen i⟩
  rw [hb.cell i]
  simp [hi]
theorem FAt.lookup_grown (h : FAt w1 base M n F G V) {x y : Kn} {i : Nat} (hy : OkK y) (hi : i < (F x).length) (hg : w1.grownBy w2 (V x i).ownBlock) : (Instr.lookup 176 (.map (some M)) (kV y) false).run Tryz.prog w2 = .ok (lookV F G y) w2 := by
  obtain ⟨D, ho, hm, hl, _⟩ := h.own
  obtain ⟨v, ps, h1, h2⟩ := (ho.kept hg (h.M_ne_own hi)).lookup law139 Tryz.underlying176 (zero166 w2) (zd := .held nilS) (zp := []) rfl (keyOf_kV hy)
  rw [hl y hy] at h2
  simp only [Option.some.injEq, Prod.mk.injEq, DataW.held.injEq] at h2
  rw [h1, h2.1]
theorem FAt.push (h : FAt w1 base M n F G V) {x : Kn} {i : Nat} (hi : i < (F x).length) (d : Int) {v' : Value} (hbase : base ≤ w1.heap.size)
    (hown : w2.ownsRow base 3 1 v' (((F x).getD i []).length + 1) (((F x).getD i []).map (Value.int .i64) ++ [.int .i64 d])) (hgrow : w1.grownBy w2 (V x i).ownBlock) (hat : v'.ownBlock = (V x i).ownBlock ∨ v'.ownBlock = some w1.heap.size) :
    FAt (w2.setCell ⟨G x, i, none⟩ v') base M n (updF F x ((F x).set i ((F x).getD i [] ++ [d]))) G (updF V x (fun j => if j = i then v' else V x j)) := by
  have hx : F x ≠ [] := by intro e; rw [e] at hi; simp at hi
  have hbx := (h.row x hx).1.grown hgrow (h.box_ne_own hx hi)
  obtain ⟨w3, hw3⟩ : ∃ w3, w3 = w2.setCell ⟨G x, i, none⟩ v' := ⟨_, rfl⟩
  have hbx3 := hbx.set i v'
  rw [← hw3] at hbx3 ⊢
  have hblk : ∀ k, k ≠ G x → w3.heap[k]? = w2.heap[k]? := fun k hk => by rw [hw3]; exact Below.heap_setCell w2 ⟨G x, i, none⟩ v' k hk
  have hset : (F x).set i ((F x).getD i [] ++ [d]) ≠ [] := by
    intro e; have := congrArg List.length e; rw [List.length_set] at this; simp at this; exact hx this
  have hFne : ∀ y, updF F x ((F x).set i ((F x).getD i [] ++ [d])) y ≠ [] ↔ F y ≠ [] := by
    intro y
    by_cases e : y = x
    · subst e; rw [updF_same]; exact ⟨fun _ => hx, fun _ => hset⟩
    · rw [updF_other _ _ e]
  have hFl : ∀ y, (updF F x ((F x).set i ((F x).getD i [] ++ [d])) y).length = (F y).length := by
    intro y
    by_cases e : y = x
    · subst e; rw [updF_same, List.length_set]
    · rw [updF_other _ _ e]
  have gx_ne : ∀ y j, j < (F y).length → (V y j).ownBlock ≠ some (G x) := fun y j hj e => h.box_ne_own hx hj e.symm
  have other : ∀ y j, j < (F y).length → (y, j) ≠ (x, i) → w3.ownsRow base 3 1 (V y j) ((F y).getD j []).length (((F y).getD j []).map (Value.int .i64)) := by
    intro y j hj hne
    have ho := h.inner y j hj
    refine own_move ho (fun k hk => ?_)
    have hk2 : k ≠ G x := fun e => gx_ne y j hj (by rw [hk, e])
    rw [hblk k hk2]
    refine hgrow.block k (own_lt ho k hk) ?_
    intro e
    rcases h.apart y j x i hj hi hne with h4 | h4
    · rw [h4] at hk; cases hk
    · exact h4 (hk.trans e)
  have vnew : v'.ownBlock ≠ some (G x) := by
    intro e
    rcases hat with h5 | h5
    · exact gx_ne x i hi (h5.symm.trans e)
    · rw [h5] at e
      injection e with e
      have := (h.row x hx).1.lt
      omega
  have newOwn : w3.ownsRow base 3 1 v' (((F x).getD i []).length + 1) (((F x).getD i []).map (Value.int .i64) ++ [.int .i64 d]) := own_move hown (fun k hk => hblk k (fun e => vnew (by rw [hk, e])))
  have Vx : ∀ j, updF V x (fun j => if j = i then v' else V x j) x j = if j = i then v' else V x j := fun j => by rw [updF_same]
  obtain ⟨D, ho, hm, hl, hh⟩ := h.own
  refine { own := ⟨D, ?_, hm, ?_, ?_⟩, ok := ?_, row := ?_, inner := ?_, apart := ?_, gapart := ?_, hM := h.hM }
  · have hlt := ho.lt
    obtain ⟨es, clock, hb2, F1, hs, hD⟩ := ho
    refine ⟨es, clock, ?_, F1, hs, hD⟩
    have hMG : M ≠ G x := by
      intro e
      have := (h.row x hx).1
      unfold Box at this
      rw [← e, hb2] at this
      cases this
    rw [hblk M hMG, hgrow.block M hlt (h.M_ne_own hi)]
    exact hb2
  · intro y hy
    rw [hl y hy]
    unfold lookV
    by_cases e : F y = []
    · rw [if_pos e, if_pos]
      have := (hFne y)
      by_cases e2 : updF F x ((F x).set i ((F x).getD i [] ++ [d])) y = []
      · exact e2
      · exact absurd e (this.1 e2)
    · rw [if_neg e, if_neg ((hFne y).2 e), hFl]
  · intro kl hk
    obtain ⟨y, h1, h2, h3⟩ := hh kl hk
    exact ⟨y, h1, h2, (hFne y).2 h3⟩
  · intro y hy
    exact h.ok y ((hFne y).1 hy)
  · intro y hy
    have hy2 := (hFne y).1 hy
    rw [hFl]
    by_cases e : y = x
    · subst e
      refine ⟨?_, (h.row y hx).2⟩
      have : (List.map (updF V y (fun j => if j = i then v' else V y j) y) (List.range (F y).length)).toArray = ((List.map (V y) (List.range (F y).length)).toArray).setIfInBounds i v' := by
        apply Array.ext
        · simp
        · intro k h1 h2
          simp only [List.getElem_toArray, List.getElem_map, List.getElem_range]
          rw [Vx k]
          by_cases e2 : k = i
          · subst e2; simp
          · rw [if_neg e2, Array.getElem_setIfInBounds (by simpa using h2), if_neg (fun e => e2 e.symm)]; simp
      rw [this]
      exact hbx3
    · rw [updF_other _ _ e]
      obtain ⟨h1, h2⟩ := h.row y hy2
      refine ⟨?_, h2⟩
      have hg := h1.grown hgrow (h.box_ne_own hy2 hi)
      have hne : G y ≠ G x := fun e2 => e (h.gapart y x hy2 hx e2)
      unfold Box at hg ⊢
      rw [hblk _ hne]; exact hg
  · intro y j hj
    rw [hFl] at hj
    by_cases e : y = x
    · subst e
      rw [Vx, updF_same]
      by_cases e2 : j = i
      · subst e2
        rw [if_pos rfl]
        have : ((F y).set j ((F y).getD j [] ++ [d])).getD j [] = (F y).getD j [] ++ [d] := by
          rw [List.getD_eq_getElem?_getD, List.getElem?_set_self hj]; rfl
        rw [this, List.length_append, List.map_append]
        exact newOwn
      · rw [if_neg e2]
        have : ((F y).set i ((F y).getD i [] ++ [d])).getD j [] = (F y).getD j [] := by
          rw [List.getD_eq_getElem?_getD, List.getElem?_set_ne (fun e => e2 e.symm), ← List.getD_eq_getElem?_getD]
        rw [this]
        exact other y j hj (by intro e3; injection e3 with _ e3; exact e2 e3)
    · rw [updF_other _ _ e, updF_other _ _ e]
      exact other y j hj (by intro e3; injection e3 with e3 _; exact e e3)
  · intro y j z q hj hq hne
    rw [hFl] at hj hq
    have new_vs : ∀ y j, j < (F y).length → (y, j) ≠ (x, i) → v'.ownBlock = none ∨ v'.ownBlock ≠ (V y j).ownBlock := by
      intro y j hj hne
      rcases hat with h5 | h5
      · rw [h5]; exact h.apart x i y j hi hj (fun e => hne e.symm)
      · refine .inr (fun e => ?_)
        have := own_lt (h.inner y j hj) _ (e.symm.trans h5)
        omega
    by_cases e1 : y = x
    · subst e1
      rw [Vx]
      by_cases e2 : j = i
      · subst e2
        rw [if_pos rfl]
        by_cases e3 : z = y
        · subst e3
          rw [Vx]
          have : q ≠ j := fun e => hne (by rw [e])
          rw [if_neg this]
          exact new_vs z q hq (by intro e4; injection e4 with _ e4; exact this e4)
        · rw [updF_other _ _ e3]
          exact new_vs z q hq (by intro e4; injection e4 with e4 _; exact e3 e4)
      · rw [if_neg e2]
        by_cases e3 : z = y
        · subst e3
          rw [Vx]
          by_cases e4 : q = i
          · subst e4
            rw [if_pos rfl]
            rcases new_vs z j hj (by intro e4; injection e4 with _ e4; exact e2 e4) with h6 | h6
            · by_cases e7 : (V z j).ownBlock = none
              · exact .inl e7
              · exact .inr (by rw [h6]; exact e7)
            · exact .inr (fun e => h6 e.symm)
          · rw [if_neg e4]
            exact h.apart z j z q hj hq hne
        · rw [updF_other _ _ e3]
          exact h.apart y j z q hj hq hne
    · rw [updF_other _ _ e1]
      by_cases e3 : z = x
      · subst e3
        rw [Vx]
        by_cases e4 : q = i
        · subst e4
          rw [if_pos rfl]
          rcases new_vs y j hj (by intro e4; injection e4 with e4 _; exact e1 e4) with h6 | h6
          · by_cases e7 : (V y j).ownBlock = none
            · exact .inl e7
            · exact .inr (by rw [h6]; exact e7)
          · exact .inr (fun e => h6 e.symm)
        · rw [if_neg e4]
          exact h.apart y j z q hj hq hne
      · rw [updF_other _ _ e3]
        exact h.apart y j z q hj hq hne
  · intro y z hy hz e
    exact h.gapart y z ((hFne y).1 hy) ((hFne z).1 hz) e
end
/-- What found finds: page by page, disk by disk. -/
def soundK (D : DS) (n m disk at_ : Nat) : Option Kn := if soundB n m (pageAt D disk at_) disk at_ then some (kindOf (pageAt D disk at_)) else none
def rowsOf (F : FK) (x : Kn) : List (List Int) := if F x = [] then List.replicate x.2.1 [] else F x
def stepF (F : FK) (m disk at_ : Nat) : Option Kn → FK
  | none => F
  | some x => updF F x ((rowsOf F x).set (at_ - firstF m x.1) ((rowsOf F x).getD (at_ - firstF m x.1) [] ++ [(disk : Int)]))
/-- .. behind k pages of a disk. -/
def diskTo (D : DS) (n m disk : Nat) (F : FK) : Nat → FK
  | 0 => F
  | k + 1 => stepF (diskTo D n m disk F k) m disk k (soundK D n m disk k)
/-- .. behind k disks. -/
def foundTo (D : DS) (n m : Nat) : Nat → FK
  | 0 => fun _ => []
  | k + 1 => diskTo D n m k (foundTo D n m k) m
def foundF (D : DS) (n m : Nat) : FK := foundTo D n m n
/-- Rows are as many as the kind says. -/
def FLen (F : FK) : Prop := ∀ x, F x ≠ [] → (F x).length = x.2.1 ∧ 1 ≤ x.2.1
end Go.Proofs.YtkdjibejnncmfaaGreatDoor.Co

/- Regions that draw, whose last operation waits for all the others: what the loads read need not hold behind it. -/
namespace Go.Proofs.YtkdjibejnncmfaaGreatDoor.Co
open Go.RowKit
set_option linter.unusedVariables false
set_option linter.unusedSimpArgs false
section
variable {P : Program} {ops : Array Oper} {Q : Exit → Act → World → Prop} {md : Region.Mode} {S : World → Prop} {L : Nat}
/-- Whatever order is picked: S holds behind each operation but number L. -/
def wpUntil (P : Program) (md : Region.Mode) (ops : Array Oper) (Q : Exit → Act → World → Prop) (S : World → Prop) (L : Nat) : Nat → Array Bool → Act → World → Prop
  | 0, lst, a, w => Region.ready md ops lst = [] ∧ Q .normal a w
  | n + 1, lst, a, w => (Region.ready md ops lst = [] → Q .normal a w) ∧
      ∀ i ∈ Region.ready md ops lst, wpOp P ops Q i (fun a' w' => (i ≠ L → S w') ∧ wpUntil P md ops Q S L n (lst.setIfInBounds i true) a' w') a w
theorem wpUntil.any : ∀ (n : Nat) (lst : Array Bool) (a : Act) (w : World), wpUntil P md ops Q S L n lst a w → wpAny P md ops Q n lst a w
  | 0, _, _, _, h => h
  | n + 1, _, _, _, h => ⟨h.1, fun i hi => wpOp_mono (fun a' w' h' => wpUntil.any n _ a' w' h'.2) (h.2 i hi)⟩
/-- An operation for which number L waits may be taken first, where it yields its value in each world that meets S. -/
theorem wpUntil.first {i : Nat} {oi : Oper} {v : Value} (hi : ops[i]? = some oi) (hsel : ∀ (j : Nat) (o : Oper) cs b, ops[j]? = some o → o.op ≠ .select cs b)
    (hQ : ∀ c a w, Q (.panic c) (a.put oi.dst v) w → Q (.panic c) a w) (hL : ∀ oL, ops[L]? = some oL → ∃ e ∈ oL.after, Region.binds md e = true ∧ e.on = i) :
    ∀ (n : Nat) (lst : Array Bool) (a : Act) (w : World),
      (∀ j oj, ops[j]? = some oj → j ≠ i → lst.getD j true = false → (∀ e ∈ oj.after, Region.binds md e = true → e.on ≠ i) → oi.apart ops oj = true) →
      i ∈ Region.ready md ops lst → YieldsIf P ops S oi v a → S w →
      wpUntil P md ops Q S L n (lst.setIfInBounds i true) (a.put oi.dst v) w → wpUntil P md ops Q S L (n + 1) lst a w := by
  intro n
  induction n with
  | zero =>
    intro lst a w _ hr hy hS H
    refine ⟨fun h => (by rw [h] at hr; cases hr), fun j hj => ?_⟩
    by_cases e : j = i
    · subst e; exact hy.wpOp hi hS ⟨fun _ => hS, H⟩
    · have := ready_mono hj e
      rw [H.1] at this
      cases this
  | succ n ih =>
    intro lst a w hfree hr hy hS H
    refine ⟨fun h => (by rw [h] at hr; cases hr), fun j hj => ?_⟩
    by_cases e : j = i
    · subst e; exact hy.wpOp hi hS ⟨fun _ => hS, H⟩
    · obtain ⟨hun, oj, hoj, hall⟩ := mem_ready.1 hj
      have hnot : ∀ e ∈ oj.after, Region.binds md e = true → e.on ≠ i := by
        intro d hd hb heq
        have h1 := hall d hd hb
        have h0 := (mem_ready.1 hr).1
        rw [heq] at h1
        rcases Nat.lt_or_ge i lst.size with h' | h'
        · simp [h'] at h0 h1; rw [h0] at h1; cases h1
        · simp [Array.getElem?_eq_none h'] at h1
      have hjL : j ≠ L := by
        intro e2
        subst e2
        obtain ⟨d, hd, hb, he⟩ := hL oj hoj
        exact hnot d hd hb he
      have hfree' : ∀ k ok, ops[k]? = some ok → k ≠ i → (lst.setIfInBounds j true).getD k true = false → (∀ e ∈ ok.after, Region.binds md e = true → e.on ≠ i) → oi.apart ops ok = true := by
        intro k ok hk hki hu hno
        refine hfree k ok hk hki ?_ hno
        by_cases e3 : j = k
        · subst e3; exact hun
        · rwa [getD_set_ne true e3] at hu
      refine wpOp_mono (fun a' w' h3 => ⟨fun _ => h3.2.1 hjL, ih (lst.setIfInBounds j true) a' w' hfree' (ready_mono hr (Ne.symm e)) h3.1 (h3.2.1 hjL) ?_⟩)
        (wpOp_putIf hoj (hfree j oj hoj e hun hnot) (fun cs b => hsel i oi cs b hi) (fun cs b => hsel j oj cs b hoj) hQ hy (H.2 j (ready_mono hj e)))
      rw [Array.setIfInBounds_comm _ _ e]
      exact h3.2.2
def waitsB (md : Region.Mode) (ops : Array Oper) (L i : Nat) : Bool := match ops[L]? with | some oL => oL.after.any fun e => Region.binds md e && e.on == i | none => true
theorem waitsB_spec {i : Nat} (h : waitsB md ops L i = true) : ∀ oL, ops[L]? = some oL → ∃ e ∈ oL.after, Region.binds md e = true ∧ e.on = i := by
  intro oL ho
  unfold waitsB at h
  rw [ho] at h
  obtain ⟨e, he, hb⟩ := Array.any_eq_true'.1 h
  simp only [Bool.and_eq_true, beq_iff_eq] at hb
  exact ⟨e, he, hb.1, hb.2⟩
theorem wpUntil.take {i : Nat} {oi : Oper} {v : Value} {n : Nat} {lst : Array Bool} {a : Act} {w : World} (hi : ops[i]? = some oi)
    (hs : Region.noSelect ops = true) (hf : Region.free md ops lst i = true) (hr : (Region.ready md ops lst).contains i = true) (hw : waitsB md ops L i = true)
    (hQ : ∀ c a w, Q (.panic c) (a.put oi.dst v) w → Q (.panic c) a w) (hy : YieldsIf P ops S oi v a) (hS : S w)
    (h : wpUntil P md ops Q S L n (lst.setIfInBounds i true) (a.put oi.dst v) w) : wpUntil P md ops Q S L (n + 1) lst a w :=
  wpUntil.first hi (Region.noSelect_spec hs) hQ (waitsB_spec hw) n lst a w (Region.free_spec hi hf) (by simpa using hr) hy hS h
/-- One operation alone may come up. -/
theorem wpUntil.only {i : Nat} {oi : Oper} {n : Nat} {lst : Array Bool} {a : Act} {w : World} (hi : ops[i]? = some oi) (hr : Region.ready md ops lst = [i])
    (h : ∀ K : Act → World → Prop, Hid (∀ a' w', (i ≠ L → S w') → wpUntil P md ops Q S L n (lst.setIfInBounds i true) a' w' → K a' w') → if Region.wanted oi (yielded ops a.tmps) = true then Oper.wp P oi a w K Q else K (a.put oi.dst undef) w) : wpUntil P md ops Q S L (n + 1) lst a w := by
  refine ⟨fun h0 => (by rw [h0] at hr; cases hr), fun j hj => ?_⟩
  rw [hr] at hj
  rw [List.mem_singleton] at hj
  subst hj
  exact wpOp_step hi (fun K hK => h K (Lib.hid fun a' w' hs hu => hK a' w' ⟨hs, hu⟩))
theorem wpUntil.done {lst : Array Bool} {a : Act} {w : World} (hr : Region.ready md ops lst = []) (h : Q .normal a w) : ∀ n, wpUntil P md ops Q S L n lst a w
  | 0 => ⟨hr, h⟩
  | _ + 1 => ⟨fun _ => h, by rw [hr]; simp⟩
theorem wp_region_until {id : Nat} {a : Act} {w : World} (hm : P.follows .mixedOrders = true) (hS : S w.drew)
    (h : S w.drew → wpUntil P .any ops Q S L ops.size (Array.replicate ops.size false) a w.drew) : (Code.region id ops true).wp P Q a w :=
  wp_region_any hm (wpUntil.any _ _ _ _ (h hS))
end
end Go.Proofs.YtkdjibejnncmfaaGreatDoor.Co
