/- Contracts of package coded, part 9. -/
import Derived.Test.YtkdjibejnncmfaaGreatDoorB7
import Derived.Test.YtkdjibejnncmfaaGreatDoorB8
import Derived.Test.YtkdjibejnncmfaaGreatDoorB1
/- Short lists that stand in the program, in memory. -/
namespace Go.Proofs.YtkdjibejnncmfaaGreatDoor.Co
open Go.RowKit Go.Proofs.YtkdjibejnncmfaaGreatDoorW.PrintWords Go.Proofs.YtkdjibejnncmfaaGreatDoorW.PrintLast Go.Proofs.YtkdjibejnncmfaaGreatDoorW.PrintMore
set_option linter.unusedVariables false
set_option linter.unusedSimpArgs false
set_option maxRecDepth 100000
/-- A row of texts in memory can be read as texts. -/
theorem own_tx {w : World} {base : Nat} {v : Value} {l : List ByteArray} (h : w.ownsRow base 9 1 v l.length (encs Value.string l)) : ∃ A c, v = .slice A l.length c ∧ l.length ≤ c ∧ c ≤ maxLen ∧ TxA w A l := by
  rcases h.2 with ⟨hv, h0⟩ | ⟨g, cap, cur, hv, hg, hgb, h1, h2, h3, h4⟩
  · exact ⟨none, 0, by rw [hv, h0], by omega, by omega, fun i hi => by omega⟩
  · refine ⟨some ⟨g, 0, none⟩, cap, hv, h1, h2, fun i hi => ⟨g, 0, rfl, ?_⟩⟩
    have hc : w.cell? ⟨g, 0 + i, none⟩ = cur[i]? := by rw [Nat.zero_add]; exact cell_of_row w g i cur 9 (0, 0) hgb
    rw [hc, ← Array.getElem?_toList]
    have h5 : (cur.toList.take (l.length * 1))[i]? = cur.toList[i]? := List.getElem?_take_of_lt (by omega)
    rw [← h5, h4]
    unfold encs
    rw [List.getElem?_map, List.getElem?_eq_getElem hi]
    unfold vs rdOf
    rw [Int.toNat_natCast, List.getD_eq_getElem?_getD, List.getElem?_eq_getElem hi]
    rfl
theorem TxA.below {w w' : World} {A : Option Addr} {l : List ByteArray} (h : TxA w A l) (hb : Below w.heap.size w w') : TxA w' A l := fun i hi => by
  obtain ⟨g, o, e, hc⟩ := h i hi
  exact ⟨g, o, e, cell_below hb hc⟩
theorem TxA.take {w : World} {A : Option Addr} {l : List ByteArray} (h : TxA w A l) (k : Nat) (hk : k ≤ l.length) : TxA w A (l.take k) := fun i hi => by
  have hi2 : i < k := by rw [List.length_take] at hi; omega
  obtain ⟨g, o, e, hc⟩ := h i (by omega)
  refine ⟨g, o, e, ?_⟩
  rw [hc]
  unfold vs rdOf
  rw [Int.toNat_natCast, List.getD_eq_getElem?_getD, List.getD_eq_getElem?_getD, List.getElem?_take_of_lt hi2]
/-- A new row of texts. -/
theorem lit_own (W : World) (l : List ByteArray) (hl : l.length ≤ 1000) : (W.alloc (.cells (l.map Value.string).toArray 9)).ownsRow W.heap.size 9 1 (.slice (some ⟨W.heap.size, 0, none⟩) l.length l.length) l.length (encs Value.string l) := by
  refine ⟨by simp [encs], .inr ⟨W.heap.size, l.length, (l.map Value.string).toArray, rfl, Nat.le_refl _, Box.new _ _ _, Nat.le_refl _, by unfold maxLen; omega, by simp, ?_⟩⟩
  rw [List.take_of_length_le (by simp)]
  rfl
theorem lit_ownI (W : World) (l : List Int) (hl : l.length ≤ 1000) : (W.alloc (.cells (l.map (Value.int .i64)).toArray 3)).ownsRow W.heap.size 3 1 (.slice (some ⟨W.heap.size, 0, none⟩) l.length l.length) l.length (encs (Value.int .i64) l) := by
  refine ⟨by simp [encs], .inr ⟨W.heap.size, l.length, (l.map (Value.int .i64)).toArray, rfl, Nat.le_refl _, Box.new _ _ _, Nat.le_refl _, by unfold maxLen; omega, by simp, ?_⟩⟩
  rw [List.take_of_length_le (by simp)]
  rfl
theorem C_of_own {w : World} {base : Nat} {A : Option Addr} {c : Nat} {l : List ByteArray} (h : w.ownsRow base 9 1 (.slice A l.length c) l.length (encs Value.string l)) : Kd.C Kd.string w A l.length l := by
  have hR : Kd.R Kd.string 9 w base (fun _ => True) (.slice A l.length c) l := Kd.R_of_own h (fun _ _ => trivial)
  obtain ⟨A', c', e, hc, hC⟩ := Kd.R_reads hR
  injection e with e1 e2 e3
  rw [e1]
  exact hC
theorem C_of_ownI {w : World} {base : Nat} {A : Option Addr} {c : Nat} {l : List Int} (h : w.ownsRow base 3 1 (.slice A l.length c) l.length (encs (Value.int .i64) l)) : Kd.C (Kd.int .i64) w A l.length l := by
  have hR : Kd.R (Kd.int .i64) 3 w base (fun _ => True) (.slice A l.length c) l := Kd.R_of_own h (fun _ _ => trivial)
  obtain ⟨A', c', e, hc, hC⟩ := Kd.R_reads hR
  injection e with e1 e2 e3
  rw [e1]
  exact hC
end Go.Proofs.YtkdjibejnncmfaaGreatDoor.Co

/- The walk of sane. -/
namespace Go.Proofs.YtkdjibejnncmfaaGreatDoor.Co
open Go.RowKit Go.Proofs.YtkdjibejnncmfaaGreatDoorW.PrintWords Go.Proofs.YtkdjibejnncmfaaGreatDoorW.PrintLast Go.Proofs.YtkdjibejnncmfaaGreatDoorW.PrintMore
set_option linter.unusedVariables false
set_option linter.unusedSimpArgs false
set_option maxRecDepth 100000
abbrev t1 : ByteArray := ⟨#[1]⟩
abbrev t2 : ByteArray := ⟨#[2]⟩
abbrev t4 : ByteArray := ⟨#[4]⟩
abbrev t5 : ByteArray := ⟨#[5]⟩
abbrev t6 : ByteArray := ⟨#[6]⟩
abbrev t7 : ByteArray := ⟨#[7]⟩
/-- What a call that makes texts returns. -/
def TxP (l : List ByteArray) (W : World) (e : Ending) (w' : World) : Prop := ∃ A c, e = .returned (.tuple #[.slice A l.length c, .int .i64 0]) ∧ l.length ≤ c ∧ c ≤ 9223372036854775807 ∧ TxA w' A l ∧ Below W.heap.size W w'
theorem tx_of {l : List ByteArray} {W w' : World} {v : Value} {r : List ByteArray × Int} (hr : r = (l, 0)) (h : Kd.R Kd.string 9 w' W.heap.size (fun _ => True) v r.1) (hb : Below W.heap.size W w') : TxP l W (.returned (.tuple #[v, .int .i64 r.2])) w' := by
  subst hr
  obtain ⟨A, c, rfl, h1, h2, h3⟩ := own_tx (Kd.own_of_R h)
  exact ⟨A, c, rfl, h1, by unfold maxLen at h2; omega, h3, hb⟩
theorem sane_over (W : World) : Calls Tryz.prog 15 #[.int .u8 1, .int .u8 2] W fun e w' => e = .returned (.tuple #[.int .u8 142, .int .i64 0]) ∧ Below W.heap.size W w' :=
  (Over_any 1 2 W (by omega) (by omega)).mono fun e w' h => ⟨h.1.trans (by kernel_rfl), h.2⟩
theorem sane_power (W : World) : Calls Tryz.prog 17 #[.int .u8 2, .int .i64 8] W fun e w' => e = .returned (.tuple #[.int .u8 29, .int .i64 0]) ∧ Below W.heap.size W w' :=
  (Power_any 2 8 W (by omega) (by omega)).mono fun e w' h => ⟨h.1.trans (by kernel_rfl), h.2⟩
theorem sane_log (W : World) : Calls Tryz.prog 19 #[.int .u8 29] W fun e w' => e = .returned (.tuple #[.int .i64 8, .int .i64 0]) ∧ Below W.heap.size W w' :=
  (Log_any 29 W (by omega)).mono fun e w' h => ⟨h.1.trans (by kernel_rfl), h.2⟩
theorem sane_times1 (W : World) : Calls Tryz.prog 21 #[.int .u8 2, .int .u8 128] W fun e w' => e = .returned (.int .u8 29) ∧ Below W.heap.size W w' :=
  (Times_any 2 128 W (by omega) (by omega)).mono fun e w' h => ⟨h.1.trans (by kernel_rfl), h.2⟩
theorem sane_times2 (W : World) : Calls Tryz.prog 21 #[.int .u8 3, .int .u8 7] W fun e w' => e = .returned (.int .u8 9) ∧ Below W.heap.size W w' :=
  (Times_any 3 7 W (by omega) (by omega)).mono fun e w' h => ⟨h.1.trans (by kernel_rfl), h.2⟩
theorem small_tx {l : List ByteArray} (h : ∀ s ∈ l, s.size ≤ 1) : ∀ s ∈ l, s.size ≤ 9223372036854775807 := fun s hs => Nat.le_trans (h s hs) (by omega)
theorem sane_encode (W : World) : Calls Tryz.prog 26 #[.slice (some ⟨W.heap.size, 0, none⟩) 2 2, .int .i64 4] (W.alloc (.cells #[.string t1, .string t2] 9)) (TxP [t1, t2, t7, t4] (W.alloc (.cells #[.string t1, .string t2] 9))) := by
  refine (Encode_any (some ⟨W.heap.size, 0, none⟩) 2 [t1, t2] 4 _ (C_of_own (lit_own W [t1, t2] (by simp))) (by simp) (by decide) (by omega)).mono ?_
  rintro e w' ⟨v, rfl, h1, h2⟩
  exact tx_of sane_enc h1 h2
theorem sane_decode (W : World) : Calls Tryz.prog 28 #[.slice (some ⟨W.heap.size, 0, none⟩) 2 2, .slice (some ⟨W.heap.size + 1, 0, none⟩) 2 2] ((W.alloc (.cells #[.int .i64 2, .int .i64 3] 3)).alloc (.cells #[.string t7, .string t4] 9)) (TxP [t1, t2] ((W.alloc (.cells #[.int .i64 2, .int .i64 3] 3)).alloc (.cells #[.string t7, .string t4] 9))) := by
  have h1 := C_of_own (lit_own (W.alloc (.cells #[.int .i64 2, .int .i64 3] 3)) [t7, t4] (by simp))
  rw [show (W.alloc (.cells #[.int .i64 2, .int .i64 3] 3)).heap.size = W.heap.size + 1 by simp] at h1
  have h2 := Kd.C_below (C_of_ownI (lit_ownI W [2, 3] (by simp))) (below_al (Below.refl _ _) (.cells #[.string t7, .string t4] 9))
  refine (Decode_any (some ⟨W.heap.size + 1, 0, none⟩) 2 [t7, t4] (some ⟨W.heap.size, 0, none⟩) 2 [2, 3] _ h1 (by simp) (by decide) h2 (by simp) (by omega)).mono ?_
  rintro e w' ⟨v, rfl, h1, h2⟩
  exact tx_of sane_dec h1 h2
theorem sane_repair (W : World) : Calls Tryz.prog 33 #[.int .i64 2, .slice (some ⟨W.heap.size, 0, none⟩) 4 4] (W.alloc (.cells #[.string t1, .string t2, .string t7, .string t5] 9)) (TxP [t1, t2] (W.alloc (.cells #[.string t1, .string t2, .string t7, .string t5] 9))) := by
  refine (Repair_any 2 (some ⟨W.heap.size, 0, none⟩) 4 [t1, t2, t7, t5] _ (C_of_own (lit_own W [t1, t2, t7, t5] (by simp))) (by simp) (by decide)).mono ?_
  rintro e w' ⟨v, rfl, h1, h2⟩
  exact tx_of sane_rep h1 h2
theorem sane_fit (W : World) : Calls Tryz.prog 30 #[.int .i64 2, .slice (some ⟨W.heap.size, 0, none⟩) 3 3, .slice (some ⟨W.heap.size + 1, 0, none⟩) 3 3] ((W.alloc (.cells #[.int .i64 0, .int .i64 1, .int .i64 2] 3)).alloc (.cells #[.string t1, .string t2, .string t6] 9)) fun e w' => e = .returned (.tuple #[.bool false, .int .i64 0]) ∧ Below ((W.alloc (.cells #[.int .i64 0, .int .i64 1, .int .i64 2] 3)).alloc (.cells #[.string t1, .string t2, .string t6] 9)).heap.size ((W.alloc (.cells #[.int .i64 0, .int .i64 1, .int .i64 2] 3)).alloc (.cells #[.string t1, .string t2, .string t6] 9)) w' := by
  have h1 := C_of_own (lit_own (W.alloc (.cells #[.int .i64 0, .int .i64 1, .int .i64 2] 3)) [t1, t2, t6] (by simp))
  rw [show (W.alloc (.cells #[.int .i64 0, .int .i64 1, .int .i64 2] 3)).heap.size = W.heap.size + 1 by simp] at h1
  have h2 := Kd.C_below (C_of_ownI (lit_ownI W [0, 1, 2] (by simp))) (below_al (Below.refl _ _) (.cells #[.string t1, .string t2, .string t6] 9))
  refine (Fits_any 2 (some ⟨W.heap.size + 1, 0, none⟩) 3 [t1, t2, t6] (some ⟨W.heap.size, 0, none⟩) 3 [0, 1, 2] _ h1 (by simp) (by decide) h2 (by simp) (by omega) (by omega)).mono ?_
  rintro e w' ⟨rfl, h3⟩
  exact ⟨by rw [sane_fits], h3⟩
theorem lit_tx (W : World) (l : List ByteArray) (hl : l.length ≤ 1000) : TxA (W.alloc (.cells (l.map Value.string).toArray 9)) (some ⟨W.heap.size, 0, none⟩) l := by
  obtain ⟨A, c, e, h1, h2, h3⟩ := own_tx (lit_own W l hl)
  injection e with e1 e2 e3
  rw [e1]
  exact h3
theorem eq_same (A1 A2 : Option Addr) (c1 c2 : Nat) (l : List ByteArray) (W : World) (h1 : TxA W A1 l) (h2 : TxA W A2 l) (hl : l.length ≤ 1000) (k1 : l.length ≤ c1) (k2 : l.length ≤ c2) : Calls Tryz.prog 54 #[.slice A1 l.length c1, .slice A2 l.length c2] W fun e w' => e = .returned (.bool true) ∧ Below W.heap.size W w' :=
  eqs_any A1 A2 c1 c2 l l W h1 h2 (by omega) (by omega) k1 k2 true ⟨fun _ => ⟨rfl, fun _ _ => rfl⟩, fun _ => rfl⟩
end Go.Proofs.YtkdjibejnncmfaaGreatDoor.Co

/- The second half of sane: one disks, one vault, one thing behind the other. -/
namespace Go.Proofs.YtkdjibejnncmfaaGreatDoor.Co
open Go.RowKit Go.Proofs.YtkdjibejnncmfaaGreatDoorW.PrintWords Go.Proofs.YtkdjibejnncmfaaGreatDoorW.PrintLast Go.Proofs.YtkdjibejnncmfaaGreatDoorW.PrintMore
set_option linter.unusedVariables false
set_option linter.unusedSimpArgs false
set_option maxRecDepth 100000
/-- Disks (of three, eight pages each) and a vault on them, made since world w. -/
structure Sn (w : World) (d v P c : Nat) (B : List Nat) (D : DS) (V : VS) (W : World) : Prop where
  da : DAt W d P B c 8 D
  va : VAt W v d V
  len : B.length = 3
  od : w.heap.size ≤ d
  ov : w.heap.size ≤ v
  oB : ∀ b ∈ B, w.heap.size ≤ b
  below : Below w.heap.size w W
theorem Sn.later {w W W' : World} {d v P c : Nat} {B : List Nat} {D : DS} {V : VS} (h : Sn w d v P c B D V W) (hb : Below W.heap.size W W') : Sn w d v P c B D V W' :=
  { h with da := h.da.below hb, va := h.va.below hb, below := belt h.below hb }
theorem vok1 : VOk 3 8 sV1 := ⟨by decide, by decide, by decide, by decide, by decide, by decide⟩
theorem vok2 : VOk 3 8 sV2 := ⟨by decide, by decide, by decide, by decide, by decide, by decide⟩
theorem tup2 {α β : Type} {a a' : α} {b b' : β} (h : (a, b) = (a', b')) : a = a' ∧ b = b' := by
  cases h
  exact ⟨rfl, rfl⟩
theorem tri {α β γ : Type} {p : α × β × γ} {a : α} {b : β} (h1 : p.1 = a) (h2 : p.2.1 = b) : p = (a, b, p.2.2) := by
  subst h1
  subst h2
  rfl
theorem tri2 {α β γ : Type} {p : α × β × γ} {a : α} {c : γ} (h1 : p.1 = a) (h2 : p.2.2 = c) : p = (a, p.2.1, c) := by
  subst h1
  subst h2
  rfl
theorem tri1 {α β γ : Type} {p : α × β × γ} {a : α} (h1 : p.1 = a) : p = (a, p.2.1, p.2.2) := by
  subst h1
  rfl
theorem duo {α β : Type} {p : α × β} {a : α} (h1 : p.1 = a) : p = (a, p.2) := by
  subst h1
  rfl
theorem duo2 {α β : Type} {p : α × β} {b : β} (h1 : p.2 = b) : p = (p.1, b) := by
  subst h1
  rfl
theorem map_some {α β : Type} {f : α → β} {o : Option α} {b : β} (h : o.map f = some b) : ∃ a, o = some a ∧ f a = b := by
  cases o with
  | none => cases h
  | some a => exact ⟨a, rfl, Option.some.inj h⟩
theorem qM1 : makeF 3 8 (newDS 3 8) 2 = sM1 := by unfold sM1 sD0; exact Eq.refl _
theorem qS2 : saveF 3 8 sM1.2.2 sV1 ⟨#[97]⟩ = sS2 := by unfold sS2; exact Eq.refl _
theorem qL3 : loseF 3 8 sS2.2.1 1 = sL3 := by unfold sL3; exact Eq.refl _
theorem qW4 : WrongF 3 8 sL3.1 sV2 = sW4 := by unfold sW4; exact Eq.refl _
theorem qH5 : healF 3 8 sL3.1 sV2 = sH5 := by unfold sH5; exact Eq.refl _
theorem qS6 : saveF 3 8 (armF sH5.2 2 63) sV2 ⟨#[98]⟩ = sS6 := by unfold sS6 sD6; exact Eq.refl _
theorem qO7 : openF 3 8 (restartF sS6.2.1) = sO7 := by unfold sO7; exact Eq.refl _
/-- What sane's calls answer, one behind the other. -/
theorem sane_ex : ∃ (D1 D2 D3 D5 D7 D8 : DS) (V7 V8 : VS), makeF 3 8 (newDS 3 8) 2 = (some sV1, 0, D1) ∧ saveF 3 8 D1 sV1 ⟨#[97]⟩ = (0, D2, sV2) ∧ loseF 3 8 D2 1 = (D3, 0) ∧ WrongF 3 8 D3 sV2 = ([(1, 0)], 0) ∧ healF 3 8 D3 sV2 = ((1, 0), D5) ∧
    saveF 3 8 (armF D5 2 63) sV2 ⟨#[98]⟩ = (91, D7, V7) ∧ openF 3 8 (restartF D7) = (some V8, 0, D8) ∧ V8.text = ⟨#[97]⟩ ∧ V8.enough = 2 ∧ D1.falls = 0 ∧ D3.falls = 0 ∧ D5.falls = 0 ∧ D7.falls = 1 :=
  have h1 := tup2 sane_vals
  have h2 := tup2 h1.2
  have h3 := tup2 h2.2
  have h4 := tup2 h3.2
  have h5 := tup2 h4.2
  have h6 := tup2 h5.2
  have h7 := tup2 h6.2
  have h8 := tup2 h7.2
  have h9 := tup2 h8.2
  have f1 := tup2 sane_falls
  have f2 := tup2 f1.2
  have f3 := tup2 f2.2
  have f4 := tup2 f3.2
  have ⟨V8, hV, hV2⟩ := map_some h9.2
  have hV3 := tup2 hV2
  ⟨sM1.2.2, sS2.2.1, sL3.1, sH5.2, sS6.2.1, sO7.2.2, sS6.2.2, V8, qM1.trans (tri h1.1 h2.1), qS2.trans (tri2 h3.1 h4.1), qL3.trans (duo2 h5.1), qW4.trans h6.1, qH5.trans (duo h7.1), qS6.trans (tri1 h8.1), qO7.trans (tri hV h9.1), hV3.1, hV3.2, f1.1, f3.1, f4.1, f4.2⟩
/-- A change of the disks leaves what lay before w. -/
theorem Sn.fr {w W W' : World} {d v P c : Nat} {B : List Nat} {D D' : DS} {V : VS} (h : Sn w d v P c B D V W) (hD : DAt W' d P B c 8 D') (hf : Fr d B W W') : Sn w d v P c B D' V W' :=
  have hne := h.va.ne h.da
  { h with da := hD, va := h.va.fr hf hne.1 hne.2.2, below := h.below.trans (hf.below h.below.size h.od h.oB) }
section
variable {w W : World} {d v P c : Nat} {B : List Nat}
theorem sn_make {D D1 : DS} {V1 : VS} {k : Int} (hD : DAt W d P B c 8 D) (he : makeF 3 8 D k = (some V1, 0, D1)) (hfa : 0 ≤ D.falls) (hfb : D.falls < 9223372036854775807) (hl : B.length = 3) (h1 : w.heap.size ≤ d) (h2 : ∀ b ∈ B, w.heap.size ≤ b) (hb : Below w.heap.size w W) :
    Calls Tryz.prog 39 #[.pointer (some ⟨d, 0, none⟩), .int .i64 k] W fun e w' => ∃ v, e = .returned (.tuple #[.pointer (some ⟨v, 0, none⟩), .int .i64 0]) ∧ Sn w d v P c B D1 V1 w' := by
  refine (Make_any k W hD hfa hfb).mono ?_
  rw [hl, he]
  rintro e w' ⟨pv, he, hd, hf, v, rfl, hv, hV⟩
  exact ⟨v, he, ⟨hd, hV, hl, h1, Nat.le_trans hb.size hv, h2, hb.trans (hf.below hb.size h1 h2)⟩⟩
theorem sn_room {D : DS} {V : VS} (h : Sn w d v P c B D V W) (hk : 1 ≤ V.enough) : Calls Tryz.prog 40 #[.pointer (some ⟨v, 0, none⟩)] W fun e w' => e = .returned (.int .i64 (roomF 8 V.enough : Nat)) ∧ Sn w d v P c B D V w' :=
  (Room_any W h.va h.da hk).mono fun e w' hh => ⟨hh.1, h.later hh.2⟩
theorem sn_life {D : DS} {V : VS} (h : Sn w d v P c B D V W) : Calls Tryz.prog 41 #[.pointer (some ⟨v, 0, none⟩)] W fun e w' => e = .returned (.int .i64 V.life) ∧ Sn w d v P c B D V w' :=
  (Life_any W h.va).mono fun e w' hh => ⟨hh.1, hh.2 ▸ h⟩
theorem sn_save {D D2 : DS} {V V2 : VS} {s : ByteArray} {r : Int} (h : Sn w d v P c B D V W) (hV : VOk 3 8 V) (he : saveF 3 8 D V s = (r, D2, V2)) (hs : s.size ≤ 1000000000) (hfa : 0 ≤ D.falls) (hfb : D.falls < 9223372036854775807) :
    Calls Tryz.prog 42 #[.pointer (some ⟨v, 0, none⟩), .string s] W fun e w' => e = .returned (.int .i64 r) ∧ Sn w d v P c B D2 V2 w' := by
  refine (Save_any s W h.va h.da (h.len ▸ hV) hs hfa hfb).mono ?_
  rw [h.len, he]
  rintro e w' ⟨he, hd, hv, hf⟩
  exact ⟨he, { h with da := hd, va := hv, below := h.below.trans (hf.below h.below.size h.od (fun b hb => by rcases List.mem_cons.1 hb with rfl | hb; exact h.ov; exact h.oB b hb)) }⟩
theorem sn_lose {D D2 : DS} {V : VS} {i r : Int} (h : Sn w d v P c B D V W) (he : loseF 3 8 D i = (D2, r)) : Calls Tryz.prog 47 #[.pointer (some ⟨d, 0, none⟩), .int .i64 i] W fun e w' => e = .returned (.int .i64 r) ∧ Sn w d v P c B D2 V w' := by
  refine (Lose_any i W h.da).mono ?_
  rw [h.len, he]
  rintro e w' ⟨he, hd, hf⟩
  exact ⟨he, h.fr hd hf⟩
theorem sn_wrong {D : DS} {V : VS} {l : List (Int × Int)} {r : Int} (h : Sn w d v P c B D V W) (hV : VOk 3 8 V) (he : WrongF 3 8 D V = (l, r)) : Calls Tryz.prog 46 #[.pointer (some ⟨v, 0, none⟩)] W fun e w' => ∃ u, e = .returned (.tuple #[u, .int .i64 r]) ∧ prk.R 68 w' W.heap.size (fun _ => True) u l ∧ Sn w d v P c B D V w' := by
  refine (Wrong_any W h.va h.da (h.len ▸ hV)).mono ?_
  rw [h.len, he]
  rintro e w' ⟨u, he, hu, hb⟩
  exact ⟨u, he, hu, h.later hb⟩
theorem sn_heal {D D2 : DS} {V : VS} {a r : Int} (h : Sn w d v P c B D V W) (hV : VOk 3 8 V) (he : healF 3 8 D V = ((a, r), D2)) (hfa : 0 ≤ D.falls) (hfb : D.falls < 9223372036854775807) : Calls Tryz.prog 52 #[.pointer (some ⟨v, 0, none⟩)] W fun e w' => e = .returned (.tuple #[.int .i64 a, .int .i64 r]) ∧ Sn w d v P c B D2 V w' := by
  refine (Heal_any W h.va h.da (h.len ▸ hV) hfa hfb).mono ?_
  rw [h.len, he]
  rintro e w' ⟨he, hd, hf⟩
  exact ⟨he, h.fr hd hf⟩
theorem sn_arm {D : DS} {V : VS} {n b : Int} (h : Sn w d v P c B D V W) (hn : n ≤ 9223372036854775807) : Calls Tryz.prog 56 #[.pointer (some ⟨d, 0, none⟩), .int .i64 n, .int .i64 b] W fun e w' => e = .returned (.tuple #[]) ∧ Sn w d v P c B (armF D n b) V w' :=
  (Arm_any n b W h.da hn).mono fun e w' hh => ⟨hh.1, h.fr hh.2.1 hh.2.2⟩
theorem sn_restart {D : DS} {V : VS} (h : Sn w d v P c B D V W) : Calls Tryz.prog 58 #[.pointer (some ⟨d, 0, none⟩)] W fun e w' => e = .returned (.tuple #[]) ∧ Sn w d v P c B (restartF D) V w' :=
  (Restart_any W h.da).mono fun e w' hh => ⟨hh.1, h.fr hh.2.1 hh.2.2⟩
theorem sn_open {D D2 : DS} {V V2 : VS} (h : Sn w d v P c B D V W) (he : openF 3 8 D = (some V2, 0, D2)) (hfa : 0 ≤ D.falls) (hfb : D.falls < 9223372036854775807) :
    Calls Tryz.prog 44 #[.pointer (some ⟨d, 0, none⟩)] W fun e w' => ∃ v2, e = .returned (.tuple #[.pointer (some ⟨v2, 0, none⟩), .int .i64 0]) ∧ VAt w' v2 d V2 ∧ Below w.heap.size w w' := by
  refine (Open_any W h.da hfa hfb).mono ?_
  rw [h.len, he]
  rintro e w' ⟨pv, he, hd, hf, v2, rfl, _, hV⟩
  exact ⟨v2, he, hV, h.below.trans (hf.below h.below.size h.od h.oB)⟩
end
end Go.Proofs.YtkdjibejnncmfaaGreatDoor.Co

/- Pairs in memory, read. -/
namespace Go.Proofs.YtkdjibejnncmfaaGreatDoor.Co
open Go.RowKit Go.Proofs.YtkdjibejnncmfaaGreatDoorW.PrintWords Go.Proofs.YtkdjibejnncmfaaGreatDoorW.PrintLast Go.Proofs.YtkdjibejnncmfaaGreatDoorW.PrintMore
set_option linter.unusedVariables false
set_option linter.unusedSimpArgs false
set_option maxRecDepth 100000
theorem PrA.below {w w' : World} {A : Option Addr} {l : List (Int × Int)} (h : PrA w A l) (hb : Below w.heap.size w w') : PrA w' A l := fun i hi => by
  obtain ⟨g, o, e, hc1, hc2⟩ := h i hi
  exact ⟨g, o, e, cell_below hb hc1, cell_below hb hc2⟩
theorem lit_pr (W : World) (a b : Int) : PrA (W.alloc (.cells #[.int .i64 a, .int .i64 b] 68)) (some ⟨W.heap.size, 0, none⟩) [(a, b)] := by
  intro i hi
  have hi0 : i = 0 := by simp at hi; exact hi
  subst hi0
  have hb := Box.new W #[.int .i64 a, .int .i64 b] 68
  exact ⟨W.heap.size, 0, rfl, hb.cell 0, hb.cell 1⟩
theorem prk_reads {w : World} {base : Nat} {v : Value} {l : List (Int × Int)} (hR : prk.R 68 w base (fun _ => True) v l) : ∃ A c, v = .slice A l.length c ∧ l.length ≤ c ∧ c ≤ 9223372036854775807 ∧ PrA w A l := by
  obtain ⟨A, c, e, hc, h1, h2, h3⟩ := Kd.R_reads hR
  obtain ⟨_, inner, hown, hr⟩ := hR
  rcases hown.2 with ⟨hv, h0⟩ | ⟨g, cap, cur, hv, hg, hgb, k1, k2, k3, k4⟩
  · rw [hv] at e
    injection e with e1 e2 e3
    exact ⟨A, 0, by rw [hv, ← e1, h0], by omega, by omega, fun i hi => by omega⟩
  · rw [hv] at e
    injection e with e1 e2 e3
    refine ⟨A, cap, by rw [hv, e1], k1, by unfold maxLen at k2; omega, fun i hi => ?_⟩
    obtain ⟨ad, ha, h4⟩ := h3 (by omega)
    obtain ⟨cs, _, h5, h6⟩ := h4 i l[i] (List.getElem?_eq_getElem hi)
    rw [← e1] at ha
    injection ha with ha
    subst ha
    have h7 : cs = [.int .i64 l[i].1, .int .i64 l[i].2] := h5
    have hp : pr l i = l[i] := by unfold pr; rw [List.getD_eq_getElem?_getD, List.getElem?_eq_getElem hi]; rfl
    have g0 := h6 0 (.int .i64 l[i].1) (by rw [h7]; rfl)
    have g1 := h6 1 (.int .i64 l[i].2) (by rw [h7]; rfl)
    rw [show prk.sz = 2 from rfl, Addr.add_mid] at g0 g1
    refine ⟨g, 0, e1.symm, ?_, ?_⟩
    · rw [hp]; exact g0
    · rw [hp]; exact g1
end Go.Proofs.YtkdjibejnncmfaaGreatDoor.Co

/- The walk of sane. -/
namespace Go.Proofs.YtkdjibejnncmfaaGreatDoor.Co
open Go.RowKit Go.Proofs.YtkdjibejnncmfaaGreatDoorW.PrintWords Go.Proofs.YtkdjibejnncmfaaGreatDoorW.PrintLast Go.Proofs.YtkdjibejnncmfaaGreatDoorW.PrintMore
set_option linter.unusedVariables false
set_option linter.unusedSimpArgs false
set_option maxRecDepth 100000
theorem eqp_same (A1 A2 : Option Addr) (c1 c2 : Nat) (l : List (Int × Int)) (W : World) (h1 : PrA W A1 l) (h2 : PrA W A2 l) (hl : l.length ≤ 1000) (k1 : l.length ≤ c1) (k2 : l.length ≤ c2) : Calls Tryz.prog 71 #[.slice A1 l.length c1, .slice A2 l.length c2] W fun e w' => e = .returned (.bool true) ∧ Below W.heap.size W w' :=
  eqp_any A1 A2 c1 c2 l l W h1 h2 (by omega) (by omega) k1 k2 true ⟨fun _ => ⟨rfl, fun _ _ => rfl⟩, fun _ => rfl⟩
theorem prk_box {w : World} {base : Nat} {v : Value} (hR : prk.R 68 w base (fun _ => True) v [(1, 0)]) : ∃ g cu cur, v = .slice (some ⟨g, 0, none⟩) 1 cu ∧ 1 ≤ cu ∧ cu ≤ 9223372036854775807 ∧ Box w g 68 cur ∧ cur[0]? = some (.int .i64 1) ∧ cur[1]? = some (.int .i64 0) := by
  obtain ⟨A, c, e, h1, h2, h3⟩ := prk_reads hR
  obtain ⟨_, inner, hown, hr⟩ := hR
  rcases hown.2 with ⟨hv, h0⟩ | ⟨g, cap, cur, hv, hg, hgb, k1, k2, k3, k4⟩
  · cases h0
  · obtain ⟨g2, o2, e2, c0, c1⟩ := h3 0 (by decide)
    rw [hv] at e
    injection e with e1 e3 e4
    rw [← e1] at e2
    injection e2 with e2
    injection e2 with e5 e6
    subst e5 e6
    have hb : Box w g 68 cur := hgb
    refine ⟨g, cap, cur, hv, k1, by unfold maxLen at k2; omega, hb, ?_, ?_⟩
    · rw [← hb.cell 0]; exact c0
    · rw [← hb.cell 1]; exact c1
theorem box_pr {w : World} {g : Nat} {cur : Array Value} (h : Box w g 68 cur) (h0 : cur[0]? = some (.int .i64 1)) (h1 : cur[1]? = some (.int .i64 0)) : PrA w (some ⟨g, 0, none⟩) [(1, 0)] := by
  intro i hi
  have hi0 : i = 0 := by simp at hi; exact hi
  subst hi0
  exact ⟨g, 0, rfl, (h.cell 0).trans h0, (h.cell 1).trans h1⟩
theorem sn_heal' {w W : World} {d v P c : Nat} {B : List Nat} {D D2 : DS} {V : VS} {a r : Int} (h : Sn w d v P c B D V W) (hV : VOk 3 8 V) (he : healF 3 8 D V = ((a, r), D2)) (hfa : 0 ≤ D.falls) (hfb : D.falls < 9223372036854775807) {g : Nat} {cur : Array Value} (hb : Box W g 68 cur) :
    Calls Tryz.prog 52 #[.pointer (some ⟨v, 0, none⟩)] W fun e w' => e = .returned (.tuple #[.int .i64 a, .int .i64 r]) ∧ Sn w d v P c B D2 V w' ∧ Box w' g 68 cur := by
  refine (Heal_any W h.va h.da (h.len ▸ hV) hfa hfb).mono ?_
  rw [h.len, he]
  rintro e w' ⟨he, hd, hf⟩
  refine ⟨he, h.fr hd hf, hf.box hb (hb.ne h.da.box (by decide)) (fun hm => ?_)⟩
  obtain ⟨i, hi, rfl⟩ := List.getElem_of_mem hm
  have := h.da.dsk i hi
  rw [List.getD_eq_getElem?_getD, List.getElem?_eq_getElem hi] at this
  exact hb.ne this (by decide) rfl
set_option maxHeartbeats 1000000 in
theorem sane_any (w : World) : Calls Tryz.prog 14 #[] w fun e w' => e = .returned (.bool true) ∧ Below w.heap.size w w' := by
  go_enter Tryz.func14, Tryz.ntmps14
  go_upto_region 6 with (first
    | (go_at_call 15; refine (sane_over _).mono ?_; rintro e w1 ⟨rfl, hb⟩; have HB1 := Lib.hid hb; clear hb)
    | (go_at_call 17; refine (sane_power _).mono ?_; rintro e w2 ⟨rfl, hb⟩; have HB2 := Lib.hid (belt HB1.out hb); clear hb)
    | (go_at_call 19; refine (sane_log _).mono ?_; rintro e w3 ⟨rfl, hb⟩; have HB3 := Lib.hid (belt HB2.out hb); clear hb)
    | (go_at_call 21; refine (sane_times1 _).mono ?_; rintro e w4 ⟨rfl, hb⟩; have HB4 := Lib.hid (belt HB3.out hb); clear hb)
    | (go_at_call 21; refine (sane_times2 _).mono ?_; rintro e w5 ⟨rfl, hb⟩; have HB5 := Lib.hid (belt HB4.out hb); clear hb))
  go_upto_region 7 with (go_at_call 26; refine (sane_encode _).mono ?_; rintro e w6 ⟨Al, cl, rfl, hcl, hcl2, hT, hb⟩; have HTL := Lib.hid hT; have HB6 := Lib.hid (belt (below_al HB5.out _) hb); clear hT hb)
  go_upto_region 8 with (go_at_call 28; refine (sane_decode _).mono ?_; rintro e w7 ⟨Ak, ck, rfl, hck, hck2, hT, hb⟩; have HTK := Lib.hid hT; have HB67 := Lib.hid (belt (below_al (below_al (Below.refl _ _) _) _) hb); clear hT hb)
  go_upto_region 9 with (go_at_call 33; refine (sane_repair _).mono ?_; rintro e w8 ⟨Ar, cr, rfl, hcr, hcr2, hT, hb⟩; have HTR := Lib.hid hT; have HB78 := Lib.hid (belt (below_al (Below.refl _ _) _) hb); clear hT hb)
  go_upto_region 10 with (go_at_call 30; refine (sane_fit _).mono ?_; rintro e w9 ⟨rfl, hb⟩; have HB89 := Lib.hid (belt (below_al (below_al (Below.refl _ _) _) _) hb); clear hb)
  obtain ⟨gl, ol, e1, _⟩ := HTL.out 0 (by decide)
  obtain ⟨gk, ok, e2, _⟩ := HTK.out 0 (by decide)
  obtain ⟨gr, or_, e3, _⟩ := HTR.out 0 (by decide)
  subst e1 e2 e3
  simp only [List.length_cons, List.length_nil, Nat.zero_add, Nat.reduceAdd] at hcl hck hcr
  have hcl' : (2 : Int) ≤ (cl : Int) := by omega
  have hcl2' : (cl : Int) ≤ 9223372036854775807 := by omega
  have HTL9 : Hid (TxA w9 (some ⟨gl, ol, none⟩) [t1, t2, t7, t4]) := Lib.hid (((HTL.out.below HB67.out).below HB78.out).below HB89.out)
  have HTK9 : Hid (TxA w9 (some ⟨gk, ok, none⟩) [t1, t2]) := Lib.hid ((HTK.out.below HB78.out).below HB89.out)
  have HTR9 : Hid (TxA w9 (some ⟨gr, or_, none⟩) [t1, t2]) := Lib.hid (HTR.out.below HB89.out)
  have HB9 : Hid (Below w.heap.size w w9) := Lib.hid (belt (belt (belt HB6.out HB67.out) HB78.out) HB89.out)
  have HE1 : Hid (Calls Tryz.prog 54 #[.slice (some ⟨gl, ol, none⟩) 4 cl, .slice (some ⟨w9.heap.size, 0, none⟩) 4 4] (w9.alloc (.cells #[.string t1, .string t2, .string t7, .string t4] 9)) fun e w' => e = .returned (.bool true) ∧ Below w9.heap.size w9 w') := Lib.hid ((eq_same (some ⟨gl, ol, none⟩) (some ⟨w9.heap.size, 0, none⟩) cl 4 [t1, t2, t7, t4] _ (HTL9.out.below (below_al (Below.refl _ _) _)) (lit_tx w9 [t1, t2, t7, t4] (by simp)) (by simp) hcl (by simp)).mono fun e w' h => ⟨h.1, belt (below_al (Below.refl _ _) _) h.2⟩)
  have HE2 : Hid (∀ W, Below w9.heap.size w9 W → Calls Tryz.prog 54 #[.slice (some ⟨gk, ok, none⟩) 2 ck, .slice (some ⟨gl, ol, none⟩) 2 cl] W fun e w' => e = .returned (.bool true) ∧ Below w9.heap.size w9 w') := Lib.hid (fun W hW => (eq_same (some ⟨gk, ok, none⟩) (some ⟨gl, ol, none⟩) ck cl [t1, t2] _ (HTK9.out.below hW) ((HTL9.out.below hW).take 2 (by simp)) (by simp) hck (by simp; omega)).mono fun e w' h => ⟨h.1, belt hW h.2⟩)
  have HE3 : Hid (∀ W, Below w9.heap.size w9 W → Calls Tryz.prog 54 #[.slice (some ⟨gr, or_, none⟩) 2 cr, .slice (some ⟨gl, ol, none⟩) 2 cl] W fun e w' => e = .returned (.bool true) ∧ Below w9.heap.size w9 w') := Lib.hid (fun W hW => (eq_same (some ⟨gr, or_, none⟩) (some ⟨gl, ol, none⟩) cr cl [t1, t2] _ (HTR9.out.below hW) ((HTL9.out.below hW).take 2 (by simp)) (by simp) hcr (by simp; omega)).mono fun e w' h => ⟨h.1, belt hW h.2⟩)
  clear HB1 HB2 HB3 HB4 HB5 HB6 HB67 HB78 HB89 HTL HTK HTR HTL9 HTK9 HTR9
  go_upto_region 12 with (first
    | (go_at_call 54; with_reducible refine Calls.mono HE1.out ?_; rintro e w10 ⟨rfl, hb⟩; have HB10 := Lib.hid hb; clear hb)
    | (go_at_call 54; with_reducible refine Calls.mono (HE2.out _ HB10.out) ?_; rintro e w11 ⟨rfl, hb⟩; have HB11 := Lib.hid hb; clear hb)
    | (go_at_call 54; with_reducible refine Calls.mono (HE3.out _ HB11.out) ?_; rintro e w12 ⟨rfl, hb⟩; have HB12 := Lib.hid (belt HB9.out hb); clear hb))
  obtain ⟨D1, D2, D3, D5, D7, D8, V7, V8, m1, s2, l3, q4, h5, s6, o7, x8, y8, f1, f3, f5, f7⟩ := sane_ex
  go_upto_region 15 with (go_at_call 38; refine Calls.mono (New_ok 3 8 _ (by omega) (by omega) (by omega) (by omega)) ?_; rintro e w13 ⟨P, B, c, rfl, hBl, hDA, hb, hP, hoB⟩; have HDA := Lib.hid hDA; have HOB := Lib.hid hoB; have HBL := Lib.hid hBl; have HB13 := Lib.hid (belt HB12.out hb); clear hDA hoB hBl hb hP)
  have hdw : w.heap.size ≤ w12.heap.size := HB12.out.size
  have hMK : Hid (Calls Tryz.prog 39 #[.pointer (some ⟨w12.heap.size, 0, none⟩), .int .i64 2] w13 fun e w' => ∃ v, e = .returned (.tuple #[.pointer (some ⟨v, 0, none⟩), .int .i64 0]) ∧ Sn w w12.heap.size v P c B D1 sV1 w') := Lib.hid (sn_make HDA.out m1 (by decide) (by decide) HBL.out hdw (fun b hb => Nat.le_trans hdw (HOB.out b hb)) HB13.out)
  clear HDA HOB hdw HB12 HB13 HBL HE1 HE2 HE3 HB9 HB10 HB11 m1
  generalize w12.heap.size = d at hMK ⊢
  have HRM : Hid (∀ v W, Sn w d v P c B D1 sV1 W → Calls Tryz.prog 40 #[.pointer (some ⟨v, 0, none⟩)] W fun e w' => e = .returned (.int .i64 316) ∧ Sn w d v P c B D1 sV1 w') := Lib.hid (fun v W h => (sn_room h (by decide)).mono fun e w' hh => ⟨hh.1.trans (by kernel_rfl), hh.2⟩)
  have HLF : Hid (∀ v W, Sn w d v P c B D1 sV1 W → Calls Tryz.prog 41 #[.pointer (some ⟨v, 0, none⟩)] W fun e w' => e = .returned (.int .i64 1) ∧ Sn w d v P c B D1 sV1 w') := Lib.hid (fun v W h => (sn_life h).mono fun e w' hh => ⟨hh.1.trans (by kernel_rfl), hh.2⟩)
  have HSV : Hid (∀ v W, Sn w d v P c B D1 sV1 W → Calls Tryz.prog 42 #[.pointer (some ⟨v, 0, none⟩), .string ⟨#[97]⟩] W fun e w' => e = .returned (.int .i64 0) ∧ Sn w d v P c B D2 sV2 w') := Lib.hid (fun v W h => sn_save h vok1 s2 (by decide) (by omega) (by omega))
  have HLO : Hid (∀ v W, Sn w d v P c B D2 sV2 W → Calls Tryz.prog 47 #[.pointer (some ⟨d, 0, none⟩), .int .i64 1] W fun e w' => e = .returned (.int .i64 0) ∧ Sn w d v P c B D3 sV2 w') := Lib.hid (fun v W h => sn_lose h l3)
  have HWR : Hid (∀ v W, Sn w d v P c B D3 sV2 W → Calls Tryz.prog 46 #[.pointer (some ⟨v, 0, none⟩)] W fun e w' => ∃ g cu cur, e = .returned (.tuple #[.slice (some ⟨g, 0, none⟩) 1 cu, .int .i64 0]) ∧ 1 ≤ cu ∧ cu ≤ 9223372036854775807 ∧ Box w' g 68 cur ∧ cur[0]? = some (.int .i64 1) ∧ cur[1]? = some (.int .i64 0) ∧ Sn w d v P c B D3 sV2 w') := Lib.hid (fun v W h => by
    refine (sn_wrong h vok2 q4).mono ?_
    rintro e w' ⟨u, rfl, hu, hs⟩
    obtain ⟨g, cu, cur, rfl, k1, k2, k3, k4, k5⟩ := prk_box hu
    exact ⟨g, cu, cur, rfl, k1, k2, k3, k4, k5, hs⟩)
  have HHE : Hid (∀ v W g cur, Sn w d v P c B D3 sV2 W → Box W g 68 cur → Calls Tryz.prog 52 #[.pointer (some ⟨v, 0, none⟩)] W fun e w' => e = .returned (.tuple #[.int .i64 1, .int .i64 0]) ∧ Sn w d v P c B D5 sV2 w' ∧ Box w' g 68 cur) := Lib.hid (fun v W g cur h hb => sn_heal' h vok2 h5 (by omega) (by omega) hb)
  have HAR : Hid (∀ v W, Sn w d v P c B D5 sV2 W → Calls Tryz.prog 56 #[.pointer (some ⟨d, 0, none⟩), .int .i64 2, .int .i64 63] W fun e w' => e = .returned (.tuple #[]) ∧ Sn w d v P c B (armF D5 2 63) sV2 w') := Lib.hid (fun v W h => sn_arm h (by decide))
  have hfa : (armF D5 2 63).falls = 0 := f5
  have hfr : (restartF D7).falls = 1 := f7
  have HS2 : Hid (∀ v W, Sn w d v P c B (armF D5 2 63) sV2 W → Calls Tryz.prog 42 #[.pointer (some ⟨v, 0, none⟩), .string ⟨#[98]⟩] W fun e w' => e = .returned (.int .i64 91) ∧ Sn w d v P c B D7 V7 w') := Lib.hid (fun v W h => sn_save h vok2 s6 (by decide) (by omega) (by omega))
  have HRS : Hid (∀ v W, Sn w d v P c B D7 V7 W → Calls Tryz.prog 58 #[.pointer (some ⟨d, 0, none⟩)] W fun e w' => e = .returned (.tuple #[]) ∧ Sn w d v P c B (restartF D7) V7 w') := Lib.hid (fun v W h => sn_restart h)
  have HOP : Hid (∀ v W, Sn w d v P c B (restartF D7) V7 W → Calls Tryz.prog 44 #[.pointer (some ⟨d, 0, none⟩)] W fun e w' => ∃ v2, e = .returned (.tuple #[.pointer (some ⟨v2, 0, none⟩), .int .i64 0]) ∧ VAt w' v2 d V8 ∧ Below w.heap.size w w') := Lib.hid (fun v W h => sn_open h o7 (by omega) (by omega))
  have HTX : Hid (∀ v2 W, VAt W v2 d V8 → Calls Tryz.prog 43 #[.pointer (some ⟨v2, 0, none⟩)] W fun e w' => e = .returned (.string ⟨#[97]⟩) ∧ W = w') := Lib.hid (fun v2 W h => (Text_any W h).mono fun e w' hh => ⟨by rw [hh.1, x8], hh.2⟩)
  have HEN : Hid (∀ v2 W, VAt W v2 d V8 → Calls Tryz.prog 45 #[.pointer (some ⟨v2, 0, none⟩)] W fun e w' => e = .returned (.int .i64 2) ∧ W = w') := Lib.hid (fun v2 W h => (Enough_any W h).mono fun e w' hh => ⟨by rw [hh.1, y8] <;> rfl, hh.2⟩)
  clear s2 l3 q4 h5 s6 o7 x8 y8 f1 f3 f5 f7 hfa hfr
  go_upto_region 18 with (first
    | (go_at_call 39; with_reducible refine Calls.mono hMK.out ?_; rintro e w14 ⟨v, rfl, hs⟩; have HS14 := Lib.hid hs; clear hs)
    | (go_at_call 40; with_reducible refine Calls.mono (HRM.out _ _ HS14.out) ?_; rintro e w15 ⟨rfl, hs⟩; have HS15 := Lib.hid hs; clear hs)
    | (go_at_call 41; with_reducible refine Calls.mono (HLF.out _ _ HS15.out) ?_; rintro e w16 ⟨rfl, hs⟩; have HS16 := Lib.hid hs; clear hs)
    | (go_at_call 42; with_reducible refine Calls.mono (HSV.out _ _ HS16.out) ?_; rintro e w17 ⟨rfl, hs⟩; have HS17 := Lib.hid hs; clear hs)
    | (go_at_call 47; with_reducible refine Calls.mono (HLO.out _ _ HS17.out) ?_; rintro e w18 ⟨rfl, hs⟩; have HS18 := Lib.hid hs; clear hs))
  go_upto_region 20 with (first
    | (go_at_call 46; with_reducible refine Calls.mono (HWR.out _ _ HS18.out) ?_; rintro e w19 ⟨gw, cw, cur, rfl, hcw, hcw2, hbx, hq0, hq1, hs⟩; have HBX := Lib.hid hbx; have HQ := Lib.hid (And.intro hq0 hq1); have HS19 := Lib.hid hs; clear hbx hq0 hq1 hs)
    | (go_at_call 52; with_reducible refine Calls.mono (HHE.out _ _ _ _ HS19.out HBX.out) ?_; rintro e w20 ⟨rfl, hs, hbx⟩; have HBX2 := Lib.hid hbx; have HS20 := Lib.hid hs; clear hs hbx))
  have HEQ : Hid (Calls Tryz.prog 71 #[.slice (some ⟨gw, 0, none⟩) 1 cw, .slice (some ⟨w20.heap.size, 0, none⟩) 1 1] (w20.alloc (.cells #[.int .i64 1, .int .i64 0] 68)) fun e w' => e = .returned (.bool true) ∧ Sn w d v P c B D5 sV2 w') := Lib.hid (by
    refine (eqp_same (some ⟨gw, 0, none⟩) (some ⟨w20.heap.size, 0, none⟩) cw 1 [(1, 0)] _ ((box_pr HBX2.out HQ.out.1 HQ.out.2).below (below_al (Below.refl _ _) _)) (lit_pr w20 1 0) (by simp) (by simpa using hcw) (by simp)).mono ?_
    rintro e w' ⟨he, hb⟩
    exact ⟨he, HS20.out.later (belt (below_al (Below.refl _ _) _) hb)⟩)
  go_upto_region 22 with (go_at_call 71; with_reducible refine Calls.mono HEQ.out ?_; rintro e w21 ⟨rfl, hs⟩; have HS21 := Lib.hid hs; clear hs)
  go_upto_region 27 with (first
    | (go_at_call 56; with_reducible refine Calls.mono (HAR.out _ _ HS21.out) ?_; rintro e w22 ⟨rfl, hs⟩; have HS22 := Lib.hid hs; clear hs)
    | (go_at_call 42; with_reducible refine Calls.mono (HS2.out _ _ HS22.out) ?_; rintro e w23 ⟨rfl, hs⟩; have HS23 := Lib.hid hs; clear hs)
    | (go_at_call 58; with_reducible refine Calls.mono (HRS.out _ _ HS23.out) ?_; rintro e w24 ⟨rfl, hs⟩; have HS24 := Lib.hid hs; clear hs)
    | (go_at_call 44; with_reducible refine Calls.mono (HOP.out _ _ HS24.out) ?_; rintro e w25 ⟨v2, rfl, hv2, hbw⟩; have HV2 := Lib.hid hv2; have HBW := Lib.hid hbw; clear hv2 hbw))
  go_wp2_with (first
    | (go_at_call 43; with_reducible refine Calls.mono (HTX.out _ _ HV2.out) ?_; rintro e w26 ⟨rfl, rfl⟩)
    | (go_at_call 45; with_reducible refine Calls.mono (HEN.out _ _ HV2.out) ?_; rintro e w27 ⟨rfl, rfl⟩))
  go_ret
  exact ⟨rfl, HBW.out⟩
end Go.Proofs.YtkdjibejnncmfaaGreatDoor.Co

/- The field's laws, in plain Lean. -/
namespace Go.Proofs.YtkdjibejnncmfaaGreatDoor.Co
set_option maxRecDepth 100000
theorem lg_pw {i : Nat} (h : i < 255) : lg (pw i) = i := by
  have : ∀ i : Nat, i < 255 → lg (pw i) = i := by decide +kernel
  exact this i h
theorem pw_ne {i : Nat} (h : i < 255) : pw i ≠ 0 := by
  have : ∀ i : Nat, i < 255 → pw i ≠ 0 := by decide +kernel
  exact this i h
theorem pw_lg {a : Nat} (h : a < 256) (h0 : a ≠ 0) : pw (lg a) = a := by
  have : ∀ a : Nat, a < 256 → a ≠ 0 → pw (lg a) = a := by decide +kernel
  exact this a h h0
theorem lg_lt' {a : Nat} (h : a < 256) : lg a < 255 := by
  have : ∀ a : Nat, a < 256 → lg a < 255 := by decide +kernel
  exact this a h
theorem mul_comm' (a b : Nat) : mulN a b = mulN b a := by
  unfold mulN
  by_cases ha : a = 0 <;> by_cases hb : b = 0 <;> simp [ha, hb, Nat.add_comm]
theorem mul_ne {a b : Nat} (ha : a ≠ 0) (hb : b ≠ 0) : mulN a b = pw ((lg a + lg b) % 255) := by
  unfold mulN
  rw [if_neg ha, if_neg hb]
theorem mul_assoc' {a b c : Nat} (ha : a < 256) (hb : b < 256) (hc : c < 256) : mulN (mulN a b) c = mulN a (mulN b c) := by
  by_cases ha0 : a = 0
  · subst ha0; simp [mulN]
  by_cases hb0 : b = 0
  · subst hb0; simp [mulN]
  by_cases hc0 : c = 0
  · subst hc0; simp [mulN]
  have h1 : (lg a + lg b) % 255 < 255 := Nat.mod_lt _ (by omega)
  have h2 : (lg b + lg c) % 255 < 255 := Nat.mod_lt _ (by omega)
  rw [mul_ne ha0 hb0, mul_ne hb0 hc0, mul_ne (pw_ne h1) hc0, mul_ne ha0 (pw_ne h2), lg_pw h1, lg_pw h2]
  congr 1
  omega
end Go.Proofs.YtkdjibejnncmfaaGreatDoor.Co

/- The field's law of distribution. -/
namespace Go.Proofs.YtkdjibejnncmfaaGreatDoor.Co
set_option maxRecDepth 1000000
def xtF (x : Nat) : Nat := Nat.xor (2 * x) (if Nat.ble 128 x then 285 else 0)
theorem xtF_eq {x : Nat} (h : x < 256) : mulN 2 x = xtF x := by
  have : ∀ x : Nat, x < 256 → mulN 2 x = xtF x := by decide +kernel
  exact this x h
theorem xtF_lin {b c : Nat} (hb : b < 256) (hc : c < 256) : xtF (Nat.xor b c) = Nat.xor (xtF b) (xtF c) := by
  have : ∀ b : Nat, b < 256 → ∀ c : Nat, c < 256 → xtF (Nat.xor b c) = Nat.xor (xtF b) (xtF c) := by decide +kernel
  exact this b hb c hc
end Go.Proofs.YtkdjibejnncmfaaGreatDoor.Co

/- The field's law of distribution. -/
namespace Go.Proofs.YtkdjibejnncmfaaGreatDoor.Co
set_option maxRecDepth 100000
theorem mul_lt (a b : Nat) : mulN a b < 256 := by
  unfold mulN
  split
  · omega
  · split
    · omega
    · exact pw_lt _
theorem xor_lt' {a b : Nat} (ha : a < 256) (hb : b < 256) : Nat.xor a b < 256 := Nat.xor_lt_two_pow (n := 8) ha hb
theorem pw_succ {i : Nat} (h : i + 1 < 255) : pw (i + 1) = mulN (pw i) 2 := by
  have : ∀ i : Nat, i < 254 → pw (i + 1) = mulN (pw i) 2 := by decide +kernel
  exact this i (by omega)
theorem pw_dist (i : Nat) : i < 255 → ∀ b c : Nat, b < 256 → c < 256 → mulN (pw i) (Nat.xor b c) = Nat.xor (mulN (pw i) b) (mulN (pw i) c) := by
  induction i with
  | zero =>
    intro _ b c hb hc
    have h1 : ∀ x : Nat, x < 256 → mulN (pw 0) x = x := by decide +kernel
    rw [h1 _ (xor_lt' hb hc), h1 _ hb, h1 _ hc]
  | succ i ih =>
    intro h b c hb hc
    have h2 : ∀ x, x < 256 → mulN (pw (i + 1)) x = mulN (pw i) (mulN 2 x) := fun x hx => by
      rw [pw_succ h, mul_assoc' (pw_lt i) (by omega) hx]
    rw [h2 _ (xor_lt' hb hc), h2 _ hb, h2 _ hc, xtF_eq (xor_lt' hb hc), xtF_lin hb hc, ← xtF_eq hb, ← xtF_eq hc, ih (by omega) _ _ (mul_lt _ _) (mul_lt _ _)]
theorem mul_dist {a b c : Nat} (ha : a < 256) (hb : b < 256) (hc : c < 256) : mulN a (Nat.xor b c) = Nat.xor (mulN a b) (mulN a c) := by
  by_cases h0 : a = 0
  · subst h0; simp [mulN]
  · rw [← pw_lg ha h0]
    exact pw_dist _ (lg_lt' ha) b c hb hc
end Go.Proofs.YtkdjibejnncmfaaGreatDoor.Co
