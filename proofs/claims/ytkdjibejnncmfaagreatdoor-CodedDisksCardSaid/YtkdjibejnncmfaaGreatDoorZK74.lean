/- slices.Clone, a list of faults as an argument, a byte that is changed, Repair: for CodedRepairs. -/
import Derived.Test.YtkdjibejnncmfaaGreatDoorZK72
import Derived.Test.YtkdjibejnncmfaaGreatDoorZN12
namespace Go.Proofs.YtkdjibejnncmfaaGreatDoor.Co
open Go.RowKit Go.Proofs.YtkdjibejnncmfaaGreatDoorW.PrintWords Go.Proofs.YtkdjibejnncmfaaGreatDoorW.PrintLast Go.Proofs.YtkdjibejnncmfaaGreatDoorW.PrintMore
set_option linter.unusedVariables false
set_option linter.unusedSimpArgs false
set_option maxRecDepth 100000
set_option maxHeartbeats 1000000 in
theorem clone_any {g o c : Nat} {l : List ByteArray} {w : World} (h : TL w (some ⟨g, o, none⟩) c l) (hl : l.length ≤ 1000) :
    Calls Tryz.prog 53 #[.slice (some ⟨g, o, none⟩) l.length c] w fun e w' => ∃ v, e = .returned v ∧ OT w' w.heap.size v l ∧ v ≠ .slice none 0 0 ∧ Below w.heap.size w w' := by
  obtain ⟨i0, hi, hz0, hz1, hz2⟩ := info_parts info9
  have q24 : ∀ (w : World) (a : Option Addr) (n c n' c' : Nat), (binOp .eql 33 (.slice a n c) (.slice none n' c')).run Tryz.prog w = .ok (.bool a.isNone) w := fun w a n c n' c' => Lib.run_eql_slice_nil w _ _ a n c n' c' Tryz.underlying33
  have A := Lib.hid h
  clear h
  go_enter Tryz.func53, Tryz.ntmps53
  go_wp2_with ((try with_reducible refine gate_builtin (b := .append) (xs := #[.tmp 5, .tmp 6]) rfl ?_); at_builtin; refine wpList_append_own _ rfl _ _ 33 rfl w.heap.size 9 i0 (.string { data := #[] }) 1 16 Tryz.underlying33 hi hz0 hz1 hz2 rfl (by decide) _ _ _ rfl (World.ownsRow_made w #[] 0 (Nat.le_refl _) (Nat.zero_le _) rfl) ⟨g, o, none⟩ l.length c (encs Value.string l) rfl ?qc1 ?qc2 ?qc3 ?qc4 ?qc5 ?qc6 ?_)
  case qc1 => simp [encs]
  case qc2 =>
    intro j u hj
    have hjn : j < l.length := by
      have := (List.getElem?_eq_some_iff.1 hj).1
      simpa [encs] using this
    rw [Addr.add_lit]
    refine Lib.cell?_alloc_some _ ?_
    rw [A.out.cell j hjn]
    unfold encs at hj
    rw [List.getElem?_map, List.getElem?_eq_getElem hjn] at hj
    have e : vs l j = l[j] := by unfold vs rdOf; simp [hjn]
    rw [e]
    exact hj
  case qc3 => intro u hu; obtain ⟨x, _, rfl⟩ := List.mem_map.1 hu; rfl
  case qc4 => unfold maxLen; omega
  case qc5 => omega
  case qc6 => simp
  intro v' w1 hown hgrow hnil
  go_wp2_with fail
  go_ret
  refine ⟨v', rfl, by simpa using hown, hnil, ?_⟩
  exact ((Below.refl _ w).alloc (Nat.le_refl _) _).grown hgrow (by simp) (by intro k hk; simp [Value.ownBlock] at hk; omega)
/-- Texts in a block of the call's own, that may be written. -/
structure OW (w : World) (base g n cap : Nat) (l : List ByteArray) : Prop where
  own : w.ownsRow base 9 1 (.slice (some ⟨g, 0, none⟩) n cap) n (encs Value.string l)
  len : l.length = n
  ge : base ≤ g
  hcap : n ≤ cap
  capm : cap ≤ 9223372036854775807
theorem OW.cell {w : World} {base g n cap : Nat} {l : List ByteArray} (h : OW w base g n cap l) (i : Nat) (hi : i < n) : w.cell? ⟨g, i, none⟩ = some (.string (vs l i)) := by
  have := h.own.cellAt i (by omega)
  rw [this]
  have hi2 : i < l.length := by have := h.len; omega
  have e : vs l i = l[i] := by unfold vs rdOf; simp [hi2]
  unfold encs
  rw [List.getElem?_map, List.getElem?_eq_getElem hi2, e]
  rfl
theorem OW.frozen {w : World} {base g n cap : Nat} {l : List ByteArray} (h : OW w base g n cap l) (i : Nat) : w.frozen? ⟨g, i, none⟩ = false := h.own.frozenAt i
theorem OW.set {w : World} {base g n cap : Nat} {l : List ByteArray} (h : OW w base g n cap l) (i : Nat) (s : ByteArray) : OW (w.setCell ⟨g, i, none⟩ (.string s)) base g n cap (l.set i s) := by
  refine ⟨?_, by rw [List.length_set]; exact h.len, h.ge, h.hcap, h.capm⟩
  have := (h.own.stored i (.string s)).1
  have e : encs Value.string (l.set i s) = (encs Value.string l).set i (Value.string s) := by unfold encs; rw [List.map_set]
  rw [e]
  exact this
theorem OW.below {w w' : World} {base g n cap : Nat} {l : List ByteArray} (h : OW w base g n cap l) (hb : Below w.heap.size w w') : OW w' base g n cap l := ⟨own_below h.own hb, h.len, h.ge, h.hcap, h.capm⟩
theorem OW.tl {w : World} {base g n cap : Nat} {l : List ByteArray} (h : OW w base g n cap l) (hsz : ∀ s ∈ l, s.size ≤ 9223372036854775807) : TL w (some ⟨g, 0, none⟩) cap l := by
  have hl := h.len
  have ho := h.own
  rw [← hl] at ho
  exact ⟨C_of_own ho, by have := h.hcap; omega, h.capm, hsz⟩
theorem ow_of {w : World} {base : Nat} {v : Value} {l : List ByteArray} (h : OT w base v l) (hv : v ≠ .slice none 0 0) : ∃ g cap, v = .slice (some ⟨g, 0, none⟩) l.length cap ∧ OW w base g l.length cap l := by
  have h2 := h
  rcases h.2 with ⟨rfl, h0⟩ | ⟨g, cap, cur, rfl, hb, _, k1, k2, _⟩
  · exact absurd rfl hv
  · unfold maxLen at k2
    exact ⟨g, cap, rfl, h2, rfl, hb, k1, k2⟩
theorem clone_t {g o c N : Nat} {l : List ByteArray} {w : World} (h : TL w (some ⟨g, o, none⟩) c l) (hN : l.length = N) (hl : N ≤ 1000) :
    Calls Tryz.prog 53 #[.slice (some ⟨g, o, none⟩) N c] w fun e w' => ∃ g2 cap, e = .returned (.slice (some ⟨g2, 0, none⟩) N cap) ∧ OW w' w.heap.size g2 N cap l ∧ Below w.heap.size w w' := by
  subst hN
  refine (clone_any h hl).mono ?_
  rintro e w' ⟨v, rfl, ho, hv, hb⟩
  obtain ⟨g2, cap, rfl, how⟩ := ow_of ho hv
  exact ⟨g2, cap, rfl, how, hb⟩
theorem rep_t {A : Option Addr} {c K N : Nat} {l L : List ByteArray} {w : World} (h : TL w A c l) (hN : l.length = N) (hK0 : 1 ≤ K) (hd : repF (K : Int) l = (L, 0)) (hL : L.length = K) (hsz : ∀ s ∈ L, s.size ≤ 9223372036854775807) :
    Calls Tryz.prog 33 #[.int .i64 (K : Int), .slice A N c] w (TxT L K w) := by
  have hh := Repair_any (K : Int) A c l w h.C h.cap h.sz
  rw [hN, hd] at hh
  refine hh.mono ?_
  rintro e w' ⟨v, rfl, hR, hb⟩
  exact txt_of hR hL hK0 hsz hb
/-- Faults that lie in memory. -/
def FA (w : World) (g o : Nat) (l : List (Int × ByteArray)) : Prop := ∀ (i : Nat) x, l[i]? = some x → w.rangeAt g (o + i * 2) [.int .i64 x.1, .string x.2]
theorem FA.below {w w' : World} {g o : Nat} {l : List (Int × ByteArray)} (h : FA w g o l) (hb : Below w.heap.size w w') : FA w' g o l := fun i x hx j v hv => cell_below hb (h i x hx j v hv)
theorem info79 : (Tryz.prog.info? 79).map (fun i => i.size) = some 2 := by kernel_rfl
/-- A text with another byte at a place. -/
def alter (s : ByteArray) (t : Nat) (y : Int) : ByteArray := strOfNums ((btL s).set t (xorI (bt s t) y))
theorem alter_size (s : ByteArray) (t : Nat) (y : Int) : (alter s t y).size = s.size := by unfold alter; rw [str_size, List.length_set, btL_len]
theorem alter_ne {s : ByteArray} {t : Nat} {y : Int} (ht : t < s.size) (hy : IsB y) (h0 : y ≠ 0) : alter s t y ≠ s := fun h => by
  have hb := bt_b s (t : Int)
  have e : bt (alter s t y) t = xorI (bt s t) y := by
    unfold alter
    rw [bt_nums _ (fun r hr => ?_) t (by rw [List.length_set, btL_len]; exact ht)]
    · unfold rd; simp [btL_len, ht]
    · rw [List.length_set, btL_len] at hr
      by_cases e : t = r
      · subst e
        have : rd ((btL s).set t (xorI (bt s t) y)) t = xorI (bt s t) y := by unfold rd; simp [btL_len, ht]
        rw [this, xorI_nat hb hy]
        have := Nat.xor_lt_two_pow (n := 8) (x := (bt s t).toNat) (y := y.toNat) (by have := hb.2; omega) (by have := hy.2; omega)
        refine ⟨by omega, ?_⟩
        have e : (Nat.xor (bt s t).toNat y.toNat) = ((bt s t).toNat ^^^ y.toNat) := rfl
        rw [e]
        omega
      · have : rd ((btL s).set t (xorI (bt s t) y)) r = rd (btL s) r := by unfold rd; simp [List.getD_eq_getElem?_getD, List.getElem?_set, e]
        rw [this, rd_btL s r hr]
        exact bt_b s _
  rw [h] at e
  rw [xorI_nat hb hy] at e
  have e1 : ((bt s t).toNat : Int) = ((Nat.xor (bt s t).toNat y.toNat : Nat) : Int) := by have := hb.1; omega
  have e2 : (bt s t).toNat = Nat.xor (bt s t).toNat y.toNat := by exact_mod_cast e1
  have e3 : Nat.xor (bt s t).toNat (bt s t).toNat = Nat.xor (bt s t).toNat (Nat.xor (bt s t).toNat y.toNat) := by rw [← e2]
  rw [xor_s, ← xor_a, xor_s, xor_c, xor_z] at e3
  have := hy.1
  omega
end Go.Proofs.YtkdjibejnncmfaaGreatDoor.Co
