/- The walks of CodedStraight's closures: exclusive or of two texts, and a text times an element. -/
import Derived.Test.YtkdjibejnncmfaaGreatDoorZN2
namespace Go.Proofs.YtkdjibejnncmfaaGreatDoor.Co
open Go.RowKit Go.Proofs.YtkdjibejnncmfaaGreatDoorW.PrintWords Go.Proofs.YtkdjibejnncmfaaGreatDoorW.PrintLast Go.Proofs.YtkdjibejnncmfaaGreatDoorW.PrintMore
set_option linter.unusedVariables false
set_option linter.unusedSimpArgs false
set_option maxRecDepth 100000
/-- Block g begins with the bytes xs; none of them is frozen. -/
def RM (w : World) (g : Nat) (xs : List Int) : Prop := ∃ cs lo hi, w.heap[g]? = some (.cells cs 5 (lo, hi)) ∧ xs.length ≤ lo ∧ ∀ t : Nat, t < xs.length → cs[t]? = some (.int .u8 (rd xs t))
theorem RM.cell {w : World} {g : Nat} {xs : List Int} (h : RM w g xs) (t : Nat) (ht : t < xs.length) : w.cell? ⟨g, t, none⟩ = some (.int .u8 (rd xs t)) := by
  obtain ⟨cs, lo, hi, h1, h2, h3⟩ := h
  rw [cell_of_row w g t _ 5 _ h1]
  exact h3 t ht
theorem RM.frozen {w : World} {g : Nat} {xs : List Int} (h : RM w g xs) (t : Nat) (ht : t < xs.length) : w.frozen? ⟨g, t, none⟩ = false := by
  obtain ⟨cs, lo, hi, h1, h2, h3⟩ := h
  simp [World.frozen?, h1]
  omega
theorem RM.set {w : World} {g : Nat} {xs : List Int} (h : RM w g xs) (t : Nat) (ht : t < xs.length) (x : Int) : RM (w.setCell ⟨g, t, none⟩ (.int .u8 x)) g (xs.set t x) := by
  obtain ⟨cs, lo, hi, h1, h2, h3⟩ := h
  refine ⟨cs.setIfInBounds t (.int .u8 x), lo, hi, ?_, by simpa using h2, ?_⟩
  · simp [World.setCell, Array.getElem?_modify, h1]
  · intro s hs
    have hs2 : s < xs.length := by simpa using hs
    have h4 := h3 s hs2
    have h5 : s < cs.size := by
      by_cases hh : s < cs.size
      · exact hh
      · rw [Array.getElem?_eq_none (by omega)] at h4; cases h4
    by_cases e : t = s
    · subst e
      rw [Array.getElem?_setIfInBounds_self_of_lt h5]
      unfold rd
      simp [hs2]
    · rw [Array.getElem?_setIfInBounds_ne e, h4]
      unfold rd
      simp [e]
theorem RM.below {w w' : World} {g B : Nat} {xs : List Int} (h : RM w g xs) (hb : Below B w w') (hg : g < B) : RM w' g xs := by
  obtain ⟨cs, lo, hi, h1, h2, h3⟩ := h
  exact ⟨cs, lo, hi, (hb.block g hg).trans h1, h2, h3⟩
theorem RM.lt {w : World} {g : Nat} {xs : List Int} (h : RM w g xs) : g < w.heap.size := by
  obtain ⟨cs, lo, hi, h1, h2, h3⟩ := h
  by_cases hh : g < w.heap.size
  · exact hh
  · rw [Array.getElem?_eq_none (by omega)] at h1; cases h1
theorem RM.drew {w : World} {g : Nat} {xs : List Int} (h : RM w g xs) (n : Nat) : RM (w.drewN n) g xs := h
/-- The bytes of a text. -/
def btL (s : ByteArray) : List Int := (List.range s.size).map fun (t : Nat) => bt s t
theorem btL_len (s : ByteArray) : (btL s).length = s.size := by simp [btL]
theorem rd_btL (s : ByteArray) (t : Nat) (h : t < s.size) : rd (btL s) t = bt s t := by unfold btL rd; simp [h]
theorem RM.bytes (w : World) (s : ByteArray) (hs : s.size ≤ 9223372036854775807) : RM (Lib.bytesWorld w 5 s) w.heap.size (btL s) := by
  refine ⟨_, _, _, Lib.bytesWorld_at_new w 5 s, ?_, ?_⟩
  · rw [btL_len]
    unfold Lib.bytesCells
    rw [Array.size_append, Array.size_map]
    exact Nat.le_add_right _ _
  · intro t ht
    rw [btL_len] at ht
    rw [rd_btL s t ht]
    by_cases hbig : s.size ≤ 9223372036854775807
    · have hrd := bytes_reads w 5 s hbig
      obtain ⟨ad, e, hc⟩ := hrd.2.2 (by omega)
      cases e
      have h2 := hc t ht
      rw [add_plain, cell_of_row _ w.heap.size t _ 5 _ (Lib.bytesWorld_at_new w 5 s)] at h2
      rw [h2]
      congr 2
      have := rd_bytesOf s (t : Int)
      simpa [rd] using this
    · exact absurd hs hbig
theorem bt_get (s : ByteArray) (t : Nat) (h : t < s.size) : bt s t = ((s[t]'h).toNat : Int) := by unfold bt; simp [h]
/-- Exclusive or, up to a place. -/
def xoTo (a b : ByteArray) (t : Nat) : List Int := (List.range a.size).map fun (s : Nat) => if s < t then xorI (bt a s) (bt b s) else bt a s
theorem xoTo_len (a b : ByteArray) (t : Nat) : (xoTo a b t).length = a.size := by simp [xoTo]
theorem xoTo_zero (a b : ByteArray) : xoTo a b 0 = btL a := by unfold xoTo btL; simp
theorem rd_map (f : Nat → Int) (n t : Nat) (h : t < n) : rd ((List.range n).map f) t = f t := by unfold rd; simp [h]
theorem xoTo_succ (a b : ByteArray) (t : Nat) (h : t < a.size) : xoTo a b (t + 1) = (xoTo a b t).set t (xorI (rd (xoTo a b t) t) (bt b t)) := by
  have e : rd (xoTo a b t) t = bt a t := by unfold xoTo; rw [rd_map _ _ _ h, if_neg (by omega)]
  rw [e]
  apply List.ext_getElem
  · simp [xoTo]
  · intro i h1 h2
    simp [xoTo] at h1
    rw [List.getElem_set]
    simp only [xoTo, List.getElem_map, List.getElem_range]
    by_cases hi : t = i
    · subst hi; rw [if_pos (by omega), if_pos rfl]
    · rw [if_neg hi]
      by_cases h3 : i < t
      · rw [if_pos (by omega), if_pos h3]
      · rw [if_neg (by omega), if_neg h3]
def xorS (a b : ByteArray) : ByteArray := strOfNums (xoTo a b a.size)
/-- A text times an element, up to a place. -/
def mlTo (by_ : Int) (a : ByteArray) (t : Nat) : List Int := (List.range a.size).map fun (s : Nat) => if s < t then mulI by_ (bt a s) else bt a s
theorem mlTo_len (y : Int) (a : ByteArray) (t : Nat) : (mlTo y a t).length = a.size := by simp [mlTo]
theorem mlTo_zero (y : Int) (a : ByteArray) : mlTo y a 0 = btL a := by unfold mlTo btL; simp
theorem mlTo_at (y : Int) (a : ByteArray) (t : Nat) (h : t < a.size) : rd (mlTo y a t) t = bt a t := by unfold mlTo; rw [rd_map _ _ _ h, if_neg (by omega)]
theorem mlTo_succ (y : Int) (a : ByteArray) (t : Nat) (h : t < a.size) : mlTo y a (t + 1) = (mlTo y a t).set t (mulI y (rd (mlTo y a t) t)) := by
  rw [mlTo_at y a t h]
  apply List.ext_getElem
  · simp [mlTo]
  · intro i h1 h2
    simp [mlTo] at h1
    rw [List.getElem_set]
    simp only [mlTo, List.getElem_map, List.getElem_range]
    by_cases hi : t = i
    · subst hi; rw [if_pos (by omega), if_pos rfl]
    · rw [if_neg hi]
      by_cases h3 : i < t
      · rw [if_pos (by omega), if_pos h3]
      · rw [if_neg (by omega), if_neg h3]
def mulS (y : Int) (a : ByteArray) : ByteArray := strOfNums (mlTo y a a.size)
theorem Times_int (a b : Int) (w : World) (ha : IsB a) (hb : IsB b) :
    Calls Tryz.prog 21 #[.int .u8 a, .int .u8 b] w fun e w' => e = .returned (.int .u8 (mulI a b)) ∧ Below w.heap.size w w' := by
  obtain ⟨a, rfl⟩ := Int.eq_ofNat_of_zero_le ha.1
  obtain ⟨b, rfl⟩ := Int.eq_ofNat_of_zero_le hb.1
  exact Times_any a b w (by have := ha.2; omega) (by have := hb.2; omega)
set_option maxHeartbeats 400000 in
theorem xor_any (a b : ByteArray) (w : World) (hab : a.size ≤ b.size) (hb : b.size ≤ 1000000) :
    Calls Tryz.prog 36 #[.string a, .string b] w fun e w' => e = .returned (.string (xorS a b)) ∧ Below w.heap.size w w' := by
  have kb := fun W => print_bytes (P := Tryz.prog) 9 46 5 Tryz.underlying9 Tryz.underlying46 Tryz.underlying5 a W
  go_enter Tryz.func36, Tryz.ntmps36
  go_wp2_with fail
  obtain ⟨wb, hwb⟩ : ∃ wb : World, wb = Lib.bytesWorld w 5 a := ⟨_, rfl⟩
  rw [← hwb]
  have hR : RM wb w.heap.size (xoTo a b 0) := by rw [hwb, xoTo_zero]; exact RM.bytes w a (by omega)
  have hB : Below w.heap.size w wb := by rw [hwb]; exact bytes_below (Below.refl _ _) (Nat.le_refl _) _ _
  have H := Lib.hid (And.intro hR hB)
  clear hR hB hwb kb
  generalize hcap : grownCap w a.size 0 5 = cp
  have HCP := Lib.hid hcap
  clear hcap
  go_loopw [11] (fun i wr => ∃ t : Nat, t ≤ a.size ∧ i = .int .i64 t ∧ RM wr w.heap.size (xoTo a b t) ∧ Below w.heap.size w wr) (fun i _ => a.size - (intOf i).toNat)
  case atStart => exact ⟨0, by omega, rfl, H.out.1, H.out.2⟩
  case round =>
    obtain ⟨t, ht, rfl, hR, hB⟩ := hrel
    have HR := Lib.hid hR
    have HB := Lib.hid hB
    have HL := xoTo_len a b t
    by_cases hlt : t < a.size
    · have q1 := hR.cell t (by rw [HL]; exact hlt)
      have q2 := hR.frozen t (by rw [HL]; exact hlt)
      have HS := Lib.hid (xoTo_succ a b t hlt)
      have HLL := Lib.hid HL
      have htb : t < b.size := by omega
      have HBT := Lib.hid (bt_get b t htb)
      clear hR hB HL
      go_wp2_with fail
      go_region
      all_goals go_wp2_with fail
      all_goals go_roundw
      case rel => exact ⟨t + 1, by omega, by go_num, by rw [HS.out, HBT.out]; exact RM.set (RM.drew HR.out 1) t (by rw [HLL.out]; exact hlt) _, Below.setCell (below_drN HB.out 1) (by simp) _⟩
      case measure => simp [intOf]; omega
    · obtain rfl : t = a.size := by omega
      have ks := run_convert_bytes_arg (P := Tryz.prog) wr 46 5 Tryz.underlying46 Tryz.underlying5 w.heap.size 0 a.size cp (xoTo a b a.size) (xoTo_len _ _ _) (fun i hi => by rw [Nat.zero_add, HR.out.cell i (by rw [HL]; exact hi)]; rfl) 9 Tryz.underlying9
      clear hR hB HL
      go_wp2_with fail
      go_ret
      exact ⟨rfl, HB.out⟩
set_option maxHeartbeats 400000 in
theorem mul_any (y : Int) (p : Addr) (a : ByteArray) (w : World) (hy : IsB y) (hp : w.cell? p = some (.int .u8 y)) (ha : a.size ≤ 1000000) :
    Calls Tryz.prog 37 #[.string a, .pointer (some p)] w fun e w' => e = .returned (.string (mulS y a)) ∧ Below w.heap.size w w' := by
  have kb := fun W => print_bytes (P := Tryz.prog) 9 46 5 Tryz.underlying9 Tryz.underlying46 Tryz.underlying5 a W
  have hpl := World.block_lt_of_cell? w _ hp
  have HP := Lib.hid hp
  clear hp
  go_enter Tryz.func37, Tryz.ntmps37
  go_wp2_with fail
  obtain ⟨wb, hwb⟩ : ∃ wb : World, wb = Lib.bytesWorld w 5 a := ⟨_, rfl⟩
  rw [← hwb]
  have hR : RM wb w.heap.size (mlTo y a 0) := by rw [hwb, mlTo_zero]; exact RM.bytes w a (by omega)
  have hB : Below w.heap.size w wb := by rw [hwb]; exact bytes_below (Below.refl _ _) (Nat.le_refl _) _ _
  have H := Lib.hid (And.intro hR hB)
  clear hR hB hwb kb
  generalize hcap : grownCap w a.size 0 5 = cp
  have HCP := Lib.hid hcap
  clear hcap
  go_loopw [10] (fun i wr => ∃ t : Nat, t ≤ a.size ∧ i = .int .i64 t ∧ RM wr w.heap.size (mlTo y a t) ∧ Below w.heap.size w wr) (fun i _ => a.size - (intOf i).toNat)
  case atStart => exact ⟨0, by omega, rfl, H.out.1, H.out.2⟩
  case round =>
    obtain ⟨t, ht, rfl, hR, hB⟩ := hrel
    have HR := Lib.hid hR
    have HB := Lib.hid hB
    have HL := mlTo_len y a t
    have hpr : wr.cell? p = some (.int .u8 y) := (hB.cell hpl).trans HP.out
    by_cases hlt : t < a.size
    · have q1 := hR.cell t (by rw [HL]; exact hlt)
      have q2 := hR.frozen t (by rw [HL]; exact hlt)
      have HS := Lib.hid (mlTo_succ y a t hlt)
      have hbb : IsB (rd (mlTo y a t) t) := by rw [mlTo_at y a t hlt]; exact ⟨(bt_range _ _).1, by have := (bt_range a t).2; omega⟩
      have HLL := Lib.hid HL
      have HBB := Lib.hid hbb
      clear hR hB HL hbb
      go_wp2_with fail
      have hgl : w.heap.size < wr.heap.size := HR.out.lt
      have hplr : p.block < wr.heap.size := by omega
      go_region_with ((go_at_call 21; refine Calls.mono (Times_int y _ _ hy HBB.out) ?_; rintro e w' ⟨rfl, hb⟩; have hb2 : Below wr.heap.size wr w' := ((Below.refl _ _).drew).trans hb; have hff : w'.frozen? ⟨w.heap.size, t, none⟩ = false := (hb2.frozen (p := ⟨w.heap.size, t, none⟩) hgl).trans q2; have hcc : w'.cell? ⟨w.heap.size, t, none⟩ = some (.int .u8 (rd (mlTo y a t) t)) := (hb2.cell (p := ⟨w.heap.size, t, none⟩) hgl).trans q1; have HB2 := Lib.hid hb2; clear hb hb2))
      all_goals go_wp2_with fail
      all_goals go_roundw
      all_goals first
        | exact ⟨t + 1, by omega, by go_num, by rw [HS.out]; exact RM.set (HR.out.below HB2.out hgl) t (by rw [HLL.out]; exact hlt) _, Below.setCell (HB.out.trans (HB2.out.mono (by omega))) (by simp) _⟩
        | (simp only [intOf]; omega)
        | (simp [intOf]; omega)
    · obtain rfl : t = a.size := by omega
      have ks := run_convert_bytes_arg (P := Tryz.prog) wr 46 5 Tryz.underlying46 Tryz.underlying5 w.heap.size 0 a.size cp (mlTo y a a.size) (mlTo_len _ _ _) (fun i hi => by rw [Nat.zero_add, HR.out.cell i (by rw [HL]; exact hi)]; rfl) 9 Tryz.underlying9
      clear hR hB HL
      go_wp2_with fail
      go_ret
      exact ⟨rfl, HB.out⟩
end Go.Proofs.YtkdjibejnncmfaaGreatDoor.Co
