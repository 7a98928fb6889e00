/- Encode of exclusive ors and of products, in plain Lean. -/
import Derived.Test.YtkdjibejnncmfaaGreatDoorZN1
import Derived.Test.YtkdjibejnncmfaaGreatDoorZN3
namespace Go.Proofs.YtkdjibejnncmfaaGreatDoor.Co
open Go.RowKit Go.Proofs.YtkdjibejnncmfaaGreatDoorW.PrintWords Go.Proofs.YtkdjibejnncmfaaGreatDoorW.PrintLast Go.Proofs.YtkdjibejnncmfaaGreatDoorW.PrintMore
set_option linter.unusedVariables false
set_option linter.unusedSimpArgs false
set_option maxRecDepth 100000
theorem dataB_iff {l : List ByteArray} {n long : Int} (h : dataB l n long = true) : 1 ≤ l.length ∧ (l.length : Int) ≤ n ∧ n ≤ 12 ∧ Len l (vs l 0).size ∧ ∀ i : Nat, i < l.length → ((vs l i).size : Int) ≤ long := by
  unfold dataB at h
  by_cases h1 : l.length < 1
  · rw [if_pos h1] at h; cases h
  rw [if_neg h1] at h
  by_cases h2 : n < (l.length : Int)
  · rw [if_pos h2] at h; cases h
  rw [if_neg h2] at h
  by_cases h3 : 12 < n
  · rw [if_pos h3] at h; cases h
  rw [if_neg h3] at h
  have h4 : ∀ s ∈ l, dat1 (vs l 0) s long = false := by
    simpa using h
  have h5 : ∀ i : Nat, i < l.length → (vs l i).size = (vs l 0).size ∧ ((vs l i).size : Int) ≤ long := fun i hi => by
    have := h4 _ (vs_mem l i hi)
    unfold dat1 at this
    simp at this
    omega
  exact ⟨by omega, by omega, by omega, fun i hi => (h5 i hi).1, fun i hi => (h5 i hi).2⟩
theorem alike_of {l : List ByteArray} {least most : Int} (h1 : least ≤ l.length) (h2 : l.length ≤ 12) (h3 : ((vs l 0).size : Int) ≤ most) (h4 : Len l (vs l 0).size) : alikeF l least most = true := by
  unfold alikeF
  rw [if_neg (by omega), if_neg (by omega), if_neg (by omega)]
  simp
  intro s hs
  obtain ⟨i, hi, rfl⟩ := List.getElem_of_mem hs
  have := h4 i hi
  have e : vs l i = l[i] := by unfold vs rdOf; simp [hi]
  rw [e] at this
  exact this
theorem encOk_of {l : List ByteArray} {n : Int} (h1 : 1 ≤ l.length) (h2 : (l.length : Int) ≤ n) (h3 : n ≤ 12) (h4 : Len l (vs l 0).size) (h5 : (vs l 0).size ≤ 4096) : encOk l n = true := by
  unfold encOk
  rw [alike_of (by omega) (by omega) (by omega) h4]
  simp
  omega
theorem enc_eq {l : List ByteArray} {n : Int} (h : encOk l n = true) : encF l n = (someTo (firstL l.length) l n.toNat, 0) := by unfold encF; rw [if_pos h]
theorem firstL_pts (n : Nat) (h : n ≤ 256) : Pts (firstL n) where
  b := fun i hi => by rw [firstL_length] at hi; rw [rd_firstL n i hi]; exact ⟨by omega, by omega⟩
  ne := fun i j hi hj hij => by rw [firstL_length] at hi hj; rw [rd_firstL n i hi, rd_firstL n j hj]; omega
theorem vs_map (f : Nat → ByteArray) (n i : Nat) (h : i < n) : vs ((List.range n).map f) i = f i := by unfold vs rdOf; simp [h]
theorem vs_some (pts : List Int) (vals : List ByteArray) (n i : Nat) (h : i < n) : vs (someTo pts vals n) i = pieceF pts vals i := vs_map _ n i h
theorem xorS_size (a b : ByteArray) : (xorS a b).size = a.size := by unfold xorS; rw [str_size, xoTo_len]
theorem mulS_size (y : Int) (a : ByteArray) : (mulS y a).size = a.size := by unfold mulS; rw [str_size, mlTo_len]
theorem bt_xorS (a b : ByteArray) (t : Nat) (h : t < a.size) : bt (xorS a b) t = xorI (bt a t) (bt b t) := by
  unfold xorS
  have e : ∀ t : Nat, t < a.size → rd (xoTo a b a.size) t = xorI (bt a t) (bt b t) := fun t ht => by unfold xoTo; rw [rd_map _ _ _ ht, if_pos ht]
  rw [bt_nums _ (fun i hi => by rw [xoTo_len] at hi; rw [e i hi]; exact xorI_b _ _) t (by rw [xoTo_len]; exact h), e t h]
theorem bt_mulS (y : Int) (a : ByteArray) (t : Nat) (h : t < a.size) : bt (mulS y a) t = mulI y (bt a t) := by
  unfold mulS
  have e : ∀ t : Nat, t < a.size → rd (mlTo y a a.size) t = mulI y (bt a t) := fun t ht => by unfold mlTo; rw [rd_map _ _ _ ht, if_pos ht]
  rw [bt_nums _ (fun i hi => by rw [mlTo_len] at hi; rw [e i hi]; exact mulI_b _ _) t (by rw [mlTo_len]; exact h), e t h]
/-- Two lists of texts, text by text exclusive or. -/
def sumTo (l m : List ByteArray) (k : Nat) : List ByteArray := (List.range k).map fun i => xorS (vs l (i : Nat)) (vs m (i : Nat))
def sclTo (y : Int) (l : List ByteArray) (k : Nat) : List ByteArray := (List.range k).map fun i => mulS y (vs l (i : Nat))
theorem sumTo_succ (l m : List ByteArray) (k : Nat) : sumTo l m (k + 1) = sumTo l m k ++ [xorS (vs l k) (vs m k)] := by unfold sumTo; rw [List.range_succ, List.map_append]; rfl
theorem sclTo_succ (y : Int) (l : List ByteArray) (k : Nat) : sclTo y l (k + 1) = sclTo y l k ++ [mulS y (vs l k)] := by unfold sclTo; rw [List.range_succ, List.map_append]; rfl
theorem sumTo_len (l m : List ByteArray) (k : Nat) : (sumTo l m k).length = k := by simp [sumTo]
theorem sclTo_len (y : Int) (l : List ByteArray) (k : Nat) : (sclTo y l k).length = k := by simp [sclTo]
theorem vs_sum (l m : List ByteArray) (k i : Nat) (h : i < k) : vs (sumTo l m k) i = xorS (vs l i) (vs m i) := vs_map _ k i h
theorem vs_scl (y : Int) (l : List ByteArray) (k i : Nat) (h : i < k) : vs (sclTo y l k) i = mulS y (vs l i) := vs_map _ k i h
theorem piece_sum {pts : List Int} (h : Pts pts) {l m : List ByteArray} (hn : pts.length = l.length) (hm : l.length = m.length) {L : Nat} (hL : Len l L) (hM : Len m L) (h0 : 0 < l.length) {x : Int} (hx : IsB x) :
    pieceF pts (sumTo l m l.length) x = xorS (pieceF pts l x) (pieceF pts m x) := by
  have s0 : (vs l 0).size = L := hL 0 h0
  have t0 : (vs m 0).size = L := hM 0 (by omega)
  have e0 : (vs (sumTo l m l.length) 0).size = L := by
    have e : vs (sumTo l m l.length) (0 : Int) = xorS (vs l (0 : Int)) (vs m (0 : Int)) := vs_sum l m l.length 0 h0
    rw [e, xorS_size, s0]
  apply bt_ext
  · rw [piece_size, e0, xorS_size, piece_size, s0]
  · intro t ht
    rw [piece_size, e0] at ht
    rw [bt_xorS _ _ t (by rw [piece_size, s0]; exact ht)]
    refine fe_inj (bt_b _ _) (xorI_b _ _) ?_
    rw [fe_xor (bt_b _ _) (bt_b _ _), piece_fe h hx (by rw [sumTo_len]; exact hn) t (by omega), piece_fe h hx hn t (by omega), piece_fe h hx (by omega) t (by omega), ← Pf.lag_add]
    have : ∀ k, k ≤ pts.length → Pf.lag (pf pts) (vf (sumTo l m l.length) t) pts.length (fe x) k = Pf.lag (pf pts) (fun j => vf l t j + vf m t j) pts.length (fe x) k := by
      intro k
      induction k with
      | zero => intro _; rfl
      | succ k ih =>
        intro hk
        rw [Pf.lag, Pf.lag, ih (by omega)]
        have e : vf (sumTo l m l.length) t k = vf l t k + vf m t k := by
          show fe (bt (vs (sumTo l m l.length) k) t) = fe (bt (vs l k) t) + fe (bt (vs m k) t)
          rw [vs_sum l m l.length k (by omega), bt_xorS _ _ t (by rw [hL k (by omega)]; exact ht), fe_xor (bt_b _ _) (bt_b _ _)]
        rw [e]
    exact this _ (Nat.le_refl _)
theorem piece_scl {pts : List Int} (h : Pts pts) {y : Int} (hy : IsB y) {l : List ByteArray} (hn : pts.length = l.length) {L : Nat} (hL : Len l L) (h0 : 0 < l.length) {x : Int} (hx : IsB x) :
    pieceF pts (sclTo y l l.length) x = mulS y (pieceF pts l x) := by
  have s0 : (vs l 0).size = L := hL 0 h0
  have e0 : (vs (sclTo y l l.length) 0).size = L := by
    have e : vs (sclTo y l l.length) (0 : Int) = mulS y (vs l (0 : Int)) := vs_scl y l l.length 0 h0
    rw [e, mulS_size, s0]
  apply bt_ext
  · rw [piece_size, e0, mulS_size, piece_size, s0]
  · intro t ht
    rw [piece_size, e0] at ht
    rw [bt_mulS _ _ t (by rw [piece_size, s0]; exact ht)]
    refine fe_inj (bt_b _ _) (mulI_b _ _) ?_
    rw [fe_mul hy (bt_b _ _), piece_fe h hx (by rw [sclTo_len]; exact hn) t (by omega), piece_fe h hx hn t (by omega), ← Pf.lag_smul]
    have : ∀ k, k ≤ pts.length → Pf.lag (pf pts) (vf (sclTo y l l.length) t) pts.length (fe x) k = Pf.lag (pf pts) (fun j => fe y * vf l t j) pts.length (fe x) k := by
      intro k
      induction k with
      | zero => intro _; rfl
      | succ k ih =>
        intro hk
        rw [Pf.lag, Pf.lag, ih (by omega)]
        have e : vf (sclTo y l l.length) t k = fe y * vf l t k := by
          show fe (bt (vs (sclTo y l l.length) k) t) = fe y * fe (bt (vs l k) t)
          rw [vs_scl y l l.length k (by omega), bt_mulS _ _ t (by rw [hL k (by omega)]; exact ht), fe_mul hy (bt_b _ _)]
        rw [e]
    exact this _ (Nat.le_refl _)
end Go.Proofs.YtkdjibejnncmfaaGreatDoor.Co
