/- Two data whose pieces are the same in k places are the same; what Repair finds, in plain Lean. -/
import Derived.Test.YtkdjibejnncmfaaGreatDoorZN4
namespace Go.Proofs.YtkdjibejnncmfaaGreatDoor.Co
open Go.RowKit Go.Proofs.YtkdjibejnncmfaaGreatDoorW.PrintWords Go.Proofs.YtkdjibejnncmfaaGreatDoorW.PrintLast Go.Proofs.YtkdjibejnncmfaaGreatDoorW.PrintMore
set_option linter.unusedVariables false
set_option linter.unusedSimpArgs false
set_option maxRecDepth 100000
theorem filter_two {α : Type} (p q : α → Bool) : ∀ l : List α, l.length ≤ (l.filter fun x => p x && q x).length + (l.filter fun x => !p x).length + (l.filter fun x => !q x).length
  | [] => by simp
  | x :: l => by
    have ih := filter_two p q l
    cases hp : p x <;> cases hq : q x <;> simp [List.filter_cons, hp, hq] <;> omega
theorem toList_eq {a b : ByteArray} (h : (a.toList == b.toList) = true) : a = b := by
  have h1 : a.toList = b.toList := by simpa using h
  rw [ByteArray.toList_eq, ByteArray.toList_eq] at h1
  apply ByteArray.ext
  exact Array.toList_inj.1 h1
/-- Data of k texts, and where they lie. -/
structure Dat (k L : Nat) (pts : List Int) (vals : List ByteArray) : Prop where
  pt : Pts pts
  len : pts.length = k
  same : pts.length = vals.length
  sz : Len vals L
theorem Dat.agree {k L : Nat} {p1 p2 : List Int} {v1 v2 : List ByteArray} (h1 : Dat k L p1 v1) (h2 : Dat k L p2 v2) (hk : 0 < k) (idx : List Nat) (hn : idx.Nodup) (hl : k ≤ idx.length) (hb : ∀ i ∈ idx, i < 256)
    (he : ∀ i ∈ idx, pieceF p1 v1 (i : Int) = pieceF p2 v2 (i : Int)) {x : Int} (hx : IsB x) : pieceF p1 v1 x = pieceF p2 v2 x := by
  have z1 : (vs v1 0).size = L := h1.sz 0 (by have := h1.same; have := h1.len; omega)
  have z2 : (vs v2 0).size = L := h2.sz 0 (by have := h2.same; have := h2.len; omega)
  apply bt_ext
  · rw [piece_size, piece_size, z1, z2]
  · intro t ht
    rw [piece_size, z1] at ht
    have e1 := piece_fe h1.pt hx h1.same t (by omega)
    have e2 := piece_fe h2.pt hx h2.same t (by omega)
    refine fe_inj (bt_b _ _) (bt_b _ _) ?_
    rw [e1, e2]
    have g1 := Pf.lag_pd (pf p1) (vf v1 t) p1.length p1.length (Nat.le_refl _)
    have g2 := Pf.lag_pd (pf p2) (vf v2 t) p2.length p2.length (Nat.le_refl _)
    rw [h1.len] at g1
    rw [h2.len] at g2
    have hfe : ∀ i : Nat, i < 256 → IsB (i : Int) := fun i hi => ⟨by omega, by omega⟩
    have := Pf.Pd.same (idx.map fun i : Nat => fe (i : Int)) g1 g2 (by
      rw [List.nodup_iff_pairwise_ne, List.pairwise_map]
      rw [List.nodup_iff_pairwise_ne] at hn
      refine List.Pairwise.imp_of_mem ?_ hn
      intro a b ha hb2 hab e
      have := fe_inj (hfe a (hb a ha)) (hfe b (hb b hb2)) e
      omega) (by simpa using hl) (fun r hr => by
      obtain ⟨i, hi, rfl⟩ := List.mem_map.1 hr
      have a1 := piece_fe h1.pt (hfe i (hb i hi)) h1.same t (by omega)
      have a2 := piece_fe h2.pt (hfe i (hb i hi)) h2.same t (by omega)
      rw [h1.len] at a1
      rw [h2.len] at a2
      show Pf.lag (pf p1) (vf v1 t) k (fe (i : Int)) k = Pf.lag (pf p2) (vf v2 t) k (fe (i : Int)) k
      rw [← a1, ← a2, he i hi]) (fe x)
    rw [h1.len, h2.len]
    exact this
/-- How many of n texts are not the pieces. -/
def offN (p : List Int) (v l : List ByteArray) (n : Nat) : Nat := ((List.range n).filter fun i : Nat => !((pieceF p v (i : Int)).toList == (vs l i).toList)).length
theorem Dat.near {k L n : Nat} {p1 p2 : List Int} {v1 v2 l : List ByteArray} (h1 : Dat k L p1 v1) (h2 : Dat k L p2 v2) (hk : 0 < k) (hn : n ≤ 256) (hw : offN p1 v1 l n + offN p2 v2 l n + k ≤ n) {x : Int} (hx : IsB x) : pieceF p1 v1 x = pieceF p2 v2 x := by
  have hf := filter_two (fun i : Nat => (pieceF p1 v1 (i : Int)).toList == (vs l i).toList) (fun i : Nat => (pieceF p2 v2 (i : Int)).toList == (vs l i).toList) (List.range n)
  rw [List.length_range] at hf
  unfold offN at hw
  refine h1.agree h2 hk ((List.range n).filter fun i : Nat => ((pieceF p1 v1 (i : Int)).toList == (vs l i).toList) && ((pieceF p2 v2 (i : Int)).toList == (vs l i).toList)) ?_ (by omega) (fun i hi => ?_) (fun i hi => ?_) hx
  · exact List.Pairwise.filter _ List.nodup_range
  · have := (List.mem_filter.1 hi).1
    have := List.mem_range.1 this
    omega
  · have h := (List.mem_filter.1 hi).2
    simp only [Bool.and_eq_true] at h
    rw [toList_eq h.1, toList_eq h.2]
theorem wrongTo_off (pts : List Int) (vals l : List ByteArray) (n : Nat) : wrongTo (someTo pts vals n) l n = offN pts vals l n := by
  unfold wrongTo offN
  congr 1
  apply List.filter_congr
  intro i hi
  have hi2 := List.mem_range.1 hi
  rw [vs_some _ _ _ _ hi2]
/-! What tryF finds. -/
theorem tryF_sound {good : List Int → Bool} {n : Nat} : ∀ (m : Nat) (l : List Int) (q : Nat) (a : List Int), q ≤ n → Comb l q → tryF good n m l q = some a → good a = true ∧ Comb a n ∧ a.length = l.length + m
  | 0, l, q, a, hq, hC, h => by
    unfold tryF at h
    by_cases hg : good l = true
    · rw [if_pos hg] at h
      injection h with h
      subst h
      exact ⟨hg, ⟨fun x hx => ⟨(hC.1 x hx).1, by have := (hC.1 x hx).2; omega⟩, hC.2⟩, rfl⟩
    · rw [if_neg hg] at h; cases h
  | m + 1, l, q, a, hq, hC, h => by
    unfold tryF at h
    obtain ⟨i, hi, hh⟩ := List.exists_of_findSome?_eq_some h
    have hi2 := List.mem_range'.1 hi
    obtain ⟨j, hj, e⟩ := hi2
    have := tryF_sound m (l ++ [(i : Int)]) (i + 1) a (by omega) (hC.snoc (by omega)) hh
    refine ⟨this.1, this.2.1, ?_⟩
    rw [this.2.2, List.length_append]
    simp
    omega
theorem tryF_complete {good : List Int → Bool} {n : Nat} : ∀ (m : Nat) (l ext : List Int) (q : Nat), ext.length = m → Comb (l ++ ext) n → (∀ x ∈ ext, (q : Int) ≤ x) → good (l ++ ext) = true → (tryF good n m l q).isSome = true
  | 0, l, ext, q, hl, hC, hx, hg => by
    have : ext = [] := List.eq_nil_of_length_eq_zero hl
    subst this
    rw [List.append_nil] at hg
    unfold tryF
    rw [if_pos hg]
    rfl
  | m + 1, l, [], q, hl, _, _, _ => by simp at hl
  | m + 1, l, y :: ext, q, hl, hC, hx, hg => by
    have hyr := hC.1 y (by simp)
    have hyq := hx y List.mem_cons_self
    obtain ⟨i, rfl⟩ := Int.eq_ofNat_of_zero_le hyr.1
    have hin : i < n := by have := hyr.2; omega
    have hiq : q ≤ i := by omega
    have e : l ++ (i : Int) :: ext = (l ++ [(i : Int)]) ++ ext := by simp
    have hC2 := hC
    rw [e] at hC2 hg
    have hlt : ∀ x ∈ ext, ((i + 1 : Nat) : Int) ≤ x := fun x hx2 => by
      have h2 := hC.2
      rw [List.pairwise_append] at h2
      have h3 := (List.pairwise_cons.1 h2.2.1).1 x hx2
      omega
    have ih := tryF_complete m (l ++ [(i : Int)]) ext (i + 1) (by simpa using hl) hC2 hlt hg
    unfold tryF
    rw [List.findSome?_isSome_iff]
    exact ⟨i, List.mem_range'.2 ⟨i - q, by omega, by omega⟩, ih⟩
theorem comb_pts {at_ : List Int} {n : Nat} (h : Comb at_ n) (hn : n ≤ 256) : Pts at_ ∧ ∀ i : Nat, i < at_.length → 0 ≤ rd at_ i ∧ rd at_ i < n := by
  have hr : ∀ i : Nat, i < at_.length → 0 ≤ rd at_ i ∧ rd at_ i < n := fun i hi => h.1 _ (rd_mem at_ i hi)
  refine ⟨⟨fun i hi => ⟨(hr i hi).1, by have := (hr i hi).2; omega⟩, fun i j hi hj hij e => ?_⟩, hr⟩
  have e1 : rd at_ i = at_[i] := rd_nat at_ i hi
  have e2 : rd at_ j = at_[j] := rd_nat at_ j hj
  rw [e1, e2] at e
  have hp := List.pairwise_iff_getElem.1 h.2
  rcases Nat.lt_or_ge i j with h1 | h1
  · have := hp i j hi hj h1; omega
  · have := hp j i hj hi (by omega); omega
theorem comb_dat {k L n : Nat} {at_ : List Int} {l : List ByteArray} (h : Comb at_ n) (hn : n ≤ 256) (hk : at_.length = k) (hl : n ≤ l.length) (hL : Len l L) : Dat k L at_ (ownF l at_) := by
  obtain ⟨h1, h2⟩ := comb_pts h hn
  refine ⟨h1, hk, by simp [ownF], fun j hj => ?_⟩
  have hj2 : j < at_.length := by simpa [ownF] using hj
  rw [vs_ownF l at_ j hj2]
  have hr := h2 j hj2
  obtain ⟨q, hq⟩ := Int.eq_ofNat_of_zero_le hr.1
  rw [hq]
  exact hL q (by have := hr.2; omega)
end Go.Proofs.YtkdjibejnncmfaaGreatDoor.Co
