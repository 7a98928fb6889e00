/- A text is read off the pages that it was written on. -/
import Derived.Test.YtkdjibejnncmfaaGreatDoorZN15
namespace Go.Proofs.YtkdjibejnncmfaaGreatDoor.Co
open Go.RowKit Go.Proofs.YtkdjibejnncmfaaGreatDoorW.PrintWords Go.Proofs.YtkdjibejnncmfaaGreatDoorW.PrintLast Go.Proofs.YtkdjibejnncmfaaGreatDoorW.PrintMore
set_option linter.unusedVariables false
set_option linter.unusedSimpArgs false
set_option maxRecDepth 100000
theorem needed_ge {len k : Nat} (hk : 1 ≤ k) : 4 + len ≤ neededF len k * 40 * k := by
  unfold neededF
  obtain ⟨c, hc⟩ : ∃ c, c = 40 * k := ⟨_, rfl⟩
  rw [← hc, Nat.mul_assoc, ← hc]
  have h1 := Nat.div_add_mod (4 + len + c - 1) c
  have h2 := Nat.mod_lt (4 + len + c - 1) (show c > 0 by omega)
  rw [Nat.mul_comm] at h1
  omega
theorem needed_one {len k : Nat} (hk : 1 ≤ k) : 1 ≤ neededF len k := by
  have := needed_ge (len := len) hk
  rcases Nat.eq_zero_or_pos (neededF len k) with h | h
  · rw [h] at this; omega
  · exact h
theorem part_in {st k i j : Nat} (hi : i < st) (hj : j < k) : (i * k + j) * 40 + 40 ≤ st * 40 * k := by
  have h1 : i * k + j + 1 ≤ st * k := by
    calc i * k + j + 1 ≤ i * k + k := by omega
      _ = (i + 1) * k := by rw [Nat.add_mul, Nat.one_mul]
      _ ≤ st * k := Nat.mul_le_mul_right k (by omega)
  have h2 : st * 40 * k = st * k * 40 := by rw [Nat.mul_assoc, Nat.mul_comm 40 k, ← Nat.mul_assoc]
  omega
theorem stripe_len (data : List Int) (k i : Nat) : (stripeL data k i).length = k := by simp [stripeL]
theorem vs_stripe (data : List Int) (k i j : Nat) (hj : j < k) : vs (stripeL data k i) j = partF data k i j := vs_map _ k j hj
theorem part_size {data : List Int} {k i j : Nat} (h : (i * k + j) * 40 + 40 ≤ data.length) : (partF data k i j).size = 40 := by
  unfold partF
  rw [str_size, List.length_take, List.length_drop]
  omega
theorem stripe_sz {text : ByteArray} {k i : Nat} (hi : i < neededF text.size k) : Len (stripeL (dataF text k) k i) 40 := fun j hj => by
  rw [stripe_len] at hj
  rw [vs_stripe _ _ _ _ hj]
  exact part_size (by rw [dataF_len]; exact part_in hi hj)
theorem vs_piece (n : Nat) (text : ByteArray) (k i disk : Nat) (hd : disk < n) : vs (piecesF n text k i) disk = pieceF (firstL k) (stripeL (dataF text k) k i) disk := vs_some _ _ _ _ hd
theorem piece_sz {n : Nat} {text : ByteArray} {k i disk : Nat} (hk : 1 ≤ k) (hi : i < neededF text.size k) (hd : disk < n) : (vs (piecesF n text k i) disk).size = 40 := by
  rw [vs_piece _ _ _ _ _ hd, piece_size]
  exact stripe_sz hi 0 (by rw [stripe_len]; omega)
/-- The first pieces are the data. -/
theorem some_own {k : Nat} (hk : k ≤ 256) (data : List Int) (i : Nat) (hL : Len (stripeL data k i) 40) : someTo (firstL k) (stripeL data k i) k = stripeL data k i := by
  show (List.range k).map _ = (List.range k).map _
  apply List.map_congr_left
  intro j hj
  have hj2 := List.mem_range.1 hj
  have h := piece_own (firstL_pts k hk) (vals := stripeL data k i) (by rw [firstL_length, stripe_len]) hL j (by rw [firstL_length]; exact hj2)
  rw [rd_firstL k j hj2, vs_stripe _ _ _ _ hj2] at h
  exact h
theorem some_take (pts : List Int) (vals : List ByteArray) {k n : Nat} (h : k ≤ n) : (someTo pts vals n).take k = someTo pts vals k := by
  show ((List.range n).map _).take k = (List.range k).map _
  rw [← List.map_take, List.take_range, Nat.min_eq_left h]
theorem first_take {k n : Nat} (h : k ≤ n) : (firstL n).take k = firstL k := by
  show ((List.range n).map _).take k = (List.range k).map _
  rw [← List.map_take, List.take_range, Nat.min_eq_left h]
theorem placed_page (n m : Nat) (text : ByteArray) (life k disk i : Nat) : (placedF n m text life k disk i).page = madeF n life (neededF text.size k) k disk (firstF m life + i) (vs (piecesF n text k i) disk) := by simp only [placedF]
/-- Disks that hold a text. -/
def Holds (n m : Nat) (D : DS) (text : ByteArray) (life k : Nat) : Prop := ∀ disk i : Nat, disk < n → i < neededF text.size k → pageAt D disk (firstF m life + i) = (placedF n m text life k disk i).page
section
variable {n m life k : Nat} {D : DS} {text : ByteArray}
theorem share_held (h : Holds n m D text life k) (hk : 1 ≤ k) {i : Nat} (hi : i < neededF text.size k) : shareL D (firstF m life + i) (firstL n) = piecesF n text k i := by
  have e1 : firstL n = (List.range n).map fun (i : Nat) => (i : Int) := rfl
  have e2 : piecesF n text k i = (List.range n).map fun (d : Nat) => pieceF (firstL k) (stripeL (dataF text k) k i) (d : Int) := rfl
  rw [e2]
  unfold shareL
  rw [e1, List.map_map]
  refine List.map_congr_left (fun d hd => ?_)
  have hd2 := List.mem_range.1 hd
  simp only [Function.comp]
  unfold shareAt
  rw [Int.toNat_natCast, h d i hd2 hi, placed_page, made_share _ _ _ _ _ _ _ (piece_sz hk hi hd2), str_wr, vs_piece _ _ _ _ _ hd2]
theorem stripe_held (h : Holds n m D text life k) (hk : 1 ≤ k) (hkn : k ≤ n) (hn : n ≤ 12) {i : Nat} (hi : i < neededF text.size k) (x2 : Nat) :
    stripeF D m (life, x2, k) i (firstL n) = some (catL (stripeL (dataF text k) k i)) := by
  have hs := share_held h hk hi
  have hL := stripe_sz hi
  have ht : (piecesF n text k i).take k = stripeL (dataF text k) k i := by
    unfold piecesF
    rw [some_take _ _ hkn]
    exact some_own (by omega) _ _ hL
  unfold stripeF
  show (if (firstL n).length < k then none else if fitsF k (firstL n) (shareL D (firstF m life + i) (firstL n)) then some (catL (someTo ((firstL n).take k) ((shareL D (firstF m life + i) (firstL n)).take k) k)) else none) = _
  rw [hs, ht, first_take hkn, some_own (by omega) _ _ hL, if_neg (by rw [firstL_length]; omega), if_pos]
  refine fitsF_true (fun j hj1 hj2 => ?_)
  have hj3 : j < n := by unfold piecesF at hj2; rw [someTo_length] at hj2; exact hj2
  unfold fitAt
  rw [first_take hkn, ht, rd_firstL n j hj3, vs_piece _ _ _ _ _ hj3]
  simp
end
end Go.Proofs.YtkdjibejnncmfaaGreatDoor.Co
