/- Open finds a text that is held, if none is newer. -/
import Derived.Test.YtkdjibejnncmfaaGreatDoorZN16
namespace Go.Proofs.YtkdjibejnncmfaaGreatDoor.Co
open Go.RowKit Go.Proofs.YtkdjibejnncmfaaGreatDoorW.PrintWords Go.Proofs.YtkdjibejnncmfaaGreatDoorW.PrintLast Go.Proofs.YtkdjibejnncmfaaGreatDoorW.PrintMore
set_option linter.unusedVariables false
set_option linter.unusedSimpArgs false
set_option maxRecDepth 100000
theorem wr_app (a b : ByteArray) : wrBytes (a ++ b) = wrBytes a ++ wrBytes b := by simp [wrBytes, ByteArray.data_append]
theorem wr_part {data : List Int} (hb : ∀ x ∈ data, IsB x) (k i j : Nat) : wrBytes (partF data k i j) = (data.drop ((i * k + j) * 40)).take 40 := by
  unfold partF
  exact wr_str (fun x hx => hb x (List.mem_of_mem_drop (List.mem_of_mem_take hx)))
theorem cat_parts {data : List Int} (hb : ∀ x ∈ data, IsB x) (k i : Nat) : ∀ q, wrBytes (catL ((List.range q).map fun j => partF data k i j)) = (data.drop (i * k * 40)).take (q * 40)
  | 0 => by simp [catL, wrBytes]
  | q + 1 => by
    rw [List.range_succ, List.map_append, List.map_cons, List.map_nil, catL_snoc, wr_app, cat_parts hb k i q, wr_part hb, Nat.add_mul, Nat.add_mul, Nat.one_mul, List.take_add, List.drop_drop]
theorem cat_stripe {data : List Int} (hb : ∀ x ∈ data, IsB x) (k i : Nat) : wrBytes (catL (stripeL data k i)) = (data.drop (i * k * 40)).take (k * 40) := cat_parts hb k i k
theorem text_data {text : ByteArray} {k life : Nat} (hk : 1 ≤ k) (ht : text.size ≤ 4000) : textO (dataF text k) (life, neededF text.size k, k) = some text := by
  have hge := needed_ge (len := text.size) hk
  have hw := wrBytes_length text
  have hl4 := leB_length text.size 4
  obtain ⟨Z, hZ⟩ : ∃ Z, Z = List.replicate (neededF text.size k * 40 * k) (0 : Int) := ⟨_, rfl⟩
  have hZl : Z.length = neededF text.size k * 40 * k := by rw [hZ, List.length_replicate]
  have hd : dataF text k = setL (setL Z 0 (leB text.size 4)) 4 (wrBytes text) := by rw [hZ]; rfl
  have hdl := dataF_len text k
  have h4 : (dataF text k).take 4 = leB text.size 4 := by
    have e : (dataF text k).take 4 = cutL (dataF text k) 0 4 := by unfold cutL; rw [List.drop_zero]
    rw [e, hd, cut_out (by rw [setL_length]; omega) (Or.inl (by omega))]
    have := cut_in (l := Z) (bs := leB text.size 4) (off := 0) (by omega)
    rw [hl4] at this
    exact this
  have hof : ofLE ((dataF text k).take 4) = text.size := by rw [h4, ofLE_leB, p4]; exact Nat.mod_eq_of_lt (by omega)
  have hdr : ((dataF text k).drop 4).take text.size = wrBytes text := by
    have e : ((dataF text k).drop 4).take text.size = cutL (dataF text k) 4 text.size := rfl
    rw [e, hd]
    have := cut_in (l := setL Z 0 (leB text.size 4)) (bs := wrBytes text) (off := 4) (by rw [setL_length]; omega)
    rw [hw] at this
    exact this
  have hbl : blankF ((dataF text k).length - (4 + text.size)) (fun j => rd (dataF text k) ((4 + text.size + j : Nat) : Int)) = true := by
    unfold blankF
    rw [List.all_eq_true]
    intro j hj
    have hj2 := List.mem_range.1 hj
    show (rd (dataF text k) ((4 + text.size + j : Nat) : Int) == 0) = true
    rw [hd, rd_setL (by rw [setL_length]; omega) (by omega), rd_setL (by omega) (by omega)]
    have : rd Z ((4 + text.size + j : Nat) : Int) = 0 := by
      unfold rd
      rw [hZ, Int.toNat_natCast, List.getD_eq_getElem?_getD, List.getElem?_replicate]
      split <;> rfl
    rw [this]
    rfl
  unfold textO
  rw [hof, if_neg (by omega), if_neg (by omega), hbl, hdr, str_wr]
  simp
section
variable {n m life k : Nat} {D : DS} {text : ByteArray}
theorem sound_held (h : Holds n m D text life k) (hl1 : 1 ≤ life) (hl2 : life ≤ 1099511627776) (hs : neededF text.size k ≤ m / 2) (hm : m ≤ 1024) (hk : 1 ≤ k) (hkn : k ≤ n) (hn : n ≤ 12) {disk i : Nat} (hd : disk < n) (hi : i < neededF text.size k) :
    soundK D n m disk (firstF m life + i) = some (life, neededF text.size k, k) := by
  unfold soundK
  rw [h disk i hd hi, placed_page, if_pos (sound_made hl1 hl2 (needed_one hk) hs hm hk hkn hn hi), kind_made (by omega) (by omega)]
theorem rows_held (h : Holds n m D text life k) (hl1 : 1 ≤ life) (hl2 : life ≤ 1099511627776) (hs : neededF text.size k ≤ m / 2) (hm : m ≤ 1024) (hk : 1 ≤ k) (hkn : k ≤ n) (hn : n ≤ 12) :
    foundF D n m (life, neededF text.size k, k) = (List.range (neededF text.size k)).map fun _ => firstL n := by
  have hin : ∀ i, i < neededF text.size k → firstF m life + i < m := fun i hi => firstF_in hi hs
  have hne : foundF D n m (life, neededF text.size k, k) ≠ [] := (foundTo_ne D n m _ n).2 ⟨0, firstF m life + 0, by omega, hin 0 (needed_one hk), sound_held h hl1 hl2 hs hm hk hkn hn (by omega) (needed_one hk)⟩
  rw [found_rows hne]
  refine List.map_congr_left (fun i hi => ?_)
  have hi2 : i < neededF text.size k := List.mem_range.1 hi
  unfold disksAt firstL
  rw [List.filter_eq_self.2 (fun d hd => ?_)]
  have hd2 := List.mem_range.1 hd
  simp only [decide_eq_true_eq]
  exact ⟨hin i hi2, sound_held h hl1 hl2 hs hm hk hkn hn hd2 hi2⟩
theorem bytes_held (h : Holds n m D text life k) (hk : 1 ≤ k) (hkn : k ≤ n) (hn : n ≤ 12) (x2 : Nat) : ∀ q, q ≤ neededF text.size k → bytesTo D m (life, x2, k) ((List.range (neededF text.size k)).map fun _ => firstL n) q = (dataF text k).take (q * k * 40)
  | 0, _ => by simp [bytesTo]
  | q + 1, hq => by
    have hr : ((List.range (neededF text.size k)).map fun _ => firstL n).getD q [] = firstL n := by
      rw [List.getD_eq_getElem?_getD, List.getElem?_map, List.getElem?_range (by omega)]
      rfl
    unfold bytesTo
    rw [hr, stripe_held h hk hkn hn (by omega), bytes_held h hk hkn hn x2 q (by omega), Option.getD_some, cat_stripe (dataF_b text k), Nat.add_mul, Nat.add_mul, Nat.one_mul, List.take_add]
theorem whole_held (h : Holds n m D text life k) (hl1 : 1 ≤ life) (hl2 : life ≤ 1099511627776) (hs : neededF text.size k ≤ m / 2) (hm : m ≤ 1024) (hk : 1 ≤ k) (hkn : k ≤ n) (hn : n ≤ 12) (ht : text.size ≤ 4000) :
    wholeF D m (life, neededF text.size k, k) (foundF D n m (life, neededF text.size k, k)) = some text := by
  rw [rows_held h hl1 hl2 hs hm hk hkn hn]
  have hlen : ((List.range (neededF text.size k)).map fun _ => firstL n).length = neededF text.size k := by simp
  unfold wholeF
  rw [if_pos, hlen, bytes_held h hk hkn hn _ _ (Nat.le_refl _), List.take_of_length_le, text_data hk ht]
  · rw [dataF_len, Nat.mul_assoc, Nat.mul_comm 40 k, ← Nat.mul_assoc]
    exact Nat.le_refl _
  · unfold allO
    rw [hlen, List.all_eq_true]
    intro i hi
    have hi2 := List.mem_range.1 hi
    have hr : ((List.range (neededF text.size k)).map fun _ => firstL n).getD i [] = firstL n := by
      rw [List.getD_eq_getElem?_getD, List.getElem?_map, List.getElem?_range (by omega)]
      rfl
    rw [hr, stripe_held h hk hkn hn hi2]
    rfl
/-- No sound page is of a newer text, or of another one of the same life. -/
def Newest (n m : Nat) (D : DS) (text : ByteArray) (life k : Nat) : Prop := ∀ disk at_ x, disk < n → at_ < m → soundK D n m disk at_ = some x → x.1 ≤ life ∧ (x.1 = life → x = (life, neededF text.size k, k))
theorem best_held (h : Holds n m D text life k) (hN : Newest n m D text life k) (hl1 : 1 ≤ life) (hl2 : life ≤ 1099511627776) (hs : neededF text.size k ≤ m / 2) (hm : m ≤ 1024) (hk : 1 ≤ k) (hkn : k ≤ n) (hn : n ≤ 12) (ht : text.size ≤ 4000) :
    bestF D n m = some (text, (life, neededF text.size k, k)) := by
  obtain ⟨x0, hx0⟩ : ∃ x0 : Kn, x0 = (life, neededF text.size k, k) := ⟨_, rfl⟩
  have hw := whole_held h hl1 hl2 hs hm hk hkn hn ht
  have hne : foundF D n m x0 ≠ [] := by
    rw [hx0]
    exact (foundTo_ne D n m _ n).2 ⟨0, firstF m life + 0, by omega, firstF_in (needed_one hk) hs, sound_held h hl1 hl2 hs hm hk hkn hn (by omega) (needed_one hk)⟩
  rw [← hx0] at hw ⊢
  have hmem : x0 ∈ kindsF D n m := (kindsF_mem D n m x0).2 hne
  have hsort : (kindsF D n m).Pairwise fun a b => kltB a b = true := foldr_insK_sorted _
  have hall : ∀ x ∈ kindsF D n m, x.1 ≤ life ∧ (x.1 = life → x = x0) := fun x hx => by
    obtain ⟨disk, at_, h1, h2, h3⟩ := (foundTo_ne D n m x n).1 ((kindsF_mem D n m x).1 hx)
    rw [hx0]
    exact hN disk at_ x h1 h2 h3
  unfold bestF
  cases hK : kindsF D n m with
  | nil => rw [hK] at hmem; cases hmem
  | cons a l =>
    have ha : a = x0 := by
      refine Classical.byContradiction fun hne2 => ?_
      rw [hK] at hmem hsort hall
      have hxl : x0 ∈ l := by
        rcases List.mem_cons.1 hmem with e | e
        · exact absurd e.symm hne2
        · exact e
      have h1 := (List.pairwise_cons.1 hsort).1 x0 hxl
      have h2 := hall a List.mem_cons_self
      have h3 : x0.1 = life := by rw [hx0]
      have h4 : a.1 ≠ life := fun e => hne2 (h2.2 e)
      unfold kltB at h1
      simp only [decide_eq_true_eq] at h1
      omega
    subst ha
    rw [List.findSome?_cons, hw]
    rfl
theorem open_held (hU : Up n m D) (h : Holds n m D text life k) (hN : Newest n m D text life k) (hl1 : 1 ≤ life) (hl2 : life ≤ 1099511627776) (hs : neededF text.size k ≤ m / 2) (hm : m ≤ 1024) (hk : 1 ≤ k) (hkn : k ≤ n) (hn : n ≤ 12) (ht : text.size ≤ 4000) :
    openF n m D = (some ⟨D.falls, text, life, k⟩, 0, D) := by
  have hb := best_held h hN hl1 hl2 hs hm hk hkn hn ht
  have hd : diffF D (imageF n m text life k) = [] := by
    unfold diffF
    rw [List.filter_eq_nil_iff]
    intro x hx
    obtain ⟨disk, i, h1, h2, rfl⟩ := imageF_mem hx
    have e : pageAt D (placedF n m text life k disk i).disk (placedF n m text life k disk i).at_ = (placedF n m text life k disk i).page := h disk i h1 h2
    rw [e]
    simp
  unfold openF
  rw [hb, hU.down]
  simp only [hd]
  rfl
end
end Go.Proofs.YtkdjibejnncmfaaGreatDoor.Co
