/- The pages of a text: they are sound, and say what they are. -/
import Derived.Test.YtkdjibejnncmfaaGreatDoorB7
import Derived.Test.YtkdjibejnncmfaaGreatDoorZN4
namespace Go.Proofs.YtkdjibejnncmfaaGreatDoor.Co
open Go.RowKit Go.Proofs.YtkdjibejnncmfaaGreatDoorW.PrintWords Go.Proofs.YtkdjibejnncmfaaGreatDoorW.PrintLast Go.Proofs.YtkdjibejnncmfaaGreatDoorW.PrintMore
set_option linter.unusedVariables false
set_option linter.unusedSimpArgs false
set_option maxRecDepth 100000
theorem cut_get (L : List Int) (i k t : Nat) : (cutL L i k)[t]? = if t < k then L[i + t]? else none := by
  unfold cutL
  rw [List.getElem?_take]
  by_cases h : t < k
  · rw [if_pos h, if_pos h, List.getElem?_drop]
  · rw [if_neg h, if_neg h]
theorem cut_in {l bs : List Int} {off : Nat} (h : off + bs.length ≤ l.length) : cutL (setL l off bs) off bs.length = bs := by
  apply List.ext_getElem?
  intro t
  rw [cut_get]
  by_cases ht : t < bs.length
  · rw [if_pos ht, setL_get l off bs _ h, if_pos (by omega), show off + t - off = t by omega]
  · rw [if_neg ht, List.getElem?_eq_none (by omega)]
theorem cut_out {l bs : List Int} {off i k : Nat} (h : off + bs.length ≤ l.length) (hik : i + k ≤ off ∨ off + bs.length ≤ i) : cutL (setL l off bs) i k = cutL l i k := by
  apply List.ext_getElem?
  intro t
  rw [cut_get, cut_get]
  by_cases ht : t < k
  · rw [if_pos ht, if_pos ht, setL_get l off bs _ h, if_neg (by omega)]
  · rw [if_neg ht, if_neg ht]
theorem cut_set {l : List Int} {j i k : Nat} {v : Int} (h : j < i ∨ i + k ≤ j) : cutL (l.set j v) i k = cutL l i k := by
  apply List.ext_getElem?
  intro t
  rw [cut_get, cut_get]
  by_cases ht : t < k
  · rw [if_pos ht, if_pos ht, List.getElem?_set, if_neg (by omega)]
  · rw [if_neg ht, if_neg ht]
theorem rd_setL {l bs : List Int} {off : Nat} {i : Nat} (h : off + bs.length ≤ l.length) (hi : i < off ∨ off + bs.length ≤ i) : rd (setL l off bs) i = rd l i := by
  unfold rd
  rw [Int.toNat_natCast, List.getD_eq_getElem?_getD, List.getD_eq_getElem?_getD, setL_get l off bs _ h, if_neg (by omega)]
theorem rd_set_ne {l : List Int} {j i : Nat} {v : Int} (h : j ≠ i) : rd (l.set j v) i = rd l i := by
  unfold rd
  rw [Int.toNat_natCast, List.getD_eq_getElem?_getD, List.getD_eq_getElem?_getD, List.getElem?_set, if_neg h]
theorem rd_set_eq {l : List Int} {j : Nat} {v : Int} (h : j < l.length) : rd (l.set j v) j = v := by
  unfold rd
  rw [Int.toNat_natCast, List.getD_eq_getElem?_getD, List.getElem?_set]
  simp [h]
theorem ofLE_leB (x n : Nat) : ofLE (leB x n) = x % 256 ^ n := by
  induction n generalizing x with
  | zero => simp [leB, ofLE, Nat.mod_one]
  | succ n ih =>
    unfold leB ofLE
    rw [ih, Int.toNat_natCast, Nat.pow_succ, Nat.mul_comm (256 ^ n), Nat.mod_mul]
section
variable (n life stripes enough disk at_ : Nat) (piece : ByteArray)
theorem md5 {i k : Nat} (h : i + k ≤ 56) : cutL (madeF n life stripes enough disk at_ piece) i k = cutL (mp5 n life stripes enough disk piece) i k := by
  unfold madeF
  rw [cut_out (by rw [mp5_len, leB_length]; omega) (Or.inl h)]
theorem md4 {i k : Nat} (h : i + k ≤ 52) : cutL (mp5 n life stripes enough disk piece) i k = cutL (mp4 life stripes enough disk piece) i k := by
  unfold mp5
  rw [cut_out (by rw [mp4_len, leB_length]; omega) (Or.inl h)]
theorem md3 {i k : Nat} (h : i + k ≤ 50) : cutL (mp4 life stripes enough disk piece) i k = cutL (mp3 life stripes piece) i k := by
  unfold mp4
  rw [cut_set (by omega), cut_set (by omega)]
theorem md2 {i k : Nat} (h : i + k ≤ 48) : cutL (mp3 life stripes piece) i k = cutL (mp2 life piece) i k := by
  unfold mp3
  rw [cut_out (by rw [mp2_len, leB_length]; omega) (Or.inl h)]
theorem md1 {i k : Nat} (h : i + k ≤ 40) : cutL (mp2 life piece) i k = cutL (mp1 piece) i k := by
  unfold mp2
  rw [cut_out (by rw [mp1_len, leB_length]; omega) (Or.inl h)]
theorem made_life : cutL (madeF n life stripes enough disk at_ piece) 40 8 = leB life 8 := by
  rw [md5 n life stripes enough disk at_ piece (by omega), md4 _ _ _ _ _ _ (by omega), md3 _ _ _ _ _ (by omega), md2 _ _ _ (by omega)]
  unfold mp2
  have := cut_in (l := mp1 piece) (bs := leB life 8) (off := 40) (by rw [mp1_len, leB_length]; omega)
  rw [leB_length] at this
  exact this
theorem made_stripes : cutL (madeF n life stripes enough disk at_ piece) 48 2 = leB stripes 2 := by
  rw [md5 n life stripes enough disk at_ piece (by omega), md4 _ _ _ _ _ _ (by omega), md3 _ _ _ _ _ (by omega)]
  unfold mp3
  have := cut_in (l := mp2 life piece) (bs := leB stripes 2) (off := 48) (by rw [mp2_len, leB_length]; omega)
  rw [leB_length] at this
  exact this
theorem made_n : cutL (madeF n life stripes enough disk at_ piece) 52 4 = leB n 4 := by
  rw [md5 n life stripes enough disk at_ piece (by omega)]
  unfold mp5
  have := cut_in (l := mp4 life stripes enough disk piece) (bs := leB n 4) (off := 52) (by rw [mp4_len, leB_length]; omega)
  rw [leB_length] at this
  exact this
theorem made_sum : cutL (madeF n life stripes enough disk at_ piece) 56 8 = leB (psum (mp5 n life stripes enough disk piece) at_) 8 := by
  unfold madeF
  have := cut_in (l := mp5 n life stripes enough disk piece) (bs := leB (psum (mp5 n life stripes enough disk piece) at_) 8) (off := 56) (by rw [mp5_len, leB_length]; omega)
  rw [leB_length] at this
  exact this
theorem made_share (hp : piece.size = 40) : (madeF n life stripes enough disk at_ piece).take 40 = wrBytes piece := by
  have e : ∀ l : List Int, l.take 40 = cutL l 0 40 := fun l => by unfold cutL; rw [List.drop_zero]
  rw [e, md5 n life stripes enough disk at_ piece (by omega), md4 _ _ _ _ _ _ (by omega), md3 _ _ _ _ _ (by omega), md2 _ _ _ (by omega), md1 _ _ (by omega)]
  unfold mp1
  have hl : ((wrBytes piece).take 40).length = 40 := by rw [List.length_take, wrBytes_length]; omega
  have := cut_in (l := List.replicate 64 0) (bs := (wrBytes piece).take 40) (off := 0) (by rw [hl, List.length_replicate]; omega)
  rw [hl] at this
  rw [this, List.take_of_length_le (by rw [wrBytes_length]; omega)]
theorem made_50 : rd (madeF n life stripes enough disk at_ piece) 50 = (enough : Int) := by
  have h1 : rd (madeF n life stripes enough disk at_ piece) (50 : Nat) = rd (mp5 n life stripes enough disk piece) (50 : Nat) := by
    unfold madeF; exact rd_setL (by rw [mp5_len, leB_length]; omega) (by omega)
  have h2 : rd (mp5 n life stripes enough disk piece) (50 : Nat) = rd (mp4 life stripes enough disk piece) (50 : Nat) := by
    unfold mp5; exact rd_setL (by rw [mp4_len, leB_length]; omega) (by omega)
  have h3 : rd (mp4 life stripes enough disk piece) (50 : Nat) = (enough : Int) := by
    unfold mp4; rw [rd_set_ne (by omega), rd_set_eq (by rw [mp3_len]; omega)]
  exact h1.trans (h2.trans h3)
theorem made_51 : rd (madeF n life stripes enough disk at_ piece) 51 = (disk : Int) := by
  have h1 : rd (madeF n life stripes enough disk at_ piece) (51 : Nat) = rd (mp5 n life stripes enough disk piece) (51 : Nat) := by
    unfold madeF; exact rd_setL (by rw [mp5_len, leB_length]; omega) (by omega)
  have h2 : rd (mp5 n life stripes enough disk piece) (51 : Nat) = rd (mp4 life stripes enough disk piece) (51 : Nat) := by
    unfold mp5; exact rd_setL (by rw [mp4_len, leB_length]; omega) (by omega)
  have h3 : rd (mp4 life stripes enough disk piece) (51 : Nat) = (disk : Int) := by
    unfold mp4; rw [rd_set_eq (by rw [List.length_set, mp3_len]; omega)]
  exact h1.trans (h2.trans h3)
end
theorem foldl_lt {α : Type} (M : Nat) (f : Nat → α → Nat) (hf : ∀ h x, f h x < M) : ∀ (l : List α) (h : Nat), h < M → l.foldl f h < M
  | [], h, h0 => h0
  | x :: l, h, _ => foldl_lt M f hf l (f h x) (hf h x)
theorem sumF_lt64 (s : ByteArray) : sumF s < 18446744073709551616 := foldl_lt 18446744073709551616 _ (fun h x => sumStep_lt h _) _ _ (by omega)
theorem p8 : (256 : Nat) ^ 8 = 18446744073709551616 := by decide
theorem p4 : (256 : Nat) ^ 4 = 4294967296 := by decide
theorem p2 : (256 : Nat) ^ 2 = 65536 := by decide
theorem psum_take {p q : List Int} {a : Nat} (h : p.take 56 = q.take 56) : psum p a = psum q a := by unfold psum; rw [h]
theorem kind_made {n life stripes enough disk at_ : Nat} {piece : ByteArray} (hl : life < 18446744073709551616) (hs : stripes < 65536) : kindOf (madeF n life stripes enough disk at_ piece) = (life, stripes, enough) := by
  unfold kindOf lifeOf
  rw [made_life, made_stripes, made_50, ofLE_leB, ofLE_leB, p8, p2, Nat.mod_eq_of_lt hl, Nat.mod_eq_of_lt hs, Int.toNat_natCast]
theorem kind_life (pg : List Int) : (kindOf pg).1 = lifeOf pg := rfl
theorem sound_made {n m life stripes enough disk i : Nat} {piece : ByteArray} (hl1 : 1 ≤ life) (hl2 : life ≤ 1099511627776) (hs1 : 1 ≤ stripes) (hs2 : stripes ≤ m / 2) (hm : m ≤ 1024) (he1 : 1 ≤ enough) (he2 : enough ≤ n) (hn : n ≤ 12) (hi : i < stripes) :
    soundB n m (madeF n life stripes enough disk (firstF m life + i) piece) disk (firstF m life + i) = true := by
  have hk := kind_made (n := n) (life := life) (stripes := stripes) (enough := enough) (disk := disk) (at_ := firstF m life + i) (piece := piece) (by omega) (by omega)
  have hlo : lifeOf (madeF n life stripes enough disk (firstF m life + i) piece) = life := by rw [← kind_life, hk]
  have hps : psum (madeF n life stripes enough disk (firstF m life + i) piece) (firstF m life + i) = psum (mp5 n life stripes enough disk piece) (firstF m life + i) := by
    refine psum_take ?_
    have h5 := md5 n life stripes enough disk (firstF m life + i) piece (i := 0) (k := 56) (Nat.le_refl _)
    unfold cutL at h5
    rw [List.drop_zero, List.drop_zero] at h5
    exact h5
  unfold soundB pageB
  rw [hk, hlo, made_sum, made_n, made_51, ofLE_leB, ofLE_leB, hps]
  obtain ⟨z, hz⟩ : ∃ z, z = psum (mp5 n life stripes enough disk piece) (firstF m life + i) := ⟨_, rfl⟩
  have h1 : z % 256 ^ 8 = z := by rw [p8]; exact Nat.mod_eq_of_lt (by rw [hz]; unfold psum; exact sumF_lt64 _)
  have h2 : n % 256 ^ 4 = n := by rw [p4]; exact Nat.mod_eq_of_lt (by omega)
  rw [← hz, h1, h2]
  simp
  omega
theorem str_wr (s : ByteArray) : strOfNums (wrBytes s) = s := by
  have hl := wrBytes_length s
  apply bt_ext
  · rw [str_size, hl]
  · intro t ht
    rw [str_size] at ht
    have e : ∀ r : Nat, r < s.size → rd (wrBytes s) r = bt s r := fun r hr => by
      have hr2 : r < (wrBytes s).length := by omega
      rw [rd_nat _ r hr2, bt_get s r hr]
      simp only [wrBytes, List.getElem_map]
      rfl
    rw [bt_nums _ (fun r hr => by rw [e r (by omega)]; exact bt_b _ _) t ht, e t (by omega)]
end Go.Proofs.YtkdjibejnncmfaaGreatDoor.Co
