/- Any k of the pieces tell the data: CodedAny in plain Lean. -/
import Derived.Test.YtkdjibejnncmfaaGreatDoorZN4
namespace Go.Proofs.YtkdjibejnncmfaaGreatDoor.Co
open Go.RowKit Go.Proofs.YtkdjibejnncmfaaGreatDoorW.PrintWords Go.Proofs.YtkdjibejnncmfaaGreatDoorW.PrintLast Go.Proofs.YtkdjibejnncmfaaGreatDoorW.PrintMore
set_option linter.unusedVariables false
set_option linter.unusedSimpArgs false
set_option maxRecDepth 100000
theorem sub_len {α : Type} [DecidableEq α] : ∀ (l l' : List α), l.Nodup → (∀ x ∈ l, x ∈ l') → l.length ≤ l'.length
  | [], _, _, _ => by simp
  | x :: l, l', hn, h => by
    obtain ⟨h1, h2⟩ := List.nodup_cons.1 hn
    have hx := h x List.mem_cons_self
    have := sub_len l (l'.erase x) h2 (fun y hy => (List.mem_erase_of_ne (fun e => by subst e; exact h1 hy)).2 (h y (List.mem_cons_of_mem _ hy)))
    rw [List.length_erase_of_mem hx] at this
    have hp : 0 < l'.length := List.length_pos_of_mem hx
    simp only [List.length_cons]
    omega
/-- The first k different numbers of pieces: one step. -/
def pickS (n k : Nat) (acc : List Int) (x : Int) : List Int := if 0 ≤ x then if x < n then if acc.contains x then acc else if acc.length < k then acc ++ [x] else acc else acc else acc
def pickTo (n k : Nat) (xs : List Int) (j : Nat) : List Int := (xs.take j).foldl (pickS n k) []
theorem pickTo_succ (n k : Nat) (xs : List Int) (j : Nat) (h : j < xs.length) : pickTo n k xs (j + 1) = pickS n k (pickTo n k xs j) (rd xs j) := by
  unfold pickTo
  rw [List.take_succ_eq_append_getElem h, List.foldl_append]
  unfold rd
  simp [h]
structure Picked (n k : Nat) (acc : List Int) : Prop where
  len : acc.length ≤ k
  nodup : acc.Nodup
  range : ∀ x ∈ acc, 0 ≤ x ∧ x < n
theorem Picked.step {n k : Nat} {acc : List Int} (h : Picked n k acc) (x : Int) : Picked n k (pickS n k acc x) := by
  unfold pickS
  by_cases h0 : 0 ≤ x
  · rw [if_pos h0]
    by_cases h1 : x < n
    · rw [if_pos h1]
      by_cases h2 : acc.contains x = true
      · rw [if_pos h2]; exact h
      · rw [if_neg h2]
        by_cases h3 : acc.length < k
        · rw [if_pos h3]
          refine ⟨by simp; omega, ?_, ?_⟩
          · rw [List.nodup_append]
            refine ⟨h.nodup, by simp, fun a ha b hb => ?_⟩
            have : b = x := by simpa using hb
            subst this
            intro e
            subst e
            exact h2 (by simpa using ha)
          · intro y hy
            rcases List.mem_append.1 hy with hy | hy
            · exact h.range y hy
            · have : y = x := by simpa using hy
              subst this
              exact ⟨h0, h1⟩
        · rw [if_neg h3]; exact h
    · rw [if_neg h1]; exact h
  · rw [if_neg h0]; exact h
theorem pick_fold {n k : Nat} : ∀ (xs : List Int) (acc : List Int), Picked n k acc → Picked n k (xs.foldl (pickS n k) acc)
  | [], acc, h => h
  | x :: xs, acc, h => pick_fold xs _ (h.step x)
theorem pickS_mono {n k : Nat} (acc : List Int) (x : Int) : (∀ y ∈ acc, y ∈ pickS n k acc x) ∧ acc.length ≤ (pickS n k acc x).length := by
  unfold pickS
  by_cases h0 : 0 ≤ x
  · rw [if_pos h0]
    by_cases h1 : x < n
    · rw [if_pos h1]
      by_cases h2 : acc.contains x = true
      · rw [if_pos h2]; exact ⟨fun y hy => hy, Nat.le_refl _⟩
      · rw [if_neg h2]
        by_cases h3 : acc.length < k
        · rw [if_pos h3]; exact ⟨fun y hy => List.mem_append_left _ hy, by simp⟩
        · rw [if_neg h3]; exact ⟨fun y hy => hy, Nat.le_refl _⟩
    · rw [if_neg h1]; exact ⟨fun y hy => hy, Nat.le_refl _⟩
  · rw [if_neg h0]; exact ⟨fun y hy => hy, Nat.le_refl _⟩
theorem fold_mono {n k : Nat} : ∀ (xs : List Int) (acc : List Int), (∀ y ∈ acc, y ∈ xs.foldl (pickS n k) acc) ∧ acc.length ≤ (xs.foldl (pickS n k) acc).length
  | [], acc => ⟨fun y hy => hy, Nat.le_refl _⟩
  | x :: xs, acc => by
    have h1 := pickS_mono (n := n) (k := k) acc x
    have h2 := fold_mono (n := n) (k := k) xs (pickS n k acc x)
    exact ⟨fun y hy => h2.1 y (h1.1 y hy), Nat.le_trans h1.2 h2.2⟩
/-- While there are too few, each number in range is taken. -/
theorem fold_all {n k : Nat} : ∀ (xs : List Int) (acc : List Int), (xs.foldl (pickS n k) acc).length < k → ∀ x ∈ xs, 0 ≤ x → x < n → x ∈ xs.foldl (pickS n k) acc
  | [], _, _, _, hx, _, _ => by cases hx
  | y :: xs, acc, hl, x, hx, h0, h1 => by
    have h2 := fold_mono (n := n) (k := k) xs (pickS n k acc y)
    have h3 := pickS_mono (n := n) (k := k) acc y
    rcases List.mem_cons.1 hx with rfl | hx
    · refine h2.1 x ?_
      have hl2 : acc.length < k := by
        have : (xs.foldl (pickS n k) (pickS n k acc x)).length < k := hl
        omega
      unfold pickS
      rw [if_pos h0, if_pos h1]
      by_cases hc : acc.contains x = true
      · rw [if_pos hc]; simpa using hc
      · rw [if_neg hc, if_pos hl2]; simp
    · exact fold_all xs _ hl x hx h0 h1
def twelve : List Int := [0, 1, 2, 3, 4, 5, 6, 7, 8, 9, 10, 11]
theorem pick_len {n k : Nat} (order : List Int) (hn : n ≤ 12) (hk : k ≤ n) : ((order ++ twelve).foldl (pickS n k) []).length = k := by
  have hP := pick_fold (n := n) (k := k) (order ++ twelve) [] ⟨by simp, by simp, fun x hx => by cases hx⟩
  by_cases h : ((order ++ twelve).foldl (pickS n k) []).length < k
  · exfalso
    have hall := fold_all (n := n) (k := k) (order ++ twelve) [] h
    have hsub : ∀ x ∈ firstL n, x ∈ (order ++ twelve).foldl (pickS n k) [] := fun x hx => by
      unfold firstL at hx
      obtain ⟨i, hi, rfl⟩ := List.mem_map.1 hx
      have hi2 : i < n := by simpa using hi
      refine hall _ (List.mem_append_right _ ?_) (by omega) (by omega)
      have : ∀ i : Nat, i < 12 → (i : Int) ∈ twelve := by decide +kernel
      exact this i (by omega)
    have hnd : (firstL n).Nodup := by
      unfold firstL
      rw [List.nodup_iff_pairwise_ne, List.pairwise_map]
      refine List.Pairwise.imp ?_ (List.pairwise_lt_range (n := n))
      intro a b hab
      omega
    have := sub_len _ _ hnd hsub
    rw [firstL_length] at this
    omega
  · have := hP.len
    omega
theorem picked_pts {n k : Nat} {at_ : List Int} (h : Picked n k at_) (hn : n ≤ 12) : Pts at_ ∧ ∀ i : Nat, i < at_.length → 0 ≤ rd at_ i ∧ rd at_ i < n := by
  have hr : ∀ i : Nat, i < at_.length → 0 ≤ rd at_ i ∧ rd at_ i < n := fun i hi => h.range _ (rd_mem at_ i hi)
  refine ⟨⟨fun i hi => ⟨(hr i hi).1, by have := (hr i hi).2; omega⟩, fun i j hi hj hij e => ?_⟩, hr⟩
  have e1 : rd at_ i = at_[i] := rd_nat at_ i hi
  have e2 : rd at_ j = at_[j] := rd_nat at_ j hj
  rw [e1, e2] at e
  exact hij ((List.getElem_inj h.nodup).1 e)
theorem picked_num {n k : Nat} {at_ : List Int} (h : Picked n k at_) (hn : n ≤ 12) : numF at_ at_.length = true := by
  obtain ⟨hP, hr⟩ := picked_pts h hn
  unfold numF
  simp only [Bool.and_eq_true, decide_eq_true_eq, true_and, List.all_eq_true, List.mem_range]
  intro i hi
  unfold numAt
  simp only [Bool.and_eq_true, decide_eq_true_eq, Bool.not_eq_true']
  refine ⟨⟨(hr i hi).1, by have := (hr i hi).2; omega⟩, ?_⟩
  rw [Bool.eq_false_iff]
  intro hc
  have hm : rd at_ i ∈ at_.take i := by simpa using hc
  obtain ⟨j, hj, e⟩ := List.getElem_of_mem hm
  rw [List.length_take] at hj
  rw [List.getElem_take] at e
  have e2 : rd at_ j = at_[j]'(by omega) := rd_nat at_ j (by omega)
  exact hP.ne j i (by omega) hi (by omega) (by rw [e2, e])
/-- All that the law asks of the pieces. -/
structure AnyOk (l : List ByteArray) (N : Nat) (at_ : List Int) : Prop where
  enc : encOk l N = true
  front : ∀ i : Nat, i < l.length → vs (someTo (firstL l.length) l N) i = vs l i
  dec : decF at_ (ownF (someTo (firstL l.length) l N) at_) = (someTo at_ (ownF (someTo (firstL l.length) l N) at_) l.length, 0)
  back : ∀ i : Nat, i < l.length → vs (someTo at_ (ownF (someTo (firstL l.length) l N) at_) l.length) i = vs l i
  fit : FitsF l.length at_ (ownF (someTo (firstL l.length) l N) at_) = (true, 0)
  dec2 : decF at_ l = (someTo at_ l l.length, 0)
  enc2 : encOk (someTo at_ l l.length) N = true
  again : ∀ i : Nat, i < l.length → vs (someTo (firstL l.length) (someTo at_ l l.length) N) (rd at_ i) = vs l i
theorem any_ok {l : List ByteArray} {N : Nat} {at_ : List Int} (h : dataB l N 100 = true) (hP : Picked N l.length at_) (hl : at_.length = l.length) : AnyOk l N at_ := by
  obtain ⟨h1, h2, h3, h4, h5⟩ := dataB_iff h
  have hN : N ≤ 12 := by omega
  have hKN : l.length ≤ N := by omega
  obtain ⟨S, hS⟩ : ∃ S, S = (vs l 0).size := ⟨_, rfl⟩
  rw [← hS] at h4
  have hS100 : S ≤ 100 := by have := h5 0 (by omega); rw [hS]; exact_mod_cast this
  obtain ⟨hpt, hr⟩ := picked_pts hP hN
  have hnum := picked_num hP hN
  have hF := firstL_pts l.length (by omega)
  have hfl := firstL_length l.length
  obtain ⟨all, hall⟩ : ∃ all, all = someTo (firstL l.length) l N := ⟨_, rfl⟩
  have hav : ∀ i : Nat, i < N → vs all i = pieceF (firstL l.length) l i := fun i hi => by rw [hall]; exact vs_some _ _ _ _ hi
  have hfront : ∀ i : Nat, i < l.length → vs all i = vs l i := fun i hi => by
    rw [hav i (by omega)]
    have := piece_own hF hfl h4 i (by rw [hfl]; exact hi)
    rw [rd_firstL _ _ hi] at this
    exact this
  have hasz : ∀ i : Nat, i < N → (vs all i).size = S := fun i hi => by rw [hav i hi, piece_size]; exact hS.symm
  obtain ⟨sm, hsm⟩ : ∃ sm, sm = ownF all at_ := ⟨_, rfl⟩
  have hsl : sm.length = at_.length := by rw [hsm]; simp [ownF]
  have hsv : ∀ j : Nat, j < at_.length → vs sm j = pieceF (firstL l.length) l (rd at_ j) := fun j hj => by
    rw [hsm, vs_ownF all at_ j hj]
    obtain ⟨q, hq⟩ := Int.eq_ofNat_of_zero_le (hr j hj).1
    have hqN : q < N := by have := (hr j hj).2; omega
    rw [hq]
    exact hav q hqN
  have hsz : Len sm S := fun j hj => by rw [hsv j (by omega), piece_size]; exact hS.symm
  have hs0 : (vs sm 0).size = S := hsz 0 (by omega)
  have hl0 : (vs l 0).size = S := hS.symm
  have hnum2 : ∀ m : Nat, m = at_.length → numF at_ m = true := fun m e => by rw [e]; exact hnum
  have alS : alikeF sm 1 4096 = true := alike_of (by omega) (by omega) (by omega) (by rw [hs0]; exact hsz)
  have alL : alikeF l 1 4096 = true := alike_of (by omega) (by omega) (by omega) (by rw [hl0]; exact h4)
  have hback : ∀ i : Nat, i < l.length → vs (someTo at_ sm l.length) i = vs l i := fun i hi => by
    rw [vs_some _ _ _ _ hi, piece_re hF hfl h4 (by omega) hpt hsl.symm (by omega) (fun j hj => hsv j hj) ⟨by omega, by omega⟩]
    have := piece_own hF hfl h4 i (by rw [hfl]; exact hi)
    rw [rd_firstL _ _ hi] at this
    exact this
  obtain ⟨ot, hot⟩ : ∃ ot, ot = someTo at_ l l.length := ⟨_, rfl⟩
  have hol : ot.length = l.length := by rw [hot, someTo_length]
  have hov : ∀ j : Nat, j < l.length → vs ot j = pieceF at_ l j := fun j hj => by rw [hot]; exact vs_some _ _ _ _ hj
  have hosz : Len ot S := fun j hj => by rw [hov j (by omega), piece_size]; exact hS.symm
  have ho0 : (vs ot 0).size = S := hosz 0 (by omega)
  have hagain : ∀ i : Nat, i < l.length → vs (someTo (firstL l.length) ot N) (rd at_ i) = vs l i := fun i hi => by
    obtain ⟨q, hq⟩ := Int.eq_ofNat_of_zero_le (hr i (by omega)).1
    have hqN : q < N := by have := (hr i (by omega)).2; omega
    have e1 : vs (someTo (firstL l.length) ot N) (q : Int) = pieceF (firstL l.length) ot (q : Int) := vs_some _ _ _ _ hqN
    have e2 := piece_re hpt hl h4 (by omega) hF (vals2 := ot) (by omega) (by omega) (fun j hj => by rw [hfl] at hj; rw [hov j hj, rd_firstL _ _ hj]) (x := (q : Int)) ⟨by omega, by omega⟩
    have e3 := piece_own hpt hl h4 i (by omega)
    rw [hq] at e3 ⊢
    show vs (someTo (firstL l.length) ot N) (q : Int) = _
    rw [e1, e2]
    exact e3
  refine ⟨encOk_of h1 h2 h3 (by rw [hl0]; exact h4) (by omega), by rw [← hall]; exact hfront, ?_, ?_, ?_, ?_, ?_, ?_⟩
  · rw [← hall, ← hsm]
    unfold decF decOk
    rw [alS, hnum2 _ (by omega)]
    simp only [Bool.and_self, if_true]
    rw [hsl, hl]
  · rw [← hall, ← hsm]; exact hback
  · rw [← hall, ← hsm]
    have alK : alikeF sm l.length 4096 = true := alike_of (by omega) (by omega) (by omega) (by rw [hs0]; exact hsz)
    unfold FitsF fitOk
    rw [alK, hnum2 _ (by omega)]
    have hd : decide (1 ≤ (l.length : Int) ∧ (l.length : Int) ≤ 12) = true := by simp; omega
    rw [hd]
    simp only [Bool.and_self, if_true, Int.toNat_natCast]
    rw [fitsF_true (fun i hi hi2 => by omega)]
  · unfold decF decOk
    rw [alL, hnum2 _ (by omega)]
    simp only [Bool.and_self, if_true]
  · rw [← hot]; exact encOk_of (by omega) (by omega) h3 (by rw [ho0]; exact hosz) (by omega)
  · rw [← hot]; exact hagain
end Go.Proofs.YtkdjibejnncmfaaGreatDoor.Co
