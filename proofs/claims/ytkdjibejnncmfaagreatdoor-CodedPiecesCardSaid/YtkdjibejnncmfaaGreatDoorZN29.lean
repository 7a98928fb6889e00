/- Repair by sets of bits finds what Repair by choices finds: plain Lean. -/
import Derived.Test.YtkdjibejnncmfaaGreatDoorZN12
namespace Go.Proofs.YtkdjibejnncmfaaGreatDoor.Co
open Go.RowKit Go.Proofs.YtkdjibejnncmfaaGreatDoorW.PrintWords Go.Proofs.YtkdjibejnncmfaaGreatDoorW.PrintLast Go.Proofs.YtkdjibejnncmfaaGreatDoorW.PrintMore
set_option linter.unusedVariables false
set_option linter.unusedSimpArgs false
set_option maxRecDepth 100000
/-- The numbers below j whose bits a set has. -/
def bitsTo (s : Nat) (j : Nat) : List Int := ((List.range j).filter fun i : Nat => s.testBit i).map fun i : Nat => (i : Int)
theorem bitsTo_succ (s j : Nat) : bitsTo s (j + 1) = if s.testBit j then bitsTo s j ++ [(j : Int)] else bitsTo s j := by
  unfold bitsTo
  rw [List.range_succ, List.filter_append, List.map_append]
  by_cases h : s.testBit j = true <;> simp [h]
theorem bitsTo_comb (s n : Nat) : Comb (bitsTo s n) n := by
  unfold bitsTo
  refine ⟨fun x hx => ?_, ?_⟩
  · obtain ⟨i, hi, rfl⟩ := List.mem_map.1 hx
    have := List.mem_range.1 (List.mem_filter.1 hi).1
    omega
  · rw [List.pairwise_map]
    exact (List.Pairwise.sublist List.filter_sublist (List.pairwise_lt_range (n := n))).imp fun h => by omega
theorem bitsTo_len (s : Nat) : ∀ j, (bitsTo s j).length ≤ j
  | j => by unfold bitsTo; rw [List.length_map]; exact Nat.le_trans (List.length_filter_le _ _) (by simp)
theorem sorted_ext : ∀ (l l2 : List Int), l.Pairwise (· < ·) → l2.Pairwise (· < ·) → (∀ x, x ∈ l ↔ x ∈ l2) → l = l2
  | [], [], _, _, _ => rfl
  | [], b :: l2, _, _, h => absurd ((h b).2 List.mem_cons_self) (by simp)
  | a :: l, [], _, _, h => absurd ((h a).1 List.mem_cons_self) (by simp)
  | a :: l, b :: l2, h1, h2, h => by
    obtain ⟨p1, q1⟩ := List.pairwise_cons.1 h1
    obtain ⟨p2, q2⟩ := List.pairwise_cons.1 h2
    have hab : a = b := by
      rcases List.mem_cons.1 ((h a).1 List.mem_cons_self) with e | e
      · exact e
      · rcases List.mem_cons.1 ((h b).2 List.mem_cons_self) with e2 | e2
        · exact e2.symm
        · have := p1 b e2
          have := p2 a e
          omega
    subst hab
    congr 1
    refine sorted_ext l l2 q1 q2 (fun x => ⟨fun hx => ?_, fun hx => ?_⟩)
    · rcases List.mem_cons.1 ((h x).1 (List.mem_cons_of_mem _ hx)) with e | e
      · have := p1 x hx; omega
      · exact e
    · rcases List.mem_cons.1 ((h x).2 (List.mem_cons_of_mem _ hx)) with e | e
      · have := p2 x hx; omega
      · exact e
/-- The set of numbers below j. -/
def setTo (a : List Int) : Nat → Nat
  | 0 => 0
  | j + 1 => if a.contains (j : Int) then 2 ^ j + setTo a j else setTo a j
theorem setTo_lt (a : List Int) : ∀ j, setTo a j < 2 ^ j
  | 0 => by simp [setTo]
  | j + 1 => by
    have := setTo_lt a j
    unfold setTo
    rw [Nat.pow_succ]
    split <;> omega
theorem setTo_bit (a : List Int) (i : Nat) : ∀ j, (setTo a j).testBit i = (decide (i < j) && a.contains (i : Int))
  | 0 => by simp [setTo]
  | j + 1 => by
    have ih := setTo_bit a i j
    have hlt := setTo_lt a j
    unfold setTo
    by_cases hc : a.contains (j : Int) = true
    · rw [if_pos hc]
      by_cases h1 : i < j
      · rw [Nat.testBit_two_pow_add_gt h1, ih]
        simp [h1, show i < j + 1 by omega]
      · by_cases h2 : i = j
        · subst h2
          rw [Nat.testBit_two_pow_add_eq, Nat.testBit_lt_two_pow hlt, hc]
          simp
        · have h3 : 2 ^ j + setTo a j < 2 ^ i := by
            have : 2 ^ (j + 1) ≤ 2 ^ i := Nat.pow_le_pow_right (by omega) (by omega)
            rw [Nat.pow_succ] at this
            omega
          rw [Nat.testBit_lt_two_pow h3]
          simp [show ¬ i < j + 1 by omega]
    · rw [if_neg hc, ih]
      by_cases h2 : i = j
      · subst h2
        simp at hc
        simp [hc]
      · by_cases h1 : i < j
        · simp [h1, show i < j + 1 by omega]
        · simp [h1, show ¬ i < j + 1 by omega]
theorem bits_set {a : List Int} {n : Nat} (h : Comb a n) : bitsTo (setTo a n) n = a := by
  refine sorted_ext _ _ (bitsTo_comb _ _).2 h.2 (fun x => ⟨fun hx => ?_, fun hx => ?_⟩)
  · unfold bitsTo at hx
    obtain ⟨i, hi, rfl⟩ := List.mem_map.1 hx
    have h2 := (List.mem_filter.1 hi).2
    rw [setTo_bit] at h2
    simp only [Bool.and_eq_true, List.contains_iff_mem] at h2
    exact h2.2
  · have hr := h.1 x hx
    obtain ⟨i, rfl⟩ := Int.eq_ofNat_of_zero_le hr.1
    unfold bitsTo
    refine List.mem_map.2 ⟨i, List.mem_filter.2 ⟨List.mem_range.2 (by omega), ?_⟩, rfl⟩
    rw [setTo_bit]
    simp only [Bool.and_eq_true, List.contains_iff_mem, decide_eq_true_eq]
    exact ⟨by omega, hx⟩
/-- What two choices of pieces that are good tell is the same. -/
theorem good_same {l : List ByteArray} {a b : List Int} {n k L : Nat} (hl : l.length = n) (hn : n ≤ 12) (hk : 1 ≤ k) (hkn : k ≤ n) (hL : Len l L) (ha : Comb a n) (hb : Comb b n) (hal : a.length = k) (hbl : b.length = k) (ga : goodF l k a = true) (gb : goodF l k b = true) :
    someTo a (ownF l a) k = someTo b (ownF l b) k := by
  have hDa := comb_dat ha (by omega) hal (by omega) hL
  have hDb := comb_dat hb (by omega) hbl (by omega) hL
  unfold goodF at ga gb
  rw [hl, wrongTo_off] at ga gb
  simp only [decide_eq_true_eq] at ga gb
  unfold someTo
  refine List.map_congr_left (fun i hi => ?_)
  have := List.mem_range.1 hi
  exact hDa.near hDb (by omega) (by omega) (by omega) (l := l) (n := n) ⟨by omega, by omega⟩
/-- A set is found. -/
theorem rep_found {l : List ByteArray} {n k L s : Nat} (hl : l.length = n) (hn : n ≤ 12) (hk : 1 ≤ k) (hkn : k ≤ n) (hL : Len l L) (hok : repOk (k : Int) l = true) (hbl : (bitsTo s n).length = k) (gb : goodF l k (bitsTo s n) = true) :
    repF (k : Int) l = (someTo (bitsTo s n) (ownF l (bitsTo s n)) k, 0) := by
  have hC := bitsTo_comb s n
  have hsome : (repTry k l).isSome = true := by
    unfold repTry
    rw [hl]
    exact tryF_complete k [] (bitsTo s n) 0 hbl (by simpa using hC) (fun x hx => by have := hC.1 x hx; omega) (by simpa using gb)
  obtain ⟨a, ha⟩ := Option.isSome_iff_exists.1 hsome
  have hs := ha
  unfold repTry at hs
  rw [hl] at hs
  obtain ⟨g1, g2, g3⟩ := tryF_sound k [] 0 a (by omega) ⟨by simp, by simp⟩ hs
  have g4 : a.length = k := by simpa using g3
  unfold repF
  rw [if_pos hok]
  simp only [Int.toNat_natCast, ha]
  rw [good_same hl hn hk hkn hL g2 hC g4 hbl g1 gb]
/-- No set is found. -/
theorem rep_none {l : List ByteArray} {n k : Nat} (hl : l.length = n) (hok : repOk (k : Int) l = true) (h : ∀ s, s < 2 ^ n → (bitsTo s n).length = k → goodF l k (bitsTo s n) = false) : repF (k : Int) l = ([], 90) := by
  unfold repF
  rw [if_pos hok, Int.toNat_natCast]
  cases ht : repTry k l with
  | none => rfl
  | some a =>
    unfold repTry at ht
    rw [hl] at ht
    obtain ⟨g1, g2, g3⟩ := tryF_sound k [] 0 a (by omega) ⟨by simp, by simp⟩ ht
    have e := bits_set g2
    have := h (setTo a n) (setTo_lt a n) (by rw [e]; simpa using g3)
    rw [e, g1] at this
    cases this
end Go.Proofs.YtkdjibejnncmfaaGreatDoor.Co
