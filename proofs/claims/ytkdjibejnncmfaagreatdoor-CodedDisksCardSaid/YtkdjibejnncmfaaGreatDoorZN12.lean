/- CodedRepairs in plain Lean: up to half of n - k wrong pieces are found; other data have n - k + 1 other pieces. -/
import Derived.Test.YtkdjibejnncmfaaGreatDoorZN11
namespace Go.Proofs.YtkdjibejnncmfaaGreatDoor.Co
open Go.RowKit Go.Proofs.YtkdjibejnncmfaaGreatDoorW.PrintWords Go.Proofs.YtkdjibejnncmfaaGreatDoorW.PrintLast Go.Proofs.YtkdjibejnncmfaaGreatDoorW.PrintMore
set_option linter.unusedVariables false
set_option linter.unusedSimpArgs false
set_option maxRecDepth 100000
theorem firstL_dat {l : List ByteArray} {K L : Nat} (hK : l.length = K) (h : K ≤ 256) (hL : Len l L) : Dat K L (firstL K) l := ⟨firstL_pts K h, firstL_length K, by rw [firstL_length, hK], hL⟩
theorem filter_not {α : Type} (p : α → Bool) : ∀ l : List α, l.length = (l.filter p).length + (l.filter fun x => !p x).length
  | [] => by simp
  | x :: l => by
    have ih := filter_not p l
    cases hp : p x <;> simp [List.filter_cons, hp] <;> omega
theorem beq_self (a : ByteArray) : (a.toList == a.toList) = true := by simp
/-- The first k places where the texts are the pieces. -/
def okAt (p : List Int) (v l : List ByteArray) (n k : Nat) : List Int := (((List.range n).filter fun i : Nat => (pieceF p v (i : Int)).toList == (vs l i).toList).take k).map fun i : Nat => (i : Int)
theorem okAt_len {p : List Int} {v l : List ByteArray} {n k : Nat} (h : offN p v l n + k ≤ n) : (okAt p v l n k).length = k := by
  have := filter_not (fun i : Nat => (pieceF p v (i : Int)).toList == (vs l i).toList) (List.range n)
  rw [List.length_range] at this
  unfold offN at h
  unfold okAt
  rw [List.length_map, List.length_take]
  omega
theorem okAt_mem {p : List Int} {v l : List ByteArray} {n k : Nat} {x : Int} (h : x ∈ okAt p v l n k) : ∃ i : Nat, i < n ∧ x = (i : Int) ∧ pieceF p v (i : Int) = vs l i := by
  unfold okAt at h
  obtain ⟨i, hi, rfl⟩ := List.mem_map.1 h
  have hi2 := List.mem_of_mem_take hi
  obtain ⟨h1, h2⟩ := List.mem_filter.1 hi2
  exact ⟨i, List.mem_range.1 h1, rfl, toList_eq h2⟩
theorem okAt_comb (p : List Int) (v l : List ByteArray) (n k : Nat) : Comb (okAt p v l n k) n := by
  refine ⟨fun x hx => ?_, ?_⟩
  · obtain ⟨i, hi, rfl, _⟩ := okAt_mem hx
    omega
  · unfold okAt
    rw [List.pairwise_map]
    have h1 : (List.range n).Pairwise (· < ·) := List.pairwise_lt_range
    have h2 := List.Pairwise.sublist (List.filter_sublist (p := fun i : Nat => (pieceF p v (i : Int)).toList == (vs l i).toList)) h1
    have h3 := List.Pairwise.sublist (List.take_sublist k _) h2
    exact h3.imp fun h => by omega
theorem vs_sz {l : List ByteArray} {S : Nat} (h : Len l S) : ∀ s ∈ l, s.size = S := fun s hs => by
  obtain ⟨i, hi, rfl⟩ := List.getElem_of_mem hs
  have e : vs l i = l[i] := by unfold vs rdOf; simp [hi]
  rw [← e]
  exact h i hi
theorem rep_ok {l bad : List ByteArray} {N K S : Nat} (hK : l.length = K) (hK1 : 1 ≤ K) (hKN : K ≤ N) (hN : N ≤ 12) (hL : Len l S) (hS : S ≤ 256) (hb : bad.length = N) (hbL : Len bad S) (hw : wrongTo (someTo (firstL K) l N) bad N ≤ (N - K) / 2) :
    ∃ L, repF (K : Int) bad = (L, 0) ∧ L.length = K ∧ (∀ i : Nat, i < K → vs L i = vs l i) ∧ ∀ s ∈ L, s.size = S := by
  have hD := firstL_dat hK (by omega) hL
  rw [wrongTo_off] at hw
  have hz : (vs bad 0).size = S := hbL 0 (by omega)
  have hok : repOk (K : Int) bad = true := by
    unfold repOk
    rw [alike_of (by omega) (by omega) (by omega) (by rw [hz]; exact hbL)]
    simp
    omega
  have hal := okAt_len (p := firstL K) (v := l) (l := bad) (n := N) (k := K) (by omega)
  obtain ⟨E, hE⟩ : ∃ E, E = okAt (firstL K) l bad N K := ⟨_, rfl⟩
  have hC : Comb E N := by rw [hE]; exact okAt_comb _ _ _ _ _
  have hm : ∀ x ∈ E, ∃ i : Nat, i < N ∧ x = (i : Int) ∧ pieceF (firstL K) l (i : Int) = vs bad i := fun x hx => by rw [hE] at hx; exact okAt_mem hx
  rw [← hE] at hal
  have hDE := comb_dat hC (by omega) hal (by omega) hbL
  have hsame : ∀ {x : Int}, IsB x → pieceF E (ownF bad E) x = pieceF (firstL K) l x := fun {x} hx => by
    refine hDE.agree hD (by omega) (E.map Int.toNat) ?_ (by simp [hal]) (fun i hi => ?_) (fun i hi => ?_) hx
    · rw [List.nodup_iff_pairwise_ne, List.pairwise_map]
      refine List.Pairwise.imp_of_mem ?_ hC.2
      intro a b ha hb hab e
      have h1 := hC.1 a ha
      have h2 := hC.1 b hb
      omega
    · obtain ⟨x, hx, rfl⟩ := List.mem_map.1 hi
      have := hC.1 x hx
      omega
    · obtain ⟨x, hx, rfl⟩ := List.mem_map.1 hi
      obtain ⟨q, hq, rfl, he⟩ := hm x hx
      rw [Int.toNat_natCast, he]
      obtain ⟨j, hj, ej⟩ := List.getElem_of_mem hx
      have hr : rd E j = (q : Int) := by rw [rd_nat E j hj]; exact ej
      have := piece_own hDE.pt hDE.same hDE.sz j hj
      rw [hr, vs_ownF bad E j hj, hr] at this
      exact this
  have hoff : offN E (ownF bad E) bad N = offN (firstL K) l bad N := by
    unfold offN
    congr 1
    apply List.filter_congr
    intro i hi
    have := List.mem_range.1 hi
    rw [hsame ⟨by omega, by omega⟩]
  have hgood : goodF bad K E = true := by
    unfold goodF
    rw [hb, wrongTo_off, hoff]
    simpa using hw
  have hsome : (repTry K bad).isSome = true := by
    unfold repTry
    rw [hb]
    exact tryF_complete K [] E 0 hal (by simpa using hC) (fun x hx => by have := hC.1 x hx; omega) (by simpa using hgood)
  obtain ⟨a, ha⟩ := Option.isSome_iff_exists.1 hsome
  have hs := ha
  unfold repTry at hs
  rw [hb] at hs
  obtain ⟨g1, g2, g3⟩ := tryF_sound K [] 0 a (by omega) ⟨by simp, by simp⟩ hs
  have g4 : a.length = K := by simpa using g3
  have hDa := comb_dat g2 (by omega) g4 (by omega) hbL
  have hwa : offN a (ownF bad a) bad N ≤ (N - K) / 2 := by
    unfold goodF at g1
    rw [hb, wrongTo_off] at g1
    simpa using g1
  refine ⟨someTo a (ownF bad a) K, ?_, someTo_length _ _ _, fun i hi => ?_, vs_sz ?_⟩
  · unfold repF
    rw [if_pos hok]
    simp only [Int.toNat_natCast, ha]
  · rw [vs_some _ _ _ _ hi, hDa.near hD (by omega) (by omega) (by omega) (l := bad) (n := N) (x := (i : Int)) ⟨by omega, by omega⟩]
    have := piece_own hD.pt hD.same hL i (by rw [firstL_length]; exact hi)
    rw [rd_firstL K i hi] at this
    exact this
  · intro i hi
    rw [someTo_length] at hi
    rw [vs_some _ _ _ _ hi, piece_size]
    exact hDa.sz 0 (by simp [ownF, g4]; omega)
theorem wrong_set {P bad : List ByteArray} {i : Nat} {t : ByteArray} (hi : i < bad.length) (he : vs P i = vs bad i) (ht : t ≠ vs P i) : ∀ n : Nat, wrongTo P (bad.set i t) n = if i < n then wrongTo P bad n + 1 else wrongTo P bad n
  | 0 => by simp [wrongTo]
  | n + 1 => by
    have ih := wrong_set hi he ht n
    rw [wrongTo_succ, wrongTo_succ, ih]
    by_cases h : n = i
    · subst h
      have e1 : vs (bad.set n t) n = t := by unfold vs rdOf; simp [hi]
      have e2 : ((vs P n).toList == t.toList) = false := by
        cases hh : ((vs P n).toList == t.toList) with
        | false => rfl
        | true => exact absurd (toList_eq hh).symm ht
      have a1 : ¬ n < n := by omega
      have a2 : n < n + 1 := by omega
      rw [e1, e2, ← he]
      simp
    · have e1 : vs (bad.set i t) n = vs bad n := by unfold vs rdOf; simp [List.getD_eq_getElem?_getD, List.getElem?_set, show ¬ i = n by omega]
      rw [e1]
      by_cases hlt : i < n
      · have a2 : i < n + 1 := by omega
        simp only [hlt, a2, if_true]
        split <;> rfl
      · have a2 : ¬ i < n + 1 := by omega
        simp only [hlt, a2, if_false]
theorem len_set {bad : List ByteArray} {S i : Nat} {t : ByteArray} (h : Len bad S) (ht : t.size = S) : Len (bad.set i t) S := fun j hj => by
  rw [List.length_set] at hj
  by_cases e : i = j
  · subst e
    have e1 : vs (bad.set i t) i = t := by unfold vs rdOf; simp [hj]
    rw [e1, ht]
  · have e1 : vs (bad.set i t) j = vs bad j := by unfold vs rdOf; simp [List.getD_eq_getElem?_getD, List.getElem?_set, e]
    rw [e1]
    exact h j hj
/-- Other data have other pieces. -/
theorem other_ok {l l2 : List ByteArray} {N K S q : Nat} (hK : l.length = K) (hK2 : l2.length = K) (hK1 : 1 ≤ K) (hKN : K ≤ N) (hN : N ≤ 12) (hL : Len l S) (hL2 : Len l2 S) (hq : q < K) (hne : vs l q ≠ vs l2 q) :
    N - K + 1 ≤ wrongTo (someTo (firstL K) l N) (someTo (firstL K) l2 N) N := by
  refine Nat.not_lt.1 fun hlt => hne ?_
  rw [wrongTo_off] at hlt
  have hD := firstL_dat hK (by omega) hL
  have hD2 := firstL_dat hK2 (by omega) hL2
  have hz : offN (firstL K) l2 (someTo (firstL K) l2 N) N = 0 := by
    unfold offN
    rw [List.length_eq_zero_iff, List.filter_eq_nil_iff]
    intro i hi
    rw [vs_some _ _ _ _ (List.mem_range.1 hi)]
    simp
  have h1 := hD.near hD2 (by omega) (n := N) (by omega) (l := someTo (firstL K) l2 N) (by omega) (x := (q : Int)) ⟨by omega, by omega⟩
  have e1 := piece_own hD.pt hD.same hL q (by rw [firstL_length]; exact hq)
  have e2 := piece_own hD2.pt hD2.same hL2 q (by rw [firstL_length]; exact hq)
  rw [rd_firstL K q hq] at e1 e2
  rw [← e1, ← e2, h1]
end Go.Proofs.YtkdjibejnncmfaaGreatDoor.Co
