/- A page that rots is not sound. -/
import Derived.Test.YtkdjibejnncmfaaGreatDoorZN18
import Derived.Test.YtkdjibejnncmfaaGreatDoorZK84
namespace Go.Proofs.YtkdjibejnncmfaaGreatDoor.Co
open Go.RowKit Go.Proofs.YtkdjibejnncmfaaGreatDoorW.PrintWords Go.Proofs.YtkdjibejnncmfaaGreatDoorW.PrintLast Go.Proofs.YtkdjibejnncmfaaGreatDoorW.PrintMore
set_option linter.unusedVariables false
set_option linter.unusedSimpArgs false
set_option maxRecDepth 100000
theorem mulmod_inj {P Q M x y : Nat} (hM : 1 < M) (h1 : P * Q % M = 1) (hx : x < M) (hy : y < M) (h : x * P % M = y * P % M) : x = y := by
  have e : ∀ z, z < M → z * P % M * (Q % M) % M = z := fun z hz => by
    rw [← Nat.mul_mod, Nat.mul_assoc, Nat.mul_mod, h1, Nat.mul_one, Nat.mod_mod, Nat.mod_eq_of_lt hz]
  rw [← e x hx, ← e y hy, h]
theorem two64 : (2 : Nat) ^ 64 = 18446744073709551616 := by decide
theorem sum_inv : 1099511628211 * 14886173955864302971 % 18446744073709551616 = 1 := by decide
theorem step_inj {h h2 b b2 : Nat} (hh : h < 18446744073709551616) (hh2 : h2 < 18446744073709551616) (hb : b < 256) (hb2 : b2 < 256) (e : sumStep h b = sumStep h2 b2) : h ^^^ b = h2 ^^^ b2 := by
  have l : ∀ {u v : Nat}, u < 18446744073709551616 → v < 256 → u ^^^ v < 18446744073709551616 := fun {u v} hu hv => by
    rw [← two64] at hu ⊢
    exact Nat.xor_lt_two_pow hu (Nat.lt_of_lt_of_le hv (by rw [two64]; omega))
  exact mulmod_inj (by omega) sum_inv (l hh hb) (l hh2 hb2) e
theorem xor_left {a b c : Nat} (h : a ^^^ b = a ^^^ c) : b = c := by
  have e := congrArg (fun z => a ^^^ z) h
  simp only [← Nat.xor_assoc, Nat.xor_self, Nat.zero_xor] at e
  exact e
theorem xor_right {a b c : Nat} (h : a ^^^ c = b ^^^ c) : a = b := by
  have e := congrArg (fun z => z ^^^ c) h
  simp only [Nat.xor_assoc, Nat.xor_self, Nat.xor_zero] at e
  exact e
theorem btN (s : ByteArray) (i : Nat) : (bt s i).toNat < 256 := by have := bt_b s i; have := this.1; have := (bt_b s i).2; omega
theorem sumK_same {s t : ByteArray} : ∀ k, (∀ i : Nat, i < k → bt s i = bt t i) → sumK s k = sumK t k
  | 0, _ => by unfold sumK; simp only [List.range_zero, List.foldl_nil]
  | k + 1, h => by rw [sumK_succ, sumK_succ, sumK_same k (fun i hi => h i (by omega)), h k (by omega)]
/-- Texts that differ in one byte have other sums. -/
theorem sumK_diff {s t : ByteArray} {p : Nat} : ∀ k, p < k → (∀ i : Nat, i < k → i ≠ p → bt s i = bt t i) → bt s p ≠ bt t p → sumK s k ≠ sumK t k
  | 0, h, _, _ => by omega
  | k + 1, hk, h, hp => by
    intro e
    rw [sumK_succ, sumK_succ] at e
    have e2 := step_inj (sumK_lt s k) (sumK_lt t k) (btN s k) (btN t k) e
    by_cases hpk : p = k
    · subst hpk
      rw [sumK_same p (fun i hi => h i (by omega) (by omega))] at e2
      have e3 := xor_left e2
      have h1 := bt_b s p
      have h2 := bt_b t p
      exact hp (by have := h1.1; have := h2.1; omega)
    · rw [h k (by omega) (by omega)] at e2
      exact sumK_diff k (by omega) (fun i hi => h i (by omega)) hp (xor_right e2)
theorem str_app (a b : List Int) : strOfNums a ++ strOfNums b = strOfNums (a ++ b) := by
  apply ByteArray.ext
  simp [strOfNums, ByteArray.data_append]
theorem ofLE_inj : ∀ {a b : List Int}, a.length = b.length → (∀ x ∈ a, IsB x) → (∀ x ∈ b, IsB x) → ofLE a = ofLE b → a = b
  | [], [], _, _, _, _ => rfl
  | [], _ :: _, h, _, _, _ => by simp at h
  | _ :: _, [], h, _, _, _ => by simp at h
  | x :: a, y :: b, hl, ha, hb, h => by
    unfold ofLE at h
    have h1 := ha x List.mem_cons_self
    have h2 := hb y List.mem_cons_self
    have := h1.1
    have := h1.2
    have := h2.1
    have := h2.2
    have e1 : x = y := by omega
    have e2 : ofLE a = ofLE b := by omega
    rw [e1, ofLE_inj (by simpa using hl) (fun z hz => ha z (List.mem_cons_of_mem _ hz)) (fun z hz => hb z (List.mem_cons_of_mem _ hz)) e2]
theorem xor_ne {x y : Int} (hx : IsB x) (hy : IsB y) (h : y ≠ 0) : xorI x y ≠ x := fun e => by
  rw [xorI_nat hx hy] at e
  have h0 : Nat.xor x.toNat y.toNat = x.toNat := by omega
  have h1 : x.toNat ^^^ y.toNat = x.toNat ^^^ 0 := by rw [Nat.xor_zero]; exact h0
  have h2 := xor_left h1
  have := hy.1
  omega
theorem xor_b {x y : Int} (hx : IsB x) (hy : IsB y) : IsB (xorI x y) := by
  rw [xorI_nat hx hy]
  have h1 := hx.1
  have h2 := hx.2
  have h3 := hy.1
  have h4 := hy.2
  have : x.toNat ^^^ y.toNat < 2 ^ 8 := Nat.xor_lt_two_pow (by omega) (by omega)
  have e : Nat.xor x.toNat y.toNat = x.toNat ^^^ y.toNat := rfl
  rw [e]
  exact ⟨by omega, by omega⟩
/-- The page says its own sum. -/
def SumOk (pg : List Int) (a : Nat) : Prop := ofLE (cutL pg 56 8) = psum pg a
theorem set_b {l : List Int} {p : Nat} {v : Int} (h : ∀ x ∈ l, IsB x) (hv : IsB v) : ∀ x ∈ l.set p v, IsB x := fun x hx => by
  rcases List.mem_or_eq_of_mem_set hx with h1 | rfl
  · exact h x h1
  · exact hv
theorem rot_sum {pg : List Int} {a p : Nat} {v : Int} (hl : pg.length = 64) (hb : ∀ x ∈ pg, IsB x) (hp : p < 64) (hv : IsB v) (hne : v ≠ rd pg p) (hs : SumOk pg a) : ¬ SumOk (pg.set p v) a := by
  intro h2
  unfold SumOk at hs h2
  by_cases h : p < 56
  · rw [cut_set (Or.inl (by omega)), hs] at h2
    unfold psum at h2
    rw [str_app, str_app] at h2
    obtain ⟨T, hT⟩ : ∃ T : List Int, T = [((a % 256 : Nat) : Int), ((a / 256 % 256 : Nat) : Int)] := ⟨_, rfl⟩
    have hTb : ∀ x ∈ T, IsB x := by
      intro x hx
      rw [hT] at hx
      have m1 : a % 256 < 256 := Nat.mod_lt _ (by omega)
      have m2 : a / 256 % 256 < 256 := Nat.mod_lt _ (by omega)
      rcases List.mem_cons.1 hx with rfl | hx
      · exact ⟨by omega, by omega⟩
      · rcases List.mem_cons.1 hx with rfl | hx
        · exact ⟨by omega, by omega⟩
        · cases hx
    have hTl : T.length = 2 := by rw [hT]; rfl
    rw [← hT] at h2
    have e : (pg.set p v).take 56 ++ T = (pg.take 56 ++ T).set p v := by
      rw [List.take_set, List.set_append_left _ _ (by rw [List.length_take]; omega)]
    rw [e] at h2
    obtain ⟨L, hL⟩ : ∃ L, L = pg.take 56 ++ T := ⟨_, rfl⟩
    have hLl : L.length = 58 := by rw [hL, List.length_append, List.length_take, hTl]; omega
    have hLb : ∀ x ∈ L, IsB x := fun x hx => by
      rw [hL] at hx
      rcases List.mem_append.1 hx with h3 | h3
      · exact hb x (List.mem_of_mem_take h3)
      · exact hTb x h3
    have hLp : rd L p = rd pg p := by
      unfold rd
      rw [hL, Int.toNat_natCast, List.getD_eq_getElem?_getD, List.getD_eq_getElem?_getD, List.getElem?_append_left (by rw [List.length_take]; omega), List.getElem?_take, if_pos h]
    rw [← hL] at h2
    have g : ∀ (l : List Int), l.length = 58 → (∀ x ∈ l, IsB x) → ∀ i : Nat, i < 58 → bt (strOfNums l) i = rd l i := fun l h3 h4 i hi => bt_nums l (fun r hr => h4 _ (rd_mem l r hr)) i (by omega)
    unfold sumF at h2
    rw [str_size, str_size, List.length_set, hLl] at h2
    have hSl : (L.set p v).length = 58 := by rw [List.length_set]; exact hLl
    have hSb := set_b (p := p) hLb hv
    refine sumK_diff 58 (p := p) (by omega) (fun i hi hip => ?_) ?_ h2
    · rw [g L hLl hLb i hi, g _ hSl hSb i hi, rd_set_ne (fun e => hip e.symm)]
    · rw [g L hLl hLb p (by omega), g _ hSl hSb p (by omega), rd_set_eq (by omega), hLp]
      exact fun e => hne e.symm
  · have hps : psum (pg.set p v) a = psum pg a := psum_take (by rw [List.take_set_of_le (by omega)])
    rw [hps, ← hs] at h2
    have hc : ∀ l : List Int, l.length = 64 → (cutL l 56 8).length = 8 := fun l hl => by unfold cutL; rw [List.length_take, List.length_drop]; omega
    have hsl : (pg.set p v).length = 64 := by rw [List.length_set]; exact hl
    have hsb := set_b (p := p) hb hv
    have h3 := ofLE_inj (by rw [hc _ hsl, hc _ hl]) (fun x hx => hsb x (cutL_mem hx)) (fun x hx => hb x (cutL_mem hx)) h2
    have h4 := congrArg (fun l : List Int => l[p - 56]?) h3
    simp only [cut_get] at h4
    rw [if_pos (by omega), if_pos (by omega), show 56 + (p - 56) = p by omega, List.getElem?_set_self (by omega), List.getElem?_eq_getElem (by omega)] at h4
    injection h4 with h4
    rw [h4] at hne
    exact hne (rd_nat pg p (by omega)).symm
theorem sound_sum {n m i a : Nat} {pg : List Int} (h : soundB n m pg i a = true) : SumOk pg a := by
  unfold soundB pageB at h
  simp only [Bool.and_eq_true, beq_iff_eq] at h
  exact h.1.1.1.1.1.1.1.1.1.1
theorem rot_unsound {n m i a p : Nat} {pg : List Int} {v : Int} (hl : pg.length = 64) (hb : ∀ x ∈ pg, IsB x) (hp : p < 64) (hv : IsB v) (hne : v ≠ rd pg p) (hs : SumOk pg a) : soundB n m (pg.set p v) i a = false := by
  have h := rot_sum hl hb hp hv hne hs
  cases hc : soundB n m (pg.set p v) i a with
  | false => rfl
  | true => exact absurd (sound_sum hc) h
theorem ofLE_zero : ∀ l : List Int, (∀ x ∈ l, x = 0) → ofLE l = 0
  | [], _ => rfl
  | b :: l, hb => by
    unfold ofLE
    rw [ofLE_zero l (fun x hx => hb x (List.mem_cons_of_mem _ hx)), hb b List.mem_cons_self]
    rfl
/-- An empty page that rots is not sound either: it has no life, or no stripes. -/
theorem rot_zero {n m i a p : Nat} {v : Int} : soundB n m ((List.replicate 64 (0 : Int)).set p v) i a = false := by
  have hz : ∀ q r, ofLE (cutL (List.replicate 64 (0 : Int)) q r) = 0 := fun q r => ofLE_zero _ (fun x hx => (List.mem_replicate.1 (cutL_mem hx)).2)
  cases hc : soundB n m ((List.replicate 64 (0 : Int)).set p v) i a with
  | false => rfl
  | true =>
    exfalso
    unfold soundB pageB kindOf lifeOf at hc
    simp only [Bool.and_eq_true, beq_iff_eq, decide_eq_true_eq] at hc
    by_cases h : p < 40 ∨ 48 ≤ p
    · have h1 := hc.1.1.1.1.1.1.1.1.1.2
      rw [cut_set (by omega), hz] at h1
      omega
    · have h1 := hc.1.1.1.1.1.1.1.2
      rw [cut_set (by omega), hz] at h1
      omega
end Go.Proofs.YtkdjibejnncmfaaGreatDoor.Co
