/- Polynomials over a field of characteristic 2, and Lagrange's formula, in plain Lean. -/
namespace Go.Proofs.YtkdjibejnncmfaaGreatDoor.Pf
class Fd (α : Type) extends Add α, Mul α where
  o : α
  e : α
  inv : α → α
  add_comm : ∀ a b : α, a + b = b + a
  add_assoc : ∀ a b c : α, a + b + c = a + (b + c)
  add_o : ∀ a : α, a + o = a
  add_self : ∀ a : α, a + a = o
  mul_comm : ∀ a b : α, a * b = b * a
  mul_assoc : ∀ a b c : α, a * b * c = a * (b * c)
  mul_e : ∀ a : α, a * e = a
  mul_add : ∀ a b c : α, a * (b + c) = a * b + a * c
  mul_inv : ∀ a : α, a ≠ o → a * inv a = e
  ne : (o : α) ≠ e
section
variable {α : Type} [Fd α]
open Fd
theorem o_add (a : α) : o + a = a := by rw [add_comm, add_o]
theorem e_mul (a : α) : e * a = a := by rw [mul_comm, mul_e]
theorem mul_o (a : α) : a * o = o := by
  have h : a * (o + o) = a * o + a * o := mul_add a o o
  rw [add_o, add_self] at h
  exact h
theorem o_mul (a : α) : o * a = o := by rw [mul_comm, mul_o]
theorem add_mul (a b c : α) : (a + b) * c = a * c + b * c := by rw [mul_comm, mul_add, mul_comm c a, mul_comm c b]
theorem add_eq_o {a b : α} (h : a + b = o) : a = b := by
  have h2 : a + b + b = o + b := by rw [h]
  rw [add_assoc, add_self, add_o, o_add] at h2
  exact h2
theorem add_ne {a b : α} (h : a ≠ b) : a + b ≠ o := fun hh => h (add_eq_o hh)
theorem mul_ne {a b : α} (ha : a ≠ o) (h : a * b = o) : b = o := by
  have h2 : inv a * (a * b) = o := by rw [h, mul_o]
  rw [← mul_assoc, mul_comm (inv a), mul_inv a ha, e_mul] at h2
  exact h2
theorem add_swap (a b c d : α) : (a + b) + (c + d) = (a + c) + (b + d) := by
  rw [add_assoc, ← add_assoc b c d, add_comm b c, add_assoc c b d, ← add_assoc]
theorem mul_swap (a b c d : α) : (a * b) * (c * d) = (a * c) * (b * d) := by
  rw [mul_assoc, ← mul_assoc b c d, mul_comm b c, mul_assoc c b d, ← mul_assoc]
/-- A function that is a polynomial of fewer than k terms. -/
def Pd : Nat → (α → α) → Prop
  | 0, f => ∀ x, f x = o
  | k + 1, f => ∀ r, ∃ q, Pd k q ∧ ∀ x, f x = f r + (x + r) * q x
theorem Pd.congr {k : Nat} {f g : α → α} (h : ∀ x, f x = g x) (hf : Pd k f) : Pd k g := by
  have e : f = g := funext h
  rw [← e]; exact hf
theorem Pd.zero : ∀ k : Nat, Pd k (fun _ : α => (o : α))
  | 0 => fun _ => rfl
  | k + 1 => fun r => ⟨fun _ => o, Pd.zero k, fun x => by simp only [mul_o, add_o]⟩
theorem Pd.add : ∀ {k : Nat} {f g : α → α}, Pd k f → Pd k g → Pd k (fun x => f x + g x)
  | 0, f, g, hf, hg => fun x => by show f x + g x = o; rw [hf x, hg x, add_o]
  | k + 1, f, g, hf, hg => fun r => by
    obtain ⟨q1, h1, e1⟩ := hf r
    obtain ⟨q2, h2, e2⟩ := hg r
    refine ⟨fun x => q1 x + q2 x, h1.add h2, fun x => ?_⟩
    show f x + g x = (f r + g r) + (x + r) * (q1 x + q2 x)
    rw [e1 x, e2 x, mul_add, add_swap]
theorem Pd.smul : ∀ {k : Nat} {f : α → α} (c : α), Pd k f → Pd k (fun x => c * f x)
  | 0, f, c, hf => fun x => by show c * f x = o; rw [hf x, mul_o]
  | k + 1, f, c, hf => fun r => by
    obtain ⟨q1, h1, e1⟩ := hf r
    refine ⟨fun x => c * q1 x, h1.smul c, fun x => ?_⟩
    show c * f x = c * f r + (x + r) * (c * q1 x)
    rw [e1 x, mul_add, ← mul_assoc (x + r), mul_comm (x + r) c, mul_assoc c (x + r)]
theorem Pd.succ : ∀ {k : Nat} {f : α → α}, Pd k f → Pd (k + 1) f
  | 0, f, hf => fun r => ⟨fun _ => o, Pd.zero 0, fun x => by rw [hf x, hf r, mul_o, add_o]⟩
  | k + 1, f, hf => fun r => by
    obtain ⟨q1, h1, e1⟩ := hf r
    exact ⟨q1, h1.succ, e1⟩
theorem Pd.const (c : α) : Pd 1 (fun _ : α => c) := fun r => ⟨fun _ => o, Pd.zero 0, fun x => by simp only [mul_o, add_o]⟩
theorem Pd.lin : ∀ {k : Nat} {f : α → α} (c : α), Pd k f → Pd (k + 1) (fun x => (x + c) * f x)
  | 0, f, c, hf => (Pd.zero 1).congr fun x => by rw [hf x, mul_o]
  | k + 1, f, c, hf => fun r => by
    obtain ⟨q, hq, eq⟩ := hf r
    refine ⟨fun x => f x + (r + c) * q x, hf.add (hq.succ.smul (r + c)), fun x => ?_⟩
    show (x + c) * f x = (r + c) * f r + (x + r) * (f x + (r + c) * q x)
    rw [mul_add, ← mul_assoc (x + r), mul_comm (x + r) (r + c), mul_assoc (r + c), add_comm ((x + r) * f x), ← add_assoc, ← mul_add, ← eq x, ← add_mul, add_comm r c, ← add_assoc (c + r) x r, add_assoc c r x, add_comm r x, ← add_assoc c x r, add_assoc (c + x), add_self, add_o, add_comm c x]
theorem Pd.vanish : ∀ {k : Nat} {f : α → α} (l : List α), Pd k f → l.Nodup → k ≤ l.length → (∀ r ∈ l, f r = o) → ∀ x, f x = o
  | 0, f, _, hf, _, _, _ => hf
  | k + 1, f, [], _, _, hl, _ => by simp at hl
  | k + 1, f, r :: l, hf, hn, hl, hr => by
    obtain ⟨q, hq, eq⟩ := hf r
    have h0 : f r = o := hr r List.mem_cons_self
    obtain ⟨hn1, hn2⟩ := List.nodup_cons.1 hn
    have hz : ∀ x, q x = o := Pd.vanish l hq hn2 (by simpa using hl) fun s hs => by
      have hs0 : f s = o := hr s (List.mem_cons_of_mem _ hs)
      have hsr : s ≠ r := fun h => hn1 (h ▸ hs)
      have e1 := eq s
      rw [hs0, h0, o_add] at e1
      exact mul_ne (add_ne hsr) e1.symm
    intro x
    rw [eq x, h0, hz x, mul_o, add_o]
/-- Two polynomials of fewer than k terms that are the same at k places are the same. -/
theorem Pd.same {k : Nat} {f g : α → α} (l : List α) (hf : Pd k f) (hg : Pd k g) (hn : l.Nodup) (hl : k ≤ l.length) (h : ∀ r ∈ l, f r = g r) (x : α) : f x = g x := by
  have := Pd.vanish l (hf.add hg) hn hl (fun r hr => by show f r + g r = o; rw [h r hr, add_self]) x
  exact add_eq_o this
/-! Lagrange's formula. -/
def wt (p : Nat → α) (i : Nat) (x : α) : Nat → α
  | 0 => e
  | k + 1 => if i = k then wt p i x k else wt p i x k * ((x + p k) * inv (p i + p k))
def lag (p v : Nat → α) (n : Nat) (x : α) : Nat → α
  | 0 => o
  | k + 1 => lag p v n x k + wt p k x n * v k
theorem wt_pd (p : Nat → α) (i : Nat) : ∀ k, (k ≤ i → Pd (k + 1) (fun x => wt p i x k)) ∧ (i < k → Pd k (fun x => wt p i x k))
  | 0 => ⟨fun _ => Pd.const e, fun h => absurd h (by omega)⟩
  | k + 1 => by
    obtain ⟨h1, h2⟩ := wt_pd p i k
    refine ⟨fun h => ?_, fun h => ?_⟩
    · have hh := (h1 (by omega)).lin (p k)
      refine (hh.smul (inv (p i + p k))).congr fun x => ?_
      show inv (p i + p k) * ((x + p k) * wt p i x k) = wt p i x (k + 1)
      rw [wt, if_neg (by omega), mul_comm (inv _), mul_comm (x + p k), mul_assoc]
    · by_cases hk : i = k
      · refine (h1 (by omega)).congr fun x => ?_
        rw [wt, if_pos hk]
      · have hh := (h2 (by omega)).lin (p k)
        refine (hh.smul (inv (p i + p k))).congr fun x => ?_
        show inv (p i + p k) * ((x + p k) * wt p i x k) = wt p i x (k + 1)
        rw [wt, if_neg hk, mul_comm (inv _), mul_comm (x + p k), mul_assoc]
theorem lag_pd (p v : Nat → α) (n : Nat) : ∀ k, k ≤ n → Pd n (fun x => lag p v n x k)
  | 0, _ => Pd.zero n
  | k + 1, h => by
    have h1 := lag_pd p v n k (by omega)
    have h2 := ((wt_pd p k n).2 (by omega)).smul (v k)
    refine (h1.add h2).congr fun x => ?_
    show lag p v n x k + v k * wt p k x n = lag p v n x (k + 1)
    rw [lag, mul_comm (v k)]
theorem wt_own (p : Nat → α) (i n : Nat) (hp : ∀ j, j < n → j ≠ i → p i ≠ p j) : ∀ k, k ≤ n → wt p i (p i) k = e
  | 0, _ => rfl
  | k + 1, h => by
    rw [wt]
    by_cases hk : i = k
    · rw [if_pos hk, wt_own p i n hp k (by omega)]
    · rw [if_neg hk, wt_own p i n hp k (by omega), mul_inv _ (add_ne (hp k (by omega) (fun h => hk h.symm))), mul_e]
theorem wt_other (p : Nat → α) (i j : Nat) (hij : i ≠ j) : ∀ k, j < k → wt p i (p j) k = o
  | 0, h => absurd h (by omega)
  | k + 1, h => by
    rw [wt]
    by_cases hk : j = k
    · subst hk
      rw [if_neg hij, add_self, o_mul, mul_o]
    · have hh := wt_other p i j hij k (by omega)
      by_cases hi : i = k
      · rw [if_pos hi, hh]
      · rw [if_neg hi, hh, o_mul]
theorem lag_own (p v : Nat → α) (n i : Nat) (hi : i < n) (hp : ∀ a b, a < n → b < n → a ≠ b → p a ≠ p b) : ∀ k, k ≤ n → lag p v n (p i) k = if i < k then v i else o
  | 0, _ => by rw [if_neg (by omega)]; rfl
  | k + 1, h => by
    rw [lag, lag_own p v n i hi hp k (by omega)]
    by_cases hk : k = i
    · subst hk
      rw [if_neg (by omega), if_pos (by omega), wt_own p k n (fun j hj hne => hp k j hi hj (fun hh => hne hh.symm)) n (Nat.le_refl _), e_mul, o_add]
    · rw [wt_other p k i hk n hi, o_mul, add_o]
      by_cases h2 : i < k
      · rw [if_pos h2, if_pos (by omega)]
      · rw [if_neg h2, if_neg (by omega)]
theorem lag_at (p v : Nat → α) (n i : Nat) (hi : i < n) (hp : ∀ a b, a < n → b < n → a ≠ b → p a ≠ p b) : lag p v n (p i) n = v i := by
  rw [lag_own p v n i hi hp n (Nat.le_refl _), if_pos hi]
/-- A polynomial of fewer than n terms is what Lagrange's formula says of its values at n places. -/
theorem lag_unique (p v : Nat → α) (n : Nat) (hp : ∀ a b, a < n → b < n → a ≠ b → p a ≠ p b) {g : α → α} (hg : Pd n g) (hv : ∀ i, i < n → g (p i) = v i) (x : α) : g x = lag p v n x n := by
  refine Pd.same ((List.range n).map p) hg (lag_pd p v n n (Nat.le_refl _)) ?_ (by simp) (fun r hr => ?_) x
  · rw [List.nodup_iff_pairwise_ne, List.pairwise_map]
    refine List.Pairwise.imp_of_mem ?_ (List.pairwise_lt_range (n := n))
    intro a b ha hb hab
    exact hp a b (by simpa using ha) (by simpa using hb) (by omega)
  · obtain ⟨i, hi, rfl⟩ := List.mem_map.1 hr
    have hi' : i < n := by simpa using hi
    rw [hv i hi', lag_at p v n i hi' hp]
theorem lag_add (p v u : Nat → α) (n : Nat) (x : α) : ∀ k, lag p (fun j => v j + u j) n x k = lag p v n x k + lag p u n x k
  | 0 => by rw [lag, lag, lag, add_o]
  | k + 1 => by rw [lag, lag, lag, lag_add p v u n x k, mul_add, add_swap]
theorem lag_smul (p v : Nat → α) (c : α) (n : Nat) (x : α) : ∀ k, lag p (fun j => c * v j) n x k = c * lag p v n x k
  | 0 => by rw [lag, lag, mul_o]
  | k + 1 => by rw [lag, lag, lag_smul p v c n x k, mul_add, ← mul_assoc (wt p k x n), mul_comm (wt p k x n) c, mul_assoc c]
end
end Go.Proofs.YtkdjibejnncmfaaGreatDoor.Pf
