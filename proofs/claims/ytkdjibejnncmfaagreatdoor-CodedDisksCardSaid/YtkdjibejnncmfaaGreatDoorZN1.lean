/- The field of bytes as a field, and pieces as values of polynomials, in plain Lean. -/
import Derived.Test.YtkdjibejnncmfaaGreatDoorB2
import Derived.Test.YtkdjibejnncmfaaGreatDoorB9
import Derived.Test.YtkdjibejnncmfaaGreatDoorZN0
namespace Go.Proofs.YtkdjibejnncmfaaGreatDoor.Co
open Go.RowKit Go.Proofs.YtkdjibejnncmfaaGreatDoorW.PrintWords Go.Proofs.YtkdjibejnncmfaaGreatDoorW.PrintLast Go.Proofs.YtkdjibejnncmfaaGreatDoorW.PrintMore
set_option linter.unusedVariables false
set_option linter.unusedSimpArgs false
set_option maxRecDepth 100000
theorem xor_nat (b c : Nat) (hb : b < 256) (hc : c < 256) : Go.bits .xor .u8 (b : Int) (c : Int) = ((Nat.xor b c : Nat) : Int) := by
  have h := xor_lt' hb hc
  unfold Go.bits
  simp [IntKind.bits, IntKind.signed, IntKind.wrap]
  have h2 : b ^^^ c < 256 := h
  have h3 : (BitVec.ofNat 8 b ^^^ BitVec.ofNat 8 c).toNat = b ^^^ c := by
    rw [BitVec.toNat_xor, BitVec.toNat_ofNat, BitVec.toNat_ofNat, Nat.mod_eq_of_lt (show b < 2 ^ 8 by omega), Nat.mod_eq_of_lt (show c < 2 ^ 8 by omega)]
  have h4 : (((BitVec.ofNat 8 b ^^^ BitVec.ofNat 8 c).toNat : Int)) % 256 = ((b ^^^ c : Nat) : Int) := by rw [h3]; omega
  exact h4
theorem mul_one1 {x : Nat} (h : x < 256) : mulN 1 x = x := by
  have h1 : ∀ x : Nat, x < 256 → mulN 1 x = x := by decide +kernel
  exact h1 x h
theorem mul_inv1 {x : Nat} (h : x < 256) (h0 : x ≠ 0) : mulN x (divN 1 x) = 1 := by
  have h1 : ∀ x : Nat, x < 256 → x ≠ 0 → mulN x (divN 1 x) = 1 := by decide +kernel
  exact h1 x h h0
theorem div_mul {a b : Nat} (ha : a < 256) (hb : b < 256) (h0 : b ≠ 0) : divN a b = mulN a (divN 1 b) := by
  by_cases ha0 : a = 0
  · subst ha0; simp [divN, mulN]
  have l1 : lg 1 = 0 := by decide +kernel
  have hb2 := lg_lt' hb
  have ha2 := lg_lt' ha
  have h1 : divN 1 b = pw ((255 - lg b) % 255) := by unfold divN; rw [if_neg (by omega), l1]
  have h2 : (255 - lg b) % 255 < 255 := Nat.mod_lt _ (by omega)
  rw [h1, mul_ne ha0 (pw_ne h2), lg_pw h2]
  unfold divN
  rw [if_neg ha0]
  congr 1
  omega
/-- A byte as an element of the field. -/
def B8 : Type := Fin 256
def B8.mk' (x : Nat) (h : x < 256) : B8 := ⟨x, h⟩
def B8.n (a : B8) : Nat := a.val
theorem B8.lt (a : B8) : a.n < 256 := a.isLt
theorem B8.eq {a b : B8} (h : a.n = b.n) : a = b := Fin.ext h
theorem xor_c (a b : Nat) : Nat.xor a b = Nat.xor b a := Nat.xor_comm a b
theorem xor_a (a b c : Nat) : Nat.xor (Nat.xor a b) c = Nat.xor a (Nat.xor b c) := Nat.xor_assoc a b c
theorem xor_z (a : Nat) : Nat.xor a 0 = a := Nat.xor_zero a
theorem xor_s (a : Nat) : Nat.xor a a = 0 := Nat.xor_self a
instance : Pf.Fd B8 where
  add a b := ⟨Nat.xor a.n b.n, xor_lt' a.lt b.lt⟩
  mul a b := ⟨mulN a.n b.n, mul_lt _ _⟩
  o := ⟨0, by omega⟩
  e := ⟨1, by omega⟩
  inv a := ⟨divN 1 a.n, divN_lt _ _⟩
  add_comm a b := B8.eq (xor_c _ _)
  add_assoc a b c := B8.eq (xor_a _ _ _)
  add_o a := B8.eq (xor_z _)
  add_self a := B8.eq (xor_s _)
  mul_comm a b := B8.eq (mul_comm' _ _)
  mul_assoc a b c := B8.eq (mul_assoc' a.lt b.lt c.lt)
  mul_e a := B8.eq (by show mulN a.n 1 = a.n; rw [mul_comm', mul_one1 a.lt])
  mul_add a b c := B8.eq (mul_dist a.lt b.lt c.lt)
  mul_inv a h := B8.eq (mul_inv1 a.lt (fun hh => h (B8.eq hh)))
  ne := fun h => by have := congrArg B8.n h; exact absurd this (by show ¬ (0 = 1); omega)
/-- A number as an element of the field. -/
def fe (x : Int) : B8 := ⟨x.toNat % 256, Nat.mod_lt _ (by omega)⟩
theorem fe_n {x : Int} (h : IsB x) : (fe x).n = x.toNat := Nat.mod_eq_of_lt (by have := h.1; have := h.2; omega)
theorem fe_inj {x y : Int} (hx : IsB x) (hy : IsB y) (h : fe x = fe y) : x = y := by
  have h2 := congrArg B8.n h
  rw [fe_n hx, fe_n hy] at h2
  have := hx.1; have := hy.1
  omega
theorem xorI_nat {a b : Int} (ha : IsB a) (hb : IsB b) : xorI a b = ((Nat.xor a.toNat b.toNat : Nat) : Int) := by
  obtain ⟨a, rfl⟩ := Int.eq_ofNat_of_zero_le ha.1
  obtain ⟨b, rfl⟩ := Int.eq_ofNat_of_zero_le hb.1
  have h1 := ha.2
  have h2 := hb.2
  exact xor_nat a b (by omega) (by omega)
theorem fe_xor {a b : Int} (ha : IsB a) (hb : IsB b) : fe (xorI a b) = fe a + fe b := B8.eq (by
  rw [fe_n (xorI_b a b), xorI_nat ha hb]
  show Nat.xor a.toNat b.toNat = Nat.xor (fe a).n (fe b).n
  rw [fe_n ha, fe_n hb])
theorem fe_mul {a b : Int} (ha : IsB a) (hb : IsB b) : fe (mulI a b) = fe a * fe b := B8.eq (by
  rw [fe_n (mulI_b a b)]
  show mulN a.toNat b.toNat = mulN (fe a).n (fe b).n
  rw [fe_n ha, fe_n hb])
theorem fe_div {a b : Int} (ha : IsB a) (hb : IsB b) (h0 : b ≠ 0) : fe (divI a b) = fe a * Pf.Fd.inv (fe b) := B8.eq (by
  rw [fe_n (divI_b a b)]
  show divN a.toNat b.toNat = mulN (fe a).n (divN 1 (fe b).n)
  rw [fe_n ha, fe_n hb]
  have h1 := ha.1; have h2 := ha.2; have h3 := hb.1; have h4 := hb.2
  exact div_mul (by omega) (by omega) (by omega))
theorem fe_zero : fe 0 = Pf.Fd.o := B8.eq rfl
theorem fe_one : fe 1 = Pf.Fd.e := B8.eq rfl
theorem xorI_ne {a b : Int} (ha : IsB a) (hb : IsB b) (h : a ≠ b) : xorI a b ≠ 0 := fun h0 => by
  have h1 := fe_xor ha hb
  rw [h0, fe_zero] at h1
  exact h (fe_inj ha hb (Pf.add_eq_o h1.symm))
theorem bt_b (s : ByteArray) (i : Int) : IsB (bt s i) := by
  unfold bt IsB
  split
  · have := (s[i.toNat]).toNat_lt; omega
  · omega
/-! The points of a polynomial. -/
structure Pts (pts : List Int) : Prop where
  b : ∀ i : Nat, i < pts.length → IsB (rd pts i)
  ne : ∀ i j : Nat, i < pts.length → j < pts.length → i ≠ j → rd pts i ≠ rd pts j
def pf (pts : List Int) (j : Nat) : B8 := fe (rd pts j)
theorem Pts.inj {pts : List Int} (h : Pts pts) : ∀ a b, a < pts.length → b < pts.length → a ≠ b → pf pts a ≠ pf pts b := fun a b ha hb hab hh => h.ne a b ha hb hab (fe_inj (h.b a ha) (h.b b hb) hh)
theorem wTo_fe {pts : List Int} (h : Pts pts) {at_ : Int} (ha : IsB at_) (i : Nat) (hi : i < pts.length) : ∀ k, k ≤ pts.length → fe (wTo pts at_ (rd pts i) i k) = Pf.wt (pf pts) i (fe at_) k
  | 0, _ => fe_one
  | k + 1, hk => by
    have ih := wTo_fe h ha i hi k (by omega)
    unfold wTo Pf.wt
    by_cases e : i = k
    · rw [if_pos e, if_pos e]; exact ih
    · rw [if_neg e, if_neg e, fe_mul (wTo_b _ _ _ _ _) (divI_b _ _), fe_div (xorI_b _ _) (xorI_b _ _) (xorI_ne (h.b i hi) (h.b k (by omega)) (h.ne i k hi (by omega) e)), fe_xor ha (h.b k (by omega)), fe_xor (h.b i hi) (h.b k (by omega)), ih]
      rfl
theorem rd_range (f : Nat → Int) (n t : Nat) (h : t < n) : rd ((List.range n).map f) t = f t := by
  unfold rd
  simp [h]
theorem rd_weights {pts : List Int} {at_ : Int} {k : Nat} (hk : k < pts.length) : rd (weightsF pts at_) k = wTo pts at_ (rd pts k) k pts.length := by
  unfold weightsF weightsTo
  exact rd_range (fun i => wTo pts at_ (rd pts (i : Int)) i pts.length) _ _ hk
/-- The values at the points, byte by byte. -/
def vf (vals : List ByteArray) (t : Nat) (j : Nat) : B8 := fe (bt (vs vals j) t)
theorem outTo_b (ws : List Int) (vals : List ByteArray) (L k t : Nat) (ht : t < L) : IsB (rd (outTo ws vals L k) t) := by
  cases k with
  | zero => unfold outTo rd IsB; simp [ht]
  | succ k =>
    unfold outTo
    rw [rd_range _ _ _ ht]
    exact xorI_b _ _
theorem outTo_fe {pts : List Int} (h : Pts pts) {at_ : Int} (ha : IsB at_) (vals : List ByteArray) (L t : Nat) (ht : t < L) : ∀ k, k ≤ pts.length → fe (rd (outTo (weightsF pts at_) vals L k) t) = Pf.lag (pf pts) (vf vals t) pts.length (fe at_) k
  | 0, _ => by
    have : rd (outTo (weightsF pts at_) vals L 0) t = 0 := by unfold outTo rd; simp [ht]
    rw [this]
    exact fe_zero
  | k + 1, hk => by
    have ih := outTo_fe h ha vals L t ht k (by omega)
    have e1 : rd (outTo (weightsF pts at_) vals L (k + 1)) t = xorI (rd (outTo (weightsF pts at_) vals L k) t) (mulI (rd (weightsF pts at_) k) (bt (vs vals k) t)) := by
      show rd ((List.range L).map _) t = _
      rw [rd_range _ _ _ ht]
    rw [e1, fe_xor (outTo_b _ _ _ _ _ ht) (mulI_b _ _), rd_weights (by omega), fe_mul (wTo_b _ _ _ _ _) (bt_b _ _), wTo_fe h ha k (by omega) _ (Nat.le_refl _), ih]
    rfl
theorem bt_nums (l : List Int) (h : ∀ t : Nat, t < l.length → IsB (rd l t)) (t : Nat) (ht : t < l.length) : bt (strOfNums l) t = rd l t := by
  have h1 := h t ht
  unfold bt strOfNums rd
  have hs : (⟨(l.map fun n => UInt8.ofNat n.toNat).toArray⟩ : ByteArray).size = l.length := by simp [ByteArray.size]
  rw [dif_pos (by rw [hs]; simpa using ht)]
  have e1 : rd l t = l[t] := by unfold rd; simp [ht]
  rw [e1] at h1
  show (((l.map fun n => UInt8.ofNat n.toNat).toArray[(t : Int).toNat]'_).toNat : Int) = _
  simp [ht]
  have h2 := h1.1
  have h3 := h1.2
  omega
theorem str_size (l : List Int) : (strOfNums l).size = l.length := by simp [strOfNums, ByteArray.size]
theorem piece_size (pts : List Int) (vals : List ByteArray) (at_ : Int) : (pieceF pts vals at_).size = (vs vals 0).size := by
  unfold pieceF
  rw [str_size, outTo_length]
/-- A byte of a piece is the value of the polynomial. -/
theorem piece_fe {pts : List Int} (h : Pts pts) {at_ : Int} (ha : IsB at_) {vals : List ByteArray} (hn : pts.length = vals.length) (t : Nat) (ht : t < (vs vals 0).size) :
    fe (bt (pieceF pts vals at_) t) = Pf.lag (pf pts) (vf vals t) pts.length (fe at_) pts.length := by
  unfold pieceF
  rw [bt_nums _ (fun i hi => outTo_b _ _ _ _ _ (by rw [outTo_length] at hi; exact hi)) t (by rw [outTo_length]; exact ht), ← hn]
  exact outTo_fe h ha vals _ t ht pts.length (Nat.le_refl _)
theorem bt_ext {a b : ByteArray} (hs : a.size = b.size) (h : ∀ t : Nat, t < a.size → bt a t = bt b t) : a = b := by
  apply ByteArray.ext
  apply Array.ext
  · exact hs
  · intro i h1 h2
    have h3 : i < a.size := h1
    have h4 : i < b.size := h2
    have e := h i h3
    unfold bt at e
    simp [h3, h4] at e
    exact UInt8.toNat_inj.1 (by
      have e2 : (a[i].toNat : Int) = (b[i].toNat : Int) := e
      exact_mod_cast e2)
/-- Texts of one length. -/
def Len (vals : List ByteArray) (L : Nat) : Prop := ∀ i : Nat, i < vals.length → (vs vals i).size = L
theorem piece_own {pts : List Int} (h : Pts pts) {vals : List ByteArray} (hn : pts.length = vals.length) {L : Nat} (hL : Len vals L) (i : Nat) (hi : i < pts.length) : pieceF pts vals (rd pts i) = vs vals i := by
  have s0 : (vs vals 0).size = L := hL 0 (by omega)
  have si : (vs vals i).size = L := hL i (by omega)
  apply bt_ext
  · rw [piece_size, s0, si]
  · intro t ht
    rw [piece_size] at ht
    have e := piece_fe h (h.b i hi) hn t ht
    have e2 : fe (rd pts i) = pf pts i := rfl
    rw [e2, Pf.lag_at (pf pts) (vf vals t) pts.length i hi h.inj] at e
    exact fe_inj (bt_b _ _) (bt_b _ _) e
/-- The pieces of data, from whichever of them. -/
theorem piece_re {pts : List Int} (h : Pts pts) {vals : List ByteArray} (hn : pts.length = vals.length) {L : Nat} (hL : Len vals L) (h0 : 0 < vals.length) {pts2 : List Int} (h2 : Pts pts2) {vals2 : List ByteArray} (hn2 : pts2.length = vals2.length) (hk : pts2.length = pts.length)
    (hv : ∀ j : Nat, j < pts2.length → vs vals2 j = pieceF pts vals (rd pts2 j)) {x : Int} (hx : IsB x) : pieceF pts2 vals2 x = pieceF pts vals x := by
  have s0 : (vs vals 0).size = L := hL 0 (by omega)
  have s2 : (vs vals2 0).size = L := by
    have e : vs vals2 (0 : Int) = pieceF pts vals (rd pts2 (0 : Int)) := hv 0 (by omega)
    rw [e, piece_size, s0]
  apply bt_ext
  · rw [piece_size, piece_size, s0, s2]
  · intro t ht
    rw [piece_size] at ht
    have e2 := piece_fe h2 hx hn2 t ht
    have e1 := piece_fe h hx hn t (by omega)
    have hg := Pf.lag_pd (pf pts) (vf vals t) pts.length pts.length (Nat.le_refl _)
    rw [← hk] at hg
    have hu := Pf.lag_unique (pf pts2) (vf vals2 t) pts2.length h2.inj hg (fun i hi => by
      have e3 := piece_fe h (h2.b i hi) hn t (by omega)
      show Pf.lag (pf pts) (vf vals t) pts2.length (fe (rd pts2 i)) pts2.length = fe (bt (vs vals2 i) t)
      rw [hk, hv i hi, e3]) (fe x)
    refine fe_inj (bt_b _ _) (bt_b _ _) ?_
    rw [e2, e1, ← hk]
    exact hu.symm
end Go.Proofs.YtkdjibejnncmfaaGreatDoor.Co
