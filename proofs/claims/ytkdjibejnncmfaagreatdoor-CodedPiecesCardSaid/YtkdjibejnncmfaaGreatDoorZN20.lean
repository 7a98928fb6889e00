/- The walk of the reference's value: Lagrange's formula. -/
import Derived.Test.YtkdjibejnncmfaaGreatDoorZN9
import Derived.Test.YtkdjibejnncmfaaGreatDoorZN4
namespace Go.Proofs.YtkdjibejnncmfaaGreatDoor.Co
open Go.RowKit Go.Proofs.YtkdjibejnncmfaaGreatDoorW.PrintWords Go.Proofs.YtkdjibejnncmfaaGreatDoorW.PrintLast Go.Proofs.YtkdjibejnncmfaaGreatDoorW.PrintMore
set_option linter.unusedVariables false
set_option linter.unusedSimpArgs false
set_option maxRecDepth 100000
/-- The numerator and the denominator of a weight. -/
def upB (p : Nat → B8) (X : B8) (i : Nat) : Nat → B8
  | 0 => Pf.Fd.e
  | k + 1 => if k = i then upB p X i k else upB p X i k * (X + p k)
def dnB (p : Nat → B8) (i : Nat) : Nat → B8
  | 0 => Pf.Fd.e
  | k + 1 => if k = i then dnB p i k else dnB p i k * (p i + p k)
theorem mul_inv_l {a b : B8} (ha : a ≠ Pf.Fd.o) (hb : b ≠ Pf.Fd.o) : a * b ≠ Pf.Fd.o := fun h => hb (Pf.mul_ne ha h)
theorem inv_mul {a b : B8} (ha : a ≠ Pf.Fd.o) (hb : b ≠ Pf.Fd.o) : Pf.Fd.inv (a * b) = Pf.Fd.inv a * Pf.Fd.inv b := by
  have h1 := Pf.Fd.mul_inv (a * b) (mul_inv_l ha hb)
  have h2 : a * b * (Pf.Fd.inv a * Pf.Fd.inv b) = Pf.Fd.e := by rw [Pf.mul_swap, Pf.Fd.mul_inv a ha, Pf.Fd.mul_inv b hb, Pf.Fd.mul_e]
  calc Pf.Fd.inv (a * b) = Pf.Fd.inv (a * b) * Pf.Fd.e := (Pf.Fd.mul_e _).symm
    _ = Pf.Fd.inv (a * b) * (a * b * (Pf.Fd.inv a * Pf.Fd.inv b)) := by rw [h2]
    _ = (a * b * Pf.Fd.inv (a * b)) * (Pf.Fd.inv a * Pf.Fd.inv b) := by rw [← Pf.Fd.mul_assoc, Pf.Fd.mul_comm (Pf.Fd.inv (a * b))]
    _ = Pf.Fd.inv a * Pf.Fd.inv b := by rw [h1, Pf.e_mul]
theorem inv_e : Pf.Fd.inv (Pf.Fd.e : B8) = Pf.Fd.e := by
  have h := Pf.Fd.mul_inv (Pf.Fd.e : B8) (fun h => Pf.Fd.ne h.symm)
  rw [Pf.e_mul] at h
  exact h
theorem up_dn {p : Nat → B8} {X : B8} {i n : Nat} (hi : i < n) (hp : ∀ a b, a < n → b < n → a ≠ b → p a ≠ p b) : ∀ k, k ≤ n → dnB p i k ≠ Pf.Fd.o ∧ upB p X i k * Pf.Fd.inv (dnB p i k) = Pf.wt p i X k
  | 0, _ => ⟨fun h => Pf.Fd.ne h.symm, by unfold upB dnB Pf.wt; rw [inv_e, Pf.Fd.mul_e]⟩
  | k + 1, hk => by
    obtain ⟨h1, h2⟩ := up_dn hi hp k (by omega) (X := X)
    unfold upB dnB Pf.wt
    by_cases e : k = i
    · rw [if_pos e, if_pos e, if_pos e.symm]
      exact ⟨h1, h2⟩
    · have hne : p i + p k ≠ Pf.Fd.o := Pf.add_ne (hp i k hi (by omega) (fun h => e h.symm))
      rw [if_neg e, if_neg e, if_neg (fun h => e h.symm), inv_mul h1 hne, Pf.mul_swap, h2]
      exact ⟨mul_inv_l h1 hne, rfl⟩
theorem refT (A B : B8) (w : World) : Calls Tryz.prog 22 #[.int .u8 (A.n : Int), .int .u8 (B.n : Int)] w fun e w' => e = .returned (.int .u8 ((A * B).n : Int)) ∧ ∃ m, w' = w.drewN m :=
  (refTimes_any A.n B.n w A.lt B.lt).mono fun e w' h => ⟨h.1, 0, h.2.symm⟩
theorem n_ne {A : B8} (h : A ≠ Pf.Fd.o) : A.n ≠ 0 := fun hh => h (B8.eq hh)
theorem refO (A B : B8) (w : World) (hB : B ≠ Pf.Fd.o) : Calls Tryz.prog 16 #[.int .u8 (A.n : Int), .int .u8 (B.n : Int)] w fun e w' => e = .returned (.tuple #[.int .u8 ((A * Pf.Fd.inv B).n : Int), .int .i64 0]) ∧ w = w' := by
  have h := refOver_any A.n B.n w A.lt B.lt
  rw [if_neg (n_ne hB), if_neg (n_ne hB)] at h
  have e : (A * Pf.Fd.inv B).n = divN A.n B.n := (div_mul A.lt B.lt (n_ne hB)).symm
  rw [e]
  exact h
theorem fe_b {x : Int} (h : IsB x) : ((fe x).n : Int) = x := by rw [fe_n h]; have := h.1; omega
theorem xor_b8 (A B : B8) : bits .xor .u8 (A.n : Int) (B.n : Int) = ((A + B).n : Int) := xor_nat A.n B.n A.lt B.lt
theorem u8_n (A : B8) : IntKind.u8.wrap (A.n : Int) = (A.n : Int) := u8_byte ⟨by omega, by have := A.lt; omega⟩
theorem drawn_il {w w' : World} {A : Option Addr} {l : List Int} (h : Kd.C (Kd.int .i64) w A l.length l) (hD : Drawn0 w w') : Kd.C (Kd.int .i64) w' A l.length l := by
  obtain ⟨m, rfl⟩ := hD
  exact Kd.C_drewN h m
theorem drawn_y {w w' : World} {A : Option Addr} {l : List Int} (h : Kd.C (Kd.int .u8) w A l.length l) (hD : Drawn0 w w') : Kd.C (Kd.int .u8) w' A l.length l := by
  obtain ⟨m, rfl⟩ := hD
  exact Kd.C_drewN h m
end Go.Proofs.YtkdjibejnncmfaaGreatDoor.Co
