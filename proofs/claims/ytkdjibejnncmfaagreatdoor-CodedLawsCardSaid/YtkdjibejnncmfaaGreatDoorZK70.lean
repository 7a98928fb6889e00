/- The walk of CodedLaws. -/
import Derived.Test.YtkdjibejnncmfaaGreatDoorB9
namespace Go.Proofs.YtkdjibejnncmfaaGreatDoor.Co
open Go.RowKit Go.Proofs.YtkdjibejnncmfaaGreatDoorW.PrintWords Go.Proofs.YtkdjibejnncmfaaGreatDoorW.PrintLast Go.Proofs.YtkdjibejnncmfaaGreatDoorW.PrintMore
set_option linter.unusedVariables false
set_option linter.unusedSimpArgs false
set_option maxRecDepth 100000
theorem bits_xor (b c : Nat) (hb : b < 256) (hc : c < 256) : Go.bits .xor .u8 (b : Int) (c : Int) = ((Nat.xor b c : Nat) : Int) := by
  have h := xor_lt' hb hc
  unfold Go.bits
  simp [IntKind.bits, IntKind.signed, IntKind.wrap]
  have h2 : b ^^^ c < 256 := h
  have h3 : (BitVec.ofNat 8 b ^^^ BitVec.ofNat 8 c).toNat = b ^^^ c := by
    rw [BitVec.toNat_xor, BitVec.toNat_ofNat, BitVec.toNat_ofNat, Nat.mod_eq_of_lt (show b < 2 ^ 8 by omega), Nat.mod_eq_of_lt (show c < 2 ^ 8 by omega)]
  have h4 : (((BitVec.ofNat 8 b ^^^ BitVec.ofNat 8 c).toNat : Int)) % 256 = ((b ^^^ c : Nat) : Int) := by rw [h3]; omega
  exact h4
theorem mul_one' {x : Nat} (h : x < 256) : mulN 1 x = x := by
  have h1 : ∀ x : Nat, x < 256 → mulN 1 x = x := by decide +kernel
  exact h1 x h
theorem div_mul' {a b : Nat} (ha : a < 256) (hb : b < 256) (h0 : b ≠ 0) : mulN (divN a b) b = a := by
  by_cases ha0 : a = 0
  · subst ha0; simp [divN, mulN]
  have hb2 := lg_lt' hb
  have ha2 := lg_lt' ha
  have h2 : (lg a + 255 - lg b) % 255 < 255 := Nat.mod_lt _ (by omega)
  have h1 : divN a b = pw ((lg a + 255 - lg b) % 255) := by unfold divN; rw [if_neg ha0]
  have h3 : ((lg a + 255 - lg b) % 255 + lg b) % 255 = lg a := by omega
  rw [h1, mul_ne (pw_ne h2) h0, lg_pw h2, h3, pw_lg ha ha0]
theorem pow_log {a : Nat} (ha : a < 256) (h0 : a ≠ 0) : powN 2 (lg a : Nat) = a := by
  have : ∀ a : Nat, a < 256 → a ≠ 0 → powN 2 (lg a : Nat) = a := by decide +kernel
  exact this a ha h0
set_option maxHeartbeats 2000000 in
theorem laws_any (a b c : Nat) (ha : a < 256) (hb : b < 256) (hc : c < 256) (w : World) : Calls Tryz.prog 5 #[.int .u8 a, .int .u8 b, .int .u8 c] w fun e w' => e = .returned (.bool true) ∧ Below w.heap.size w w' := by
  obtain ⟨ab, hab⟩ : ∃ ab, ab = mulN a b := ⟨_, rfl⟩
  obtain ⟨bc, hbc⟩ : ∃ bc, bc = mulN b c := ⟨_, rfl⟩
  obtain ⟨abc, habc⟩ : ∃ x, x = mulN ab c := ⟨_, rfl⟩
  have HS : Hid (∀ W, Calls Tryz.prog 14 #[] W fun e w' => e = .returned (.bool true) ∧ Below W.heap.size W w') := Lib.hid sane_any
  have H1 : Hid (∀ W, Calls Tryz.prog 21 #[.int .u8 a, .int .u8 b] W fun e w' => e = .returned (.int .u8 ab) ∧ Below W.heap.size W w') := Lib.hid (fun W => hab ▸ Times_any a b W ha hb)
  have H2 : Hid (∀ W, Calls Tryz.prog 21 #[.int .u8 b, .int .u8 c] W fun e w' => e = .returned (.int .u8 bc) ∧ Below W.heap.size W w') := Lib.hid (fun W => hbc ▸ Times_any b c W hb hc)
  have H3 : Hid (∀ W, Calls Tryz.prog 21 #[.int .u8 b, .int .u8 a] W fun e w' => e = .returned (.int .u8 ab) ∧ Below W.heap.size W w') := Lib.hid (fun W => by rw [hab, mul_comm']; exact Times_any b a W hb ha)
  have H4 : Hid (∀ W, Calls Tryz.prog 21 #[.int .u8 ab, .int .u8 c] W fun e w' => e = .returned (.int .u8 abc) ∧ Below W.heap.size W w') := Lib.hid (fun W => by rw [habc]; exact Times_any ab c W (by rw [hab]; exact mul_lt _ _) hc)
  have H5 : Hid (∀ W, Calls Tryz.prog 21 #[.int .u8 a, .int .u8 bc] W fun e w' => e = .returned (.int .u8 abc) ∧ Below W.heap.size W w') := Lib.hid (fun W => by rw [habc, hab, mul_assoc' ha hb hc, ← hbc]; exact Times_any a bc W ha (by rw [hbc]; exact mul_lt _ _))
  obtain ⟨bx, hbx⟩ : ∃ x, x = Nat.xor b c := ⟨_, rfl⟩
  have hbx2 : bx < 256 := by rw [hbx]; exact xor_lt' hb hc
  obtain ⟨ac, hac⟩ : ∃ x, x = mulN a c := ⟨_, rfl⟩
  obtain ⟨abx, habx⟩ : ∃ x, x = mulN a bx := ⟨_, rfl⟩
  have hx1 : Go.bits .xor .u8 (b : Int) (c : Int) = (bx : Int) := by rw [hbx]; exact bits_xor b c hb hc
  have hx2 : Go.bits .xor .u8 (ab : Int) (ac : Int) = (abx : Int) := by rw [bits_xor ab ac (by rw [hab]; exact mul_lt _ _) (by rw [hac]; exact mul_lt _ _), habx, hbx, mul_dist ha hb hc, hab, hac]
  have H6 : Hid (∀ W, Calls Tryz.prog 21 #[.int .u8 a, .int .u8 bx] W fun e w' => e = .returned (.int .u8 abx) ∧ Below W.heap.size W w') := Lib.hid (fun W => habx ▸ Times_any a bx W ha hbx2)
  have H7 : Hid (∀ W, Calls Tryz.prog 21 #[.int .u8 a, .int .u8 c] W fun e w' => e = .returned (.int .u8 ac) ∧ Below W.heap.size W w') := Lib.hid (fun W => hac ▸ Times_any a c W ha hc)
  have H8 : Hid (∀ W, Calls Tryz.prog 21 #[.int .u8 1, .int .u8 a] W fun e w' => e = .returned (.int .u8 a) ∧ Below W.heap.size W w') := Lib.hid (fun W => (Times_any 1 a W (by omega) ha).mono fun e w' h => ⟨h.1.trans (by rw [mul_one' ha]), h.2⟩)
  have H9 : Hid (∀ W, Calls Tryz.prog 21 #[.int .u8 0, .int .u8 a] W fun e w' => e = .returned (.int .u8 0) ∧ Below W.heap.size W w') := Lib.hid (fun W => (Times_any 0 a W (by omega) ha).mono fun e w' h => ⟨h.1.trans (by simp [mulN]), h.2⟩)
  have HAC := Lib.hid hac
  have HABX := Lib.hid habx
  have HBX := Lib.hid hbx
  have HAB := Lib.hid hab
  have HBC := Lib.hid hbc
  have HABC := Lib.hid habc
  clear hab hbc habc hac habx hbx
  go_enter Tryz.func5, Tryz.ntmps5
  go_upto_region 6 with (first
    | (go_at_call 14; with_reducible refine Calls.mono (HS.out _) ?_; rintro e w1 ⟨rfl, hb⟩; have HB1 := Lib.hid hb; clear hb)
    | (go_at_call 21; with_reducible refine Calls.mono (H1.out _) ?_; rintro e w2 ⟨rfl, hb⟩; have HB1 := Lib.hid (belt HB1.out hb); clear hb)
    | (go_at_call 21; with_reducible refine Calls.mono (H2.out _) ?_; rintro e w2 ⟨rfl, hb⟩; have HB1 := Lib.hid (belt HB1.out hb); clear hb)
    | (go_at_call 21; with_reducible refine Calls.mono (H3.out _) ?_; rintro e w2 ⟨rfl, hb⟩; have HB1 := Lib.hid (belt HB1.out hb); clear hb)
    | (go_at_call 21; with_reducible refine Calls.mono (H4.out _) ?_; rintro e w2 ⟨rfl, hb⟩; have HB1 := Lib.hid (belt HB1.out hb); clear hb)
    | (go_at_call 21; with_reducible refine Calls.mono (H5.out _) ?_; rintro e w2 ⟨rfl, hb⟩; have HB1 := Lib.hid (belt HB1.out hb); clear hb)
    | (go_at_call 21; with_reducible refine Calls.mono (H6.out _) ?_; rintro e w2 ⟨rfl, hb⟩; have HB1 := Lib.hid (belt HB1.out hb); clear hb)
    | (go_at_call 21; with_reducible refine Calls.mono (H7.out _) ?_; rintro e w2 ⟨rfl, hb⟩; have HB1 := Lib.hid (belt HB1.out hb); clear hb)
    | (go_at_call 21; with_reducible refine Calls.mono (H8.out _) ?_; rintro e w2 ⟨rfl, hb⟩; have HB1 := Lib.hid (belt HB1.out hb); clear hb)
    | (go_at_call 21; with_reducible refine Calls.mono (H9.out _) ?_; rintro e w2 ⟨rfl, hb⟩; have HB1 := Lib.hid (belt HB1.out hb); clear hb))
  by_cases hb0 : b = 0
  · have HO : Hid (∀ W, Calls Tryz.prog 15 #[.int .u8 a, .int .u8 b] W fun e w' => e = .returned (.tuple #[.int .u8 0, .int .i64 12]) ∧ Below W.heap.size W w') := Lib.hid (fun W => (Over_any a b W ha hb).mono fun e w' h => ⟨h.1.trans (by rw [if_pos hb0, if_pos hb0]; rfl), h.2⟩)
    have eb : ((b : Int) == 0) = true := by simpa using hb0
    have HB0 := Lib.hid hb0
    clear hb0
    go_wp2_with (go_at_call 15; with_reducible refine Calls.mono (HO.out _) ?_; rintro e w2 ⟨rfl, hb⟩; have HB1 := Lib.hid (belt HB1.out hb); clear hb)
    go_ret
    exact ⟨rfl, HB1.out⟩
  · obtain ⟨q, hq⟩ : ∃ q, q = divN a b := ⟨_, rfl⟩
    have hq2 : q < 256 := by rw [hq]; exact divN_lt _ _
    have HO : Hid (∀ W, Calls Tryz.prog 15 #[.int .u8 a, .int .u8 b] W fun e w' => e = .returned (.tuple #[.int .u8 q, .int .i64 0]) ∧ Below W.heap.size W w') := Lib.hid (fun W => (Over_any a b W ha hb).mono fun e w' h => ⟨h.1.trans (by rw [if_neg hb0, if_neg hb0, hq]), h.2⟩)
    have HQ : Hid (∀ W, Calls Tryz.prog 21 #[.int .u8 q, .int .u8 b] W fun e w' => e = .returned (.int .u8 a) ∧ Below W.heap.size W w') := Lib.hid (fun W => (Times_any q b W hq2 hb).mono fun e w' h => ⟨h.1.trans (by rw [hq, div_mul' ha hb hb0]), h.2⟩)
    have eb : ((b : Int) == 0) = false := by simpa using hb0
    by_cases ha0 : a = 0
    · have hq0 : q = 0 := by rw [hq, ha0]; rfl
      have ea : ((a : Int) == 0) = true := by simpa using ha0
      have eq0 : ((q : Int) == 0) = true := by simpa using hq0
      have HB0 := Lib.hid (And.intro hb0 ha0)
      have HQ0 := Lib.hid (And.intro hq hq0)
      clear hb0 ha0 hq hq0
      go_wp2_with (first
        | (go_at_call 15; with_reducible refine Calls.mono (HO.out _) ?_; rintro e w2 ⟨rfl, hb⟩; have HB1 := Lib.hid (belt HB1.out hb); clear hb)
        | (go_at_call 21; with_reducible refine Calls.mono (HQ.out _) ?_; rintro e w2 ⟨rfl, hb⟩; have HB1 := Lib.hid (belt HB1.out hb); clear hb))
      go_ret
      exact ⟨rfl, HB1.out⟩
    · have ea : ((a : Int) == 0) = false := by simpa using ha0
      obtain ⟨x, hx⟩ : ∃ x, x = lg a := ⟨_, rfl⟩
      obtain ⟨y, hy⟩ : ∃ y, y = lg b := ⟨_, rfl⟩
      obtain ⟨z, hz⟩ : ∃ z, z = lg ab := ⟨_, rfl⟩
      have hab2 : ab = pw ((lg a + lg b) % 255) := by rw [HAB.out]; exact mul_ne ha0 hb0
      have hm : (lg a + lg b) % 255 < 255 := Nat.mod_lt _ (by omega)
      have hab0 : ab ≠ 0 := by rw [hab2]; exact pw_ne hm
      have hab3 : ab < 256 := by rw [HAB.out]; exact mul_lt _ _
      have hz2 : z = (x + y) % 255 := by rw [hz, hab2, lg_pw hm, hx, hy]
      have hx2 : x < 255 := by rw [hx]; exact lg_lt' ha
      have hy2 : y < 255 := by rw [hy]; exact lg_lt' hb
      have hp : powN 2 (x : Int) = a := by rw [hx]; exact pow_log ha ha0
      have HLA : Hid (∀ W, Calls Tryz.prog 19 #[.int .u8 a] W fun e w' => e = .returned (.tuple #[.int .i64 x, .int .i64 0]) ∧ Below W.heap.size W w') := Lib.hid (fun W => (Log_any a W ha).mono fun e w' h => ⟨h.1.trans (by rw [if_neg ha0, if_neg ha0, hx]), h.2⟩)
      have HLB : Hid (∀ W, Calls Tryz.prog 19 #[.int .u8 b] W fun e w' => e = .returned (.tuple #[.int .i64 y, .int .i64 0]) ∧ Below W.heap.size W w') := Lib.hid (fun W => (Log_any b W hb).mono fun e w' h => ⟨h.1.trans (by rw [if_neg hb0, if_neg hb0, hy]), h.2⟩)
      have HLC : Hid (∀ W, Calls Tryz.prog 19 #[.int .u8 ab] W fun e w' => e = .returned (.tuple #[.int .i64 z, .int .i64 0]) ∧ Below W.heap.size W w') := Lib.hid (fun W => (Log_any ab W hab3).mono fun e w' h => ⟨h.1.trans (by rw [if_neg hab0, if_neg hab0, hz]), h.2⟩)
      have HPW : Hid (∀ W, Calls Tryz.prog 17 #[.int .u8 2, .int .i64 x] W fun e w' => e = .returned (.tuple #[.int .u8 a, .int .i64 0]) ∧ Below W.heap.size W w') := Lib.hid (fun W => (Power_any 2 x W (by omega) (by omega)).mono fun e w' h => ⟨h.1.trans (by rw [hp, if_neg (by omega)]), h.2⟩)
      have eab : ((ab : Int) != 0) = true := by simpa using hab0
      have l1 : (x : Int) < 255 := by omega
      have l2 : (y : Int) < 255 := by omega
      have l0 : (0 : Int) ≤ (x : Int) := by omega
      have l00 : (0 : Int) ≤ (y : Int) := by omega
      have ez : ((z : Int) == ((x : Int) + (y : Int)) % 255) = true := by rw [beq_iff_eq]; omega
      have HX := Lib.hid (And.intro hb0 (And.intro ha0 (And.intro hq (And.intro hx (And.intro hy (And.intro hz (And.intro hab2 (And.intro hz2 (And.intro hp hab0)))))))))
      clear hb0 ha0 hq hx hy hz hab2 hz2 hp hab0 hm
      go_wp2_with (first
        | (go_at_call 15; with_reducible refine Calls.mono (HO.out _) ?_; rintro e w2 ⟨rfl, hb⟩; have HB1 := Lib.hid (belt HB1.out hb); clear hb)
        | (go_at_call 21; with_reducible refine Calls.mono (HQ.out _) ?_; rintro e w2 ⟨rfl, hb⟩; have HB1 := Lib.hid (belt HB1.out hb); clear hb)
        | (go_at_call 19; with_reducible refine Calls.mono (HLA.out _) ?_; rintro e w2 ⟨rfl, hb⟩; have HB1 := Lib.hid (belt HB1.out hb); clear hb)
        | (go_at_call 19; with_reducible refine Calls.mono (HLB.out _) ?_; rintro e w2 ⟨rfl, hb⟩; have HB1 := Lib.hid (belt HB1.out hb); clear hb)
        | (go_at_call 19; with_reducible refine Calls.mono (HLC.out _) ?_; rintro e w2 ⟨rfl, hb⟩; have HB1 := Lib.hid (belt HB1.out hb); clear hb)
        | (go_at_call 17; with_reducible refine Calls.mono (HPW.out _) ?_; rintro e w2 ⟨rfl, hb⟩; have HB1 := Lib.hid (belt HB1.out hb); clear hb))
      go_ret
      exact ⟨rfl, HB1.out⟩
end Go.Proofs.YtkdjibejnncmfaaGreatDoor.Co
