/- The walks of the reference's field: Times, Over, Power, Log, Sum. -/
import Derived.Test.YtkdjibejnncmfaaGreatDoorZN1
import Derived.Test.YtkdjibejnncmfaaGreatDoorB2
namespace Go.Proofs.YtkdjibejnncmfaaGreatDoor.Co
open Go.RowKit Go.Proofs.YtkdjibejnncmfaaGreatDoorW.PrintWords Go.Proofs.YtkdjibejnncmfaaGreatDoorW.PrintLast Go.Proofs.YtkdjibejnncmfaaGreatDoorW.PrintMore
set_option linter.unusedVariables false
set_option linter.unusedSimpArgs false
set_option maxRecDepth 100000
theorem bit_at {b k : Nat} (hb : b < 256) (hk : k < 8) : (bits .and .u8 ((b : Int) / 2 ^ k) 1 == 1) = (b / 2 ^ k % 2 == 1) := by
  have : ∀ b : Nat, b < 256 → ∀ k : Nat, k < 8 → (bits .and .u8 ((b : Int) / 2 ^ k) 1 == 1) = (b / 2 ^ k % 2 == 1) := by decide +kernel
  exact this b hb k hk
theorem bit_split {b k : Nat} (hb : b < 256) (hk : k < 8) : b % 2 ^ (k + 1) = if b / 2 ^ k % 2 == 1 then Nat.xor (b % 2 ^ k) (2 ^ k) else b % 2 ^ k := by
  have : ∀ b : Nat, b < 256 → ∀ k : Nat, k < 8 → b % 2 ^ (k + 1) = if b / 2 ^ k % 2 == 1 then Nat.xor (b % 2 ^ k) (2 ^ k) else b % 2 ^ k := by decide +kernel
  exact this b hb k hk
theorem pw_two {k : Nat} (hk : k < 8) : pw k = 2 ^ k := by
  have : ∀ k : Nat, k < 8 → pw k = 2 ^ k := by decide +kernel
  exact this k hk
theorem two_lt {k : Nat} (hk : k < 8) : 2 ^ k < 256 := by
  have : ∀ k : Nat, k < 8 → 2 ^ k < 256 := by decide +kernel
  exact this k hk
theorem pw_next {k a : Nat} (hk : k < 8) (ha : a < 256) : mulN (pw (k + 1)) a = xtF (mulN (pw k) a) := by
  rw [pw_succ (by omega), mul_comm' (pw k) 2, mul_assoc' (by omega) (pw_lt k) ha, xtF_eq (mul_lt _ _)]
/-- One round's numbers. -/
theorem tm_y {k a y : Nat} (hk : k < 8) (ha : a < 256) (hy : y < 256) (HY : y = mulN (pw k) a) : mulN (pw (k + 1)) a < 256 ∧ (256 ≤ (y : Int) * 2 → bits .xor .i64 ((y : Int) * 2) 285 = ((mulN (pw (k + 1)) a : Nat) : Int)) ∧ ((y : Int) * 2 < 256 → (y : Int) * 2 = ((mulN (pw (k + 1)) a : Nat) : Int)) := by
  refine ⟨mul_lt _ _, fun h => ?_, fun h => ?_⟩
  · rw [pw_next hk ha, ← HY]
    have h2 := i64_xor_nat (y * 2) 285 (by omega) (by omega)
    have e : xtF y = y * 2 ^^^ 285 := by
      unfold xtF
      have hb : Nat.ble 128 y = true := Nat.ble_eq_true_of_le (by omega)
      rw [hb, if_pos rfl, Nat.mul_comm 2 y]
      rfl
    rw [e, ← h2]
    simp
  · rw [pw_next hk ha, ← HY]
    have e : xtF y = y * 2 := by
      unfold xtF
      have hb : Nat.ble 128 y = false := by
        rw [Bool.eq_false_iff]
        intro h2
        have := Nat.le_of_ble_eq_true h2
        omega
      rw [hb, Nat.mul_comm 2 y]
      exact Nat.xor_zero _
    rw [e]
    omega
theorem tm_z {k a b y z : Nat} (hk : k < 8) (ha : a < 256) (hb : b < 256) (hy : y < 256) (hz : z < 256) (HY : y = mulN (pw k) a) (HZ : z = mulN a (b % 2 ^ k)) :
    mulN a (b % 2 ^ (k + 1)) < 256 ∧ ((bits .and .u8 ((b : Int) / 2 ^ k) 1 == 1) = true → bits .xor .i64 (z : Int) (y : Int) = ((mulN a (b % 2 ^ (k + 1)) : Nat) : Int)) ∧ ((bits .and .u8 ((b : Int) / 2 ^ k) 1 == 1) = false → (z : Int) = ((mulN a (b % 2 ^ (k + 1)) : Nat) : Int)) := by
  have hm : b % 2 ^ k < 256 := Nat.lt_of_le_of_lt (Nat.mod_le _ _) hb
  refine ⟨mul_lt _ _, fun h => ?_, fun h => ?_⟩
  · rw [bit_at hb hk] at h
    rw [bit_split hb hk, if_pos h, mul_dist ha hm (two_lt hk), ← HZ, ← pw_two hk, mul_comm' a (pw k), ← HY]
    exact i64_xor_nat z y (by omega) (by omega)
  · rw [bit_at hb hk] at h
    rw [bit_split hb hk, if_neg (by rw [h]; simp), ← HZ]
theorem refTimes_any (a b : Nat) (w : World) (ha : a < 256) (hb : b < 256) :
    Calls Tryz.prog 22 #[.int .u8 (a : Nat), .int .u8 (b : Nat)] w fun e w' => e = .returned (.int .u8 (mulN a b : Nat)) ∧ w = w' := by
  go_enter Tryz.func22, Tryz.ntmps22
  go_wp2_with fail
  go_loop [5, 6, 7] (fun x o i => ∃ k y z : Nat, k ≤ 8 ∧ i = .int .i64 k ∧ x = .int .i64 (y : Nat) ∧ o = .int .i64 (z : Nat) ∧ y < 256 ∧ z < 256 ∧ (k < 8 → Hid (y = mulN (pw k) a)) ∧ Hid (z = mulN a (b % 2 ^ k))) (fun _ _ i => 8 - (intOf i).toNat)
  case atStart => exact ⟨0, a, 0, by omega, rfl, rfl, rfl, ha, by omega, fun _ => Lib.hid (by show a = mulN 1 a; rw [mul_one1 ha]), Lib.hid (by rw [Nat.pow_zero, Nat.mod_one]; unfold mulN; split <;> rfl)⟩
  case round =>
    obtain ⟨k, y, z, hk, rfl, rfl, rfl, hy, hz, HY0, HZ⟩ := hrel
    by_cases hlt : k < 8
    · have HY := HY0 hlt
      have HTY := Lib.hid (tm_y hlt ha hy HY.out)
      have HTZ := Lib.hid (tm_z hlt ha hb hy hz HY.out HZ.out)
      clear HY0
      go_wp2_with fail
      all_goals
        go_round
        case rel =>
          refine ⟨k + 1, mulN (pw (k + 1)) a, mulN a (b % 2 ^ (k + 1)), by omega, by go_num, ?_, ?_, HTY.out.1, HTZ.out.1, fun _ => Lib.hid rfl, Lib.hid rfl⟩
          · first | (rw [HTY.out.2.1 (by assumption)]) | (rw [HTY.out.2.2 (by assumption)])
          · first | (rw [HTZ.out.2.1 (by assumption)]) | (rw [← HTZ.out.2.2 (by assumption)])
        case measure => simp [intOf]; omega
    · have hk8 : k = 8 := by omega
      subst hk8
      clear HY0
      go_wp2_with fail
      go_ret
      refine ⟨ret_int' ?_, rfl⟩
      have := HZ.out
      rw [show (2 : Nat) ^ 8 = 256 from rfl, Nat.mod_eq_of_lt hb] at this
      rw [← this]
      try omega
theorem div_mul3 {a b : Nat} (ha : a < 256) (hb : b < 256) (h0 : b ≠ 0) : mulN (divN a b) b = a := by
  rw [div_mul ha hb h0, mul_assoc' ha (divN_lt _ _) hb, mul_comm' (divN 1 b) b, mul_inv1 hb h0, mul_comm', mul_one1 ha]
theorem div_only {n a b : Nat} (hn : n < 256) (hb : b < 256) (h0 : b ≠ 0) (h : mulN n b = a) : n = divN a b := by
  rw [← h, div_mul (mul_lt _ _) hb h0, mul_assoc' hn hb (divN_lt _ _), mul_inv1 hb h0, mul_comm', mul_one1 hn]
theorem refOver_any (a b : Nat) (w : World) (ha : a < 256) (hb : b < 256) :
    Calls Tryz.prog 16 #[.int .u8 (a : Nat), .int .u8 (b : Nat)] w fun e w' => e = .returned (.tuple #[.int .u8 ((if b = 0 then 0 else divN a b : Nat) : Int), .int .i64 (if b = 0 then 12 else 0)]) ∧ w = w' := by
  by_cases h0 : b = 0
  · subst h0
    go_enter Tryz.func16, Tryz.ntmps16
    go_wp2_with fail
    go_ret2
    exact ⟨rfl, rfl⟩
  · have e0 : ((b : Int) == 0) = false := by simpa using h0
    rw [if_neg h0, if_neg h0]
    obtain ⟨q, hq⟩ : ∃ q, q = divN a b := ⟨_, rfl⟩
    have hq2 : q < 256 := by rw [hq]; exact divN_lt _ _
    have HQ : Hid (mulN q b = a) := Lib.hid (by rw [hq]; exact div_mul3 ha hb h0)
    have HO : Hid (∀ n, n < 256 → mulN n b = a → n = q) := Lib.hid (fun n hn h => by rw [hq]; exact div_only hn hb h0 h)
    rw [← hq]
    clear hq h0
    go_enter Tryz.func16, Tryz.ntmps16
    go_wp2_with fail
    go_loop [6] (fun i => ∃ k : Nat, k ≤ q ∧ i = .int .i64 k) (fun i => 256 - (intOf i).toNat)
    case atStart => exact ⟨0, by omega, rfl⟩
    case round =>
      obtain ⟨k, hk, rfl⟩ := hrel
      by_cases hkq : k = q
      · subst hkq
        have HT : Hid (∀ W, Calls Tryz.prog 22 #[.int .u8 (k : Nat), .int .u8 (b : Nat)] W fun e w' => e = .returned (.int .u8 (a : Nat)) ∧ W = w') := Lib.hid (fun W => by have := refTimes_any k b W hq2 hb; rw [HQ.out] at this; exact this)
        go_wp2_with (go_at_call 22; (with_reducible refine Calls.mono (HT.out _) ?_); rintro e w2 ⟨rfl, rfl⟩)
        go_ret2
        exact ⟨rfl, rfl⟩
      · have hk2 : k < 256 := by omega
        have hne : mulN k b ≠ a := fun h => hkq (HO.out k hk2 h)
        obtain ⟨m, hm⟩ : ∃ m, m = mulN k b := ⟨_, rfl⟩
        have en : ((m : Int) == (a : Int)) = false := by rw [beq_eq_false_iff_ne, hm]; omega
        have HT : Hid (∀ W, Calls Tryz.prog 22 #[.int .u8 (k : Nat), .int .u8 (b : Nat)] W fun e w' => e = .returned (.int .u8 (m : Nat)) ∧ W = w') := Lib.hid (fun W => by rw [hm]; exact refTimes_any k b W hk2 hb)
        have HM := Lib.hid (And.intro hm (And.intro hne hkq))
        have hkl : k < q := by omega
        clear hm hne hkq
        go_wp2_with (go_at_call 22; (with_reducible refine Calls.mono (HT.out _) ?_); rintro e w2 ⟨rfl, rfl⟩)
        go_round
        case rel => exact ⟨k + 1, by omega, by go_num⟩
        case measure => simp [intOf]; omega
/-- The i-th power. -/
def powK (a : Nat) : Nat → Nat
  | 0 => 1
  | i + 1 => mulN (powK a i) a
theorem powK_lt (a : Nat) : ∀ i, powK a i < 256
  | 0 => by unfold powK; omega
  | i + 1 => mul_lt _ _
theorem powK_zero : ∀ i, powK 0 (i + 1) = 0
  | i => by show mulN _ 0 = 0; rw [mul_comm']; simp [mulN]
theorem powK_pw {a : Nat} (ha : a < 256) (h0 : a ≠ 0) : ∀ i, powK a i = pw (lg a * i % 255)
  | 0 => by show 1 = _; rw [Nat.mul_zero]; rfl
  | i + 1 => by
    have h1 : lg a * i % 255 < 255 := Nat.mod_lt _ (by omega)
    show mulN (powK a i) a = _
    rw [powK_pw ha h0 i, mul_ne (pw_ne h1) h0, lg_pw h1, Nat.mul_add, Nat.mul_one]
    congr 1
    omega
theorem powN_K {a : Nat} {n : Int} (ha : a < 256) (hn : 1 ≤ n) : powK a (((n - 1) % 255).toNat + 1) = powN a n := by
  unfold powN
  rw [if_neg (by omega), if_neg (by omega)]
  by_cases h0 : a = 0
  · subst h0; rw [powK_zero]; rfl
  · rw [if_neg h0, powK_pw ha h0]
    congr 1
    have e : ((n - 1) % 255).toNat + 1 = (n % 255).toNat ∨ (((n - 1) % 255).toNat + 1 = 255 ∧ (n % 255).toNat = 0) := by omega
    rcases e with e | ⟨e1, e2⟩
    · rw [e]
    · rw [e1, e2, Nat.mul_mod_left, Nat.mul_zero]
theorem refPower_any (a : Nat) (n : Int) (w : World) (ha : a < 256) (hn : -9223372036854775808 ≤ n ∧ n ≤ 9223372036854775807) :
    Calls Tryz.prog 18 #[.int .u8 (a : Nat), .int .i64 n] w fun e w' => e = .returned (.tuple #[.int .u8 (powN a n : Nat), .int .i64 (if n < 0 then 1 else 0)]) ∧ w = w' := by
  by_cases h1 : n < 0
  · have hp : Hid (powN a n = 0) := Lib.hid (by unfold powN; rw [if_pos h1])
    rw [if_pos h1]
    go_enter Tryz.func18, Tryz.ntmps18
    go_wp2_with fail
    go_ret2
    exact ⟨by rw [hp.out]; rfl, rfl⟩
  · rw [if_neg h1]
    by_cases h2 : n = 0
    · subst h2
      go_enter Tryz.func18, Tryz.ntmps18
      go_wp2_with fail
      go_ret2
      exact ⟨rfl, rfl⟩
    · have e2 : (n == 0) = false := by simpa using h2
      have hp := Lib.hid (powN_K (n := n) ha (by omega))
      obtain ⟨q, hq⟩ : ∃ q : Nat, (n - 1) % 255 = (q : Int) := ⟨((n - 1) % 255).toNat, by omega⟩
      have hp2 : Hid (powK a (q + 1) = powN a n) := Lib.hid (by have := hp.out; rw [hq] at this; exact this)
      have hq2 : q < 255 := by omega
      have h3 : 0 < n := by omega
      clear h2 h1 hp
      go_enter Tryz.func18, Tryz.ntmps18
      go_wp2_with fail
      go_loop [6, 7] (fun o i => ∃ k z : Nat, k ≤ q + 1 ∧ i = .int .i64 k ∧ o = .int .u8 (z : Nat) ∧ z < 256 ∧ Hid (z = powK a k)) (fun _ i => q + 1 - (intOf i).toNat)
      case atStart => exact ⟨0, 1, by omega, rfl, rfl, by omega, rfl⟩
      case round =>
        obtain ⟨k, z, hk, rfl, rfl, hz, HZ⟩ := hrel
        by_cases hlt : k < q + 1
        · have HT : Hid (∀ W, Calls Tryz.prog 22 #[.int .u8 (z : Nat), .int .u8 (a : Nat)] W fun e w' => e = .returned (.int .u8 (mulN z a : Nat)) ∧ W = w') := Lib.hid (fun W => refTimes_any z a W hz ha)
          go_wp2_with (go_at_call 22; (with_reducible refine Calls.mono (HT.out _) ?_); rintro e w2 ⟨rfl, rfl⟩)
          go_round
          case rel => exact ⟨k + 1, mulN z a, by omega, by go_num, rfl, mul_lt _ _, Lib.hid (by rw [HZ.out]; rfl)⟩
          case measure => simp [intOf]; omega
        · have hkq : k = q + 1 := by omega
          subst hkq
          go_wp2_with fail
          go_ret2
          exact ⟨by rw [HZ.out, hp2.out]; rfl, rfl⟩
theorem refLog_any (a : Nat) (w : World) (ha : a < 256) :
    Calls Tryz.prog 20 #[.int .u8 (a : Nat)] w fun e w' => e = .returned (.tuple #[.int .i64 ((if a = 0 then 0 else lg a : Nat) : Int), .int .i64 (if a = 0 then 12 else 0)]) ∧ w = w' := by
  by_cases h0 : a = 0
  · rw [if_pos h0, if_pos h0]
    have HNE : Hid (∀ k : Nat, k < 255 → pw k ≠ a) := Lib.hid (fun k hk he => by rw [h0] at he; exact pw_ne hk he)
    clear h0
    go_enter Tryz.func20, Tryz.ntmps20
    go_wp2_with fail
    go_loop [4, 5] (fun x i => ∃ k z : Nat, k ≤ 255 ∧ i = .int .i64 k ∧ x = .int .u8 (z : Nat) ∧ z < 256 ∧ (k < 255 → Hid (z = pw k))) (fun _ i => 255 - (intOf i).toNat)
    case atStart => exact ⟨0, 1, by omega, rfl, rfl, by omega, fun _ => rfl⟩
    case round =>
      obtain ⟨k, z, hk, rfl, rfl, hz, HZ⟩ := hrel
      by_cases hkl : k < 255
      · have HZ2 := HZ hkl
        have en : ((z : Int) == (a : Int)) = false := by rw [beq_eq_false_iff_ne, HZ2.out]; have := HNE.out k hkl; omega
        have HT : Hid (∀ W, Calls Tryz.prog 22 #[.int .u8 (z : Nat), .int .u8 2] W fun e w' => e = .returned (.int .u8 (mulN z 2 : Nat)) ∧ W = w') := Lib.hid (fun W => refTimes_any z 2 W hz (by omega))
        clear HZ
        go_wp2_with (go_at_call 22; (with_reducible refine Calls.mono (HT.out _) ?_); rintro e w2 ⟨rfl, rfl⟩)
        go_round
        case rel => exact ⟨k + 1, mulN z 2, by omega, by go_num, rfl, mul_lt _ _, fun h => Lib.hid (by rw [HZ2.out, pw_succ h])⟩
        case measure => simp [intOf]; omega
      · clear HZ
        go_wp2_with fail
        go_ret2
        exact ⟨rfl, rfl⟩
  · rw [if_neg h0, if_neg h0]
    obtain ⟨q, hq⟩ : ∃ q, q = lg a := ⟨_, rfl⟩
    have hq2 : q < 255 := by rw [hq]; exact lg_lt' ha
    have HNE : Hid (∀ k : Nat, k < q → pw k ≠ a) := Lib.hid (fun k hk he => by
      rw [← he, lg_pw (by omega)] at hq
      omega)
    have HEQ : Hid (pw q = a) := Lib.hid (by rw [hq]; exact pw_lg ha h0)
    rw [← hq]
    clear hq h0
    go_enter Tryz.func20, Tryz.ntmps20
    go_wp2_with fail
    go_loop [4, 5] (fun x i => ∃ k z : Nat, k ≤ q ∧ i = .int .i64 k ∧ x = .int .u8 (z : Nat) ∧ z < 256 ∧ Hid (z = pw k)) (fun _ i => 255 - (intOf i).toNat)
    case atStart => exact ⟨0, 1, by omega, rfl, rfl, by omega, rfl⟩
    case round =>
      obtain ⟨k, z, hk, rfl, rfl, hz, HZ⟩ := hrel
      by_cases hkq : k < q
      · have en : ((z : Int) == (a : Int)) = false := by rw [beq_eq_false_iff_ne, HZ.out]; have := HNE.out k hkq; omega
        have HT : Hid (∀ W, Calls Tryz.prog 22 #[.int .u8 (z : Nat), .int .u8 2] W fun e w' => e = .returned (.int .u8 (mulN z 2 : Nat)) ∧ W = w') := Lib.hid (fun W => refTimes_any z 2 W hz (by omega))
        go_wp2_with (go_at_call 22; (with_reducible refine Calls.mono (HT.out _) ?_); rintro e w2 ⟨rfl, rfl⟩)
        go_round
        case rel => exact ⟨k + 1, mulN z 2, by omega, by go_num, rfl, mul_lt _ _, Lib.hid (by rw [HZ.out, pw_succ (by omega)])⟩
        case measure => simp [intOf]; omega
      · have hkq2 : k = q := by omega
        subst hkq2
        have en : ((z : Int) == (a : Int)) = true := by rw [beq_iff_eq, HZ.out, HEQ.out]
        go_wp2_with fail
        go_ret2
        exact ⟨rfl, rfl⟩
theorem refSum_any (s : ByteArray) (w : World) (hs : s.size ≤ 9223372036854775807) : Calls Tryz.prog 24 #[.string s] w fun e w' => e = .returned (.int .u64 (sumF s)) ∧ w = w' := by
  go_enter Tryz.func24, Tryz.ntmps24
  go_wp2_with fail
  go_loop [3, 4] (fun h i => ∃ k : Nat, k ≤ s.size ∧ i = .int .i64 k ∧ h = .int .u64 (sumK s k)) (fun _ i => s.size - (intOf i).toNat)
  case atStart => exact ⟨0, by omega, rfl, rfl⟩
  case round =>
    obtain ⟨k, hk, rfl, rfl⟩ := hrel
    by_cases hlt : k < s.size
    · have hb := bt_at s k (by simpa using hlt)
      have hr := bt_range s k
      have hw := sum_word (sumK s k) (bt s k) (sumK_lt s k) hr
      have HS := Lib.hid (sumK_succ s k)
      simp only [Int.toNat_natCast] at hb
      go_wp2_with fail
      go_round
      case rel => exact ⟨k + 1, by omega, by go_num, by rw [HS.out]⟩
      case measure => simp [intOf]; omega
    · obtain rfl : k = s.size := by omega
      go_wp2_with fail
      go_ret
      exact ⟨rfl, rfl⟩
end Go.Proofs.YtkdjibejnncmfaaGreatDoor.Co
