/- The walk of CodedField. -/
import Derived.Test.YtkdjibejnncmfaaGreatDoorB9
import Derived.Test.YtkdjibejnncmfaaGreatDoorZN9
namespace Go.Proofs.YtkdjibejnncmfaaGreatDoor.Co
open Go.RowKit Go.Proofs.YtkdjibejnncmfaaGreatDoorW.PrintWords Go.Proofs.YtkdjibejnncmfaaGreatDoorW.PrintLast Go.Proofs.YtkdjibejnncmfaaGreatDoorW.PrintMore
set_option linter.unusedVariables false
set_option linter.unusedSimpArgs false
set_option maxRecDepth 100000
set_option maxHeartbeats 2000000 in
theorem field_any (a b : Nat) (n : Int) (s : ByteArray) (w : World) (ha : a < 256) (hb : b < 256) (hn : -9223372036854775808 ≤ n ∧ n ≤ 9223372036854775807) (hs : s.size ≤ 9223372036854775807) :
    Calls Tryz.prog 3 #[.int .u8 a, .int .u8 b, .int .i64 n, .string s] w fun e w' => e = .returned (.bool true) ∧ Below w.heap.size w w' := by
  have HS : Hid (∀ W, Calls Tryz.prog 14 #[] W fun e w' => e = .returned (.bool true) ∧ Below W.heap.size W w') := Lib.hid sane_any
  by_cases hl : 5000 < s.size
  · have hl2 : (5000 : Int) < (s.size : Int) := by omega
    clear hl
    go_enter Tryz.func3, Tryz.ntmps3
    go_wp2_with (go_at_call 14; (with_reducible refine Calls.mono (HS.out _) ?_); rintro e w1 ⟨rfl, hb⟩; have HB1 := Lib.hid hb; clear hb)
    go_ret
    exact ⟨rfl, HB1.out⟩
  · have hl2 : ¬ (5000 : Int) < (s.size : Int) := by omega
    obtain ⟨q, hq⟩ : ∃ q : Nat, q = (if b = 0 then 0 else divN a b) := ⟨_, rfl⟩
    obtain ⟨qe, hqe⟩ : ∃ q : Int, q = (if b = 0 then 12 else 0) := ⟨_, rfl⟩
    obtain ⟨p, hp⟩ : ∃ p : Nat, p = powN a n := ⟨_, rfl⟩
    obtain ⟨pe, hpe⟩ : ∃ q : Int, q = (if n < 0 then 1 else 0) := ⟨_, rfl⟩
    obtain ⟨x, hx⟩ : ∃ x : Nat, x = (if a = 0 then 0 else lg a) := ⟨_, rfl⟩
    obtain ⟨xe, hxe⟩ : ∃ q : Int, q = (if a = 0 then 12 else 0) := ⟨_, rfl⟩
    obtain ⟨t, ht⟩ : ∃ t : Nat, t = mulN a b := ⟨_, rfl⟩
    obtain ⟨u, hu⟩ : ∃ u : Nat, u = sumF s := ⟨_, rfl⟩
    have H15 : Hid (∀ W, Calls Tryz.prog 15 #[.int .u8 a, .int .u8 b] W fun e w' => e = .returned (.tuple #[.int .u8 (q : Nat), .int .i64 qe]) ∧ Below W.heap.size W w') := Lib.hid (fun W => by rw [hq, hqe]; exact Over_any a b W ha hb)
    have H16 : Hid (∀ W, Calls Tryz.prog 16 #[.int .u8 a, .int .u8 b] W fun e w' => e = .returned (.tuple #[.int .u8 (q : Nat), .int .i64 qe]) ∧ W = w') := Lib.hid (fun W => by rw [hq, hqe]; exact refOver_any a b W ha hb)
    have H17 : Hid (∀ W, Calls Tryz.prog 17 #[.int .u8 a, .int .i64 n] W fun e w' => e = .returned (.tuple #[.int .u8 (p : Nat), .int .i64 pe]) ∧ Below W.heap.size W w') := Lib.hid (fun W => by rw [hp, hpe]; exact Power_any a n W ha hn)
    have H18 : Hid (∀ W, Calls Tryz.prog 18 #[.int .u8 a, .int .i64 n] W fun e w' => e = .returned (.tuple #[.int .u8 (p : Nat), .int .i64 pe]) ∧ W = w') := Lib.hid (fun W => by rw [hp, hpe]; exact refPower_any a n W ha hn)
    have H19 : Hid (∀ W, Calls Tryz.prog 19 #[.int .u8 a] W fun e w' => e = .returned (.tuple #[.int .i64 (x : Nat), .int .i64 xe]) ∧ Below W.heap.size W w') := Lib.hid (fun W => by rw [hx, hxe]; exact Log_any a W ha)
    have H20 : Hid (∀ W, Calls Tryz.prog 20 #[.int .u8 a] W fun e w' => e = .returned (.tuple #[.int .i64 (x : Nat), .int .i64 xe]) ∧ W = w') := Lib.hid (fun W => by rw [hx, hxe]; exact refLog_any a W ha)
    have H21 : Hid (∀ W, Calls Tryz.prog 21 #[.int .u8 a, .int .u8 b] W fun e w' => e = .returned (.int .u8 (t : Nat)) ∧ Below W.heap.size W w') := Lib.hid (fun W => by rw [ht]; exact Times_any a b W ha hb)
    have H22 : Hid (∀ W, Calls Tryz.prog 22 #[.int .u8 a, .int .u8 b] W fun e w' => e = .returned (.int .u8 (t : Nat)) ∧ W = w') := Lib.hid (fun W => by rw [ht]; exact refTimes_any a b W ha hb)
    have H23 : Hid (∀ W, Calls Tryz.prog 23 #[.string s] W fun e w' => e = .returned (.int .u64 (u : Nat)) ∧ W = w') := Lib.hid (fun W => by rw [hu]; exact Sum_any s W hs)
    have H24 : Hid (∀ W, Calls Tryz.prog 24 #[.string s] W fun e w' => e = .returned (.int .u64 (u : Nat)) ∧ W = w') := Lib.hid (fun W => by rw [hu]; exact refSum_any s W hs)
    clear hl hq hqe hp hpe hx hxe ht hu ha hb hn
    go_enter Tryz.func3, Tryz.ntmps3
    go_wp2_with (first
      | (go_at_call 14; (with_reducible refine Calls.mono (HS.out _) ?_); rintro e w1 ⟨rfl, hb⟩; have HB := Lib.hid hb; clear hb)
      | (go_at_call 15; (with_reducible refine Calls.mono (H15.out _) ?_); rintro e w2 ⟨rfl, hb⟩; have HB := Lib.hid (belt HB.out hb); clear hb)
      | (go_at_call 16; (with_reducible refine Calls.mono (H16.out _) ?_); rintro e w2 ⟨rfl, rfl⟩)
      | (go_at_call 17; (with_reducible refine Calls.mono (H17.out _) ?_); rintro e w2 ⟨rfl, hb⟩; have HB := Lib.hid (belt HB.out hb); clear hb)
      | (go_at_call 18; (with_reducible refine Calls.mono (H18.out _) ?_); rintro e w2 ⟨rfl, rfl⟩)
      | (go_at_call 19; (with_reducible refine Calls.mono (H19.out _) ?_); rintro e w2 ⟨rfl, hb⟩; have HB := Lib.hid (belt HB.out hb); clear hb)
      | (go_at_call 20; (with_reducible refine Calls.mono (H20.out _) ?_); rintro e w2 ⟨rfl, rfl⟩)
      | (go_at_call 21; (with_reducible refine Calls.mono (H21.out _) ?_); rintro e w2 ⟨rfl, hb⟩; have HB := Lib.hid (belt HB.out hb); clear hb)
      | (go_at_call 22; (with_reducible refine Calls.mono (H22.out _) ?_); rintro e w2 ⟨rfl, rfl⟩)
      | (go_at_call 23; (with_reducible refine Calls.mono (H23.out _) ?_); rintro e w2 ⟨rfl, rfl⟩)
      | (go_at_call 24; (with_reducible refine Calls.mono (H24.out _) ?_); rintro e w2 ⟨rfl, rfl⟩))
    go_ret
    exact ⟨rfl, HB.out⟩
end Go.Proofs.YtkdjibejnncmfaaGreatDoor.Co
