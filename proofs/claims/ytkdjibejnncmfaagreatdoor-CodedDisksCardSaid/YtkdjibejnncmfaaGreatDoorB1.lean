/- Contracts of package coded, part 1. -/
import Derived.Test.YtkdjibejnncmfaaGreatDoorProg
import Derived.Below
import Derived.Deep.Draws
import Derived.Deep.AppendLies
import Derived.Maps.AppendAt
import Derived.OwnWalk
import Derived.Laws.BytesArg
import Derived.Laws.MakeOwn
import Derived.Laws.OwnMore
import Derived.Deep.OwnRows
import Derived.Tactics
import Derived.Lib.ConvBytes
import Derived.Laws.Slices
import Derived.WalkKit
import Derived.KernelRfl
import Derived.RowKit3
import Derived.Deep.LoopGhost
import Derived.Deep.QuietTactic
import Derived.BigQuiet
import Derived.WideLaws
import Derived.Deep.DeepCutAuto
import Derived.Deep.CutBlock
import Derived.Deep.RegionHeld3
import Derived.Laws.Rows
import Derived.Lib.AppendStr
import Derived.ArgAppend
import Derived.Laws.IdiomCopy
import Derived.OrdersHeld
import Derived.Laws.BitsLemmas
import Derived.Outline
import Derived.Lib.Hide
import Derived.Laws.BitsAllLaws
import Derived.WalkSpells
import Derived.WalkLawsBesides
import Derived.Test.YtkdjibejnncmfaaGreatDoorV1
import Derived.Deep.DeepMust
/- The table of the field: what coded.tables makes. -/
namespace Go.Proofs.YtkdjibejnncmfaaGreatDoor.Co
open Go.RowKit
set_option linter.unusedVariables false
set_option linter.unusedSimpArgs false
set_option maxRecDepth 100000

/-! The field's table, in numbers. -/
def PW : List Nat := [1, 2, 4, 8, 16, 32, 64, 128, 29, 58, 116, 232, 205, 135, 19, 38, 76, 152, 45, 90, 180, 117, 234, 201, 143, 3, 6, 12, 24, 48, 96, 192, 157, 39, 78, 156, 37, 74, 148, 53, 106, 212, 181, 119, 238, 193, 159, 35, 70, 140, 5, 10, 20, 40, 80, 160, 93, 186, 105, 210, 185, 111, 222, 161, 95, 190, 97, 194, 153, 47, 94, 188, 101, 202, 137, 15, 30, 60, 120, 240, 253, 231, 211, 187, 107, 214, 177, 127, 254, 225, 223, 163, 91, 182, 113, 226, 217, 175, 67, 134, 17, 34, 68, 136, 13, 26, 52, 104, 208, 189, 103, 206, 129, 31, 62, 124, 248, 237, 199, 147, 59, 118, 236, 197, 151, 51, 102, 204, 133, 23, 46, 92, 184, 109, 218, 169, 79, 158, 33, 66, 132, 21, 42, 84, 168, 77, 154, 41, 82, 164, 85, 170, 73, 146, 57, 114, 228, 213, 183, 115, 230, 209, 191, 99, 198, 145, 63, 126, 252, 229, 215, 179, 123, 246, 241, 255, 227, 219, 171, 75, 150, 49, 98, 196, 149, 55, 110, 220, 165, 87, 174, 65, 130, 25, 50, 100, 200, 141, 7, 14, 28, 56, 112, 224, 221, 167, 83, 166, 81, 162, 89, 178, 121, 242, 249, 239, 195, 155, 43, 86, 172, 69, 138, 9, 18, 36, 72, 144, 61, 122, 244, 245, 247, 243, 251, 235, 203, 139, 11, 22, 44, 88, 176, 125, 250, 233, 207, 131, 27, 54, 108, 216, 173, 71, 142]
def LG : List Nat := [0, 0, 1, 25, 2, 50, 26, 198, 3, 223, 51, 238, 27, 104, 199, 75, 4, 100, 224, 14, 52, 141, 239, 129, 28, 193, 105, 248, 200, 8, 76, 113, 5, 138, 101, 47, 225, 36, 15, 33, 53, 147, 142, 218, 240, 18, 130, 69, 29, 181, 194, 125, 106, 39, 249, 185, 201, 154, 9, 120, 77, 228, 114, 166, 6, 191, 139, 98, 102, 221, 48, 253, 226, 152, 37, 179, 16, 145, 34, 136, 54, 208, 148, 206, 143, 150, 219, 189, 241, 210, 19, 92, 131, 56, 70, 64, 30, 66, 182, 163, 195, 72, 126, 110, 107, 58, 40, 84, 250, 133, 186, 61, 202, 94, 155, 159, 10, 21, 121, 43, 78, 212, 229, 172, 115, 243, 167, 87, 7, 112, 192, 247, 140, 128, 99, 13, 103, 74, 222, 237, 49, 197, 254, 24, 227, 165, 153, 119, 38, 184, 180, 124, 17, 68, 146, 217, 35, 32, 137, 46, 55, 63, 209, 91, 149, 188, 207, 205, 144, 135, 151, 178, 220, 252, 190, 97, 242, 86, 211, 171, 20, 42, 93, 158, 132, 60, 57, 83, 71, 109, 65, 162, 31, 45, 67, 216, 183, 123, 164, 118, 196, 23, 73, 236, 127, 12, 111, 246, 108, 161, 59, 82, 41, 157, 85, 170, 251, 96, 134, 177, 187, 204, 62, 90, 203, 89, 95, 176, 156, 169, 160, 81, 11, 245, 22, 235, 122, 117, 44, 215, 79, 174, 213, 233, 230, 231, 173, 232, 116, 214, 244, 234, 168, 80, 88, 175]
noncomputable def tblCells : Array Value := ⟨PW.map (fun n => Value.int .u8 ((n : Nat) : Int)) ++ LG.map (fun n => Value.int .i64 ((n : Nat) : Int))⟩
noncomputable def tabS (p : Array Value × Nat) (k : Nat) : Array Value × Nat :=
  (((p.1.setIfInBounds k (.int .u8 p.2)).setIfInBounds (255 + p.2) (.int .i64 k)), if 255 < p.2 * 2 then (p.2 * 2) ^^^ 285 else p.2 * 2)
noncomputable def tabN : Nat → Array Value × Nat
  | 0 => (Tryz.zeroCells110, 1)
  | k + 1 => tabS (tabN k) k
theorem tabN_cells : (tabN 255).1 = tblCells := by kernel_rfl
theorem dbl_lt {y : Nat} (hy : y < 256) (h : 255 < y * 2) : (y * 2) ^^^ 285 < 256 := by
  have : ∀ z : Nat, z < 256 → 255 < z * 2 → (z * 2) ^^^ 285 < 256 := by decide +kernel
  exact this y hy h
theorem ofInt_n (n a : Nat) (ha : a < 2 ^ n) : (BitVec.ofInt n (a : Int)).toNat = a := by
  rw [BitVec.ofInt_natCast, BitVec.toNat_ofNat]; exact Nat.mod_eq_of_lt ha
theorem i64_xor_nat (a b : Nat) (ha : a < 9223372036854775808) (hb : b < 9223372036854775808) : bits .xor .i64 (a : Int) (b : Int) = ((a ^^^ b : Nat) : Int) := by
  have hx : a ^^^ b < 2 ^ 63 := Nat.xor_lt_two_pow (by omega) (by omega)
  show IntKind.i64.wrap ((BitVec.ofInt 64 (a : Int) ^^^ BitVec.ofInt 64 (b : Int)).toNat : Int) = _
  rw [BitVec.toNat_xor, ofInt_n 64 a (by omega), ofInt_n 64 b (by omega)]
  exact IntWalk.i64_in _ (by omega)
set_option maxHeartbeats 400000 in
theorem tables_any (w : World) : Calls Tryz.prog 72 #[] w fun e w' => e = .returned (.pointer (some ⟨w.heap.size, 0, none⟩)) ∧ w' = w.alloc (.cells tblCells 110) := by
  go_enter Tryz.func72, Tryz.ntmps72
  go_wp2
  go_loopw [2, 3, 6] (fun x _ i wr => ∃ k : Nat, k ≤ 255 ∧ i = .int .i64 k ∧ ∃ (c : Array Value) (y : Nat), Hid (tabN k = (c, y)) ∧ c.size = 511 ∧ y < 256 ∧ x = .int .i64 y ∧ wr = w.alloc (.cells c 110)) (fun _ _ i _ => 255 - (intOf i).toNat)
  case atStart => exact ⟨0, by omega, rfl, _, _, rfl, by kernel_rfl, by omega, rfl, rfl⟩
  case round =>
    obtain ⟨k, hk, rfl, c, y, hT, hs, hy, rfl, rfl⟩ := hrel
    by_cases hlt : k < 255
    · obtain ⟨u1, hc1⟩ : ∃ u, c[k]? = some u := ⟨c[k], by simp⟩
      obtain ⟨u2, hc2⟩ : ∃ u, (c.setIfInBounds k (Value.int IntKind.u8 y))[255 + y]? = some u := ⟨(c.setIfInBounds k (Value.int IntKind.u8 y))[255 + y]'(by simp; omega), by simp⟩
      have hS : Hid (tabN (k + 1) = tabS (c, y) k) := Lib.hid (by rw [tabN, hT.out])
      have hs' := Lib.hid hs
      clear hs
      go_wp2
      · go_roundw
        case rel =>
          refine ⟨k + 1, by omega, by go_num, _, _, hS, by simp [hs'.out], ?_, ?_, rfl⟩
          · rw [if_pos (by omega)]; exact dbl_lt hy (by omega)
          · rw [if_pos (by omega)]
            have := i64_xor_nat (y * 2) 285 (by omega) (by omega)
            simpa using this
        case measure => simp [intOf]; omega
      · go_roundw
        case rel =>
          refine ⟨k + 1, by omega, by go_num, _, _, hS, by simp [hs'.out], ?_, ?_, rfl⟩
          · rw [if_neg (by omega)]; omega
          · rw [if_neg (by omega)]; go_num
        case measure => simp [intOf]; omega
    · go_wp2
      go_ret
      have hk' : k = 255 := by omega
      subst hk'
      exact ⟨rfl, by have := hT.out; have h2 := tabN_cells; rw [this] at h2; simp at h2; rw [h2]⟩

def pw (i : Nat) : Nat := PW.getD i 0
def lg (a : Nat) : Nat := LG.getD a 0
/-- The product, by the table. -/
def mulN (a b : Nat) : Nat := if a = 0 then 0 else if b = 0 then 0 else pw ((lg a + lg b) % 255)
/-- The quotient, by the table. -/
def divN (a b : Nat) : Nat := if a = 0 then 0 else pw ((lg a + 255 - lg b) % 255)
theorem pw_lt (i : Nat) : pw i < 256 := by
  by_cases h : i < 255
  · have : ∀ i : Nat, i < 255 → pw i < 256 := by decide +kernel
    exact this i h
  · unfold pw
    have hl : PW.length = 255 := by decide +kernel
    rw [List.getD_eq_getElem?_getD, List.getElem?_eq_none (by omega)]
    decide
theorem lg_lt (i : Nat) : lg i < 255 := by
  by_cases h : i < 256
  · have : ∀ i : Nat, i < 256 → lg i < 255 := by decide +kernel
    exact this i h
  · unfold lg
    have hl : LG.length = 256 := by decide +kernel
    rw [List.getD_eq_getElem?_getD, List.getElem?_eq_none (by omega)]
    decide
theorem mulN_lt (a b : Nat) : mulN a b < 256 := by
  unfold mulN
  split
  · omega
  · split
    · omega
    · exact pw_lt _
theorem divN_lt (a b : Nat) : divN a b < 256 := by
  unfold divN
  split
  · omega
  · exact pw_lt _
theorem tbl_pow (i : Nat) (h : i < 255) : tblCells[i]? = some (.int .u8 (pw i : Nat)) := by
  have h1 : PW.length = 255 := by decide +kernel
  unfold tblCells pw
  simp only [List.getElem?_toArray]
  rw [List.getElem?_append_left (by simp; omega), List.getElem?_map, List.getD_eq_getElem?_getD, List.getElem?_eq_getElem (by omega)]
  rfl
theorem tbl_log (a : Nat) (h : a < 256) : tblCells[255 + a]? = some (.int .i64 (lg a : Nat)) := by
  have h1 : PW.length = 255 := by decide +kernel
  have h2 : LG.length = 256 := by decide +kernel
  unfold tblCells lg
  simp only [List.getElem?_toArray]
  rw [List.getElem?_append_right (by simp; omega), List.getElem?_map]
  simp only [List.length_map, h1, Nat.add_sub_cancel_left]
  rw [List.getD_eq_getElem?_getD, List.getElem?_eq_getElem (by omega)]
  rfl
/-- Block g is the table. -/
def Tbl (w : World) (g : Nat) : Prop := w.heap[g]? = some (.cells tblCells 110 (0, 0))
theorem Tbl.pow {w : World} {g : Nat} (h : Tbl w g) (i : Nat) (hi : i < 255) : w.cell? ⟨g, i, none⟩ = some (.int .u8 (pw i : Nat)) := by
  rw [cell_of_row w g i _ 110 (0, 0) h, tbl_pow i hi]
theorem Tbl.log {w : World} {g : Nat} (h : Tbl w g) (a : Nat) (ha : a < 256) : w.cell? ⟨g, 255 + a, none⟩ = some (.int .i64 (lg a : Nat)) := by
  rw [cell_of_row w g _ _ 110 (0, 0) h, tbl_log a ha]
theorem Tbl.drewN {w : World} {g : Nat} (h : Tbl w g) (n : Nat) : Tbl (w.drewN n) g := h
theorem Tbl.drew {w : World} {g : Nat} (h : Tbl w g) : Tbl w.drew g := h
theorem Tbl.lt {w : World} {g : Nat} (h : Tbl w g) : g < w.heap.size := by
  rcases Nat.lt_or_ge g w.heap.size with hlt | hge
  · exact hlt
  · unfold Tbl at h; rw [Array.getElem?_eq_none hge] at h; cases h
theorem Tbl.of_same {w w' : World} {g : Nat} (h : Tbl w g) (he : w'.heap[g]? = w.heap[g]?) : Tbl w' g := he.trans h
theorem Tbl.below {w w' : World} {g B : Nat} (h : Tbl w g) (hb : Below B w w') (hg : g < B) : Tbl w' g := (hb.block g hg).trans h
theorem Tbl.new (w : World) : Tbl (w.alloc (.cells tblCells 110)) w.heap.size := heap_alloc_new w _
end Go.Proofs.YtkdjibejnncmfaaGreatDoor.Co

/- The walks of the table's methods, and of Times, Over, Power, Log. -/
namespace Go.Proofs.YtkdjibejnncmfaaGreatDoor.Co
open Go.RowKit
set_option linter.unusedVariables false
set_option linter.unusedSimpArgs false
set_option maxRecDepth 100000
theorem ret_int' {k : IntKind} {a b : Int} (h : a = b) : Ending.returned (.int k a) = .returned (.int k b) := by rw [h]
set_option maxHeartbeats 400000 in
theorem times_any (g a b : Nat) (w : World) (hT : Tbl w g) (ha : a < 256) (hb : b < 256) :
    Calls Tryz.prog 74 #[.pointer (some ⟨g, 0, none⟩), .int .u8 (a : Nat), .int .u8 (b : Nat)] w fun e w' => e = .returned (.int .u8 (mulN a b : Nat)) ∧ ∃ m, w' = w.drewN m := by
  by_cases h1 : a = 0
  · subst h1
    go_enter Tryz.func74, Tryz.ntmps74
    go_wp2
    go_ret
    exact ⟨rfl, 0, rfl⟩
  · by_cases h2 : b = 0
    · subst h2
      have e1 : ((a : Int) == 0) = false := by simpa using h1
      go_enter Tryz.func74, Tryz.ntmps74
      go_wp2
      go_ret
      exact ⟨ret_int' (by unfold mulN; rw [if_neg h1, if_pos rfl]; rfl), 0, rfl⟩
    · have e1 : ((a : Int) == 0) = false := by simpa using h1
      have e2 : ((b : Int) == 0) = false := by simpa using h2
      have c1 := hT.log a ha
      have c2 := hT.log b hb
      have c3 := hT.pow ((lg a + lg b) % 255) (Nat.mod_lt _ (by omega))
      have l1 := lg_lt a
      have l2 := lg_lt b
      have hm : Hid (mulN a b = pw ((lg a + lg b) % 255)) := Lib.hid (by unfold mulN; rw [if_neg h1, if_neg h2])
      clear h1 h2 hT
      go_enter Tryz.func74, Tryz.ntmps74
      go_wp2
      go_quiet (fail)
      go_wp2
      go_ret
      exact ⟨ret_int' (by rw [hm.out]), nq, rfl⟩
set_option maxHeartbeats 400000 in
theorem over_any (g a b : Nat) (w : World) (hT : Tbl w g) (ha : a < 256) (hb : b < 256) :
    Calls Tryz.prog 73 #[.pointer (some ⟨g, 0, none⟩), .int .u8 (a : Nat), .int .u8 (b : Nat)] w fun e w' => e = .returned (.int .u8 (divN a b : Nat)) ∧ ∃ m, w' = w.drewN m := by
  by_cases h1 : a = 0
  · subst h1
    go_enter Tryz.func73, Tryz.ntmps73
    go_wp2
    go_ret
    exact ⟨rfl, 0, rfl⟩
  · have e1 : ((a : Int) == 0) = false := by simpa using h1
    have c1 := hT.log a ha
    have c2 := hT.log b hb
    have l1 := lg_lt a
    have l2 := lg_lt b
    obtain ⟨j, hj⟩ : ∃ j, j = (lg a + 255 - lg b) % 255 := ⟨_, rfl⟩
    have hj2 : j < 255 := by rw [hj]; exact Nat.mod_lt _ (by omega)
    have hj1 : ((lg a : Int) - (lg b : Int) + 255) % 255 = (j : Int) := by omega
    have c3 := hT.pow j hj2
    have hm : Hid (divN a b = pw j) := Lib.hid (by unfold divN; rw [if_neg h1, hj])
    clear h1 hT hj
    go_enter Tryz.func73, Tryz.ntmps73
    go_wp2
    go_quiet (fail)
    go_wp2
    go_ret
    exact ⟨ret_int' (by rw [hm.out]), nq, rfl⟩

theorem below_drN {B : Nat} {a w : World} (h : Below B a w) (n : Nat) : Below B a (w.drewN n) := ⟨h.os, h.tape, h.output, h.size, h.block⟩
theorem below_tbl (w : World) (m : Nat) : Below w.heap.size w ((w.alloc (.cells tblCells 110)).drewN m) := below_drN ((Below.refl _ _).alloc (Nat.le_refl _) _) m
theorem below_tbl0 (w : World) : Below w.heap.size w (w.alloc (.cells tblCells 110)) := ((Below.refl _ _).alloc (Nat.le_refl _) _)
set_option maxHeartbeats 400000 in
theorem Times_any (a b : Nat) (w : World) (ha : a < 256) (hb : b < 256) :
    Calls Tryz.prog 21 #[.int .u8 (a : Nat), .int .u8 (b : Nat)] w fun e w' => e = .returned (.int .u8 (mulN a b : Nat)) ∧ Below w.heap.size w w' := by
  go_enter Tryz.func21, Tryz.ntmps21
  go_wp2_with fail
  refine (tables_any _).mono ?_
  rintro e w' ⟨rfl, rfl⟩
  have hT := Lib.hid (Tbl.new w)
  go_wp2_with fail
  refine (times_any _ _ _ _ hT.out ha hb).mono ?_
  rintro e w' ⟨rfl, m, rfl⟩
  go_wp2_with fail
  go_ret
  exact ⟨rfl, below_tbl w m⟩
set_option maxHeartbeats 400000 in
theorem Over_any (a b : Nat) (w : World) (ha : a < 256) (hb : b < 256) :
    Calls Tryz.prog 15 #[.int .u8 (a : Nat), .int .u8 (b : Nat)] w fun e w' => e = .returned (.tuple #[.int .u8 ((if b = 0 then 0 else divN a b : Nat) : Int), .int .i64 (if b = 0 then 12 else 0)]) ∧ Below w.heap.size w w' := by
  by_cases h : b = 0
  · subst h
    go_enter Tryz.func15, Tryz.ntmps15
    go_wp2_with fail
    go_ret2
    exact ⟨rfl, Below.refl _ _⟩
  · have e1 : ((b : Int) == 0) = false := by simpa using h
    rw [if_neg h, if_neg h]
    go_enter Tryz.func15, Tryz.ntmps15
    go_wp2_with fail
    refine (tables_any _).mono ?_
    rintro e w' ⟨rfl, rfl⟩
    have hT := Lib.hid (Tbl.new w)
    go_wp2_with fail
    refine (over_any _ _ _ _ hT.out ha hb).mono ?_
    rintro e w' ⟨rfl, m, rfl⟩
    go_wp2_with fail
    go_ret2
    exact ⟨rfl, below_tbl w m⟩
/-- What Power returns. -/
def powN (a : Nat) (n : Int) : Nat := if n < 0 then 0 else if n = 0 then 1 else if a = 0 then 0 else pw (lg a * (n % 255).toNat % 255)
set_option maxHeartbeats 400000 in
theorem Power_any (a : Nat) (n : Int) (w : World) (ha : a < 256) (hn : -9223372036854775808 ≤ n ∧ n ≤ 9223372036854775807) :
    Calls Tryz.prog 17 #[.int .u8 (a : Nat), .int .i64 n] w fun e w' => e = .returned (.tuple #[.int .u8 (powN a n : Nat), .int .i64 (if n < 0 then 1 else 0)]) ∧ Below w.heap.size w w' := by
  by_cases h1 : n < 0
  · have hp : Hid (powN a n = 0) := Lib.hid (by unfold powN; rw [if_pos h1])
    rw [if_pos h1]
    go_enter Tryz.func17, Tryz.ntmps17
    go_wp2_with fail
    go_ret2
    exact ⟨by rw [hp.out]; rfl, Below.refl _ _⟩
  · rw [if_neg h1]
    by_cases h2 : n = 0
    · subst h2
      go_enter Tryz.func17, Tryz.ntmps17
      go_wp2_with fail
      go_ret2
      exact ⟨rfl, Below.refl _ _⟩
    · have e2 : (n == 0) = false := by simpa using h2
      by_cases h3 : a = 0
      · subst h3
        have hp : Hid (powN 0 n = 0) := Lib.hid (by unfold powN; rw [if_neg h1, if_neg h2]; rfl)
        go_enter Tryz.func17, Tryz.ntmps17
        go_wp2_with fail
        go_ret2
        exact ⟨by rw [hp.out]; rfl, Below.refl _ _⟩
      · have e3 : ((a : Int) == 0) = false := by simpa using h3
        obtain ⟨j, hj⟩ : ∃ j, j = lg a * (n % 255).toNat % 255 := ⟨_, rfl⟩
        have hp : Hid (powN a n = pw j) := Lib.hid (by unfold powN; rw [if_neg h1, if_neg h2, if_neg h3, hj])
        have l1 := lg_lt a
        obtain ⟨q, hq⟩ : ∃ q : Nat, n % 255 = (q : Int) := ⟨(n % 255).toNat, by omega⟩
        have hq2 : q < 255 := by omega
        have hj2 : j < 255 := by rw [hj]; exact Nat.mod_lt _ (by omega)
        rw [hq] at hj
        simp only [Int.toNat_natCast] at hj
        have hmul : lg a * q ≤ 254 * 254 := Nat.mul_le_mul (by omega) (by omega)
        have hjj : ((lg a : Int) * (q : Int)) % 255 = (j : Int) := by rw [hj]; push_cast; rfl
        have hmI : 0 ≤ (lg a : Int) * (q : Int) ∧ (lg a : Int) * (q : Int) ≤ 64516 := by
          have : ((lg a * q : Nat) : Int) = (lg a : Int) * (q : Int) := by push_cast; rfl
          omega
        clear h2 h3 hj hmul
        go_enter Tryz.func17, Tryz.ntmps17
        go_wp2_with fail
        refine (tables_any _).mono ?_
        rintro e w' ⟨rfl, rfl⟩
        have hT := (Tbl.new w)
        have c1 := hT.log a ha
        have c3 := hT.pow j hj2
        have hTT := Lib.hid hT
        clear hT
        go_wp2_with fail
        obtain ⟨m1, m2⟩ := hmI
        go_quiet (fail)
        go_wp2
        go_ret2
        exact ⟨by rw [hp.out]; rfl, below_tbl w nq⟩
set_option maxHeartbeats 400000 in
theorem Log_any (a : Nat) (w : World) (ha : a < 256) :
    Calls Tryz.prog 19 #[.int .u8 (a : Nat)] w fun e w' => e = .returned (.tuple #[.int .i64 ((if a = 0 then 0 else lg a : Nat) : Int), .int .i64 (if a = 0 then 12 else 0)]) ∧ Below w.heap.size w w' := by
  by_cases h : a = 0
  · subst h
    go_enter Tryz.func19, Tryz.ntmps19
    go_wp2_with fail
    go_ret2
    exact ⟨rfl, Below.refl _ _⟩
  · have e1 : ((a : Int) == 0) = false := by simpa using h
    rw [if_neg h, if_neg h]
    go_enter Tryz.func19, Tryz.ntmps19
    go_wp2_with fail
    refine (tables_any _).mono ?_
    rintro e w' ⟨rfl, rfl⟩
    have hT := (Tbl.new w)
    have c1 := hT.log a ha
    have hTT := Lib.hid hT
    clear hT
    go_wp2
    go_ret2
    exact ⟨rfl, below_tbl0 w⟩
end Go.Proofs.YtkdjibejnncmfaaGreatDoor.Co

/- The walks of polynomials: weights, piece, some, through, first. -/
namespace Go.Proofs.YtkdjibejnncmfaaGreatDoor.Co
open Go.RowKit Go.Proofs.YtkdjibejnncmfaaGreatDoorW.PrintWords Go.Proofs.YtkdjibejnncmfaaGreatDoorW.PrintLast Go.Proofs.YtkdjibejnncmfaaGreatDoorW.PrintMore
set_option linter.unusedVariables false
set_option linter.unusedSimpArgs false
set_option maxRecDepth 100000
theorem info3 : (Tryz.prog.info? 3).map (fun i => (i.zero, i.size, i.bytes)) = some (some (.int .i64 0), 1, 8) := by kernel_rfl
theorem info5 : (Tryz.prog.info? 5).map (fun i => (i.zero, i.size, i.bytes)) = some (some (.int .u8 0), 1, 1) := by kernel_rfl
theorem info9 : (Tryz.prog.info? 9).map (fun i => (i.zero, i.size, i.bytes)) = some (some (.string ⟨#[]⟩), 1, 16) := by kernel_rfl
/-- A byte. -/
def IsB (x : Int) : Prop := 0 ≤ x ∧ x < 256
abbrev xorI (a b : Int) : Int := Go.bits .xor .u8 a b
def mulI (a b : Int) : Int := (mulN a.toNat b.toNat : Nat)
def divI (a b : Int) : Int := (divN a.toNat b.toNat : Nat)
theorem mulI_b (a b : Int) : IsB (mulI a b) := ⟨by unfold mulI; omega, by unfold mulI; have := mulN_lt a.toNat b.toNat; omega⟩
theorem divI_b (a b : Int) : IsB (divI a b) := ⟨by unfold divI; omega, by unfold divI; have := divN_lt a.toNat b.toNat; omega⟩
theorem xorI_b (a b : Int) : IsB (xorI a b) := by
  unfold xorI IsB Go.bits
  simp only []
  rw [IntKind.wrap_u8']
  omega
theorem times_int (g : Nat) (a b : Int) (w : World) (hT : Tbl w g) (ha : IsB a) (hb : IsB b) :
    Calls Tryz.prog 74 #[.pointer (some ⟨g, 0, none⟩), .int .u8 a, .int .u8 b] w fun e w' => e = .returned (.int .u8 (mulI a b)) ∧ ∃ m, w' = w.drewN m := by
  obtain ⟨a, rfl⟩ := Int.eq_ofNat_of_zero_le ha.1
  obtain ⟨b, rfl⟩ := Int.eq_ofNat_of_zero_le hb.1
  exact times_any g a b w hT (by have := ha.2; omega) (by have := hb.2; omega)
theorem over_int (g : Nat) (a b : Int) (w : World) (hT : Tbl w g) (ha : IsB a) (hb : IsB b) :
    Calls Tryz.prog 73 #[.pointer (some ⟨g, 0, none⟩), .int .u8 a, .int .u8 b] w fun e w' => e = .returned (.int .u8 (divI a b)) ∧ ∃ m, w' = w.drewN m := by
  obtain ⟨a, rfl⟩ := Int.eq_ofNat_of_zero_le ha.1
  obtain ⟨b, rfl⟩ := Int.eq_ofNat_of_zero_le hb.1
  exact over_any g a b w hT (by have := ha.2; omega) (by have := hb.2; omega)
/-- The weight of the i-th point at an element, behind k points. -/
def wTo (pts : List Int) (at_ x : Int) (i : Nat) : Nat → Int
  | 0 => 1
  | k + 1 => if i = k then wTo pts at_ x i k else mulI (wTo pts at_ x i k) (divI (xorI at_ (rd pts k)) (xorI x (rd pts k)))
theorem wTo_b (pts : List Int) (at_ x : Int) (i : Nat) : ∀ k, IsB (wTo pts at_ x i k)
  | 0 => by unfold wTo IsB; omega
  | k + 1 => by
    unfold wTo
    split
    · exact wTo_b pts at_ x i k
    · exact mulI_b _ _
def weightsTo (pts : List Int) (at_ : Int) (k : Nat) : List Int := (List.range k).map fun (i : Nat) => wTo pts at_ (rd pts (i : Int)) i pts.length
def weightsF (pts : List Int) (at_ : Int) : List Int := weightsTo pts at_ pts.length
theorem weightsTo_succ (pts : List Int) (at_ : Int) (k : Nat) : weightsTo pts at_ (k + 1) = weightsTo pts at_ k ++ [wTo pts at_ (rd pts k) k pts.length] := by
  unfold weightsTo; rw [List.range_succ, List.map_append]; rfl
theorem weightsTo_length (pts : List Int) (at_ : Int) (k : Nat) : (weightsTo pts at_ k).length = k := by simp [weightsTo]
theorem cell_new (w : World) (cs : Array Value) (e : TypeId) (i : Nat) : (w.alloc (.cells cs e)).cell? ⟨w.heap.size, i, none⟩ = cs[i]? := cell_of_row _ _ _ _ _ _ (heap_alloc_new w _)
theorem tbl_alloc {w : World} {g : Nat} (h : Tbl w g) (o : Obj) : Tbl (w.alloc o) g := (Below.heap_alloc w o g h.lt).trans h
set_option maxHeartbeats 400000 in
theorem weights_any (g : Nat) (A : Option Addr) (c : Nat) (pts : List Int) (Av : Option Addr) (nv cv : Nat) (at_ : Int) (w : World) (hT : Tbl w g) (hp : Kd.C (Kd.int .u8) w A pts.length pts)
    (hc : pts.length ≤ c) (hb : ∀ i : Nat, i < pts.length → IsB (rd pts i)) (hat : IsB at_) (hlen : pts.length ≤ 1000) :
    Calls Tryz.prog 147 #[.agg #[.slice A pts.length c, .pointer (some ⟨g, 0, none⟩), .slice Av nv cv], .int .u8 at_] w fun e w' => ∃ v, e = .returned v ∧ Kd.R (Kd.int .u8) 5 w' w.heap.size (fun _ => True) v (weightsF pts at_) ∧ Below w.heap.size w w' := by
  have HB := Lib.hid hb
  clear hb
  go_enter Tryz.func147, Tryz.ntmps147
  go_wp2_with fail
  obtain ⟨W, hW⟩ : ∃ W, W = w.alloc (.cells #[Value.slice A pts.length c, Value.pointer (some { block := g, off := 0 }), Value.slice Av nv cv] 115) := ⟨_, rfl⟩
  rw [← hW]
  have hWs : W.heap.size = w.heap.size + 1 := by rw [hW]; simp
  have hTW : Tbl W g := by rw [hW]; exact tbl_alloc hT _
  have hpW : Kd.C (Kd.int .u8) W A pts.length pts := by rw [hW]; exact Kd.C_alloc hp _
  have f0 : W.cell? ⟨w.heap.size, 0, none⟩ = some (.slice A pts.length c) := by rw [hW, cell_new]; rfl
  have f1 : W.cell? ⟨w.heap.size, 1, none⟩ = some (.pointer (some ⟨g, 0, none⟩)) := by rw [hW, cell_new]; rfl
  have hBW : Below w.heap.size w W := by rw [hW]; exact (Below.refl _ _).alloc (Nat.le_refl _) _
  have F := Lib.hid (And.intro hWs (And.intro hTW (And.intro hpW (And.intro f0 (And.intro f1 hBW)))))
  clear hWs hTW hpW f0 f1 hBW hW hT hp
  go_loopw [5, 14] (fun v i wr => ∃ k : Nat, k ≤ pts.length ∧ i = .int .i64 k ∧ Kd.R (Kd.int .u8) 5 wr W.heap.size (fun _ => True) v (weightsTo pts at_ k) ∧ Below W.heap.size W wr) (fun _ i _ => pts.length - (intOf i).toNat)
  case atStart => exact ⟨0, by omega, rfl, Kd.R_nil _ _ _ _ _, Below.refl _ _⟩
  case round =>
    obtain ⟨k, hk, rfl, hR, hBe⟩ := hrel
    obtain ⟨hWs, hTW, hpW, f0, f1, hBW⟩ := F.out
    have f0r := (hBe.cell (p := ⟨w.heap.size, 0, none⟩) (by simp [hWs])).trans f0
    have f1r := (hBe.cell (p := ⟨w.heap.size, 1, none⟩) (by simp [hWs])).trans f1
    have hpr := Kd.C_below hpW hBe
    have hTr := hTW.below hBe hTW.lt
    have HT := Lib.hid hTr
    have HP := Lib.hid hpr
    by_cases hlt : k < pts.length
    · obtain ⟨ad, e, hx⟩ := Kd.at_int hpr (k : Int) (by omega) (by omega)
      subst e
      simp only [Int.toNat_natCast] at hx
      have HW := Lib.hid hWs
      have HR := Lib.hid hR
      clear hWs hTW hpW f0 f1 hpr hTr
      go_wp2_with fail
      obtain ⟨wo, rfl⟩ : ∃ wo : World, wo = wr := ⟨_, rfl⟩
      go_loopw [8, 22] (fun v i w2 => ∃ j : Nat, j ≤ pts.length ∧ i = .int .i64 j ∧ v = .int .u8 (wTo pts at_ (rd pts k) k j) ∧ Drawn0 wo w2) (fun _ i _ => pts.length - (intOf i).toNat)
      case atStart => exact ⟨0, by omega, rfl, rfl, Drawn0.refl _⟩
      case round =>
        obtain ⟨j, hj, rfl, rfl, hD⟩ := hrel
        have hT2 : Hid (Tbl wr g) := Lib.hid (by obtain ⟨m, rfl⟩ := hD.out; exact HT.out)
        have hP2 : Hid (Kd.C (Kd.int .u8) wr (some ad) pts.length pts) := Lib.hid (by obtain ⟨m, rfl⟩ := hD.out; exact Kd.C_drewN HP.out m)
        have f0r2 : wr.cell? ⟨w.heap.size, 0, none⟩ = some (.slice (some ad) pts.length c) := by obtain ⟨m, rfl⟩ := hD.out; exact f0r
        have f1r2 : wr.cell? ⟨w.heap.size, 1, none⟩ = some (.pointer (some ⟨g, 0, none⟩)) := by obtain ⟨m, rfl⟩ := hD.out; exact f1r
        by_cases hlt2 : j < pts.length
        · obtain ⟨ad2, e2, hx2⟩ := Kd.at_int hP2.out (j : Int) (by omega) (by omega)
          cases e2
          simp only [Int.toNat_natCast] at hx2
          have HS : Hid (wTo pts at_ (rd pts k) k (j + 1) = if k = j then wTo pts at_ (rd pts k) k j else mulI (wTo pts at_ (rd pts k) k j) (divI (xorI at_ (rd pts j)) (xorI (rd pts k) (rd pts j)))) := Lib.hid rfl
          by_cases hkj : k = j
          · have en : ((k : Int) != (j : Int)) = false := by rw [bne_eq_false_iff_eq]; omega
            go_wp2_with fail
            go_roundw
            case rel => exact ⟨j + 1, by omega, by go_num, by rw [HS.out, if_pos hkj], hD⟩
            case measure => simp [intOf]; omega
          · have en : ((k : Int) != (j : Int)) = true := by rw [bne_iff_ne]; omega
            go_wp2_with fail
            go_quiet ((first | (go_at_call 73; exact Calls.quiet_of (over_int g _ _ _ (by exact hT2.out) (xorI_b _ _) (xorI_b _ _))) | (go_at_call 74; exact Calls.quiet_of (times_int g _ _ _ (by exact hT2.out) (wTo_b _ _ _ _ _) (divI_b _ _)))))
            go_wp2_with fail
            go_roundw
            case rel => exact ⟨j + 1, by omega, by go_num, by rw [HS.out, if_neg hkj], hD.step _⟩
            case measure => simp [intOf]; omega
        · obtain rfl : j = pts.length := by omega
          have hRr : Hid (Kd.R (Kd.int .u8) 5 wr W.heap.size (fun _ => True) u5 (weightsTo pts at_ k)) := Lib.hid (by obtain ⟨m, rfl⟩ := hD.out; exact Kd.R_drewN HR.out m)
          have hBr : Hid (Below W.heap.size W wr) := Lib.hid (by obtain ⟨m, rfl⟩ := hD.out; exact below_drN hBe m)
          have HS : Hid (weightsTo pts at_ (k + 1) = weightsTo pts at_ k ++ [wTo pts at_ (rd pts k) k pts.length]) := Lib.hid (weightsTo_succ _ _ _)
          have hl := weightsTo_length pts at_ k
          have HL : (weightsTo pts at_ k).length ≤ 1000 := by omega
          clear hl
          go_wp2_with ((with_reducible refine gate_builtin (b := .append) (xs := #[.tmp 44, .tmp 46]) rfl ?_); at_builtin; refine Kd.R_append (Kd.int .u8) (w0 := W) W.heap.size rfl (.tmp 44) (.tmp 46) 46 5 (.int .u8 0) 1 rfl Tryz.underlying46 info5 rfl (by decide) (by omega) u5 (weightsTo pts at_ k) (wTo pts at_ (rd pts k) k pts.length) [.int .u8 (wTo pts at_ (rd pts k) k pts.length)] (fun _ => True) (fun _ => False) rfl rfl ?aP (fun _ hk => hk.elim) ?aF ?aO ?aB ?aS ?aL ?_; (case aP => exact rfl); (case aF => exact (fun _ _ => trivial)); (case aO => exact hRr.out); (case aB => exact hBr.out); (case aS => exact hBr.out.size); (case aL => omega); intro v1 w1 ho hb hg hat; have ho1 := Lib.hid ho; clear ho hg hat)
          go_roundw
          case rel => exact ⟨k + 1, by omega, by go_num, by rw [HS.out]; exact ho1.out, by assumption⟩
          case measure => simp [intOf]; omega
    · go_wp2
      go_ret
      have hk' : k = pts.length := by omega
      subst hk'
      refine ⟨_, rfl, ?_, ?_⟩
      · exact Kd.R_lower hR (by rw [hWs]; omega)
      · exact hBW.trans (hBe.mono (by rw [hWs]; omega))
end Go.Proofs.YtkdjibejnncmfaaGreatDoor.Co

/- The walk of polynomial.piece. -/
namespace Go.Proofs.YtkdjibejnncmfaaGreatDoor.Co
open Go.RowKit Go.Proofs.YtkdjibejnncmfaaGreatDoorW.PrintWords Go.Proofs.YtkdjibejnncmfaaGreatDoorW.PrintLast Go.Proofs.YtkdjibejnncmfaaGreatDoorW.PrintMore
set_option linter.unusedVariables false
set_option linter.unusedSimpArgs false
set_option maxRecDepth 100000
def vs (l : List ByteArray) (i : Int) : ByteArray := rdOf ByteArray.empty l i
/-- The bytes behind k weights. -/
def outTo (ws : List Int) (vals : List ByteArray) (L : Nat) : Nat → List Int
  | 0 => List.replicate L 0
  | k + 1 => (List.range L).map fun (t : Nat) => xorI (rd (outTo ws vals L k) t) (mulI (rd ws k) (bt (vs vals k) t))
/-- .. and t bytes more. -/
def midTo (ws : List Int) (vals : List ByteArray) (L k t : Nat) : List Int :=
  (List.range L).map fun (s : Nat) => if s < t then xorI (rd (outTo ws vals L k) s) (mulI (rd ws k) (bt (vs vals k) s)) else rd (outTo ws vals L k) s
theorem outTo_length (ws : List Int) (vals : List ByteArray) (L : Nat) : ∀ k, (outTo ws vals L k).length = L
  | 0 => by simp [outTo]
  | k + 1 => by simp [outTo]
theorem midTo_length (ws : List Int) (vals : List ByteArray) (L k t : Nat) : (midTo ws vals L k t).length = L := by simp [midTo]
theorem rd_nat (l : List Int) (s : Nat) (h : s < l.length) : rd l s = l[s] := by
  unfold rd; simp [List.getD_eq_getElem?_getD, List.getElem?_eq_getElem h]
theorem midTo_zero (ws : List Int) (vals : List ByteArray) (L k : Nat) : midTo ws vals L k 0 = outTo ws vals L k := by
  apply List.ext_getElem
  · rw [midTo_length, outTo_length]
  · intro s h1 h2
    simp [midTo]
    exact rd_nat _ _ h2
theorem midTo_all (ws : List Int) (vals : List ByteArray) (L k : Nat) : midTo ws vals L k L = outTo ws vals L (k + 1) := by
  apply List.ext_getElem
  · rw [midTo_length, outTo_length]
  · intro s h1 h2
    rw [midTo_length] at h1
    simp [midTo, outTo, h1]
theorem rd_midTo (ws : List Int) (vals : List ByteArray) (L k t : Nat) (h : t < L) : rd (midTo ws vals L k t) t = rd (outTo ws vals L k) t := by
  rw [rd_nat _ _ (by rw [midTo_length]; exact h)]
  simp [midTo]
theorem midTo_succ (ws : List Int) (vals : List ByteArray) (L k t : Nat) (h : t < L) :
    midTo ws vals L k (t + 1) = (midTo ws vals L k t).set t (xorI (rd (midTo ws vals L k t) t) (mulI (rd ws k) (bt (vs vals k) t))) := by
  rw [rd_midTo _ _ _ _ _ h]
  apply List.ext_getElem
  · rw [List.length_set, midTo_length, midTo_length]
  · intro s h1 h2
    rw [midTo_length] at h1
    rw [List.getElem_set]
    by_cases e : t = s
    · subst e; simp [midTo]
    · rw [if_neg e]
      simp only [midTo, List.getElem_map, List.getElem_range]
      by_cases hs : s < t
      · rw [if_pos (by omega), if_pos hs]
      · rw [if_neg (by omega), if_neg hs]
def pieceF (pts : List Int) (vals : List ByteArray) (at_ : Int) : ByteArray := strOfNums (outTo (weightsF pts at_) vals (vs vals 0).size vals.length)
/-- Block g is just these numbers, made by the call. -/
def Row (w : World) (g : Nat) (k : IntKind) (e : TypeId) (xs : List Int) : Prop := w.heap[g]? = some (.cells (nums k xs).toArray e (0, 0))
theorem Row.cell {w : World} {g : Nat} {k : IntKind} {e : TypeId} {xs : List Int} (h : Row w g k e xs) (i : Nat) (hi : i < xs.length) : w.cell? ⟨g, i, none⟩ = some (.int k (rd xs i)) := by
  rw [cell_of_row w g i _ e (0, 0) h]
  simp [nums, rd_nat xs i hi, hi]
theorem Row.frozen {w : World} {g : Nat} {k : IntKind} {e : TypeId} {xs : List Int} (h : Row w g k e xs) (i : Nat) : w.frozen? ⟨g, i, none⟩ = false := by
  unfold Row at h
  simp [World.frozen?, h]
theorem Row.set {w : World} {g : Nat} {k : IntKind} {e : TypeId} {xs : List Int} (h : Row w g k e xs) (i : Nat) (x : Int) : Row (w.setCell ⟨g, i, none⟩ (.int k x)) g k e (xs.set i x) := by
  unfold Row at h ⊢
  simp [World.setCell, Array.getElem?_modify, h, nums, List.map_set]
theorem Row.made (w : World) (k : IntKind) (e : TypeId) (m : Nat) : Row (w.alloc (.cells (madeCells #[.int k 0] m) e)) w.heap.size k e (List.replicate m 0) := by
  unfold Row
  rw [heap_alloc_new]
  have hl : madeCells #[Value.int k 0] m = (nums k (List.replicate m 0)).toArray := by
    apply Array.ext'
    apply List.ext_getElem
    · simp [nums, madeCells]
    · intro i h1 h2
      simp [nums, madeCells, Nat.mod_one]
  rw [hl]
theorem Row.lt {w : World} {g : Nat} {k : IntKind} {e : TypeId} {xs : List Int} (h : Row w g k e xs) : g < w.heap.size := by
  rcases Nat.lt_or_ge g w.heap.size with hlt | hge
  · exact hlt
  · unfold Row at h; rw [Array.getElem?_eq_none hge] at h; cases h
theorem Row.below {w w' : World} {g B : Nat} {k : IntKind} {e : TypeId} {xs : List Int} (h : Row w g k e xs) (hb : Below B w w') (hg : g < B) : Row w' g k e xs := (hb.block g hg).trans h
theorem C_lt {α : Type} {enc : α → Value} {h1 : ∀ x, (enc x).oneCell' = true} {w : World} {A : Option Addr} {n : Nat} {xs : List α} (h : Kd.C (Kd.scalar enc h1) w A n xs) : ∀ ad, A = some ad → 0 < n → ad.block < w.heap.size := by
  intro ad e hn
  subst e
  obtain ⟨ad', e', hc⟩ := h.2.2 hn
  cases e'
  have hl : xs.length = n := h.1
  obtain ⟨cs, h2, h3, h4⟩ := hc 0 xs[0] (by rw [List.getElem?_eq_getElem])
  have h3' : cs = [enc xs[0]] := h3
  rw [h3'] at h4
  have := World.block_lt_of_cell? w _ (h4 0 _ rfl)
  simpa [add_block] using this
theorem keep_C {α : Type} {enc : α → Value} {h1 : ∀ x, (enc x).oneCell' = true} {w w' : World} {g : Nat} {A : Option Addr} {n : Nat} {xs : List α} (h : Kd.C (Kd.scalar enc h1) w A n xs) (hk : KeepBut w w' g none) (hne : ∀ ad, A = some ad → 0 < n → ad.block ≠ g) : Kd.C (Kd.scalar enc h1) w' A n xs :=
  Kd.C_foot_ne (fun h => h) h hne _ hk
theorem keep_Tbl {w w' : World} {g g' : Nat} (h : Tbl w g') (hk : KeepBut w w' g none) (hne : g' ≠ g) : Tbl w' g' := (hk.2 g' h.lt hne (by simp)).trans h
theorem rd_weights_b (pts : List Int) (at_ : Int) (i : Nat) : IsB (rd (weightsF pts at_) i) := by
  unfold rd
  rw [Int.toNat_natCast, List.getD_eq_getElem?_getD]
  by_cases h : i < (weightsF pts at_).length
  · rw [List.getElem?_eq_getElem h]
    simp only [Option.getD_some]
    have he : (weightsF pts at_)[i] = wTo pts at_ (rd pts i) i pts.length := by
      simp only [weightsF, weightsTo, List.getElem_map, List.getElem_range]
    rw [he]
    exact wTo_b _ _ _ _ _
  · rw [List.getElem?_eq_none (by omega)]
    simp only [Option.getD_none]
    unfold IsB
    omega
theorem add_zero_ (a : Addr) : a.add 0 = a := by unfold Addr.add; simp
set_option maxHeartbeats 400000 in
theorem piece_any (g : Nat) (A : Option Addr) (c : Nat) (pts : List Int) (Av : Option Addr) (cv : Nat) (vals : List ByteArray) (at_ : Int) (w : World) (hT : Tbl w g) (hp : Kd.C (Kd.int .u8) w A pts.length pts)
    (hc : pts.length ≤ c) (hb : ∀ i : Nat, i < pts.length → IsB (rd pts i)) (hat : IsB at_) (hlen : pts.length ≤ 1000) (hv : Kd.C Kd.string w Av vals.length vals) (hcv : vals.length ≤ cv)
    (hn : pts.length = vals.length) (h1 : 0 < vals.length) (L : Nat) (hL : ∀ i : Nat, i < vals.length → (vs vals i).size = L) (hLb : L ≤ 1000000) :
    Calls Tryz.prog 127 #[.agg #[.slice A pts.length c, .pointer (some ⟨g, 0, none⟩), .slice Av vals.length cv], .int .u8 at_] w fun e w' => e = .returned (.string (pieceF pts vals at_)) ∧ Below w.heap.size w w' := by
  have HB := Lib.hid hb
  have HL := Lib.hid hL
  have HN := Lib.hid hn
  have hlv : vals.length ≤ 1000 := by omega
  have hL0 : (vs vals (0 : Int)).size = L := hL 0 h1
  clear hb hL hn
  obtain ⟨adv, e, hx⟩ := Kd.at_string hv 0 (by omega) (by omega)
  subst e
  have hx0 : (w.alloc (.cells #[Value.slice A pts.length c, Value.pointer (some { block := g, off := 0 }), Value.slice (some adv) vals.length cv] 115)).cell? adv = some (.string (vs vals 0)) := by
    have := World.cell?_alloc_lt w (.cells #[Value.slice A pts.length c, Value.pointer (some { block := g, off := 0 }), Value.slice (some adv) vals.length cv] 115) adv (World.block_lt_of_cell? w _ (by rw [show ((0 : Int).toNat) = 0 from rfl, add_zero_] at hx; exact hx))
    rw [this]; rw [show ((0 : Int).toNat) = 0 from rfl, add_zero_] at hx; exact hx
  have hmk := print_make (P := Tryz.prog) 46 5 .u8 1 Tryz.underlying46 info5 (by omega) L (by omega)
  have HL0 := Lib.hid hL0
  have HGT := Lib.hid hT.lt
  have HAV := Lib.hid (C_lt (h1 := fun _ => rfl) hv adv rfl h1)
  clear hx
  go_enter Tryz.func127, Tryz.ntmps127
  go_wp2_with fail
  obtain ⟨W0, hW0⟩ : ∃ W0, W0 = w.alloc (.cells #[Value.slice A pts.length c, Value.pointer (some { block := g, off := 0 }), Value.slice (some adv) vals.length cv] 115) := ⟨_, rfl⟩
  rw [← hW0]
  obtain ⟨W1, hW1⟩ : ∃ W1, W1 = W0.alloc (.cells (madeCells #[.int .u8 0] L) 5) := ⟨_, rfl⟩
  try rw [← hW1]
  have hs0 : W0.heap.size = w.heap.size + 1 := by rw [hW0]; simp
  have hs1 : W1.heap.size = w.heap.size + 2 := by rw [hW1]; simp [hs0]
  have hB1 : Below w.heap.size w W1 := by rw [hW1, hW0]; exact ((Below.refl _ _).alloc (Nat.le_refl _) _).alloc (by simp) _
  have hT1 : Tbl W1 g := by rw [hW1, hW0]; exact tbl_alloc (tbl_alloc hT _) _
  have hp1 : Kd.C (Kd.int .u8) W1 A pts.length pts := by rw [hW1, hW0]; exact Kd.C_alloc (Kd.C_alloc hp _) _
  have hv1 : Kd.C Kd.string W1 (some adv) vals.length vals := by rw [hW1, hW0]; exact Kd.C_alloc (Kd.C_alloc hv _) _
  have fb : ∀ i, W1.cell? ⟨w.heap.size, i, none⟩ = #[Value.slice A pts.length c, Value.pointer (some { block := g, off := 0 }), Value.slice (some adv) vals.length cv][i]? := by
    intro i
    rw [hW1, hW0, World.cell?_alloc_lt _ _ _ (by simp), cell_new]
  have hrow : Row W1 (w.heap.size + 1) .u8 5 (List.replicate L 0) := by rw [hW1, ← hs0]; exact Row.made W0 .u8 5 L
  have FB := Lib.hid fb
  have F := Lib.hid (And.intro hs1 (And.intro hB1 (And.intro hT1 (And.intro hp1 (And.intro hv1 hrow)))))
  have hmk0 := hmk W0
  rw [← hW1] at hmk0
  have c0 : W1.cell? ⟨w.heap.size, 0, none⟩ = some (.slice A pts.length c) := fb 0
  have c1 : W1.cell? ⟨w.heap.size, 1, none⟩ = some (.pointer (some ⟨g, 0, none⟩)) := fb 1
  have c2 : W1.cell? ⟨w.heap.size, 2, none⟩ = some (.slice (some adv) vals.length cv) := fb 2
  clear hs1 hB1 hT1 hp1 hv1 fb hrow hmk hW1 hW0 hT hp hv hx0
  have HS0 := Lib.hid hs0
  clear hs0
  obtain ⟨hs1, hB1, hT1, hp1, hv1, hrow⟩ := F.out
  have hgT : g < w.heap.size := HGT.out
  refine (weights_any g A c pts (some adv) vals.length cv at_ W1 hT1 hp1 hc HB.out hat hlen).mono ?_
  rintro e w2 ⟨v, rfl, hR, hBw⟩
  obtain ⟨Aw, cw, rfl, hcw, hCw⟩ := Kd.R_reads hR
  have hwl : (weightsF pts at_).length = vals.length := by rw [← HN.out]; exact weightsTo_length _ _ _
  have hAw : ∀ ad, Aw = some ad → 0 < (weightsF pts at_).length → ad.block ≠ w.heap.size + 1 := by
    rintro ad rfl _
    have := ((Kd.R_bound hR).1 ad.block rfl).2.1
    omega
  have hT2 : Tbl w2 g := hT1.below hBw hT1.lt
  have hv2 := Kd.C_below hv1 hBw
  have hrow2 : Row w2 (w.heap.size + 1) .u8 5 (List.replicate L 0) := hrow.below hBw (by omega)
  have d1 : w2.cell? ⟨w.heap.size, 1, none⟩ = some (.pointer (some ⟨g, 0, none⟩)) := (hBw.cell (p := ⟨w.heap.size, 1, none⟩) (by simp [hs1])).trans c1
  have d2 : w2.cell? ⟨w.heap.size, 2, none⟩ = some (.slice (some adv) vals.length cv) := (hBw.cell (p := ⟨w.heap.size, 2, none⟩) (by simp [hs1])).trans c2
  have hB2 : Below w.heap.size w w2 := hB1.trans (hBw.mono (by omega))
  have hs2 : w.heap.size + 2 ≤ w2.heap.size := by have := hBw.size; omega
  obtain ⟨ws, hws⟩ : ∃ ws, ws = weightsF pts at_ := ⟨_, rfl⟩
  rw [← hws] at hwl hAw hCw hcw ⊢
  have hav : adv.block ≠ w.heap.size + 1 := by
    have := HAV.out
    omega
  have G := Lib.hid (And.intro hT2 (And.intro hv2 (And.intro d1 (And.intro d2 (And.intro hB2 (And.intro hs2 (And.intro hCw hwl)))))))
  have HWS := Lib.hid hws
  have HWB : Hid (∀ i : Nat, IsB (rd ws i)) := Lib.hid (by rw [hws]; exact rd_weights_b pts at_)
  rw [hwl] at hcw ⊢
  clear hs1 hB1 hT1 hp1 hv1 hrow hR hBw hwl hT2 hv2 d1 d2 hB2 hs2 hCw hws c0 c1 c2 hmk0 F FB
  go_wp2_with fail
  go_loopw [20] (fun i wr => ∃ k : Nat, k ≤ vals.length ∧ i = .int .i64 k ∧ Row wr (w.heap.size + 1) .u8 5 (outTo ws vals L k) ∧ KeepBut w2 wr (w.heap.size + 1) none ∧ Below w.heap.size w wr) (fun i _ => vals.length - (intOf i).toNat)
  case atStart => exact ⟨0, by omega, rfl, hrow2, KeepBut.refl _ _ _, G.out.2.2.2.2.1⟩
  case round =>
    obtain ⟨k, hk, rfl, hrow, hK, hBl⟩ := hrel
    obtain ⟨hT2, hv2, d1, d2, hB2, hs2, hCw, hwl⟩ := G.out
    have e2 := keep_cell hK d2 (by simp)
    have e1 := keep_cell hK d1 (by simp)
    have HT := Lib.hid (keep_Tbl hT2 hK (by omega))
    have HCw := Lib.hid (keep_C (h1 := fun _ => rfl) hCw hK (by rw [hwl] at hCw ⊢; rw [hwl] at hAw; exact hAw))
    have HCv := Lib.hid (keep_C (h1 := fun _ => rfl) hv2 hK (fun ad e _ => by cases e; exact hav))
    have HE1 := Lib.hid e1
    have HROW := Lib.hid hrow
    have HK := Lib.hid hK
    have HWL := Lib.hid hwl
    clear hT2 hv2 d1 d2 hB2 hCw e1 hrow hK
    by_cases hlt : k < vals.length
    · obtain ⟨adw, ew, hxw⟩ := Kd.at_int HCw.out (k : Int) (by omega) (by rw [hwl]; omega)
      obtain ⟨adv', ev, hxv⟩ := Kd.at_string HCv.out (k : Int) (by omega) (by omega)
      subst ew
      cases ev
      simp only [Int.toNat_natCast] at hxw hxv
      have hxv' : wr.cell? (adv.add k) = some (.string (vs vals k)) := hxv
      have hLk := HL.out k hlt
      have kb := fun W => print_bytes (P := Tryz.prog) 9 46 5 Tryz.underlying9 Tryz.underlying46 Tryz.underlying5 (vs vals k) W
      rw [hLk] at kb
      have HLK := Lib.hid hLk
      clear hxv hwl hLk
      go_wp2_with fail
      obtain ⟨wb, hwb⟩ : ∃ wb : World, wb = Lib.bytesWorld wr 5 (vs vals k) := ⟨_, rfl⟩
      rw [← hwb]
      have hKb : KeepBut wr wb (w.heap.size + 1) none := by
        rw [hwb]; exact KeepBut.of_below (bytes_below (Below.refl _ _) (Nat.le_refl _) _ _) _ _
      have hBb : Below w.heap.size w wb := by
        rw [hwb]; exact bytes_below hBl hBl.size _ _
      have hwrs : w.heap.size + 2 ≤ wr.heap.size := by have := keep_size HK.out; omega
      have hrb : Row wb (w.heap.size + 1) .u8 5 (outTo ws vals L k) := by
        rw [hwb]; exact HROW.out.below (bytes_below (Below.refl wr.heap.size wr) (Nat.le_refl _) _ _) (by omega)
      have hbc : ∀ t : Nat, t < L → wb.cell? ⟨wr.heap.size, t, none⟩ = some (.int .u8 (bt (vs vals k) t)) := by
        intro t ht
        have := (bytes_reads wr 5 (vs vals k) (by rw [HLK.out]; omega))
        obtain ⟨ad, e, hc⟩ := this.2.2 (by rw [HLK.out]; omega)
        cases e
        have h2 := hc t (by rw [HLK.out]; exact ht)
        rw [add_plain] at h2
        rw [hwb, h2]
        congr 2
        have := rd_bytesOf (vs vals k) (t : Int)
        simpa [rd] using this
      have H2 := Lib.hid (And.intro hKb (And.intro hBb (And.intro hrb (And.intro hbc hwrs))))
      clear hKb hBb hrb hbc hwrs kb hwb hBl
      go_loopw [32] (fun i w3 => ∃ t : Nat, t ≤ L ∧ i = .int .i64 t ∧ Row w3 (w.heap.size + 1) .u8 5 (midTo ws vals L k t) ∧ KeepBut wb w3 (w.heap.size + 1) none ∧ Below w.heap.size w w3) (fun i _ => L - (intOf i).toNat)
      case atStart => exact ⟨0, by omega, rfl, by rw [midTo_zero]; exact H2.out.2.2.1, KeepBut.refl _ _ _, H2.out.2.1⟩
      case round =>
        obtain ⟨wo, rfl⟩ : ∃ wo : World, wo = wr := ⟨_, rfl⟩
        obtain ⟨t, ht, rfl, hrow3, hK3, hB3⟩ := hrel
        obtain ⟨hKb, hBb, hrb, hbc, hwrs⟩ := H2.out
        have p1 := keep_cell hK3 (keep_cell hKb HE1.out (by simp)) (by simp)
        have hT3 := Lib.hid (keep_Tbl (keep_Tbl HT.out hKb (by omega)) hK3 (by omega))
        have HR3 := Lib.hid hrow3
        have HK3 := Lib.hid hK3
        have HB3 := Lib.hid hB3
        have HML := midTo_length ws vals L k t
        by_cases hlt2 : t < L
        · have q1 := hrow3.cell t (by rw [HML]; exact hlt2)
          have q2 := hrow3.frozen t
          have q3 := keep_cell hK3 (hbc t hlt2) (by simp; omega)
          have HS := Lib.hid (midTo_succ ws vals L k t hlt2)
          have hmb : IsB (rd ws k) := HWB.out k
          have hbb : IsB (bt (vs vals k) t) := ⟨(bt_range _ _).1, by have := (bt_range (vs vals k) t).2; omega⟩
          have HM := Lib.hid HML
          clear hKb hBb hrb hbc hwrs hrow3 hK3 hB3 HML
          go_wp2_with fail
          go_region_with (go_at_call 74; refine (times_int g _ _ _ (by exact hT3.out) hmb hbb).mono ?_; rintro e w' ⟨rfl, m, rfl⟩)
          all_goals go_wp2_with fail
          all_goals go_roundw
          all_goals first
            | exact ⟨t + 1, by omega, by go_num, by rw [HS.out]; exact Row.set (by exact HR3.out) t _, KeepBut.set_ (by exact HK3.out) t _, Below.setCell (by exact below_drN HB3.out _) (by simp) _⟩
            | (simp only [intOf]; omega)
            | (simp [intOf]; omega)
        · obtain rfl : t = L := by omega
          clear hKb hBb hrb hbc hwrs hrow3 hK3 hB3 HML
          go_wp2_with fail
          go_roundw
          case rel => exact ⟨k + 1, by omega, by go_num, by rw [← midTo_all]; exact HR3.out, (HK.out.trans H2.out.1 (.inl rfl)).trans HK3.out (.inl rfl), HB3.out⟩
          case measure => simp [intOf]; omega
    · obtain rfl : k = vals.length := by omega
      have ks := run_convert_bytes_arg (P := Tryz.prog) wr 46 5 Tryz.underlying46 Tryz.underlying5 (w.heap.size + 1) 0 L L (outTo ws vals L vals.length) (outTo_length _ _ _ _) (fun i hi => by rw [Nat.zero_add]; rw [HROW.out.cell i (by rw [outTo_length]; exact hi)]; rfl) 9 Tryz.underlying9
      have HBl := Lib.hid hBl
      clear hBl
      go_wp2_with fail
      go_ret
      exact ⟨congrArg (fun s => Ending.returned (.string s)) (by rw [HWS.out]; unfold pieceF; rw [HL0.out]), HBl.out⟩
end Go.Proofs.YtkdjibejnncmfaaGreatDoor.Co

/- The walks of polynomial.some, through, alike. -/
namespace Go.Proofs.YtkdjibejnncmfaaGreatDoor.Co
open Go.RowKit Go.Proofs.YtkdjibejnncmfaaGreatDoorW.PrintWords Go.Proofs.YtkdjibejnncmfaaGreatDoorW.PrintLast Go.Proofs.YtkdjibejnncmfaaGreatDoorW.PrintMore
set_option linter.unusedVariables false
set_option linter.unusedSimpArgs false
set_option maxRecDepth 100000
def someTo (pts : List Int) (vals : List ByteArray) (k : Nat) : List ByteArray := (List.range k).map fun (i : Nat) => pieceF pts vals (i : Int)
theorem someTo_succ (pts : List Int) (vals : List ByteArray) (k : Nat) : someTo pts vals (k + 1) = someTo pts vals k ++ [pieceF pts vals (k : Int)] := by
  unfold someTo; rw [List.range_succ, List.map_append]; rfl
theorem someTo_length (pts : List Int) (vals : List ByteArray) (k : Nat) : (someTo pts vals k).length = k := by simp [someTo]
/-- What a polynomial in memory is. -/
structure Poly (w : World) (g : Nat) (A : Option Addr) (c : Nat) (pts : List Int) (Av : Option Addr) (cv : Nat) (vals : List ByteArray) (L : Nat) : Prop where
  tbl : Tbl w g
  hpts : Kd.C (Kd.int .u8) w A pts.length pts
  cap : pts.length ≤ c
  bytes : ∀ i : Nat, i < pts.length → IsB (rd pts i)
  few : pts.length ≤ 1000
  hvals : Kd.C Kd.string w Av vals.length vals
  capv : vals.length ≤ cv
  same : pts.length = vals.length
  one : 0 < vals.length
  size : ∀ i : Nat, i < vals.length → (vs vals i).size = L
  short : L ≤ 1000000
theorem Poly.below {w w' : World} {g : Nat} {A : Option Addr} {c : Nat} {pts : List Int} {Av : Option Addr} {cv : Nat} {vals : List ByteArray} {L : Nat} (h : Poly w g A c pts Av cv vals L) (hb : Below w.heap.size w w') : Poly w' g A c pts Av cv vals L :=
  { h with tbl := h.tbl.below hb h.tbl.lt, hpts := Kd.C_below h.hpts hb, hvals := Kd.C_below h.hvals hb }
theorem piece_poly {g : Nat} {A : Option Addr} {c : Nat} {pts : List Int} {Av : Option Addr} {cv : Nat} {vals : List ByteArray} {L : Nat} (at_ : Int) (w : World) (hp : Poly w g A c pts Av cv vals L) (hat : IsB at_) :
    Calls Tryz.prog 127 #[.agg #[.slice A pts.length c, .pointer (some ⟨g, 0, none⟩), .slice Av vals.length cv], .int .u8 at_] w fun e w' => e = .returned (.string (pieceF pts vals at_)) ∧ Below w.heap.size w w' :=
  piece_any g A c pts Av cv vals at_ w hp.tbl hp.hpts hp.cap hp.bytes hat hp.few hp.hvals hp.capv hp.same hp.one L hp.size hp.short
set_option maxHeartbeats 400000 in
theorem some_any {g : Nat} {A : Option Addr} {c : Nat} {pts : List Int} {Av : Option Addr} {cv : Nat} {vals : List ByteArray} {L : Nat} (n : Nat) (w : World) (hp : Poly w g A c pts Av cv vals L) (hn : n ≤ 12) :
    Calls Tryz.prog 80 #[.agg #[.slice A pts.length c, .pointer (some ⟨g, 0, none⟩), .slice Av vals.length cv], .int .i64 (n : Int)] w fun e w' => ∃ v, e = .returned v ∧ Kd.R Kd.string 9 w' w.heap.size (fun _ => True) v (someTo pts vals n) ∧ Below w.heap.size w w' := by
  go_enter Tryz.func80, Tryz.ntmps80
  go_wp2_with fail
  obtain ⟨W, hW⟩ : ∃ W, W = w.alloc (.cells #[Value.slice A pts.length c, Value.pointer (some { block := g, off := 0 }), Value.slice Av vals.length cv] 115) := ⟨_, rfl⟩
  rw [← hW]
  have hWs : W.heap.size = w.heap.size + 1 := by rw [hW]; simp
  have hpW : Poly W g A c pts Av cv vals L := by rw [hW]; exact hp.below ((Below.refl _ _).alloc (Nat.le_refl _) _)
  have f0 : W.cell? ⟨w.heap.size, 0, none⟩ = some (.slice A pts.length c) := by rw [hW, cell_new]; rfl
  have f1 : W.cell? ⟨w.heap.size, 1, none⟩ = some (.pointer (some ⟨g, 0, none⟩)) := by rw [hW, cell_new]; rfl
  have f2 : W.cell? ⟨w.heap.size, 2, none⟩ = some (.slice Av vals.length cv) := by rw [hW, cell_new]; rfl
  have hBW : Below w.heap.size w W := by rw [hW]; exact (Below.refl _ _).alloc (Nat.le_refl _) _
  have F := Lib.hid (And.intro hWs (And.intro hpW (And.intro f0 (And.intro f1 (And.intro f2 hBW)))))
  clear hWs hpW f0 f1 f2 hBW hW hp
  go_loopw [5, 9] (fun v i wr => ∃ k : Nat, k ≤ n ∧ i = .int .i64 k ∧ Kd.R Kd.string 9 wr W.heap.size (fun _ => True) v (someTo pts vals k) ∧ Below W.heap.size W wr) (fun _ i _ => n - (intOf i).toNat)
  case atStart => exact ⟨0, by omega, rfl, Kd.R_nil _ _ _ _ _, Below.refl _ _⟩
  case round =>
    obtain ⟨k, hk, rfl, hR, hBe⟩ := hrel
    obtain ⟨hWs, hpW, f0, f1, f2, hBW⟩ := F.out
    have f0r := (hBe.cell (p := ⟨w.heap.size, 0, none⟩) (by simp [hWs])).trans f0
    have f1r := (hBe.cell (p := ⟨w.heap.size, 1, none⟩) (by simp [hWs])).trans f1
    have f2r := (hBe.cell (p := ⟨w.heap.size, 2, none⟩) (by simp [hWs])).trans f2
    have hpr := Lib.hid (hpW.below hBe)
    have HR := Lib.hid hR
    have HBe := Lib.hid hBe
    have HWs := Lib.hid hWs
    by_cases hlt : k < n
    · clear hWs hpW f0 f1 f2 hR hBe
      go_wp2_with fail
      refine (piece_poly (k : Int) wr hpr.out ⟨by omega, by omega⟩).mono ?_
      rintro e w1 ⟨rfl, hb1⟩
      have hB1 := Lib.hid (HBe.out.trans (hb1.mono HBe.out.size))
      have hR1 := Lib.hid (Kd.R_below HR.out hb1)
      have HS := Lib.hid (someTo_succ pts vals k)
      have hl := someTo_length pts vals k
      have HL : (someTo pts vals k).length ≤ 12 := by omega
      clear hl hb1
      go_wp2_with ((with_reducible refine gate_builtin (b := .append) (xs := #[.tmp 12, .tmp 18]) rfl ?_); at_builtin; refine Kd.R_append Kd.string (w0 := W) W.heap.size rfl (.tmp 12) (.tmp 18) 33 9 (.string ⟨#[]⟩) 16 rfl Tryz.underlying33 info9 rfl (by decide) (by omega) u5 (someTo pts vals k) (pieceF pts vals k) [.string (pieceF pts vals k)] (fun _ => True) (fun _ => False) rfl rfl ?aP (fun _ hk => hk.elim) ?aF ?aO ?aB ?aS ?aL ?_; (case aP => exact rfl); (case aF => exact (fun _ _ => trivial)); (case aO => exact hR1.out); (case aB => exact hB1.out); (case aS => exact hB1.out.size); (case aL => omega); intro v1 w2 ho hb hg hat; have ho1 := Lib.hid ho; clear ho hg hat)
      go_roundw
      case rel => exact ⟨k + 1, by omega, by go_num, by rw [HS.out]; exact ho1.out, by assumption⟩
      case measure => simp [intOf]; omega
    · obtain rfl : k = n := by omega
      clear hWs hpW f0 f1 f2 hR hBe
      go_wp2
      go_ret
      refine ⟨_, rfl, ?_, ?_⟩
      · exact Kd.R_lower HR.out (by rw [HWs.out]; omega)
      · exact hBW.trans (HBe.out.mono (by rw [HWs.out]; omega))
end Go.Proofs.YtkdjibejnncmfaaGreatDoor.Co

/- The walks of alike, through; functions over lists of texts. -/
namespace Go.Proofs.YtkdjibejnncmfaaGreatDoor.Co
open Go.RowKit Go.Proofs.YtkdjibejnncmfaaGreatDoorW.PrintWords Go.Proofs.YtkdjibejnncmfaaGreatDoorW.PrintLast Go.Proofs.YtkdjibejnncmfaaGreatDoorW.PrintMore
set_option linter.unusedVariables false
set_option linter.unusedSimpArgs false
set_option maxRecDepth 100000
theorem bne_cast (a b : Nat) : ((a : Int) != (b : Int)) = (a != b) := by rw [Bool.eq_iff_iff]; simp; omega
theorem ret_bool' {a b : Bool} (h : a = b) : Ending.returned (.bool a) = .returned (.bool b) := by rw [h]
/-- The first index from k on at which a text fulfils p; -1, if there is none. -/
def idxFrom (p : ByteArray → Bool) : List ByteArray → Nat → Int
  | [], _ => -1
  | s :: l, k => if p s then (k : Int) else idxFrom p l (k + 1)
theorem idxFrom_any (p : ByteArray → Bool) : ∀ (l : List ByteArray) (k : Nat), decide (0 ≤ idxFrom p l k) = l.any p
  | [], k => by simp [idxFrom]
  | s :: l, k => by
    unfold idxFrom
    by_cases h : p s = true
    · rw [if_pos h]; simp [h]
    · rw [if_neg h, idxFrom_any p l (k + 1)]; simp [h]
theorem idxFrom_drop (p : ByteArray → Bool) (l : List ByteArray) (k j : Nat) (h : k < l.length) :
    idxFrom p (l.drop k) j = if p (vs l k) then (j : Int) else idxFrom p (l.drop (k + 1)) (j + 1) := by
  rw [List.drop_eq_getElem_cons h]
  have : vs l k = l[k] := by
    unfold vs rdOf
    rw [Int.toNat_natCast, List.getD_eq_getElem?_getD, List.getElem?_eq_getElem h]; rfl
  rw [this]
  rfl

set_option maxHeartbeats 400000 in
theorem indexFunc_126 (cap : Array Value) (p : ByteArray → Bool) (A : Option Addr) (c : Nat) (l : List ByteArray) (w : World) (hC : Kd.C Kd.string w A l.length l) (hc : l.length ≤ c)
    (hf : ∀ s ∈ l, Calls Tryz.prog 126 (#[.string s] ++ cap) w fun e w' => e = .returned (.bool (p s)) ∧ w = w') :
    Calls Tryz.prog 125 #[.slice A l.length c, .func (.func 126) #[] cap] w fun e w' => e = .returned (.int .i64 (idxFrom p l 0)) ∧ w = w' := by
  have hm : l.length ≤ 9223372036854775807 := hC.2.1
  have HC := Lib.hid hC
  have HF := Lib.hid hf
  clear hC hf
  go_enter Tryz.func125, Tryz.ntmps125
  go_wp2_with fail
  go_loop [8] (fun i => ∃ k : Nat, k ≤ l.length ∧ i = .int .i64 k ∧ Hid (idxFrom p l 0 = idxFrom p (l.drop k) k)) (fun i => l.length - (intOf i).toNat)
  case atStart => exact ⟨0, by omega, rfl, rfl⟩
  case round =>
    obtain ⟨k, hk, rfl, hI⟩ := hrel
    by_cases hlt : k < l.length
    · obtain ⟨ad, e, hx⟩ := Kd.at_string HC.out (k : Int) (by omega) (by omega)
      subst e
      simp only [Int.toNat_natCast] at hx
      have hxv : w.cell? (ad.add k) = some (.string (vs l k)) := hx
      have hD := Lib.hid (idxFrom_drop p l k k hlt)
      have hmem : vs l k ∈ l := by
        unfold vs rdOf
        rw [Int.toNat_natCast, List.getD_eq_getElem?_getD, List.getElem?_eq_getElem hlt]
        exact List.getElem_mem _
      clear hx
      go_wp2_with fail
      refine (HF.out _ hmem).mono ?_
      rintro e w' ⟨rfl, rfl⟩
      by_cases hp : p (vs l k) = true
      · rw [hp]
        go_wp2_with fail
        go_ret
        exact ⟨ret_int' (by rw [hI.out, hD.out, if_pos hp]), rfl⟩
      · have hp' : p (vs l k) = false := by simpa using hp
        rw [hp']
        go_wp2_with fail
        go_round
        case rel => exact ⟨k + 1, by omega, by go_num, Lib.hid (by rw [hI.out, hD.out, if_neg hp])⟩
        case measure => simp [intOf]; omega
    · obtain rfl : k = l.length := by omega
      go_wp2_with fail
      go_ret
      exact ⟨ret_int' (by rw [hI.out]; simp [idxFrom]), rfl⟩
set_option maxHeartbeats 400000 in
theorem containsFunc_126 (cap : Array Value) (p : ByteArray → Bool) (A : Option Addr) (c : Nat) (l : List ByteArray) (w : World) (hC : Kd.C Kd.string w A l.length l) (hc : l.length ≤ c)
    (hf : ∀ s ∈ l, Calls Tryz.prog 126 (#[.string s] ++ cap) w fun e w' => e = .returned (.bool (p s)) ∧ w = w') :
    Calls Tryz.prog 75 #[.slice A l.length c, .func (.func 126) #[] cap] w fun e w' => e = .returned (.bool (l.any p)) ∧ w = w' := by
  have hm : l.length ≤ 9223372036854775807 := hC.2.1
  have HC := Lib.hid hC
  have HF := Lib.hid hf
  have HI := Lib.hid (idxFrom_any p l 0)
  clear hC hf
  go_enter Tryz.func75, Tryz.ntmps75
  go_wp2_with fail
  refine (indexFunc_126 cap p A c l w HC.out hc HF.out).mono ?_
  rintro e w' ⟨rfl, rfl⟩
  go_wp2_with fail
  go_ret
  exact ⟨ret_bool' (by rw [← HI.out]), rfl⟩

/-- What alike tells, where least is 1 or more. -/
def alikeF (l : List ByteArray) (least most : Int) : Bool :=
  if (l.length : Int) < least then false else if 12 < l.length then false else if most < ((vs l 0).size : Int) then false else !l.any fun s => s.size != (vs l 0).size
set_option maxHeartbeats 400000 in
theorem alike1_any (s : ByteArray) (ad : Addr) (n c b : Nat) (s0 : ByteArray) (w : World) (hb : w.cell? ⟨b, 0, none⟩ = some (.slice (some ad) n c)) (hn : 0 < n) (hx : w.cell? ad = some (.string s0)) (h1 : s.size ≤ 9223372036854775807) (h2 : s0.size ≤ 9223372036854775807) :
    Calls Tryz.prog 126 #[.string s, .pointer (some ⟨b, 0, none⟩)] w fun e w' => e = .returned (.bool (s.size != s0.size)) ∧ w = w' := by
  have hx' : w.cell? (ad.add 0) = some (.string s0) := by rw [add_zero_]; exact hx
  go_enter Tryz.func126, Tryz.ntmps126
  go_wp2
  go_ret
  exact ⟨ret_bool' (bne_cast _ _), rfl⟩
set_option maxHeartbeats 400000 in
theorem alike_any (A : Option Addr) (c : Nat) (l : List ByteArray) (least most : Int) (w : World) (hC : Kd.C Kd.string w A l.length l) (hc : l.length ≤ c) (hl : 1 ≤ least) (hs : ∀ s ∈ l, s.size ≤ 9223372036854775807) :
    Calls Tryz.prog 77 #[.slice A l.length c, .int .i64 least, .int .i64 most] w fun e w' => e = .returned (.bool (alikeF l least most)) ∧ Below w.heap.size w w' := by
  have hm : l.length ≤ 9223372036854775807 := hC.2.1
  have hB : Below w.heap.size w (w.alloc (.cells #[Value.slice A l.length c] 33)) := (Below.refl _ _).alloc (Nat.le_refl _) _
  have HB := Lib.hid hB
  have hcell : (w.alloc (.cells #[Value.slice A l.length c] 33)).cell? ⟨w.heap.size, 0, none⟩ = some (.slice A l.length c) := by rw [cell_new]; rfl
  have HC := Lib.hid hC
  have HS := Lib.hid hs
  by_cases h1 : (l.length : Int) < least
  · have hF : Hid (alikeF l least most = false) := Lib.hid (by unfold alikeF; rw [if_pos h1])
    clear hC hs hB hcell
    go_enter Tryz.func77, Tryz.ntmps77
    go_wp2
    go_ret
    exact ⟨ret_bool' hF.out.symm, HB.out⟩
  · by_cases h2 : 12 < l.length
    · have hF : Hid (alikeF l least most = false) := Lib.hid (by unfold alikeF; rw [if_neg h1, if_pos h2])
      have h2' : (12 : Int) < (l.length : Int) := by omega
      clear hC hs hB hcell
      go_enter Tryz.func77, Tryz.ntmps77
      go_wp2
      go_ret
      exact ⟨ret_bool' hF.out.symm, HB.out⟩
    · obtain ⟨ad, e, hx⟩ := Kd.at_string hC 0 (by omega) (by omega)
      subst e
      rw [show ((0 : Int).toNat) = 0 from rfl, add_zero_] at hx
      have hx1 : w.cell? ad = some (.string (vs l 0)) := hx
      have hx0 : (w.alloc (.cells #[Value.slice (some ad) l.length c] 33)).cell? ad = some (.string (vs l 0)) := by
        rw [World.cell?_alloc_lt w _ ad (World.block_lt_of_cell? w _ hx1)]; exact hx1
      have h0s : (vs l 0).size ≤ 9223372036854775807 := by
        refine hs _ ?_
        unfold vs rdOf
        rw [show ((0 : Int).toNat) = 0 from rfl, List.getD_eq_getElem?_getD, List.getElem?_eq_getElem (by omega)]
        exact List.getElem_mem _
      have hnl : ¬ (12 : Int) < (l.length : Int) := by omega
      have hpos : 0 < l.length := by omega
      by_cases h3 : most < ((vs l 0).size : Int)
      · have hF : Hid (alikeF l least most = false) := Lib.hid (by unfold alikeF; rw [if_neg h1, if_neg h2, if_pos h3])
        clear hC hs hB hx hx1
        go_enter Tryz.func77, Tryz.ntmps77
        go_wp2
        go_ret
        exact ⟨ret_bool' hF.out.symm, HB.out⟩
      · have hF : Hid (alikeF l least most = !l.any fun s => s.size != (vs l 0).size) := Lib.hid (by unfold alikeF; rw [if_neg h1, if_neg h2, if_neg h3])
        have h3' : ((vs l 0).size : Int) ≤ most := by omega
        have HC1 := Lib.hid (Kd.C_alloc hC (.cells #[Value.slice (some ad) l.length c] 33))
        have hf1 : Hid (∀ s ∈ l, Calls Tryz.prog 126 (#[Value.string s] ++ #[Value.pointer (some { block := w.heap.size, off := 0 })]) (w.alloc (.cells #[Value.slice (some ad) l.length c] 33)) fun e w' => e = .returned (.bool (s.size != (vs l 0).size)) ∧ (w.alloc (.cells #[Value.slice (some ad) l.length c] 33)) = w') :=
          Lib.hid (fun s hsm => by
            have he : #[Value.string s] ++ #[Value.pointer (some { block := w.heap.size, off := 0 })] = #[Value.string s, Value.pointer (some { block := w.heap.size, off := 0 })] := rfl
            rw [he]
            exact alike1_any s ad l.length c w.heap.size (vs l 0) _ hcell hpos hx0 (HS.out s hsm) h0s)
        clear hC hs hB hx hx1 h3
        go_enter Tryz.func77, Tryz.ntmps77
        go_wp2_with fail
        refine (containsFunc_126 #[Value.pointer (some { block := w.heap.size, off := 0 })] (fun s => s.size != (vs l 0).size) _ _ _ _ HC1.out hc hf1.out).mono ?_
        rintro e w' ⟨rfl, rfl⟩
        go_wp2_with fail
        go_ret
        exact ⟨ret_bool' hF.out.symm, HB.out⟩

end Go.Proofs.YtkdjibejnncmfaaGreatDoor.Co

/- The walk of through. -/
namespace Go.Proofs.YtkdjibejnncmfaaGreatDoor.Co
open Go.RowKit Go.Proofs.YtkdjibejnncmfaaGreatDoorW.PrintWords Go.Proofs.YtkdjibejnncmfaaGreatDoorW.PrintLast Go.Proofs.YtkdjibejnncmfaaGreatDoorW.PrintMore
set_option linter.unusedVariables false
set_option linter.unusedSimpArgs false
set_option maxRecDepth 100000
theorem take_succ_rd (l : List Int) (k : Nat) (h : k < l.length) : l.take (k + 1) = l.take k ++ [rd l k] := by
  rw [rd_nat l k h, List.take_succ_eq_append_getElem h]
/-- Block g holds just these cells, none of them a string's. -/
def Box (w : World) (g : Nat) (e : TypeId) (cs : Array Value) : Prop := w.heap[g]? = some (.cells cs e (0, 0))
section
variable {w w' : World} {g : Nat} {e : TypeId} {cs : Array Value}
theorem Box.lt (h : Box w g e cs) : g < w.heap.size := by
  rcases Nat.lt_or_ge g w.heap.size with hlt | hge
  · exact hlt
  · unfold Box at h; rw [Array.getElem?_eq_none hge] at h; cases h
theorem Box.cell (h : Box w g e cs) (i : Nat) : w.cell? ⟨g, i, none⟩ = cs[i]? := cell_of_row w g i cs e (0, 0) h
theorem Box.frozen (h : Box w g e cs) (i : Nat) : w.frozen? ⟨g, i, none⟩ = false := by unfold Box at h; simp [World.frozen?, h]
theorem Box.set (h : Box w g e cs) (i : Nat) (x : Value) : Box (w.setCell ⟨g, i, none⟩ x) g e (cs.setIfInBounds i x) := by
  unfold Box at h ⊢
  simp [World.setCell, Array.getElem?_modify, h]
theorem Box.far (h : Box w g e cs) {p : Addr} (hp : g ≠ p.block) (x : Value) : Box (w.setCell p x) g e cs := (Below.heap_setCell w p x g hp).trans h
theorem Box.below {B : Nat} (h : Box w g e cs) (hb : Below B w w') (hg : g < B) : Box w' g e cs := (hb.block g hg).trans h
theorem Box.alloc (h : Box w g e cs) (o : Obj) : Box (w.alloc o) g e cs := (Below.heap_alloc w o g h.lt).trans h
theorem Box.grown {row : Option Nat} (h : Box w g e cs) (hb : w.grownBy w' row) (hg : some g ≠ row) : Box w' g e cs := (hb.block g h.lt hg).trans h
theorem Box.keep {g' : Nat} (h : Box w g e cs) (hk : KeepBut w w' g' none) (hg : g ≠ g') : Box w' g e cs := (hk.2 g h.lt hg (by simp)).trans h
theorem Box.new (w : World) (cs : Array Value) (e : TypeId) : Box (w.alloc (.cells cs e)) w.heap.size e cs := heap_alloc_new w _
end
set_option maxHeartbeats 400000 in
theorem through_own (A : Option Addr) (c : Nat) (pts : List Int) (Av : Option Addr) (cv : Nat) (vals : List ByteArray) (L : Nat) (w : World) (hp : Kd.C (Kd.int .i64) w A pts.length pts) (hc : pts.length ≤ c)
    (hb : ∀ i : Nat, i < pts.length → IsB (rd pts i)) (hlen : pts.length ≤ 1000) (hv : Kd.C Kd.string w Av vals.length vals) (hcv : vals.length ≤ cv)
    (hn : pts.length = vals.length) (h1 : 0 < vals.length) (hL : ∀ i : Nat, i < vals.length → (vs vals i).size = L) (hLb : L ≤ 1000000) :
    Calls Tryz.prog 78 #[.slice A pts.length c, .slice Av vals.length cv] w fun e w' => ∃ g A' c', e = .returned (.agg #[.slice A' pts.length c', .pointer (some ⟨g, 0, none⟩), .slice Av vals.length cv]) ∧ Poly w' g A' c' pts Av cv vals L ∧ Below w.heap.size w w' ∧ w.heap.size ≤ g ∧ ∀ ad, A' = some ad → w.heap.size ≤ ad.block := by
  have HB := Lib.hid hb
  have HP := Lib.hid hp
  have HV := Lib.hid hv
  have HN := Lib.hid hn
  have HL := Lib.hid hL
  clear hb hp hv hn hL
  go_enter Tryz.func78, Tryz.ntmps78
  go_wp2_with fail
  refine (tables_any _).mono ?_
  rintro e w' ⟨rfl, rfl⟩
  go_wp2_with fail
  obtain ⟨W, hW⟩ : ∃ W, W = ((w.alloc (.cells #[Value.slice none 0 0, Value.pointer none, Value.slice none 0 0] 115)).alloc (.cells tblCells 110)).alloc (.cells #[Value.slice none 0 0, Value.pointer (some { block := w.heap.size + 1, off := 0 }), Value.slice Av vals.length cv] 115) := ⟨_, rfl⟩
  rw [← hW]
  have hWs : W.heap.size = w.heap.size + 3 := by rw [hW]; simp
  have hb0 : Box W w.heap.size 115 #[Value.slice none 0 0, Value.pointer none, Value.slice none 0 0] := by
    rw [hW]; exact ((Box.new w _ _).alloc _).alloc _
  have hb1 : Tbl W (w.heap.size + 1) := by
    rw [hW]
    have := Box.new (w.alloc (.cells #[Value.slice none 0 0, Value.pointer none, Value.slice none 0 0] 115)) tblCells 110
    simp only [World.size_alloc] at this
    exact this.alloc _
  have hb2 : Box W (w.heap.size + 2) 115 #[Value.slice none 0 0, Value.pointer (some { block := w.heap.size + 1, off := 0 }), Value.slice Av vals.length cv] := by
    rw [hW]
    have := Box.new ((w.alloc (.cells #[Value.slice none 0 0, Value.pointer none, Value.slice none 0 0] 115)).alloc (.cells tblCells 110)) #[Value.slice none 0 0, Value.pointer (some { block := w.heap.size + 1, off := 0 }), Value.slice Av vals.length cv] 115
    simp only [World.size_alloc] at this
    exact this
  have hBW : Below w.heap.size w W := by
    rw [hW]; exact (((Below.refl _ _).alloc (Nat.le_refl _) _).alloc (by simp) _).alloc (by simp; omega) _
  have F := Lib.hid (And.intro hWs (And.intro hb0 (And.intro hb1 (And.intro hb2 hBW))))
  clear hWs hb0 hb1 hb2 hBW hW
  go_loopw [13] (fun i wr => ∃ k : Nat, k ≤ pts.length ∧ i = .int .i64 k ∧ ∃ v, Kd.R (Kd.int .u8) 5 wr (w.heap.size + 3) (fun k => w.heap.size + 3 ≤ k) v (pts.take k) ∧ Box wr (w.heap.size + 2) 115 #[v, Value.pointer (some { block := w.heap.size + 1, off := 0 }), Value.slice Av vals.length cv] ∧ Below (w.heap.size + 2) W wr) (fun i _ => pts.length - (intOf i).toNat)
  case atStart => exact ⟨0, by omega, rfl, _, Kd.R_nil _ _ _ _ _, F.out.2.2.2.1, Below.refl _ _⟩
  case round =>
    obtain ⟨k, hk, rfl, v, hR, hbx, hBe⟩ := hrel
    obtain ⟨hWs, hb0, hb1, hb2, hBW⟩ := F.out
    obtain ⟨A', c', rfl⟩ := Kd.R_slice hR
    have hl : (pts.take k).length = k := by simp; omega
    rw [hl] at hR hbx
    have hBw : Below w.heap.size w wr := hBW.trans (hBe.mono (by omega))
    have f0 := hbx.cell 0
    have f1 := hbx.cell 1
    have f2 := hbx.cell 2
    have z0 := hbx.frozen 0
    simp only [List.getElem?_toArray, List.getElem?_cons_zero, List.getElem?_cons_succ] at f0 f1 f2
    have HR := Lib.hid hR
    have HX := Lib.hid hbx
    have HE := Lib.hid hBe
    have HWs := Lib.hid hWs
    by_cases hlt : k < pts.length
    · obtain ⟨ad, e, hx⟩ := Kd.at_int (Kd.C_below HP.out hBw) (k : Int) (by omega) (by omega)
      subst e
      simp only [Int.toNat_natCast] at hx
      have hbk := HB.out k hlt
      obtain ⟨hk0, hk1⟩ := hbk
      clear hWs hb0 hb1 hb2 hBW hR hbx hBe hBw
      have HS := Lib.hid (take_succ_rd pts k hlt)
      have HL1 := Lib.hid hl
      have hBs := HE.out.size
      have hrs : w.heap.size + 3 ≤ wr.heap.size := by have := HWs.out; omega
      clear hl
      go_wp2_with ((with_reducible refine gate_builtin (b := .append) (xs := #[.tmp 18, .tmp 21]) rfl ?_); at_builtin; refine Kd.R_append (Kd.int .u8) (w0 := wr) (w.heap.size + 3) rfl (.tmp 18) (.tmp 21) 113 5 (.int .u8 0) 1 rfl Tryz.underlying113 info5 rfl (by decide) (by omega) (.slice A' k c') (pts.take k) (rd pts k) [.int .u8 (rd pts k)] (fun k => w.heap.size + 3 ≤ k) (fun _ => False) rfl rfl ?aP (fun _ hk => hk.elim) ?aF ?aO ?aB ?aS ?aL ?_; (case aP => exact rfl); (case aF => exact (fun _ hk => by omega)); (case aO => exact HR.out); (case aB => exact Below.refl _ _); (case aS => omega); (case aL => rw [HL1.out]; omega); intro v1 w1 ho hb hg hat; obtain ⟨A1, c1, rfl⟩ := Kd.R_slice ho; rw [← HS.out] at ho; rw [show (pts.take (k + 1)).length = k + 1 from by rw [List.length_take]; omega] at ho; have hx1 := HX.out.grown hg (by intro e; have := (Kd.R_bound HR.out).1 _ e.symm; omega); have ho1 := Lib.hid ho; have hb1 := Lib.hid hb; have hc1 := hx1.cell 0; have hz1 := hx1.frozen 0; simp only [List.getElem?_toArray, List.getElem?_cons_zero] at hc1; have hx2 := Lib.hid hx1; clear ho hb hg hat hx1)
      go_roundw
      case rel => exact ⟨k + 1, by omega, by go_num, _, Kd.R_far (p := ⟨w.heap.size + 2, 0, none⟩) ho1.out (fun k hk => by simp; omega) _, hx2.out.set 0 _, (HE.out.trans (hb1.out.mono (by omega))).setCell (by simp) _⟩
      case measure => simp [intOf]; omega
    · obtain rfl : k = pts.length := by omega
      have hy := hb0.below hBe (by omega)
      have y0 := hy.cell 0
      have y1 := hy.cell 1
      have y2 := hy.cell 2
      have yz0 := hy.frozen 0
      have yz1 := hy.frozen 1
      have yz2 := hy.frozen 2
      simp only [List.getElem?_toArray, List.getElem?_cons_zero, List.getElem?_cons_succ] at y0 y1 y2
      have hBf : Below w.heap.size w ((((wr.setCell ⟨w.heap.size, 0, none⟩ (Value.slice A' pts.length c')).setCell ⟨w.heap.size, 1, none⟩ (Value.pointer (some { block := w.heap.size + 1, off := 0 }))).setCell ⟨w.heap.size, 2, none⟩ (Value.slice Av vals.length cv))) :=
        ((hBw.setCell (by simp) _).setCell (by simp) _).setCell (by simp) _
      have HBf := Lib.hid hBf
      have hTw : Tbl wr (w.heap.size + 1) := hb1.below hBe (by omega)
      have HTw := Lib.hid hTw
      rw [List.take_length] at hR
      have hPt := Lib.hid (show Kd.C (Kd.int .u8) _ A' pts.length pts from by
        obtain ⟨A2, c2, e2, hc2, hC2⟩ := Kd.R_reads (Kd.R_far (p := ⟨w.heap.size, 2, none⟩) (Kd.R_far (p := ⟨w.heap.size, 1, none⟩) (Kd.R_far (p := ⟨w.heap.size, 0, none⟩) hR (fun k hk => by simp; omega) (Value.slice A' pts.length c')) (fun k hk => by simp; omega) (Value.pointer (some { block := w.heap.size + 1, off := 0 }))) (fun k hk => by simp; omega) (Value.slice Av vals.length cv))
        cases e2
        exact hC2)
      have HOW : Hid (∀ ad, A' = some ad → w.heap.size ≤ ad.block) := Lib.hid (by
        rintro ad rfl
        have := ((Kd.R_bound hR).1 ad.block rfl).1
        omega)
      have hCap : pts.length ≤ c' := by
        obtain ⟨A2, c2, e2, hc2, hC2⟩ := Kd.R_reads hR
        cases e2
        exact hc2
      clear hWs hb0 hb1 hb2 hBW hR hbx hBe hBw hy hBf hTw hl
      go_wp2
      have hTf : Tbl (((wr.setCell ⟨w.heap.size, 0, none⟩ (Value.slice A' pts.length c')).setCell ⟨w.heap.size, 1, none⟩ (Value.pointer (some { block := w.heap.size + 1, off := 0 }))).setCell ⟨w.heap.size, 2, none⟩ (Value.slice Av vals.length cv)) (w.heap.size + 1) :=
        Box.far (Box.far (Box.far HTw.out (by simp) _) (by simp) _) (by simp) _
      exact bodyPost_ret (v := .agg #[.slice A' pts.length c', .pointer (some ⟨w.heap.size + 1, 0, none⟩), .slice Av vals.length cv]) (by simp [results, Tryz.results78, go_sem, y0, y1, y2]) rfl
        ⟨w.heap.size + 1, A', c', rfl, ⟨hTf, hPt.out, hCap, HB.out, hlen, Kd.C_below HV.out HBf.out, hcv, HN.out, h1, HL.out, hLb⟩, HBf.out, by omega, HOW.out⟩
theorem through_any (A : Option Addr) (c : Nat) (pts : List Int) (Av : Option Addr) (cv : Nat) (vals : List ByteArray) (L : Nat) (w : World) (hp : Kd.C (Kd.int .i64) w A pts.length pts) (hc : pts.length ≤ c)
    (hb : ∀ i : Nat, i < pts.length → IsB (rd pts i)) (hlen : pts.length ≤ 1000) (hv : Kd.C Kd.string w Av vals.length vals) (hcv : vals.length ≤ cv)
    (hn : pts.length = vals.length) (h1 : 0 < vals.length) (hL : ∀ i : Nat, i < vals.length → (vs vals i).size = L) (hLb : L ≤ 1000000) :
    Calls Tryz.prog 78 #[.slice A pts.length c, .slice Av vals.length cv] w fun e w' => ∃ g A' c', e = .returned (.agg #[.slice A' pts.length c', .pointer (some ⟨g, 0, none⟩), .slice Av vals.length cv]) ∧ Poly w' g A' c' pts Av cv vals L ∧ Below w.heap.size w w' :=
  (through_own A c pts Av cv vals L w hp hc hb hlen hv hcv hn h1 hL hLb).mono fun e w' ⟨g, A', c', he, hP, hB, _⟩ => ⟨g, A', c', he, hP, hB⟩
/-- A store into a block that a polynomial does not use. -/
theorem Poly.far {w : World} {g : Nat} {A : Option Addr} {c : Nat} {pts : List Int} {Av : Option Addr} {cv : Nat} {vals : List ByteArray} {L : Nat} (h : Poly w g A c pts Av cv vals L) (p : Addr) (x : Value) (hg : g ≠ p.block) (hA : ∀ ad, A = some ad → ad.block ≠ p.block) (hAv : ∀ ad, Av = some ad → ad.block ≠ p.block) :
    Poly (w.setCell p x) g A c pts Av cv vals L := by
  have hk : KeepBut w (w.setCell p x) p.block none := ⟨by simp [World.setCell], fun i _ hi _ => Below.heap_setCell w p x i hi⟩
  exact { h with tbl := Box.far h.tbl hg x, hpts := keep_C (h1 := fun _ => rfl) h.hpts hk (fun ad e _ => hA ad e), hvals := keep_C (h1 := fun _ => rfl) h.hvals hk (fun ad e _ => hAv ad e) }
end Go.Proofs.YtkdjibejnncmfaaGreatDoor.Co

/- The walks of first, isShare, numbered, and slices.Contains at int. -/
namespace Go.Proofs.YtkdjibejnncmfaaGreatDoor.Co
open Go.RowKit Go.Proofs.YtkdjibejnncmfaaGreatDoorW.PrintWords Go.Proofs.YtkdjibejnncmfaaGreatDoorW.PrintLast Go.Proofs.YtkdjibejnncmfaaGreatDoorW.PrintMore
set_option linter.unusedVariables false
set_option linter.unusedSimpArgs false
set_option maxRecDepth 100000
def firstL (n : Nat) : List Int := (List.range n).map fun (i : Nat) => (i : Int)
theorem firstL_succ (n : Nat) : firstL (n + 1) = firstL n ++ [(n : Int)] := by unfold firstL; rw [List.range_succ, List.map_append]; rfl
theorem firstL_length (n : Nat) : (firstL n).length = n := by simp [firstL]
theorem rd_firstL (n i : Nat) (h : i < n) : rd (firstL n) i = i := by rw [rd_nat _ _ (by rw [firstL_length]; exact h)]; simp [firstL]
set_option maxHeartbeats 400000 in
theorem first_any (n : Nat) (w : World) (hn : n ≤ 1000) :
    Calls Tryz.prog 79 #[.int .i64 (n : Int)] w fun e w' => ∃ v, e = .returned v ∧ Kd.R (Kd.int .i64) 3 w' w.heap.size (fun _ => True) v (firstL n) ∧ Below w.heap.size w w' := by
  go_enter Tryz.func79, Tryz.ntmps79
  go_wp2_with fail
  go_loopw [3, 6] (fun v i wr => ∃ k : Nat, k ≤ n ∧ i = .int .i64 k ∧ Kd.R (Kd.int .i64) 3 wr w.heap.size (fun _ => True) v (firstL k) ∧ Below w.heap.size w wr) (fun _ i _ => n - (intOf i).toNat)
  case atStart => exact ⟨0, by omega, rfl, Kd.R_nil _ _ _ _ _, Below.refl _ _⟩
  case round =>
    obtain ⟨k, hk, rfl, hR, hB⟩ := hrel
    have HR := Lib.hid hR
    have HB := Lib.hid hB
    have hBs := hB.size
    clear hR hB
    by_cases hlt : k < n
    · have HS := Lib.hid (firstL_succ k)
      have HL := Lib.hid (firstL_length k)
      go_wp2_with ((with_reducible refine gate_builtin (b := .append) (xs := #[.tmp 9, .tmp 11]) rfl ?_); at_builtin; refine Kd.R_append (Kd.int .i64) (w0 := w) w.heap.size rfl (.tmp 9) (.tmp 11) 34 3 (.int .i64 0) 8 rfl Tryz.underlying34 info3 rfl (by decide) (by omega) u3 (firstL k) (k : Int) [.int .i64 (k : Int)] (fun _ => True) (fun _ => False) rfl rfl ?aP (fun _ hk => hk.elim) ?aF ?aO ?aB ?aS ?aL ?_; (case aP => exact rfl); (case aF => exact (fun _ hk => trivial)); (case aO => exact HR.out); (case aB => exact HB.out); (case aS => exact hBs); (case aL => rw [HL.out]; omega); intro v1 w1 ho hb hg hat; have ho1 := Lib.hid ho; clear ho hg hat)
      go_roundw
      case rel => exact ⟨k + 1, by omega, by go_num, by rw [HS.out]; exact ho1.out, by assumption⟩
      case measure => simp [intOf]; omega
    · obtain rfl : k = n := by omega
      go_wp2
      go_ret
      exact ⟨_, rfl, HR.out, HB.out⟩
set_option maxHeartbeats 400000 in
theorem isShare_any (k : Int) (w : World) : Calls Tryz.prog 86 #[.int .i64 k] w fun e w' => e = .returned (.bool (decide (1 ≤ k ∧ k ≤ 12))) ∧ w = w' := by
  by_cases h1 : 1 ≤ k
  · by_cases h2 : k ≤ 12
    · go_enter Tryz.func86, Tryz.ntmps86
      go_wp2
      go_ret
      exact ⟨ret_bool' (by simp [h1, h2]), rfl⟩
    · go_enter Tryz.func86, Tryz.ntmps86
      go_wp2
      go_ret
      exact ⟨ret_bool' (by simp; omega), rfl⟩
  · go_enter Tryz.func86, Tryz.ntmps86
    go_wp2
    go_ret
    exact ⟨ret_bool' (by simp; omega), rfl⟩
/-- The first index from k on at which a number stands; -1, if there is none. -/
def idxI (x : Int) : List Int → Nat → Int
  | [], _ => -1
  | y :: l, k => if x = y then (k : Int) else idxI x l (k + 1)
theorem idxI_any (x : Int) : ∀ (l : List Int) (k : Nat), decide (0 ≤ idxI x l k) = l.contains x
  | [], k => by simp [idxI]
  | y :: l, k => by
    unfold idxI
    by_cases h : x = y
    · rw [if_pos h]; simp [h]
    · rw [if_neg h, idxI_any x l (k + 1)]; simp [h]
theorem idxI_drop (x : Int) (l : List Int) (k j : Nat) (h : k < l.length) :
    idxI x (l.drop k) j = if x = rd l k then (j : Int) else idxI x (l.drop (k + 1)) (j + 1) := by
  rw [List.drop_eq_getElem_cons h, rd_nat l k h]
  rfl
set_option maxHeartbeats 400000 in
theorem indexI_any (A : Option Addr) (c : Nat) (l : List Int) (x : Int) (w : World) (hC : Kd.C (Kd.int .i64) w A l.length l) (hc : l.length ≤ c) :
    Calls Tryz.prog 102 #[.slice A l.length c, .int .i64 x] w fun e w' => e = .returned (.int .i64 (idxI x l 0)) ∧ w = w' := by
  have hm : l.length ≤ 9223372036854775807 := hC.2.1
  have HC := Lib.hid hC
  clear hC
  go_enter Tryz.func102, Tryz.ntmps102
  go_wp2_with fail
  go_loop [8] (fun i => ∃ k : Nat, k ≤ l.length ∧ i = .int .i64 k ∧ Hid (idxI x l 0 = idxI x (l.drop k) k)) (fun i => l.length - (intOf i).toNat)
  case atStart => exact ⟨0, by omega, rfl, Lib.hid rfl⟩
  case round =>
    obtain ⟨k, hk, rfl, hI⟩ := hrel
    by_cases hlt : k < l.length
    · obtain ⟨ad, e, hx⟩ := Kd.at_int HC.out (k : Int) (by omega) (by omega)
      subst e
      simp only [Int.toNat_natCast] at hx
      have hD := Lib.hid (idxI_drop x l k k hlt)
      by_cases hp : x = rd l k
      · have hp1 : (x == rd l k) = true := by simpa using hp
        have HP := Lib.hid hp
        clear hp
        go_wp2_with fail
        go_ret
        exact ⟨ret_int' (by rw [hI.out, hD.out, if_pos HP.out]), rfl⟩
      · have hp' : (x == rd l k) = false := by simpa using hp
        have HP := Lib.hid hp
        clear hp
        go_wp2_with fail
        go_round
        case rel => exact ⟨k + 1, by omega, by go_num, Lib.hid (by rw [hI.out, hD.out, if_neg HP.out])⟩
        case measure => simp [intOf]; omega
    · obtain rfl : k = l.length := by omega
      go_wp2_with fail
      go_ret
      exact ⟨ret_int' (by rw [hI.out]; simp [idxI]), rfl⟩
set_option maxHeartbeats 400000 in
theorem containsI_any (A : Option Addr) (c : Nat) (l : List Int) (x : Int) (w : World) (hC : Kd.C (Kd.int .i64) w A l.length l) (hc : l.length ≤ c) :
    Calls Tryz.prog 48 #[.slice A l.length c, .int .i64 x] w fun e w' => e = .returned (.bool (l.contains x)) ∧ w = w' := by
  have HC := Lib.hid hC
  have HI := Lib.hid (idxI_any x l 0)
  clear hC
  go_enter Tryz.func48, Tryz.ntmps48
  go_wp2_with fail
  refine (indexI_any A c l x w HC.out hc).mono ?_
  rintro e w' ⟨rfl, rfl⟩
  go_wp2_with fail
  go_ret
  exact ⟨ret_bool' (by rw [← HI.out]), rfl⟩
theorem C_take {α : Type} {d : Kd α} {w : World} {A : Option Addr} {l : List α} (h : d.C w A l.length l) (i : Nat) (hi : i ≤ l.length) : d.C w A i (l.take i) := by
  refine ⟨by rw [List.length_take]; omega, by have := h.2.1; omega, fun hp => ?_⟩
  obtain ⟨ad, e, hc⟩ := h.2.2 (by omega)
  refine ⟨ad, e, fun j p hj => ?_⟩
  refine hc j p ?_
  rw [List.getElem?_take] at hj
  split at hj
  · exact hj
  · cases hj
/-- Is the i-th number one from 0 to 11 that none ahead of it is? -/
def numAt (l : List Int) (i : Nat) : Bool := decide (0 ≤ rd l i ∧ rd l i < 12) && !(l.take i).contains (rd l i)
def numF (l : List Int) (m : Nat) : Bool := decide (l.length = m) && (List.range l.length).all (numAt l)
set_option maxHeartbeats 400000 in
theorem numbered_any (A : Option Addr) (c : Nat) (l : List Int) (Av : Option Addr) (m cv : Nat) (w : World) (hC : Kd.C (Kd.int .i64) w A l.length l) (hc : l.length ≤ c) (hcm : c ≤ 9223372036854775807) (hm2 : m ≤ 9223372036854775807) :
    Calls Tryz.prog 84 #[.slice A l.length c, .slice Av m cv] w fun e w' => e = .returned (.bool (numF l m)) ∧ w = w' := by
  have hm : l.length ≤ 9223372036854775807 := hC.2.1
  have HC := Lib.hid hC
  clear hC
  by_cases h0 : l.length = m
  · subst h0
    have HF : Hid ((List.range l.length).all (numAt l) = true → numF l l.length = true) := Lib.hid (fun h => by unfold numF; simp [h])
    have HN : Hid (∀ i, i < l.length → numAt l i = false → numF l l.length = false) := Lib.hid (fun i hi h => by
      unfold numF
      rw [Bool.and_eq_false_iff]
      right
      rw [List.all_eq_false]
      exact ⟨i, List.mem_range.2 hi, by rw [h]; simp⟩)
    go_enter Tryz.func84, Tryz.ntmps84
    go_wp2_with fail
    go_loop [14] (fun i => ∃ k : Nat, k ≤ l.length ∧ i = .int .i64 k ∧ Hid (∀ i, i < k → numAt l i = true)) (fun i => l.length - (intOf i).toNat)
    case atStart => exact ⟨0, by omega, rfl, Lib.hid (fun i hi => by omega)⟩
    case round =>
      obtain ⟨k, hk, rfl, hI⟩ := hrel
      by_cases hlt : k < l.length
      · obtain ⟨ad, e, hx⟩ := Kd.at_int HC.out (k : Int) (by omega) (by omega)
        subst e
        simp only [Int.toNat_natCast] at hx
        have HN1 : Hid (numAt l k = (decide (0 ≤ rd l k ∧ rd l k < 12) && !(l.take k).contains (rd l k))) := Lib.hid rfl
        by_cases h1 : rd l k < 0
        · go_wp2_with fail
          go_ret
          exact ⟨ret_bool' (by rw [HN.out k hlt (by rw [HN1.out]; simp; omega)]), rfl⟩
        · by_cases h2 : 12 ≤ rd l k
          · go_wp2_with fail
            go_ret
            exact ⟨ret_bool' (by rw [HN.out k hlt (by rw [HN1.out]; simp; omega)]), rfl⟩
          · have hkc : k ≤ c := by omega
            have HCT := Lib.hid (C_take HC.out k hk)
            have HTL : Hid ((l.take k).length = k) := Lib.hid (by rw [List.length_take]; omega)
            have hcall : Hid (Calls Tryz.prog 48 #[.slice (some ad) k c, .int .i64 (rd l k)] w fun e w' => e = .returned (.bool ((l.take k).contains (rd l k))) ∧ w = w') := Lib.hid (by
              have h := containsI_any (some ad) c (l.take k) (rd l k) w (by rw [HTL.out]; exact HCT.out) (by rw [HTL.out]; exact hkc)
              rw [HTL.out] at h
              exact h)
            go_wp2_with fail
            refine hcall.out.mono ?_
            rintro e w' ⟨rfl, rfl⟩
            by_cases h3 : (l.take k).contains (rd l k) = true
            · rw [h3]
              go_wp2_with fail
              go_ret
              exact ⟨ret_bool' (by rw [HN.out k hlt (by rw [HN1.out, h3]; simp)]), rfl⟩
            · have h3' : (l.take k).contains (rd l k) = false := by simpa using h3
              rw [h3']
              have H3 := Lib.hid h3'
              clear h3 h3'
              go_wp2_with fail
              go_round
              case rel => exact ⟨k + 1, by omega, by go_num, Lib.hid (fun i hi => by
                by_cases e : i = k
                · subst e; rw [HN1.out, H3.out]; simp; omega
                · exact hI.out i (by omega))⟩
              case measure => simp [intOf]; omega
      · obtain rfl : k = l.length := by omega
        go_wp2_with fail
        go_ret
        exact ⟨ret_bool' (HF.out (by rw [List.all_eq_true]; exact fun i hi => hI.out i (List.mem_range.1 hi))).symm, rfl⟩
  · have hF : Hid (numF l m = false) := Lib.hid (by unfold numF; simp [h0])
    have hne : ((l.length : Int) != (m : Int)) = true := by rw [bne_iff_ne]; omega
    clear h0
    go_enter Tryz.func84, Tryz.ntmps84
    go_wp2_with fail
    go_ret
    exact ⟨ret_bool' hF.out.symm, rfl⟩
end Go.Proofs.YtkdjibejnncmfaaGreatDoor.Co

/- The walks of Encode, Decode, fits, Fits. -/
namespace Go.Proofs.YtkdjibejnncmfaaGreatDoor.Co
open Go.RowKit Go.Proofs.YtkdjibejnncmfaaGreatDoorW.PrintWords Go.Proofs.YtkdjibejnncmfaaGreatDoorW.PrintLast Go.Proofs.YtkdjibejnncmfaaGreatDoorW.PrintMore
set_option linter.unusedVariables false
set_option linter.unusedSimpArgs false
set_option maxRecDepth 100000
theorem vs_mem (l : List ByteArray) (i : Nat) (h : i < l.length) : vs l i ∈ l := by
  unfold vs rdOf
  rw [Int.toNat_natCast, List.getD_eq_getElem?_getD, List.getElem?_eq_getElem h]
  exact List.getElem_mem _
theorem alike_true {l : List ByteArray} {least most : Int} (h : alikeF l least most = true) : least ≤ l.length ∧ l.length ≤ 12 ∧ ((vs l 0).size : Int) ≤ most ∧ ∀ s ∈ l, s.size = (vs l 0).size := by
  unfold alikeF at h
  by_cases h1 : (l.length : Int) < least
  · rw [if_pos h1] at h; cases h
  · rw [if_neg h1] at h
    by_cases h2 : 12 < l.length
    · rw [if_pos h2] at h; cases h
    · rw [if_neg h2] at h
      by_cases h3 : most < ((vs l 0).size : Int)
      · rw [if_pos h3] at h; cases h
      · rw [if_neg h3] at h
        refine ⟨by omega, by omega, by omega, fun s hs => ?_⟩
        simp only [Bool.not_eq_true', List.any_eq_false, bne_iff_ne, ne_eq, Decidable.not_not] at h
        exact h s hs
theorem alike_sizes {l : List ByteArray} {least most : Int} (h : alikeF l least most = true) (i : Nat) (hi : i < l.length) : (vs l i).size = (vs l 0).size := (alike_true h).2.2.2 _ (vs_mem l i hi)
def encOk (l : List ByteArray) (n : Int) : Bool := alikeF l 1 4096 && decide ((l.length : Int) ≤ n) && decide (n ≤ 12)
def encF (l : List ByteArray) (n : Int) : List ByteArray × Int := if encOk l n then (someTo (firstL l.length) l n.toNat, 0) else ([], 1)
set_option maxHeartbeats 400000 in
theorem Encode_any (A : Option Addr) (c : Nat) (l : List ByteArray) (n : Int) (w : World) (hC : Kd.C Kd.string w A l.length l) (hc : l.length ≤ c) (hs : ∀ s ∈ l, s.size ≤ 9223372036854775807) (hcm : c ≤ 9223372036854775807) :
    Calls Tryz.prog 26 #[.slice A l.length c, .int .i64 n] w fun e w' => ∃ v, e = .returned (.tuple #[v, .int .i64 (encF l n).2]) ∧ Kd.R Kd.string 9 w' w.heap.size (fun _ => True) v (encF l n).1 ∧ Below w.heap.size w w' := by
  have hm : l.length ≤ 9223372036854775807 := hC.2.1
  have HC := Lib.hid hC
  have HS := Lib.hid hs
  clear hC hs
  have hbad : encOk l n = false → Hid (encF l n = ([], 1)) := fun h => Lib.hid (by unfold encF; rw [h]; rfl)
  by_cases ha : alikeF l 1 4096 = true
  · obtain ⟨hl1, hl2, hsz, hall⟩ := alike_true ha
    have HA := Lib.hid ha
    by_cases h2 : (l.length : Int) ≤ n
    · by_cases h3 : n ≤ 12
      · have hF : Hid (encF l n = (someTo (firstL l.length) l n.toNat, 0)) := Lib.hid (by unfold encF encOk; rw [ha]; simp [h2, h3])
        obtain ⟨m, rfl⟩ := Int.eq_ofNat_of_zero_le (show 0 ≤ n by omega)
        simp only [Int.toNat_natCast] at hF
        have HALL := Lib.hid hall
        have HSZ := Lib.hid hsz
        clear ha hbad hall hsz
        go_enter Tryz.func26, Tryz.ntmps26
        go_wp2_with fail
        refine (alike_any A c l 1 4096 w HC.out hc (by omega) HS.out).mono ?_
        rintro e w1 ⟨rfl, hb1⟩
        rw [HA.out]
        have HB1 := Lib.hid hb1
        have HC1 := Lib.hid (Kd.C_below HC.out hb1)
        clear hb1
        go_wp2_with fail
        refine (first_any l.length w1 (by omega)).mono ?_
        rintro e w2 ⟨v, rfl, hR, hb2⟩
        obtain ⟨A2, c2, rfl, hc2, hC2⟩ := Kd.R_reads hR
        rw [firstL_length] at hc2 hC2 ⊢
        have HC2 := Lib.hid hC2
        have HB2 := Lib.hid (HB1.out.trans (hb2.mono HB1.out.size))
        have HCl := Lib.hid (Kd.C_below HC1.out hb2)
        have HFL : Hid ((firstL l.length).length = l.length) := Lib.hid (firstL_length _)
        clear hR hC2 hb2
        go_wp2_with fail
        have hthr := through_any A2 c2 (firstL l.length) A c l (vs l 0).size w2 (by rw [HFL.out]; exact HC2.out) (by rw [HFL.out]; exact hc2) (fun i hi => by rw [HFL.out] at hi; rw [rd_firstL _ _ hi]; exact ⟨by omega, by omega⟩)
          (by rw [HFL.out]; omega) HCl.out hc HFL.out (by omega) (fun i hi => HALL.out _ (vs_mem l i hi)) (by have := HSZ.out; omega)
        rw [HFL.out] at hthr
        refine hthr.mono ?_
        rintro e w3 ⟨g, A3, c3, rfl, hP, hb3⟩
        have HP := Lib.hid hP
        have HB3 := Lib.hid (HB2.out.trans (hb3.mono HB2.out.size))
        clear hP hb3 hthr
        go_wp2_with fail
        have hsm := some_any m w3 HP.out (by omega)
        rw [HFL.out] at hsm
        refine hsm.mono ?_
        rintro e w4 ⟨v4, rfl, hR4, hb4⟩
        have HR4 := Lib.hid (Kd.R_lower hR4 HB3.out.size)
        have HB4 := Lib.hid (HB3.out.trans (hb4.mono HB3.out.size))
        clear hR4 hb4 hsm
        go_wp2_with fail
        go_ret2
        exact ⟨v4, by rw [hF.out]; rfl, by rw [hF.out]; exact HR4.out, HB4.out⟩
      · have hF := hbad (by unfold encOk; simp [h3])
        clear ha hbad hall hsz
        go_enter Tryz.func26, Tryz.ntmps26
        go_wp2_with fail
        refine (alike_any A c l 1 4096 w HC.out hc (by omega) HS.out).mono ?_
        rintro e w1 ⟨rfl, hb1⟩
        rw [HA.out]
        have HB1 := Lib.hid hb1
        clear hb1
        go_wp2_with fail
        go_ret2
        exact ⟨.slice none 0 0, by rw [hF.out]; rfl, by rw [hF.out]; exact Kd.R_nil _ _ _ _ _, HB1.out⟩
    · have hF := hbad (by unfold encOk; simp [h2])
      clear ha hbad hall hsz
      go_enter Tryz.func26, Tryz.ntmps26
      go_wp2_with fail
      refine (alike_any A c l 1 4096 w HC.out hc (by omega) HS.out).mono ?_
      rintro e w1 ⟨rfl, hb1⟩
      rw [HA.out]
      have HB1 := Lib.hid hb1
      clear hb1
      go_wp2_with fail
      go_ret2
      exact ⟨.slice none 0 0, by rw [hF.out]; rfl, by rw [hF.out]; exact Kd.R_nil _ _ _ _ _, HB1.out⟩
  · have ha' : alikeF l 1 4096 = false := by simpa using ha
    have hF := hbad (by unfold encOk; simp [ha'])
    have HA := Lib.hid ha'
    clear ha hbad ha'
    go_enter Tryz.func26, Tryz.ntmps26
    go_wp2_with fail
    refine (alike_any A c l 1 4096 w HC.out hc (by omega) HS.out).mono ?_
    rintro e w1 ⟨rfl, hb1⟩
    rw [HA.out]
    have HB1 := Lib.hid hb1
    clear hb1
    go_wp2_with fail
    go_ret2
    exact ⟨.slice none 0 0, by rw [hF.out]; rfl, by rw [hF.out]; exact Kd.R_nil _ _ _ _ _, HB1.out⟩
end Go.Proofs.YtkdjibejnncmfaaGreatDoor.Co

/- The walks of Decode, fits, Fits. -/
namespace Go.Proofs.YtkdjibejnncmfaaGreatDoor.Co
open Go.RowKit Go.Proofs.YtkdjibejnncmfaaGreatDoorW.PrintWords Go.Proofs.YtkdjibejnncmfaaGreatDoorW.PrintLast Go.Proofs.YtkdjibejnncmfaaGreatDoorW.PrintMore
set_option linter.unusedVariables false
set_option linter.unusedSimpArgs false
set_option maxRecDepth 100000
theorem num_true {l : List Int} {m : Nat} (h : numF l m = true) : l.length = m ∧ ∀ i : Nat, i < l.length → IsB (rd l i) ∧ rd l i < 12 := by
  unfold numF at h
  simp only [Bool.and_eq_true, decide_eq_true_eq, List.all_eq_true] at h
  refine ⟨h.1, fun i hi => ?_⟩
  have := h.2 i (List.mem_range.2 hi)
  unfold numAt at this
  simp only [Bool.and_eq_true, decide_eq_true_eq] at this
  exact ⟨⟨this.1.1, by omega⟩, this.1.2⟩
def decOk (at_ : List Int) (l : List ByteArray) : Bool := alikeF l 1 4096 && numF at_ l.length
def decF (at_ : List Int) (l : List ByteArray) : List ByteArray × Int := if decOk at_ l then (someTo at_ l l.length, 0) else ([], 1)
set_option maxHeartbeats 400000 in
theorem Decode_any (A : Option Addr) (c : Nat) (l : List ByteArray) (Aa : Option Addr) (ca : Nat) (at_ : List Int) (w : World) (hC : Kd.C Kd.string w A l.length l) (hc : l.length ≤ c) (hs : ∀ s ∈ l, s.size ≤ 9223372036854775807)
    (hCa : Kd.C (Kd.int .i64) w Aa at_.length at_) (hca : at_.length ≤ ca) (hcm : ca ≤ 9223372036854775807) :
    Calls Tryz.prog 28 #[.slice Aa at_.length ca, .slice A l.length c] w fun e w' => ∃ v, e = .returned (.tuple #[v, .int .i64 (decF at_ l).2]) ∧ Kd.R Kd.string 9 w' w.heap.size (fun _ => True) v (decF at_ l).1 ∧ Below w.heap.size w w' := by
  have hm : l.length ≤ 9223372036854775807 := hC.2.1
  have HC := Lib.hid hC
  have HCa := Lib.hid hCa
  have HS := Lib.hid hs
  clear hC hs hCa
  have hbad : decOk at_ l = false → Hid (decF at_ l = ([], 1)) := fun h => Lib.hid (by unfold decF; rw [h]; rfl)
  by_cases ha : alikeF l 1 4096 = true
  · obtain ⟨hl1, hl2, hsz, hall⟩ := alike_true ha
    have HA := Lib.hid ha
    by_cases h2 : numF at_ l.length = true
    · have hF : Hid (decF at_ l = (someTo at_ l l.length, 0)) := Lib.hid (by unfold decF decOk; rw [ha, h2]; rfl)
      obtain ⟨hln, hel⟩ := num_true h2
      have HALL := Lib.hid hall
      have HSZ := Lib.hid hsz
      have HLN := Lib.hid hln
      have HEL := Lib.hid hel
      have HN := Lib.hid h2
      clear ha hbad hall hsz hln hel h2
      go_enter Tryz.func28, Tryz.ntmps28
      go_wp2_with fail
      refine (alike_any A c l 1 4096 w HC.out hc (by omega) HS.out).mono ?_
      rintro e w1 ⟨rfl, hb1⟩
      rw [HA.out]
      have HB1 := Lib.hid hb1
      have HC1 := Lib.hid (Kd.C_below HC.out hb1)
      have HCa1 := Lib.hid (Kd.C_below HCa.out hb1)
      clear hb1
      go_wp2_with fail
      refine (numbered_any Aa ca at_ A l.length c w1 HCa1.out hca hcm hm).mono ?_
      rintro e w' ⟨rfl, rfl⟩
      rw [HN.out]
      go_wp2_with fail
      refine (through_any Aa ca at_ A c l (vs l 0).size w1 HCa1.out hca (fun i hi => (HEL.out i hi).1) (by rw [HLN.out]; omega) HC1.out hc HLN.out (by omega) (fun i hi => HALL.out _ (vs_mem l i hi)) (by have := HSZ.out; omega)).mono ?_
      rintro e w3 ⟨g, A3, c3, rfl, hP, hb3⟩
      have HP := Lib.hid hP
      have HB3 := Lib.hid (HB1.out.trans (hb3.mono HB1.out.size))
      clear hP hb3
      go_wp2_with fail
      refine (some_any l.length w3 HP.out (by omega)).mono ?_
      rintro e w4 ⟨v4, rfl, hR4, hb4⟩
      have HR4 := Lib.hid (Kd.R_lower hR4 HB3.out.size)
      have HB4 := Lib.hid (HB3.out.trans (hb4.mono HB3.out.size))
      clear hR4 hb4
      go_wp2_with fail
      go_ret2
      exact ⟨v4, by rw [hF.out]; rfl, by rw [hF.out]; exact HR4.out, HB4.out⟩
    · have h2' : numF at_ l.length = false := by simpa using h2
      have hF := hbad (by unfold decOk; simp [h2'])
      have HN := Lib.hid h2'
      clear ha hbad hall hsz h2 h2'
      go_enter Tryz.func28, Tryz.ntmps28
      go_wp2_with fail
      refine (alike_any A c l 1 4096 w HC.out hc (by omega) HS.out).mono ?_
      rintro e w1 ⟨rfl, hb1⟩
      rw [HA.out]
      have HB1 := Lib.hid hb1
      have HCa1 := Lib.hid (Kd.C_below HCa.out hb1)
      clear hb1
      go_wp2_with fail
      refine (numbered_any Aa ca at_ A l.length c w1 HCa1.out hca hcm hm).mono ?_
      rintro e w' ⟨rfl, rfl⟩
      rw [HN.out]
      go_wp2_with fail
      go_ret2
      exact ⟨.slice none 0 0, by rw [hF.out]; rfl, by rw [hF.out]; exact Kd.R_nil _ _ _ _ _, HB1.out⟩
  · have ha' : alikeF l 1 4096 = false := by simpa using ha
    have hF := hbad (by unfold decOk; simp [ha'])
    have HA := Lib.hid ha'
    clear ha hbad ha'
    go_enter Tryz.func28, Tryz.ntmps28
    go_wp2_with fail
    refine (alike_any A c l 1 4096 w HC.out hc (by omega) HS.out).mono ?_
    rintro e w1 ⟨rfl, hb1⟩
    rw [HA.out]
    have HB1 := Lib.hid hb1
    clear hb1
    go_wp2_with fail
    go_ret2
    exact ⟨.slice none 0 0, by rw [hF.out]; rfl, by rw [hF.out]; exact Kd.R_nil _ _ _ _ _, HB1.out⟩
end Go.Proofs.YtkdjibejnncmfaaGreatDoor.Co

/- The walks of fits, Fits. -/
namespace Go.Proofs.YtkdjibejnncmfaaGreatDoor.Co
open Go.RowKit Go.Proofs.YtkdjibejnncmfaaGreatDoorW.PrintWords Go.Proofs.YtkdjibejnncmfaaGreatDoorW.PrintLast Go.Proofs.YtkdjibejnncmfaaGreatDoorW.PrintMore
set_option linter.unusedVariables false
set_option linter.unusedSimpArgs false
set_option maxRecDepth 100000
/-- Do the texts behind the first k fit these? -/
def fitAt (k : Nat) (at_ : List Int) (l : List ByteArray) (i : Nat) : Bool := (pieceF (at_.take k) (l.take k) (rd at_ i)).toList == (vs l i).toList
def fitsF (k : Nat) (at_ : List Int) (l : List ByteArray) : Bool := (List.range l.length).all fun i => decide (i < k) || fitAt k at_ l i
theorem cell_below {w w' : World} {a : Addr} {v : Value} (hb : Below w.heap.size w w') (hc : w.cell? a = some v) : w'.cell? a = some v := (hb.cell (World.block_lt_of_cell? w a hc)).trans hc
theorem rel_call {P : Program} {f : FuncId} {args : Array Value} {W wr : World} {Q : Ending → Prop} (h : Calls P f args W fun e w' => Q e ∧ Below W.heap.size W w') (hb : Below wr.heap.size wr W) :
    Calls P f args W fun e w' => Q e ∧ Below wr.heap.size wr w' := h.mono fun _ _ h => ⟨h.1, hb.trans (h.2.mono hb.size)⟩
theorem u8_byte {x : Int} (h : IsB x) : IntKind.u8.wrap x = x := by rw [IntKind.wrap_u8']; have := h.1; have := h.2; omega
theorem fitsF_false {k : Nat} {at_ : List Int} {l : List ByteArray} (q : Nat) (h : k ≤ q) (h2 : q < l.length) (h3 : fitAt k at_ l q = false) : fitsF k at_ l = false := by
  unfold fitsF
  rw [List.all_eq_false]
  exact ⟨q, List.mem_range.2 h2, by simp [h3]; omega⟩
theorem fitsF_true {k : Nat} {at_ : List Int} {l : List ByteArray} (h : ∀ i, k ≤ i → i < l.length → fitAt k at_ l i = true) : fitsF k at_ l = true := by
  unfold fitsF
  rw [List.all_eq_true]
  intro i hi
  by_cases e : i < k
  · simp [e]
  · simp [h i (by omega) (List.mem_range.1 hi)]
theorem newbox (w : World) {w' : World} (hb : Below (w.alloc (.cells #[Value.slice none 0 0, Value.pointer none, Value.slice none 0 0] 115)).drew.heap.size (w.alloc (.cells #[Value.slice none 0 0, Value.pointer none, Value.slice none 0 0] 115)).drew w') :
    Box w' w.heap.size 115 #[Value.slice none 0 0, Value.pointer none, Value.slice none 0 0] :=
  Box.below (w := (w.alloc (.cells #[Value.slice none 0 0, Value.pointer none, Value.slice none 0 0] 115)).drew) (Box.new w #[Value.slice none 0 0, Value.pointer none, Value.slice none 0 0] 115) hb (by simp)
set_option maxHeartbeats 400000 in
theorem fits_any (k : Nat) (A : Option Addr) (c : Nat) (l : List ByteArray) (Aa : Option Addr) (ca : Nat) (at_ : List Int) (L : Nat) (w : World) (hC : Kd.C Kd.string w A l.length l) (hc : l.length ≤ c)
    (hCa : Kd.C (Kd.int .i64) w Aa at_.length at_) (hca : at_.length ≤ ca) (hcm : ca ≤ 9223372036854775807) (hcm2 : c ≤ 9223372036854775807)
    (hk : 1 ≤ k) (hkl : k ≤ l.length) (hln : at_.length = l.length) (hl12 : l.length ≤ 12) (hb : ∀ i : Nat, i < at_.length → IsB (rd at_ i)) (hL : ∀ i : Nat, i < l.length → (vs l i).size = L) (hLb : L ≤ 1000000) :
    Calls Tryz.prog 87 #[.int .i64 (k : Int), .slice Aa at_.length ca, .slice A l.length c] w fun e w' => e = .returned (.bool (fitsF k at_ l)) ∧ Below w.heap.size w w' := by
  have HC := Lib.hid hC
  have HCa := Lib.hid hCa
  have HLN := Lib.hid hln
  have HB := Lib.hid hb
  have HL := Lib.hid hL
  have hka : k ≤ ca := by omega
  have hkc : k ≤ c := by omega
  have h1 : (at_.take k).length = k := by rw [List.length_take]; omega
  have h2 : (l.take k).length = k := by rw [List.length_take]; omega
  have hC' := C_take hC k hkl
  have hCa' := C_take hCa k (by omega)
  have hrd : ∀ i : Nat, i < k → rd (at_.take k) i = rd at_ i := by
    intro i hi
    unfold rd
    simp [List.getD_eq_getElem?_getD, List.getElem?_take, hi]
  have hvs : ∀ i : Nat, i < k → vs (l.take k) i = vs l i := by
    intro i hi
    unfold vs rdOf
    simp [List.getD_eq_getElem?_getD, List.getElem?_take, hi]
  have hthr : ∀ W : World, Below w.heap.size w W → Calls Tryz.prog 78 #[.slice Aa k ca, .slice A k c] W fun e w' => ∃ g A' c', e = .returned (.agg #[.slice A' k c', .pointer (some ⟨g, 0, none⟩), .slice A k c]) ∧ Poly w' g A' c' (at_.take k) A c (l.take k) L ∧ Below W.heap.size W w' ∧ W.heap.size ≤ g ∧ ∀ ad, A' = some ad → W.heap.size ≤ ad.block := by
    intro W hW
    have := through_own Aa ca (at_.take k) A c (l.take k) L W (by rw [h1]; exact Kd.C_below hCa' hW) (by omega) (fun i hi => by rw [hrd i (by omega)]; exact hb i (by omega)) (by omega) (by rw [h2]; exact Kd.C_below hC' hW) (by omega) (by omega) (by omega)
      (fun i hi => by rw [hvs i (by omega)]; exact hL i (by omega)) hLb
    rw [h1, h2] at this
    exact this
  have HT := Lib.hid hthr
  clear hC hCa hln hb hL hC' hCa' hrd hvs hthr
  have H1 := Lib.hid h1
  have H2 := Lib.hid h2
  clear h1 h2
  go_enter Tryz.func87, Tryz.ntmps87
  go_upto_region 1 with fail
  go_cut [7] (fun v7 wx => ∃ bp g A' c', v7 = .pointer (some ⟨bp, 0, none⟩) ∧ Box wx bp 115 #[.slice A' k c', .pointer (some ⟨g, 0, none⟩), .slice A k c] ∧ Poly wx g A' c' (at_.take k) A c (l.take k) L ∧ Below w.heap.size w wx)
  case first =>
    go_region_with (go_at_call 78; refine (HT.out _ (by first | exact (Below.refl _ _).drew | exact ((Below.refl _ _).alloc (Nat.le_refl _) _).drew)).mono ?_; rintro e w' ⟨g, A', c', rfl, hP, hb3, hgn, hAn⟩; try (have q := newbox w hb3; have q0 := q.cell 0; have q1 := q.cell 1; have q2 := q.cell 2; have r0 := q.frozen 0; have r1 := q.frozen 1; have r2 := q.frozen 2; simp only [List.getElem?_toArray, List.getElem?_cons_zero, List.getElem?_cons_succ] at q0 q1 q2; have HQ := Lib.hid q; clear q))
    all_goals (go_wp2_with fail; go_meet)
    · exact ⟨_, g, A', c', rfl, Box.new _ _ _, hP.below ((Below.refl _ _).alloc (Nat.le_refl _) _), ((Below.refl w.heap.size w).drew.trans hb3).alloc hb3.size _⟩
    · have hbw : Below w.heap.size w w' := (((Below.refl w.heap.size w).alloc (Nat.le_refl _) _).drew).trans (hb3.mono (by simp))
      have hbs : Below w'.heap.size w' w' := Below.refl _ _
      refine ⟨_, g, A', c', rfl, ((HQ.out.set 0 _).set 1 _).set 2 _, ?_, ((hbw.setCell (by simp) _).setCell (by simp) _).setCell (by simp) _⟩
      have hgn' : w.heap.size < g := by simp at hgn; omega
      have hA' : ∀ ad, A' = some ad → ad.block ≠ w.heap.size := by intro ad e; have := hAn ad e; simp at this; omega
      have hV' : ∀ ad, A = some ad → ad.block ≠ w.heap.size := by intro ad e; have := C_lt (h1 := fun _ => rfl) HC.out ad e (by omega); omega
      exact ((hP.far ⟨w.heap.size, 0, none⟩ _ (by simp; omega) hA' hV').far ⟨w.heap.size, 1, none⟩ _ (by simp; omega) hA' hV').far ⟨w.heap.size, 2, none⟩ _ (by simp; omega) hA' hV'
  case rest =>
    obtain ⟨bp, g, A', c', rfl, hbx, hP, hB0⟩ := hcut
    go_wp2_with fail
    go_loopw [8] (fun i wr => ∃ q : Nat, k ≤ q ∧ q ≤ l.length ∧ i = .int .i64 (q : Int) ∧ Below wc.heap.size wc wr ∧ Hid (∀ i, k ≤ i → i < q → fitAt k at_ l i = true)) (fun i _ => l.length - (intOf i).toNat)
    case atStart => exact ⟨k, by omega, by omega, rfl, Below.refl _ _, Lib.hid (fun i hi hi2 => by omega)⟩
    case round =>
      obtain ⟨q, hkq, hq, rfl, hBr, hI⟩ := hrel
      have HBr := Lib.hid hBr
      have HP := Lib.hid (hP.below hBr)
      have hx1 := hbx.below hBr hbx.lt
      have x0 := hx1.cell 0
      have x1 := hx1.cell 1
      have x2 := hx1.cell 2
      simp only [List.getElem?_toArray, List.getElem?_cons_zero, List.getElem?_cons_succ] at x0 x1 x2
      have hBt : Below w.heap.size w wr := hB0.trans (hBr.mono hB0.size)
      have HBt := Lib.hid hBt
      by_cases hlt : q < l.length
      · obtain ⟨ad, e, hxa⟩ := Kd.at_int (Kd.C_below HCa.out hBt) (q : Int) (by omega) (by have := HLN.out; omega)
        obtain ⟨adv, ev, hxv⟩ := Kd.at_string (Kd.C_below HC.out hBt) (q : Int) (by omega) (by omega)
        subst e
        subst ev
        simp only [Int.toNat_natCast] at hxa hxv
        have hxv' : wr.cell? (adv.add q) = some (.string (vs l (q : Int))) := hxv
        have hbk := HB.out q (by have := HLN.out; omega)
        have HBK := Lib.hid hbk
        obtain ⟨hb0, hb1⟩ := hbk
        have i0 : (0 : Int) ≤ (q : Int) := by omega
        have i1 : (q : Int) < (at_.length : Int) := by have := HLN.out; omega
        have i2 : (q : Int) < (l.length : Int) := by omega
        have hpc : Hid (∀ W : World, Below wr.heap.size wr W → Calls Tryz.prog 127 #[.agg #[.slice A' k c', .pointer (some ⟨g, 0, none⟩), .slice (some adv) k c], .int .u8 (rd at_ q)] W fun e w' => e = .returned (.string (pieceF (at_.take k) (l.take k) (rd at_ q))) ∧ Below W.heap.size W w') := Lib.hid (by
          intro W hW
          have := piece_poly (rd at_ q) W (HP.out.below hW) HBK.out
          rw [H1.out, H2.out] at this
          exact this)
        have hw8 := u8_byte HBK.out
        have HF : Hid (fitAt k at_ l q = ((pieceF (at_.take k) (l.take k) (rd at_ q)).toList == (vs l q).toList)) := Lib.hid rfl
        obtain ⟨px, hpx⟩ : ∃ px, px = pieceF (at_.take k) (l.take k) (rd at_ q) := ⟨_, rfl⟩
        rw [← hpx] at hpc HF
        clear hxv hBr hx1 hBt hpx
        go_upto_region 5 with fail
        go_region_held3 (fun W => Below wr.heap.size wr W ∧ (W.cell? ⟨bp, 0, none⟩ = some (.slice A' k c') ∧ W.cell? ⟨bp, 1, none⟩ = some (.pointer (some ⟨g, 0, none⟩)) ∧ W.cell? ⟨bp, 2, none⟩ = some (.slice (some adv) k c)) ∧ W.cell? (ad.add q) = some (.int .i64 (rd at_ q)) ∧ W.cell? (adv.add q) = some (.string (vs l q))) ((and_intros <;> first | ((first | assumption | exact Below.refl _ _ | (apply Below.drew; first | assumption | exact Below.refl _ _) | (repeat (first | assumption | exact Below.refl _ _ | apply Below.drew))); done) | (refine cell_below (w := wr) ?_ (by assumption); (first | assumption | exact Below.refl _ _ | (apply Below.drew; first | assumption | exact Below.refl _ _) | (repeat (first | assumption | exact Below.refl _ _ | apply Below.drew))); done)))
          ((go_at_call 127; refine (rel_call (wr := wr) (hpc.out _ (by (first | assumption | exact Below.refl _ _ | (apply Below.drew; first | assumption | exact Below.refl _ _) | (repeat (first | assumption | exact Below.refl _ _ | apply Below.drew))))) (by (first | assumption | exact Below.refl _ _ | (apply Below.drew; first | assumption | exact Below.refl _ _) | (repeat (first | assumption | exact Below.refl _ _ | apply Below.drew))))).mono ?_; rintro e w' ⟨rfl, hb5⟩))
        by_cases hpv : (px.toList == (vs l q).toList) = true
        · rw [hpv]
          have HFF : Hid (fitAt k at_ l q = true) := Lib.hid (HF.out.trans hpv)
          have hbb := hb5
          clear HF hb5
          go_wp2_with fail
          go_roundw
          case rel => exact ⟨q + 1, by omega, by omega, by simp, HBr.out.trans (hbb.mono HBr.out.size), Lib.hid (fun i hi hi2 => by
            by_cases e : i = q
            · rw [e]; exact HFF.out
            · exact hI.out i hi (by omega))⟩
          case measure => simp [intOf]; omega
        · have hpf : (px.toList == (vs l q).toList) = false := by simpa using hpv
          rw [hpf]
          have HFF : Hid (fitAt k at_ l q = false) := Lib.hid (HF.out.trans hpf)
          have HBB := Lib.hid hb5
          clear HF hb5
          go_wp2_with fail
          go_ret
          refine ⟨ret_bool' ?_, ?_⟩
          · exact (fitsF_false q hkq hlt HFF.out).symm
          · exact HBt.out.trans (HBB.out.mono HBt.out.size)
      · have hq' : q = l.length := by omega
        subst hq'
        go_wp2_with fail
        go_ret
        refine ⟨ret_bool' ?_, ?_⟩
        · exact (fitsF_true fun i h1 h2 => hI.out i h1 h2).symm
        · exact HBt.out
end Go.Proofs.YtkdjibejnncmfaaGreatDoor.Co

/- The walk of Fits. -/
namespace Go.Proofs.YtkdjibejnncmfaaGreatDoor.Co
open Go.RowKit Go.Proofs.YtkdjibejnncmfaaGreatDoorW.PrintWords Go.Proofs.YtkdjibejnncmfaaGreatDoorW.PrintLast Go.Proofs.YtkdjibejnncmfaaGreatDoorW.PrintMore
set_option linter.unusedVariables false
set_option linter.unusedSimpArgs false
set_option maxRecDepth 100000
def fitOk (k : Int) (at_ : List Int) (l : List ByteArray) : Bool := decide (1 ≤ k ∧ k ≤ 12) && alikeF l k 4096 && numF at_ l.length
def FitsF (k : Int) (at_ : List Int) (l : List ByteArray) : Bool × Int := if fitOk k at_ l then (fitsF k.toNat at_ l, 0) else (false, 1)
set_option maxHeartbeats 400000 in
theorem Fits_any (k : Int) (A : Option Addr) (c : Nat) (l : List ByteArray) (Aa : Option Addr) (ca : Nat) (at_ : List Int) (w : World) (hC : Kd.C Kd.string w A l.length l) (hc : l.length ≤ c) (hs : ∀ s ∈ l, s.size ≤ 9223372036854775807)
    (hCa : Kd.C (Kd.int .i64) w Aa at_.length at_) (hca : at_.length ≤ ca) (hcm : ca ≤ 9223372036854775807) (hcm2 : c ≤ 9223372036854775807) :
    Calls Tryz.prog 30 #[.int .i64 k, .slice Aa at_.length ca, .slice A l.length c] w fun e w' => e = .returned (.tuple #[.bool (FitsF k at_ l).1, .int .i64 (FitsF k at_ l).2]) ∧ Below w.heap.size w w' := by
  have hm : l.length ≤ 9223372036854775807 := hC.2.1
  have HC := Lib.hid hC
  have HCa := Lib.hid hCa
  have HS := Lib.hid hs
  clear hC hs hCa
  have hbad : fitOk k at_ l = false → Hid (FitsF k at_ l = (false, 1)) := fun h => Lib.hid (by unfold FitsF; rw [h]; rfl)
  by_cases hk : 1 ≤ k ∧ k ≤ 12
  · have HK : Hid (decide (1 ≤ k ∧ k ≤ 12) = true) := Lib.hid (by simpa using hk)
    obtain ⟨k', rfl⟩ : ∃ k' : Nat, k = (k' : Int) := ⟨k.toNat, by omega⟩
    obtain ⟨hk1, hk2⟩ := hk
    by_cases ha : alikeF l k' 4096 = true
    · obtain ⟨hl1, hl2, hsz, hall⟩ := alike_true ha
      have HA := Lib.hid ha
      have HALL := Lib.hid (alike_sizes ha)
      have HSZ := Lib.hid hsz
      clear hall hsz
      by_cases h2 : numF at_ l.length = true
      · have hF : Hid (FitsF k' at_ l = (fitsF k' at_ l, 0)) := Lib.hid (by unfold FitsF fitOk; rw [HK.out, ha, h2]; rfl)
        obtain ⟨hln, hel⟩ := num_true h2
        have HLN := Lib.hid hln
        have HEL := Lib.hid hel
        have HN := Lib.hid h2
        clear ha hbad hln hel h2
        go_enter Tryz.func30, Tryz.ntmps30
        go_wp2_with fail
        refine (isShare_any k' w).mono ?_
        rintro e w' ⟨rfl, rfl⟩
        rw [HK.out]
        go_wp2_with fail
        refine (alike_any A c l k' 4096 w HC.out hc (by omega) HS.out).mono ?_
        rintro e w1 ⟨rfl, hb1⟩
        rw [HA.out]
        have HB1 := Lib.hid hb1
        have HC1 := Lib.hid (Kd.C_below HC.out hb1)
        have HCa1 := Lib.hid (Kd.C_below HCa.out hb1)
        clear hb1
        go_wp2_with fail
        refine (numbered_any Aa ca at_ A l.length c w1 HCa1.out hca hcm hm).mono ?_
        rintro e w' ⟨rfl, rfl⟩
        rw [HN.out]
        go_wp2_with fail
        refine (fits_any k' A c l Aa ca at_ (vs l 0).size w1 HC1.out hc HCa1.out hca hcm hcm2 (by omega) (by omega) HLN.out (by omega) (fun i hi => (HEL.out i hi).1) (fun i hi => HALL.out i hi) (by have := HSZ.out; omega)).mono ?_
        rintro e w4 ⟨rfl, hb4⟩
        have HB4 := Lib.hid (HB1.out.trans (hb4.mono HB1.out.size))
        clear hb4
        go_wp2_with fail
        go_ret2
        exact ⟨by rw [hF.out]; rfl, HB4.out⟩
      · have h2' : numF at_ l.length = false := by simpa using h2
        have hF := hbad (by unfold fitOk; simp [h2'])
        have HN := Lib.hid h2'
        clear ha hbad h2 h2'
        go_enter Tryz.func30, Tryz.ntmps30
        go_wp2_with fail
        refine (isShare_any k' w).mono ?_
        rintro e w' ⟨rfl, rfl⟩
        rw [HK.out]
        go_wp2_with fail
        refine (alike_any A c l k' 4096 w HC.out hc (by omega) HS.out).mono ?_
        rintro e w1 ⟨rfl, hb1⟩
        rw [HA.out]
        have HB1 := Lib.hid hb1
        have HCa1 := Lib.hid (Kd.C_below HCa.out hb1)
        clear hb1
        go_wp2_with fail
        refine (numbered_any Aa ca at_ A l.length c w1 HCa1.out hca hcm hm).mono ?_
        rintro e w' ⟨rfl, rfl⟩
        rw [HN.out]
        go_wp2_with fail
        go_ret2
        exact ⟨by rw [hF.out]; rfl, HB1.out⟩
    · have ha' : alikeF l k' 4096 = false := by simpa using ha
      have hF := hbad (by unfold fitOk; simp [ha'])
      have HA := Lib.hid ha'
      clear ha hbad ha'
      go_enter Tryz.func30, Tryz.ntmps30
      go_wp2_with fail
      refine (isShare_any k' w).mono ?_
      rintro e w' ⟨rfl, rfl⟩
      rw [HK.out]
      go_wp2_with fail
      refine (alike_any A c l k' 4096 w HC.out hc (by omega) HS.out).mono ?_
      rintro e w1 ⟨rfl, hb1⟩
      rw [HA.out]
      have HB1 := Lib.hid hb1
      clear hb1
      go_wp2_with fail
      go_ret2
      exact ⟨by rw [hF.out]; rfl, HB1.out⟩
  · have hk' : decide (1 ≤ k ∧ k ≤ 12) = false := by simpa using hk
    have hF := hbad (by unfold fitOk; simp [hk'])
    have HK := Lib.hid hk'
    clear hbad hk hk'
    go_enter Tryz.func30, Tryz.ntmps30
    go_wp2_with fail
    refine (isShare_any k w).mono ?_
    rintro e w' ⟨rfl, rfl⟩
    rw [HK.out]
    go_wp2_with fail
    go_ret2
    exact ⟨by rw [hF.out]; rfl, Below.refl _ _⟩
end Go.Proofs.YtkdjibejnncmfaaGreatDoor.Co
