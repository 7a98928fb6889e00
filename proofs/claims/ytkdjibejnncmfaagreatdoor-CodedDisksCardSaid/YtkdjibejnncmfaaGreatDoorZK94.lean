/- The program's disks and the reference's in one memory: what is done with both; the walk of same. -/
import Derived.Test.YtkdjibejnncmfaaGreatDoorZK92
import Derived.Test.YtkdjibejnncmfaaGreatDoorZK93
namespace Go.Proofs.YtkdjibejnncmfaaGreatDoor.Co
open Go.RowKit Go.Proofs.YtkdjibejnncmfaaGreatDoorW.PrintWords Go.Proofs.YtkdjibejnncmfaaGreatDoorW.PrintLast Go.Proofs.YtkdjibejnncmfaaGreatDoorW.PrintMore
set_option linter.unusedVariables false
set_option linter.unusedSimpArgs false
set_option maxRecDepth 100000
/-- The program's disks, with the content D1, and the reference's, with the content D2. -/
structure Two (w : World) (base d P : Nat) (B : List Nat) (c r Q : Nat) (E : List (Nat × Nat)) (c2 m : Nat) (D1 D2 : DS) : Prop where
  a : DAt w d P B c m D1
  b : RAt w base r Q E c2 m D2
  ok : Dok B.length m D2
  far : Far d P B r Q E
  len : E.length = B.length
/-- All blocks of both that may be written, but d. -/
def bothL (B : List Nat) (r : Nat) (E : List (Nat × Nat)) : List Nat := B ++ r :: E.map Prod.fst
theorem Fr.wideA {d r : Nat} {B : List Nat} {E : List (Nat × Nat)} {w w' : World} (h : Fr d B w w') : Fr d (bothL B r E) w w' :=
  { h with block := fun k hk h1 h2 => h.block k hk h1 (fun hm => h2 (List.mem_append_left _ hm)) }
theorem Fr.wideB {d r : Nat} {B : List Nat} {E : List (Nat × Nat)} {w w' : World} (h : Fr r (E.map Prod.fst) w w') : Fr d (bothL B r E) w w' :=
  { h with block := fun k hk h1 h2 => h.block k hk (fun e => h2 (List.mem_append_right _ (by rw [e]; exact List.mem_cons_self))) (fun hm => h2 (List.mem_append_right _ (List.mem_cons_of_mem _ hm))) }
section
variable {w w' : World} {base d P c r Q c2 m : Nat} {B : List Nat} {E : List (Nat × Nat)} {D D1 D2 : DS}
theorem Two.below (h : Two w base d P B c r Q E c2 m D1 D2) (hb : Below w.heap.size w w') : Two w' base d P B c r Q E c2 m D1 D2 := { h with a := h.a.below hb, b := h.b.below hb }
theorem Two.frA (h : Two w base d P B c r Q E c2 m D1 D2) {D3 : DS} (ha : DAt w' d P B c m D3) (hf : Fr d B w w') : Two w' base d P B c r Q E c2 m D3 D2 := { h with a := ha, b := h.b.fr h.far hf }
theorem Two.frB (h : Two w base d P B c r Q E c2 m D1 D2) {D3 : DS} (hb : RAt w' base r Q E c2 m D3) (hk : Dok B.length m D3) (hf : Fr r (E.map Prod.fst) w w') : Two w' base d P B c r Q E c2 m D1 D3 := { h with a := h.a.fr h.far hf, b := hb, ok := hk }
theorem Two.new (h : Two w base d P B c r Q E c2 m D1 D2) : ∀ k, k < w.heap.size → True := fun _ _ => trivial
theorem two_read (i j : Int) (h : Two w base d P B c r Q E c2 m D1 D2) : Calls Tryz.prog 106 #[.pointer (some ⟨d, 0, none⟩), .int .i64 i, .int .i64 j] w fun e w' => e = .returned (.tuple #[.string (readF B.length m D1 i j).1, .int .i64 (readF B.length m D1 i j).2]) ∧ w = w' := Read_any i j w h.a
theorem two_refRead (i j : Int) (h : Two w base d P B c r Q E c2 m D1 D2) : Calls Tryz.prog 107 #[.pointer (some ⟨r, 0, none⟩), .int .i64 i, .int .i64 j] w fun e w' => e = .returned (.tuple #[.string (readF B.length m D2 i j).1, .int .i64 (readF B.length m D2 i j).2]) ∧ w = w' := by
  have := refRead_any i j w h.b
  rw [h.len] at this
  exact this
theorem two_write (i j : Int) (s : ByteArray) (h : Two w base d P B c r Q E c2 m D1 D2) (hs : s.size ≤ 9223372036854775807) (hf0 : 0 ≤ D1.falls) (hf1 : D1.falls < 9223372036854775807) : Calls Tryz.prog 108 #[.pointer (some ⟨d, 0, none⟩), .int .i64 i, .int .i64 j, .string s] w fun e w' => e = .returned (.int .i64 (writeF B.length m D1 i j s).2) ∧ Two w' base d P B c r Q E c2 m (writeF B.length m D1 i j s).1 D2 ∧ Fr d (bothL B r E) w w' :=
  (Write_any i j s w h.a hs hf0 hf1).mono fun e w' ⟨h1, h2, h3⟩ => ⟨h1, h.frA h2 h3, h3.wideA⟩
theorem two_refWrite (i j : Int) (s : ByteArray) (h : Two w base d P B c r Q E c2 m (writeF B.length m D i j s).1 D) (hs : s.size ≤ 9223372036854775807) (hf0 : 0 ≤ D.falls) (hf1 : D.falls < 9223372036854775807) : Calls Tryz.prog 109 #[.pointer (some ⟨r, 0, none⟩), .int .i64 i, .int .i64 j, .string s] w fun e w' => e = .returned (.int .i64 (writeF B.length m D i j s).2) ∧ Two w' base d P B c r Q E c2 m (writeF B.length m D i j s).1 (writeF B.length m D i j s).1 ∧ Fr d (bothL B r E) w w' := by
  have hw := refWrite_any i j s w h.b (by rw [h.len]; exact h.ok) hs hf0 hf1
  rw [h.len] at hw
  exact hw.mono fun e w' ⟨h1, h2, h3⟩ => ⟨h1, h.frB h2 (dok_of h.a) h3, h3.wideB⟩
theorem two_arm (n b : Int) (h : Two w base d P B c r Q E c2 m D1 D2) (hn : n ≤ 9223372036854775807) : Calls Tryz.prog 56 #[.pointer (some ⟨d, 0, none⟩), .int .i64 n, .int .i64 b] w fun e w' => e = .returned (.tuple #[]) ∧ Two w' base d P B c r Q E c2 m (armF D1 n b) D2 ∧ Fr d (bothL B r E) w w' :=
  (Arm_any n b w h.a hn).mono fun e w' ⟨h1, h2, h3⟩ => ⟨h1, h.frA h2 h3, h3.wideA⟩
theorem two_refArm (n b : Int) (h : Two w base d P B c r Q E c2 m (armF D n b) D) : Calls Tryz.prog 110 #[.pointer (some ⟨r, 0, none⟩), .int .i64 n, .int .i64 b] w fun e w' => e = .returned (.tuple #[]) ∧ Two w' base d P B c r Q E c2 m (armF D n b) (armF D n b) ∧ Fr d (bothL B r E) w w' :=
  (refArm_any n b w h.b).mono fun e w' ⟨h1, h2, h3⟩ => ⟨h1, h.frB h2 (dok_of h.a) h3, h3.wideB⟩
theorem two_restart (h : Two w base d P B c r Q E c2 m D1 D2) : Calls Tryz.prog 58 #[.pointer (some ⟨d, 0, none⟩)] w fun e w' => e = .returned (.tuple #[]) ∧ Two w' base d P B c r Q E c2 m (restartF D1) D2 ∧ Fr d (bothL B r E) w w' :=
  (Restart_any w h.a).mono fun e w' ⟨h1, h2, h3⟩ => ⟨h1, h.frA h2 h3, h3.wideA⟩
theorem two_refRestart (h : Two w base d P B c r Q E c2 m (restartF D) D) : Calls Tryz.prog 111 #[.pointer (some ⟨r, 0, none⟩)] w fun e w' => e = .returned (.tuple #[]) ∧ Two w' base d P B c r Q E c2 m (restartF D) (restartF D) ∧ Fr d (bothL B r E) w w' :=
  (refRestart_any w h.b).mono fun e w' ⟨h1, h2, h3⟩ => ⟨h1, h.frB h2 (dok_of h.a) h3, h3.wideB⟩
theorem two_lose (i : Int) (h : Two w base d P B c r Q E c2 m D1 D2) : Calls Tryz.prog 47 #[.pointer (some ⟨d, 0, none⟩), .int .i64 i] w fun e w' => e = .returned (.int .i64 (loseF B.length m D1 i).2) ∧ Two w' base d P B c r Q E c2 m (loseF B.length m D1 i).1 D2 ∧ Fr d (bothL B r E) w w' :=
  (Lose_any i w h.a).mono fun e w' ⟨h1, h2, h3⟩ => ⟨h1, h.frA h2 h3, h3.wideA⟩
theorem two_refLose (i : Int) (h : Two w base d P B c r Q E c2 m (loseF B.length m D i).1 D) : Calls Tryz.prog 112 #[.pointer (some ⟨r, 0, none⟩), .int .i64 i] w fun e w' => e = .returned (.int .i64 (loseF B.length m D i).2) ∧ Two w' base d P B c r Q E c2 m (loseF B.length m D i).1 (loseF B.length m D i).1 ∧ Fr d (bothL B r E) w w' := by
  have hw := refLose_any i w h.b (by rw [h.len]; exact h.ok.z) h.a.few (by have := h.a.two; omega)
  rw [h.len] at hw
  exact hw.mono fun e w' ⟨h1, h2, h3⟩ => ⟨h1, h.frB h2 (dok_of h.a) h3, h3.wideB⟩
theorem two_rot (i j p y : Int) (h : Two w base d P B c r Q E c2 m D1 D2) (hy : IsB y) : Calls Tryz.prog 49 #[.pointer (some ⟨d, 0, none⟩), .int .i64 i, .int .i64 j, .int .i64 p, .int .u8 y] w fun e w' => e = .returned (.int .i64 (rotF B.length m D1 i j p y).2) ∧ Two w' base d P B c r Q E c2 m (rotF B.length m D1 i j p y).1 D2 ∧ Fr d (bothL B r E) w w' :=
  (Rot_any i j p y w h.a hy).mono fun e w' ⟨h1, h2, h3⟩ => ⟨h1, h.frA h2 h3, h3.wideA⟩
theorem two_refRot (i j p y : Int) (h : Two w base d P B c r Q E c2 m (rotF B.length m D i j p y).1 D) (hy : IsB y) : Calls Tryz.prog 113 #[.pointer (some ⟨r, 0, none⟩), .int .i64 i, .int .i64 j, .int .i64 p, .int .u8 y] w fun e w' => e = .returned (.int .i64 (rotF B.length m D i j p y).2) ∧ Two w' base d P B c r Q E c2 m (rotF B.length m D i j p y).1 (rotF B.length m D i j p y).1 ∧ Fr d (bothL B r E) w w' := by
  have hw := refRot_any i j p y w h.b (by rw [h.len]; exact h.ok) hy
  rw [h.len] at hw
  exact hw.mono fun e w' ⟨h1, h2, h3⟩ => ⟨h1, h.frB h2 (dok_of h.a) h3, h3.wideB⟩
end
theorem readF_ok {n m i j : Nat} {D : DS} (hd : D.down = false) (hi : i < n) (hj : j < m) : readF n m D (i : Int) (j : Int) = (strOfNums (pageAt D i j), 0) := by
  unfold readF hasF
  rw [hd, if_neg (by simp), if_pos (by simp; omega), Int.toNat_natCast, Int.toNat_natCast]
set_option maxHeartbeats 2000000 in
theorem same_any {w : World} {base d P c r Q c2 m : Nat} {B : List Nat} {E : List (Nat × Nat)} {D : DS} (h : Two w base d P B c r Q E c2 m D D) :
    Calls Tryz.prog 62 #[.pointer (some ⟨d, 0, none⟩), .pointer (some ⟨r, 0, none⟩)] w fun e w' => e = .returned (.bool true) ∧ Below w.heap.size w w' := by
  have hlen := h.len
  have x0 := h.b.f0
  have x3 := h.b.f3
  rw [hlen] at x0
  have hB1 := h.a.one
  have hB2 := h.a.most
  have hm1 := h.a.two
  have hm2 := h.a.few
  have hcap := h.b.cap
  have hb0 : (0 : Int) < (B.length : Int) := by omega
  obtain ⟨⟨b0, cb0⟩, he0⟩ : ∃ e, E[0]? = some e := ⟨_, List.getElem?_eq_getElem (by omega)⟩
  have r0 := h.b.rowC 0 (b0, cb0) he0
  try dsimp only at r0
  have HCN : Hid (∀ W : World, Below w.heap.size w W → Calls Tryz.prog 92 #[.pointer (some ⟨d, 0, none⟩)] W fun e w' => e = .returned (.int .i64 B.length) ∧ w' = W) := Lib.hid (fun W hW => (Count_any W (h.a.below hW)).mono fun _ _ ⟨a, b⟩ => ⟨a, b.symm⟩)
  have HPG : Hid (∀ W : World, Below w.heap.size w W → Calls Tryz.prog 114 #[.pointer (some ⟨d, 0, none⟩)] W fun e w' => e = .returned (.int .i64 m) ∧ w' = W) := Lib.hid (fun W hW => (Pages_any W (h.a.below hW)).mono fun _ _ ⟨a, b⟩ => ⟨a, b.symm⟩)
  have HUP : Hid (∀ W : World, Below w.heap.size w W → Calls Tryz.prog 57 #[.pointer (some ⟨d, 0, none⟩)] W fun e w' => e = .returned (.bool (!D.down)) ∧ w' = W) := Lib.hid (fun W hW => (Up_any W (h.a.below hW)).mono fun _ _ ⟨a, b⟩ => ⟨a, b.symm⟩)
  have H := Lib.hid h
  cases hd : D.down with
  | true =>
    rw [hd] at x3 HUP
    clear h hd hlen he0
    go_enter Tryz.func62, Tryz.ntmps62
    go_wp2_with fail
    go_quiet ((first | (go_at_call 92; exact Calls.quiet_of_same (HCN.out _ (by exact below_drN (Below.refl _ _) _))) | (go_at_call 114; exact Calls.quiet_of_same (HPG.out _ (by exact below_drN (Below.refl _ _) _))) | (go_at_call 57; exact Calls.quiet_of_same (HUP.out _ (by exact below_drN (Below.refl _ _) _)))))
    all_goals
      go_wp2_with fail
      go_ret
      exact ⟨rfl, below_drN (Below.refl _ _) _⟩
  | false =>
    rw [hd] at x3 HUP
    have HD := Lib.hid hd
    clear h hd hlen he0
    go_enter Tryz.func62, Tryz.ntmps62
    go_wp2_with fail
    go_quiet ((first | (go_at_call 92; exact Calls.quiet_of_same (HCN.out _ (by exact below_drN (Below.refl _ _) _))) | (go_at_call 114; exact Calls.quiet_of_same (HPG.out _ (by exact below_drN (Below.refl _ _) _))) | (go_at_call 57; exact Calls.quiet_of_same (HUP.out _ (by exact below_drN (Below.refl _ _) _)))))
    all_goals
      go_wp2_with fail
      go_loopw [48] (fun t wr => ∃ i : Nat, i ≤ B.length ∧ t = .int .i64 i ∧ Hid (Below w.heap.size w wr)) (fun t _ => B.length - (intOf t).toNat)
      case atStart => exact ⟨0, by omega, rfl, Lib.hid (below_drN (Below.refl _ _) _)⟩
      case round =>
        obtain ⟨W, rfl⟩ : ∃ W : World, W = wr := ⟨_, rfl⟩
        obtain ⟨i, hi, rfl, HB⟩ := hrel
        clear x0 x3 r0
        by_cases hlt : i < B.length
        · have HW := Lib.hid (H.out.below HB.out)
          have x0 := HW.out.b.f0
          rw [HW.out.len] at x0
          obtain ⟨⟨b, cb⟩, he⟩ : ∃ e, E[i]? = some e := ⟨_, List.getElem?_eq_getElem (by have := HW.out.len; omega)⟩
          have HE := Lib.hid he
          have r0 := HW.out.b.rowC i (b, cb) he
          try dsimp only at r0
          have hiB : (i : Int) < (B.length : Int) := by omega
          have hcb : m ≤ cb := (HW.out.b.row i (b, cb) he).hcap
          clear he
          go_wp2_with fail
          go_loopw [59] (fun t wr => ∃ j : Nat, j ≤ m ∧ t = .int .i64 j ∧ Hid (Below w.heap.size w wr)) (fun t _ => m - (intOf t).toNat)
          case atStart => exact ⟨0, by omega, rfl, HB⟩
          case round =>
            obtain ⟨V, rfl⟩ : ∃ V : World, V = wr := ⟨_, rfl⟩
            obtain ⟨j, hj, rfl, HB2⟩ := hrel
            clear x0 r0
            by_cases hlt2 : j < m
            · have HV := Lib.hid (H.out.below HB2.out)
              have hp := HV.out.b.pageC i j (b, cb) HE.out hlt2
              try dsimp only at hp
              obtain ⟨px, hpx⟩ : ∃ px, px = strOfNums (pageAt D i j) := ⟨_, rfl⟩
              rw [← hpx] at hp
              have HRD : Hid (Calls Tryz.prog 106 #[.pointer (some ⟨d, 0, none⟩), .int .i64 (i : Int), .int .i64 (j : Int)] V fun e w' => e = .returned (.tuple #[.string px, .int .i64 0]) ∧ V = w') := Lib.hid (by
                have q := two_read (i : Int) (j : Int) HV.out
                rw [readF_ok HD.out hlt hlt2, ← hpx] at q
                exact q)
              have hjm : (j : Int) < (m : Int) := by omega
              clear hpx
              go_wp2_with (go_at_call 106; (with_reducible refine Calls.mono HRD.out ?_); rintro e w2 ⟨rfl, rfl⟩)
              go_roundw
              case rel => ((repeat apply Exists.intro); exact ⟨⟨j + 1, by omega, by go_num, HB2⟩, rfl⟩)
              case measure => simp [intOf]; omega
            · have hjm : j = m := by omega
              subst hjm
              go_wp2_with fail
              go_roundw
              case rel => exact ⟨i + 1, by omega, by go_num, HB2⟩
              case measure => simp [intOf]; omega
        · have hiB : i = B.length := by omega
          subst hiB
          go_wp2_with fail
          go_ret
          exact ⟨rfl, HB.out⟩
end Go.Proofs.YtkdjibejnncmfaaGreatDoor.Co
