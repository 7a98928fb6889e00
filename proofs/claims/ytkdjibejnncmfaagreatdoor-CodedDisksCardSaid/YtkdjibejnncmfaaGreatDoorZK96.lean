/- The walk of CodedDisks. -/
import Derived.Test.YtkdjibejnncmfaaGreatDoorZK95
import Derived.Deep.MidRow
namespace Go.Proofs.YtkdjibejnncmfaaGreatDoor.Co
open Go.RowKit Go.Proofs.YtkdjibejnncmfaaGreatDoorW.PrintWords Go.Proofs.YtkdjibejnncmfaaGreatDoorW.PrintLast Go.Proofs.YtkdjibejnncmfaaGreatDoorW.PrintMore
set_option linter.unusedVariables false
set_option linter.unusedSimpArgs false
set_option maxRecDepth 100000
/-- Operations as an argument. -/
structure OL (w : World) (A : Option Addr) (c : Nat) (F : List OpS) (gf ff : Nat) : Prop where
  at_ : F.length ≠ 0 → A = some ⟨gf, ff, none⟩
  fa : ∀ (i : Nat) x, F[i]? = some x → w.rangeAt gf (ff + i * 7) x.cells
  cap : F.length ≤ c
  ok : ∀ x ∈ F, x.Ok
theorem OL.below {w w' : World} {A : Option Addr} {c gf ff : Nat} {F : List OpS} (h : OL w A c F gf ff) (hb : Below w.heap.size w w') : OL w' A c F gf ff := { h with fa := fun i x hx j v hv => cell_below hb (h.fa i x hx j v hv) }
theorem writeF_falls1 (n m : Nat) (D : DS) (i j : Int) (s : ByteArray) : D.falls ≤ (writeF n m D i j s).1.falls ∧ (writeF n m D i j s).1.falls ≤ D.falls + 1 := by
  unfold writeF
  repeat' split
  all_goals first | (refine ⟨?_, ?_⟩ <;> simp [DS.put] <;> omega) | (refine ⟨?_, ?_⟩ <;> simp [DS.put])
theorem playF_falls (n m : Nat) (D : DS) (x : OpS) : D.falls ≤ (playF n m D x).falls ∧ (playF n m D x).falls ≤ D.falls + 1 := by
  unfold playF
  by_cases h1 : x.kind = 1
  · rw [if_pos h1]; exact writeF_falls1 n m D _ _ _
  rw [if_neg h1]
  have key : ∀ D' : DS, D'.falls = D.falls → D.falls ≤ D'.falls ∧ D'.falls ≤ D.falls + 1 := fun D' h => by rw [h]; omega
  by_cases h2 : x.kind = 2
  · rw [if_pos h2]; exact key _ rfl
  rw [if_neg h2]
  by_cases h3 : x.kind = 3
  · rw [if_pos h3]; exact key _ rfl
  rw [if_neg h3]
  by_cases h4 : x.kind = 4
  · rw [if_pos h4]; refine key _ ?_; unfold loseF; split <;> rfl
  rw [if_neg h4]
  by_cases h5 : x.kind = 5
  · rw [if_pos h5]; refine key _ ?_; unfold rotF; split <;> rfl
  rw [if_neg h5]
  exact key _ rfl
theorem DAt.lt {w : World} {d P c m : Nat} {B : List Nat} {D : DS} (h : DAt w d P B c m D) : ∀ x, (x = d ∨ x = P ∨ x ∈ B) → x < w.heap.size := by
  intro x hx
  rcases hx with rfl | rfl | hx
  · exact h.box.lt
  · obtain ⟨cs, h1, _⟩ := h.rows
    exact h1.lt
  · obtain ⟨i, hi, e⟩ := List.getElem_of_mem hx
    have hi2 : i < D.disks.length := by rw [h.len]; exact hi
    rw [← e]
    exact (h.disk i B[i] D.disks[i] (List.getElem?_eq_getElem hi) (List.getElem?_eq_getElem hi2)).lt
theorem RAt.ge {w : World} {base r Q c m : Nat} {E : List (Nat × Nat)} {D : DS} (h : RAt w base r Q E c m D) : ∀ y, (y = r ∨ y = Q ∨ y ∈ E.map Prod.fst) → base ≤ y := by
  intro y hy
  rcases hy with rfl | rfl | hy
  · exact h.rge
  · exact own_base h.outer y rfl
  · obtain ⟨e, he, rfl⟩ := List.mem_map.1 hy
    obtain ⟨i, hi, e4⟩ := List.getElem_of_mem he
    exact (h.row i e (by rw [← e4]; exact List.getElem?_eq_getElem hi)).ge
/-- Both are made. -/
structure Made2 (N : Nat) (w : World) (d P : Nat) (B : List Nat) (c r Q : Nat) (E : List (Nat × Nat)) (c2 n m base : Nat) : Prop where
  two : Two w base d P B c r Q E c2 m (newDS n m) (newDS n m)
  len : B.length = n
  gd : N ≤ d
  gb : ∀ b ∈ bothL B r E, N ≤ b
theorem made2 {N n m d P c r Q c2 : Nat} {B : List Nat} {E : List (Nat × Nat)} {W2 W3 : World} (hD : DAt W2 d P B c m (newDS n m)) (hB : B.length = n) (hE : E.length = n) (hR : RAt W3 W2.heap.size r Q E c2 m (newDS n m)) (hb : Below W2.heap.size W2 W3) (hd : N ≤ d) (hBs : ∀ b ∈ B, N ≤ b) (hN : N ≤ W2.heap.size) :
    Made2 N W3 d P B c r Q E c2 n m W2.heap.size where
  two := { a := hD.below hb, b := hR, ok := dok_of hD, far := ⟨fun x y hx hy e => by have h1 := hD.lt x hx; have h2 := hR.ge y hy; omega⟩, len := by rw [hE, hB] }
  len := hB
  gd := hd
  gb := fun b hb2 => by
    unfold bothL at hb2
    rcases List.mem_append.1 hb2 with h | h
    · exact hBs b h
    · rcases List.mem_cons.1 h with h | h
      · have := hR.ge b (Or.inl h); omega
      · have := hR.ge b (Or.inr (Or.inr h)); omega
theorem info93 : (Tryz.prog.info? 93).map (·.size) = some 7 := by kernel_rfl
theorem disks_skip {A : Option Addr} {c : Nat} {n p : Int} {M : Nat} {w : World} (h : (8 < p ∧ p ≤ 1024) ∨ 30 < M) :
    Calls Tryz.prog 11 #[.int .i64 n, .int .i64 p, .slice A M c] w fun e w' => e = .returned (.bool true) ∧ Below w.heap.size w w' := by
  have HS := Lib.hid (sane_any w)
  by_cases h1 : 8 < p ∧ p ≤ 1024
  · obtain ⟨p1, p2⟩ := h1
    go_enter Tryz.func11, Tryz.ntmps11
    go_wp2_with (go_at_call 14; (with_reducible refine Calls.mono HS.out ?_); rintro e w1 ⟨rfl, hb⟩; have HB1 := Lib.hid hb; clear hb)
    go_ret
    exact ⟨rfl, HB1.out⟩
  · have hM : (30 : Int) < (M : Int) := by omega
    by_cases h2 : 8 < p
    · have p2 : ¬ p ≤ 1024 := by omega
      go_enter Tryz.func11, Tryz.ntmps11
      go_wp2_with (go_at_call 14; (with_reducible refine Calls.mono HS.out ?_); rintro e w1 ⟨rfl, hb⟩; have HB1 := Lib.hid hb; clear hb)
      go_ret
      exact ⟨rfl, HB1.out⟩
    · go_enter Tryz.func11, Tryz.ntmps11
      go_wp2_with (go_at_call 14; (with_reducible refine Calls.mono HS.out ?_); rintro e w1 ⟨rfl, hb⟩; have HB1 := Lib.hid hb; clear hb)
      go_ret
      exact ⟨rfl, HB1.out⟩
theorem disks_no {A : Option Addr} {c : Nat} {n p : Int} {M : Nat} {w : World} (h : ¬ ((8 < p ∧ p ≤ 1024) ∨ 30 < M)) (hn : newB n p = false) :
    Calls Tryz.prog 11 #[.int .i64 n, .int .i64 p, .slice A M c] w fun e w' => e = .returned (.bool true) ∧ Below w.heap.size w w' := by
  have HS := Lib.hid (sane_any w)
  have HN1 : Hid (∀ W, Calls Tryz.prog 38 #[.int .i64 n, .int .i64 p] W fun e w' => e = .returned (.tuple #[.pointer none, .int .i64 1]) ∧ W = w') := Lib.hid (fun W => New_no n p W hn)
  have HN2 : Hid (∀ W, Calls Tryz.prog 60 #[.int .i64 n, .int .i64 p] W fun e w' => e = .returned (.tuple #[.pointer none, .int .i64 1]) ∧ W = w') := Lib.hid (fun W => refNew_no n p W hn)
  have hM : ¬ (30 : Int) < (M : Int) := by omega
  by_cases h2 : 8 < p
  · have p2 : ¬ p ≤ 1024 := by omega
    clear h hn
    go_enter Tryz.func11, Tryz.ntmps11
    go_wp2_with (first
      | (go_at_call 14; (with_reducible refine Calls.mono HS.out ?_); rintro e w1 ⟨rfl, hb⟩; have HB1 := Lib.hid hb; clear hb)
      | (go_at_call 38; (with_reducible refine Calls.mono (HN1.out _) ?_); rintro e w2 ⟨rfl, rfl⟩)
      | (go_at_call 60; (with_reducible refine Calls.mono (HN2.out _) ?_); rintro e w3 ⟨rfl, rfl⟩))
    go_ret
    exact ⟨rfl, HB1.out⟩
  · clear h hn
    go_enter Tryz.func11, Tryz.ntmps11
    go_wp2_with (first
      | (go_at_call 14; (with_reducible refine Calls.mono HS.out ?_); rintro e w1 ⟨rfl, hb⟩; have HB1 := Lib.hid hb; clear hb)
      | (go_at_call 38; (with_reducible refine Calls.mono (HN1.out _) ?_); rintro e w2 ⟨rfl, rfl⟩)
      | (go_at_call 60; (with_reducible refine Calls.mono (HN2.out _) ?_); rintro e w3 ⟨rfl, rfl⟩))
    go_ret
    exact ⟨rfl, HB1.out⟩
set_option maxHeartbeats 4000000 in
theorem disks_yes {A : Option Addr} {c n m M gf ff : Nat} {F : List OpS} {w : World} (hF : OL w A c F gf ff) (hFl : F.length = M) (hM : M ≤ 30) (hn1 : 1 ≤ n) (hn2 : n ≤ 12) (hm1 : 2 ≤ m) (hm2 : m ≤ 8) :
    Calls Tryz.prog 11 #[.int .i64 (n : Int), .int .i64 (m : Int), .slice A M c] w fun e w' => e = .returned (.bool true) ∧ Below w.heap.size w w' := by
  have HS := Lib.hid (sane_any w)
  have HNW : Hid (∀ W, Calls Tryz.prog 38 #[.int .i64 (n : Int), .int .i64 (m : Int)] W fun e w' => ∃ d P B c, e = .returned (.tuple #[.pointer (some ⟨d, 0, none⟩), .int .i64 0]) ∧ B.length = n ∧ DAt w' d P B c m (newDS n m) ∧ Below W.heap.size W w' ∧ W.heap.size ≤ d ∧ ∀ b ∈ B, W.heap.size ≤ b) := Lib.hid (fun W => (New_ok n m W hn1 hn2 hm1 (by omega)).mono fun e w' ⟨P, B, c, h1, h2, h3, h4, h5⟩ => ⟨W.heap.size, P, B, c, h1, h2, h3, h4, Nat.le_refl _, h5.2⟩)
  have HNR : Hid (∀ W, Calls Tryz.prog 60 #[.int .i64 (n : Int), .int .i64 (m : Int)] W fun e w' => ∃ r Q E c, e = .returned (.tuple #[.pointer (some ⟨r, 0, none⟩), .int .i64 0]) ∧ E.length = n ∧ RAt w' W.heap.size r Q E c m (newDS n m) ∧ Below W.heap.size W w') := Lib.hid (fun W => (refNew_ok n m W hn1 hn2 hm1 (by omega)).mono fun e w' ⟨Q, E, c, h1, h2, h3, h4⟩ => ⟨W.heap.size, Q, E, c, h1, h2, h3, h4⟩)
  have HF := Lib.hid hF
  have HFL := Lib.hid hFl
  have hp8 : ¬ (8 : Int) < (m : Int) := by omega
  have hM30 : ¬ (30 : Int) < (M : Int) := by omega
  clear hF hFl
  go_enter Tryz.func11, Tryz.ntmps11
  go_wp2_with (first
    | (go_at_call 14; (with_reducible refine Calls.mono HS.out ?_); rintro e w1 ⟨rfl, hb⟩; have HB1 := Lib.hid hb; clear hb)
    | (go_at_call 38; (with_reducible refine Calls.mono (HNW.out _) ?_); rintro e w2 ⟨d, P, B, cd, rfl, hbl, hD, hb, hgd, hgb⟩; have HD2 := Lib.hid (And.intro hbl (And.intro hD (And.intro hb (And.intro hgd hgb)))); clear hbl hD hb hgd hgb)
    | (go_at_call 60; (with_reducible refine Calls.mono (HNR.out _) ?_); rintro e w3 ⟨r, Q, E, cr, rfl, hel, hR, hb⟩; have HR3 := Lib.hid (And.intro hel (And.intro hR hb)); clear hel hR hb))
  obtain ⟨base, hbase⟩ : ∃ base, base = w2.heap.size := ⟨_, rfl⟩
  have HMD : Hid (Made2 w.heap.size w3 d P B cd r Q E cr n m base) := Lib.hid (by
    obtain ⟨a1, a2, a3, a4, a5⟩ := HD2.out
    obtain ⟨b1, b2, b3⟩ := HR3.out
    have hs := HB1.out.size
    have hs2 := a3.size
    rw [hbase]
    exact made2 a2 a1 b1 b2 b3 (by omega) (fun b hb => by have := a5 b hb; omega) (by omega))
  have HB3 : Hid (Below w.heap.size w w3) := Lib.hid (belt (belt HB1.out HD2.out.2.2.1) HR3.out.2.2)
  clear hbase HD2 HR3 HNW HNR HS HB1
  go_loopw [52] (fun t wr => ∃ (i : Nat) (D : DS), i ≤ M ∧ t = .int .i64 i ∧ Hid (Two wr base d P B cd r Q E cr m D D ∧ 0 ≤ D.falls ∧ D.falls ≤ (i : Int)) ∧ Hid (Below w.heap.size w wr)) (fun t _ => M - (intOf t).toNat)
  case atStart => exact ⟨0, newDS n m, by omega, rfl, Lib.hid ⟨HMD.out.two, by simp [newDS], by simp [newDS]⟩, HB3⟩
  case round =>
    obtain ⟨i, D, hi, rfl, HT, HB⟩ := hrel
    by_cases hlt : i < M
    · have eA := HF.out.at_ (by have := HFL.out; omega)
      subst eA
      obtain ⟨⟨k, di, pg, pl, nn, y, s⟩, hx⟩ : ∃ x, F[i]? = some x := ⟨_, List.getElem?_eq_getElem (by have := HFL.out; omega)⟩
      have HXB := Lib.hid (HF.out.ok _ (List.mem_of_getElem? hx))
      have HR : Hid (wr.rangeAt gf (ff + i * 7) [Value.int .i64 k, .int .i64 di, .int .i64 pg, .int .i64 pl, .int .i64 nn, .int .u8 y, .string s]) := Lib.hid ((HF.out.below HB.out).fa i _ hx)
      have hi0 : (0 : Int) ≤ (i : Int) := by omega
      have hi1 : (i : Int) < (M : Int) := by omega
      have HSZ : Hid ((Tryz.prog.info? 93).map (·.size) = some [Value.int .i64 k, .int .i64 di, .int .i64 pg, .int .i64 pl, .int .i64 nn, .int .u8 y, .string s].length) := Lib.hid info93
      have HS2 : Hid (#[Value.int .i64 0, .int .i64 0, .int .i64 0, .int .i64 0, .int .i64 0, .int .u8 0, .string ⟨#[]⟩].size = #[Value.int .i64 k, .int .i64 di, .int .i64 pg, .int .i64 pl, .int .i64 nn, .int .u8 y, .string s].size) := Lib.hid rfl
      have HS3 : Hid (#[Value.int .i64 k, .int .i64 di, .int .i64 pg, .int .i64 pl, .int .i64 nn, .int .u8 y, .string s].all (·.oneCell') = true) := Lib.hid (by rw [Array.all_eq_true_iff_forall_mem]; intro v hv; simp at hv; rcases hv with rfl | rfl | rfl | rfl | rfl | rfl | rfl <;> rfl)
      have HS4 : Hid ((Tryz.prog.info? 93).map (·.size) = some #[Value.int .i64 k, .int .i64 di, .int .i64 pg, .int .i64 pl, .int .i64 nn, .int .u8 y, .string s].size) := Lib.hid info93
      clear hx
      go_upto_region 14 with (first
        | (refine wpList_load_mid rfl 93 (.tmp 54) rfl gf (ff + i * 7) rfl [Value.int .i64 k, .int .i64 di, .int .i64 pg, .int .i64 pl, .int .i64 nn, .int .u8 y, .string s] _ HR.out Tryz.underlying93 rfl HSZ.out ?_)
        | (refine wpList_store_rowTo rfl 93 (.tmp 12) (.tmp 55) rfl rfl wr.heap.size #[Value.int .i64 k, .int .i64 di, .int .i64 pg, .int .i64 pl, .int .i64 nn, .int .u8 y, .string s] rfl rfl 93 #[Value.int .i64 0, .int .i64 0, .int .i64 0, .int .i64 0, .int .i64 0, .int .u8 0, .string ⟨#[]⟩] (heap_alloc_last wr _) HS4.out HS2.out HS3.out ?_; rw [World.setRow_alloc_new]))
      have HBX := Lib.hid (Box.new wr #[Value.int .i64 k, .int .i64 di, .int .i64 pg, .int .i64 pl, .int .i64 nn, .int .u8 y, .string s] 93)
      have HBW0 : Hid (Below wr.heap.size wr (wr.alloc (.cells #[Value.int .i64 k, .int .i64 di, .int .i64 pg, .int .i64 pl, .int .i64 nn, .int .u8 y, .string s] 93))) := Lib.hid (below_al (Below.refl _ _) _)
      obtain ⟨W, hW⟩ : ∃ W, W = wr.alloc (.cells #[Value.int .i64 k, .int .i64 di, .int .i64 pg, .int .i64 pl, .int .i64 nn, .int .u8 y, .string s] 93) := ⟨_, rfl⟩
      rw [← hW] at HBX HBW0 ⊢
      clear hW
      have HTW := Lib.hid (HT.out.1.below HBW0.out)
      have HBW : Hid (Below w.heap.size w W) := Lib.hid (belt HB.out HBW0.out)
      have x6 : W.cell? ⟨wr.heap.size, 6, none⟩ = some (.string s) := HBX.out.cell 6
      have HRB : Hid (W.rangeAt wr.heap.size 0 [Value.int .i64 k, .int .i64 di, .int .i64 pg, .int .i64 pl, .int .i64 nn, .int .u8 y, .string s]) := Lib.hid (fun j v hv => by rw [Nat.zero_add, HBX.out.cell j]; simpa using hv)
      obtain ⟨gx, hgx⟩ : ∃ gx, gx = wr.heap.size := ⟨_, rfl⟩
      rw [← hgx] at x6 HRB ⊢
      clear hgx
      by_cases hbig : 100 < s.size
      · have hbig2 : (100 : Int) < (s.size : Int) := by omega
        go_wp2_with fail
        go_ret
        exact ⟨rfl, HBW.out⟩
      · have hbig2 : ¬ (100 : Int) < (s.size : Int) := by omega
        obtain ⟨D', hD'⟩ : ∃ D', D' = playF B.length m D ⟨k, di, pg, pl, nn, y, s⟩ := ⟨_, rfl⟩
        have HFA : Hid (D.falls ≤ D'.falls ∧ D'.falls ≤ D.falls + 1) := Lib.hid (by rw [hD']; exact playF_falls _ _ _ _)
        have HPL : Hid (Calls Tryz.prog 61 #[.pointer (some ⟨d, 0, none⟩), .pointer (some ⟨r, 0, none⟩), .agg #[.int .i64 k, .int .i64 di, .int .i64 pg, .int .i64 pl, .int .i64 nn, .int .u8 y, .string s]] W (PlayP W base d P B cd r Q E cr m D')) := Lib.hid (by
          have h2 := HT.out.2
          rw [hD']
          exact play_any (x := ⟨k, di, pg, pl, nn, y, s⟩) HTW.out HXB.out h2.1 (by omega))
        clear hD' hbig
        go_wp2_with (first
          | (refine wpList_load_mid rfl 93 (.tmp 12) rfl gx 0 rfl [Value.int .i64 k, .int .i64 di, .int .i64 pg, .int .i64 pl, .int .i64 nn, .int .u8 y, .string s] _ HRB.out Tryz.underlying93 rfl HSZ.out ?_)
          | (go_at_call 61; (with_reducible refine Calls.mono HPL.out ?_); rintro e w5 ⟨rfl, t5, f5⟩; have T5 := Lib.hid t5; have F5 := Lib.hid f5; clear t5 f5)
          | (go_at_call 62; (with_reducible refine Calls.mono (same_any T5.out) ?_); rintro e w6 ⟨rfl, hb⟩; have HB6 := Lib.hid hb; clear hb))
        have HB6w : Hid (Below w.heap.size w w6) := Lib.hid (by
          have h1 := F5.out.below (N := w.heap.size) (by have := HBW.out.size; omega) HMD.out.gd HMD.out.gb
          exact belt (HBW.out.trans h1) HB6.out)
        have HT6 := Lib.hid (T5.out.below HB6.out)
        go_roundw
        case rel => first
          | exact ⟨i + 1, D', by omega, by go_num, Lib.hid ⟨HT6.out, by have := HFA.out; have := HT.out.2; omega, by have := HFA.out; have := HT.out.2; omega⟩, HB6w⟩
          | ((repeat apply Exists.intro); exact ⟨⟨i + 1, D', by omega, by go_num, Lib.hid ⟨HT6.out, by have := HFA.out; have := HT.out.2; omega, by have := HFA.out; have := HT.out.2; omega⟩, HB6w⟩, rfl⟩)
        case measure => simp [intOf]; omega
    · have hiM : i = M := by omega
      subst hiM
      go_wp2_with fail
      go_ret
      exact ⟨rfl, HB.out⟩
theorem disks_any {A : Option Addr} {c M gf ff : Nat} {n p : Int} {F : List OpS} {w : World} (hF : OL w A c F gf ff) (hFl : F.length = M) :
    Calls Tryz.prog 11 #[.int .i64 n, .int .i64 p, .slice A M c] w fun e w' => e = .returned (.bool true) ∧ Below w.heap.size w w' := by
  by_cases h : (8 < p ∧ p ≤ 1024) ∨ 30 < M
  · exact disks_skip h
  · cases hn : newB n p with
    | false => exact disks_no h hn
    | true =>
      unfold newB at hn
      simp only [Bool.and_eq_true, decide_eq_true_eq] at hn
      obtain ⟨N, rfl⟩ := Int.eq_ofNat_of_zero_le (show 0 ≤ n by omega)
      obtain ⟨m, rfl⟩ := Int.eq_ofNat_of_zero_le (show 0 ≤ p by omega)
      exact disks_yes hF hFl (by omega) (by omega) (by omega) (by omega) (by omega)
end Go.Proofs.YtkdjibejnncmfaaGreatDoor.Co
