/- Contracts of package coded, part 2. -/
import Derived.Test.YtkdjibejnncmfaaGreatDoorB1
import Derived.Deep.RegionLawGrows
import Derived.Laws.EntriesVeiled
import Derived.RangeFuncNested
import Derived.RangeFuncBound
import Derived.RangeFuncCalls
import Derived.RangeFuncLeaves
import Derived.Shelf.Abstract
import Derived.Shelf.RegionOpen
import Derived.WalkKit
import Derived.OwnWalkIn
import Derived.TacticsInMore
import Derived.LoopNIn
import Derived.LoopIn
import Derived.RangeFuncBox
import Derived.Maps.AppendAt
import Derived.Lib.LazyBuf
/- The walks of choices. -/
namespace Go.Proofs.YtkdjibejnncmfaaGreatDoor.Co
open Go.RowKit Go.Proofs.YtkdjibejnncmfaaGreatDoorW.PrintWords Go.Proofs.YtkdjibejnncmfaaGreatDoorW.PrintLast Go.Proofs.YtkdjibejnncmfaaGreatDoorW.PrintMore
set_option linter.unusedVariables false
set_option linter.unusedSimpArgs false
set_option maxRecDepth 100000
/-- The first choice (of m more numbers from k on, below n) that is good. -/
def tryF (good : List Int → Bool) (n : Nat) : Nat → List Int → Nat → Option (List Int)
  | 0, l, _ => if good l then some l else none
  | m + 1, l, k => (List.range' k (n - k)).findSome? fun i : Nat => tryF good n m (l ++ [(i : Int)]) (i + 1)
/-- Numbers below k, in order. -/
def Comb (l : List Int) (k : Nat) : Prop := (∀ x ∈ l, 0 ≤ x ∧ x < k) ∧ l.Pairwise (· < ·)
theorem Comb.snoc {l : List Int} {k i : Nat} (h : Comb l k) (hi : k ≤ i) : Comb (l ++ [(i : Int)]) (i + 1) := by
  refine ⟨fun x hx => ?_, ?_⟩
  · rcases List.mem_append.1 hx with h1 | h1
    · have := h.1 x h1; omega
    · simp at h1; omega
  · rw [List.pairwise_append]
    refine ⟨h.2, by simp, fun a ha b hb => ?_⟩
    have := h.1 a ha
    simp at hb
    omega
theorem tryF_step (good : List Int → Bool) (n m : Nat) (l : List Int) (k : Nat) (h : k < n) :
    (List.range' k (n - k)).findSome? (fun i : Nat => tryF good n m (l ++ [(i : Int)]) (i + 1)) =
      (tryF good n m (l ++ [(k : Int)]) (k + 1)).or ((List.range' (k + 1) (n - (k + 1))).findSome? fun i : Nat => tryF good n m (l ++ [(i : Int)]) (i + 1)) := by
  obtain ⟨d, hd⟩ : ∃ d, n - k = d + 1 := ⟨n - k - 1, by omega⟩
  rw [hd, List.range'_succ, List.findSome?_cons, show n - (k + 1) = d by omega]
  cases tryF good n m (l ++ [(k : Int)]) (k + 1) <;> rfl
/-- Nothing but the block D has changed. -/
structure KB (w w' : World) (D : Nat) : Prop where
  b : Below D w w'
  k : KeepBut w w' D none
theorem KB.of_below {w w' : World} {D : Nat} (h : Below w.heap.size w w') (hd : D ≤ w.heap.size) : KB w w' D := ⟨h.mono hd, KeepBut.of_below h D none⟩
theorem KB.trans {w w1 w2 : World} {D : Nat} (h : KB w w1 D) (k : KB w1 w2 D) : KB w w2 D := ⟨h.b.trans k.b, h.k.trans k.k (.inl rfl)⟩
theorem KB.set_ {w w1 : World} {D : Nat} (h : KB w w1 D) (j : Nat) (u : Value) : KB w (w1.setCell ⟨D, j, none⟩ u) D := ⟨h.b.setCell (Nat.le_refl _) u, h.k.set_ j u⟩
theorem keepbut_cell {w w' : World} {D : Nat} {a : Addr} {v : Value} (h : KeepBut w w' D none) (hd : a.block ≠ D) (hc : w.cell? a = some v) : w'.cell? a = some v := by
  have hl := World.block_lt_of_cell? w a hc
  have := h.2 a.block hl hd (by simp)
  unfold World.cell? at hc ⊢
  rw [this]; exact hc
theorem belt {w W w' : World} (h : Below w.heap.size w W) (h2 : Below W.heap.size W w') : Below w.heap.size w w' := h.trans (h2.mono h.size)
theorem one_cell (w : World) (v : Value) (e : Nat) (j : Nat) (u : Value) (h : [v][j]? = some u) : ((w.alloc (.cells #[v] e)).drew).cell? ((⟨w.heap.size, 0, none⟩ : Addr).add j) = some u := by
  cases j with
  | zero =>
    simp at h
    subst h
    rw [add_zero_]
    show (w.alloc (.cells #[v] e)).cell? _ = _
    rw [cell_new]; rfl
  | succ j => simp at h
theorem below_al {w W : World} (h : Below w.heap.size w W) (o : Obj) : Below w.heap.size w (W.alloc o) := h.alloc h.size o
theorem grown_below {w w' : World} (h : w.grownBy w' none) : Below w.heap.size w w' := (Below.refl _ _).grown h (Nat.le_refl _) (fun k hk => by simp at hk)
theorem info_of {P : Program} {e : TypeId} {z : Value} {s b : Nat} (h : (P.info? e).map (fun i => (i.zero, i.size, i.bytes)) = some (some z, s, b)) : ∃ i, P.info? e = some i ∧ i.zero = some z ∧ i.size = s ∧ i.bytes = b := by
  cases hi : P.info? e with
  | none => rw [hi] at h; cases h
  | some i =>
    rw [hi] at h
    simp at h
    exact ⟨i, rfl, h.1, h.2.1, h.2.2⟩
theorem ints_cells {W : World} {A : Option Addr} {l : List Int} (h : Kd.C (Kd.int .i64) W A l.length l) : (A = none → l.length = 0) ∧ ∀ b, A = some b → ∀ j u, (encs (Value.int .i64) l)[j]? = some u → W.cell? (b.add j) = some u := by
  obtain ⟨_, h2, h3⟩ := Kd.reads_of_C (d := (0 : Int)) (enc := Value.int .i64) (h1 := fun _ => rfl) h
  refine ⟨fun e => ?_, fun b e j u hu => ?_⟩
  · by_cases h0 : 0 < l.length
    · obtain ⟨ad, e', _⟩ := h3 h0
      rw [e] at e'; cases e'
    · omega
  · have hj : j < l.length := by
      have := List.getElem?_eq_some_iff.1 hu
      obtain ⟨h4, _⟩ := this
      rw [encs_length] at h4; exact h4
    obtain ⟨ad, e', hc⟩ := h3 (by omega)
    rw [e] at e'
    cases e'
    rw [hc j hj]
    unfold encs at hu
    rw [List.getElem?_map, List.getElem?_eq_getElem hj] at hu
    rw [List.getD_eq_getElem?_getD, List.getElem?_eq_getElem hj]
    exact hu
theorem ints_own {W : World} {base : Nat} {v : Value} {l : List Int} {i : Int} {n : Nat} (hn : n = l.length + 1) (h : W.ownsRow base 3 1 v n (encs (Value.int .i64) l ++ [.int .i64 i])) : ∃ A c, v = .slice A (l ++ [i]).length c ∧ (l ++ [i]).length ≤ c ∧ Kd.C (Kd.int .i64) W A (l ++ [i]).length (l ++ [i]) := by
  have e : encs (Value.int .i64) l ++ [.int .i64 i] = encs (Value.int .i64) (l ++ [i]) := by simp [encs]
  rw [e] at h
  obtain ⟨A, c, rfl, hc, hr⟩ := own_reads_of_le (d := (0 : Int)) h
  have hl : n = (l ++ [i]).length := by simp [hn]
  rw [← hl]
  exact ⟨A, c, rfl, hc, Kd.C_of_reads hr⟩
set_option maxHeartbeats 1000000 in
theorem choices1_any (good : List Int → Bool) (n k : Nat) (cap : Array Value) (w0 : World) (pk pd pn pm : Addr) (D : Nat) (hD : pm.block ≠ D) (hD0 : D ≤ w0.heap.size) (Done : List Int → World → Prop) (hn : n ≤ 1000)
    (ck : w0.cell? pk = some (.int .i64 k)) (cd : w0.cell? pd = some (.func (.func 90) #[] cap)) (cn : w0.cell? pn = some (.int .i64 n)) (cm : w0.cell? pm = some (.func (.func 129) #[] #[.pointer (some pk), .pointer (some pd), .pointer (some pn), .pointer (some pm)]))
    (hdo : ∀ (W : World) (A : Option Addr) (c : Nat) (at_ : List Int), Below w0.heap.size w0 W → Kd.C (Kd.int .i64) W A at_.length at_ → at_.length ≤ c → at_.length = k → Comb at_ n →
      Calls Tryz.prog 90 (#[.slice A at_.length c] ++ cap) W fun e w' => e = .returned (.bool (good at_)) ∧ (good at_ = false → Below W.heap.size W w') ∧ (good at_ = true → KB W w' D ∧ Done at_ w')) :
    ∀ (m : Nat) (W : World) (A : Option Addr) (c : Nat) (l : List Int) (q : Nat), Below w0.heap.size w0 W → Kd.C (Kd.int .i64) W A l.length l → l.length ≤ c → l.length + m = k → k ≤ n → Comb l q → q ≤ n →
      Calls Tryz.prog 129 #[.slice A l.length c, .int .i64 q, .pointer (some pk), .pointer (some pd), .pointer (some pn), .pointer (some pm)] W fun e w' =>
        e = .returned (.bool (tryF good n m l q).isSome) ∧ (tryF good n m l q = none → Below W.heap.size W w') ∧ (∀ a, tryF good n m l q = some a → KB W w' D ∧ Done a w') := by
  have HDO := Lib.hid hdo
  clear hdo
  intro m
  induction m with
  | zero =>
    intro W A c l q hW hC hc hlm hkn hL hqn
    have dk := cell_below hW ck
    have dd := cell_below hW cd
    have hlk : l.length = k := by omega
    have HL : Hid (Comb l n) := Lib.hid ⟨fun x hx => by have := hL.1 x hx; omega, hL.2⟩
    have HD := Lib.hid (HDO.out W A c l hW hC hc hlk HL.out)
    clear hL hC hW
    have HT : Hid (tryF good n 0 l q = if good l then some l else none) := Lib.hid rfl
    subst hlk
    go_enter Tryz.func129, Tryz.ntmps129
    go_wp2_with fail
    refine (HD.out).mono ?_
    rintro e w' ⟨rfl, h1, h2⟩
    have H1 := Lib.hid h1
    have H2 := Lib.hid h2
    clear h1 h2
    go_wp2_with fail
    go_ret
    refine ⟨ret_bool' ?_, fun h => ?_, fun a h => ?_⟩
    · rw [HT.out]; cases good l <;> rfl
    · rw [HT.out] at h
      exact H1.out (by cases e : good l <;> simp_all)
    · rw [HT.out] at h
      cases e : good l
      · simp [e] at h
      · simp [e] at h
        rw [← h]
        exact H2.out e
  | succ m ih =>
    intro W A c l q hW hC hc hlm hkn hL hqn
    have dk := cell_below hW ck
    have dn := cell_below hW cn
    have dm := cell_below hW cm
    have hlk : ((l.length : Int) == (k : Int)) = false := by simp; omega
    have HL := Lib.hid hL
    have HC := Lib.hid hC
    have IH := Lib.hid ih
    have HW := Lib.hid hW
    have HT : Hid (tryF good n (m + 1) l q = (List.range' q (n - q)).findSome? fun i : Nat => tryF good n m (l ++ [(i : Int)]) (i + 1)) := Lib.hid rfl
    clear hL hC ih hW
    go_enter Tryz.func129, Tryz.ntmps129
    go_wp2_with fail
    go_loopw [9] (fun i wr => ∃ j : Nat, q ≤ j ∧ j ≤ n ∧ i = .int .i64 (j : Int) ∧ Below W.heap.size W wr ∧ Hid (tryF good n (m + 1) l q = (List.range' j (n - j)).findSome? fun i : Nat => tryF good n m (l ++ [(i : Int)]) (i + 1))) (fun i _ => n - (intOf i).toNat)
    case atStart => exact ⟨q, Nat.le_refl _, hqn, rfl, Below.refl _ _, HT⟩
    case round =>
      obtain ⟨j, hqj, hjn, rfl, hBr, hI⟩ := hrel
      have HBr := Lib.hid hBr
      have en := cell_below hBr dn
      have em := cell_below hBr dm
      by_cases hlt : j < n
      · have HS := Lib.hid (tryF_step good n m l j hlt)
        go_upto_region 6 with fail
        obtain ⟨hA0, hAc⟩ := ints_cells (Kd.C_below HC.out HBr.out)
        have HA0 := Lib.hid hA0
        have HAc := Lib.hid hAc
        have HR : Hid (Below w0.heap.size w0 wr) := Lib.hid (HW.out.trans (HBr.out.mono HW.out.size))
        have hs1 : IntKind.i64.wrap ((j : Int) + 1) = (j : Int) + 1 := IntWalk.i64_in _ ⟨by omega, by omega⟩
        obtain ⟨r, hr⟩ : ∃ r, r = tryF good n m (l ++ [(j : Int)]) (j + 1) := ⟨_, rfl⟩
        have HRr := Lib.hid hr
        have hcall : Hid (∀ (W' : World) (A' : Option Addr) (c' : Nat), Below wr.heap.size wr W' → Kd.C (Kd.int .i64) W' A' (l ++ [(j : Int)]).length (l ++ [(j : Int)]) → (l ++ [(j : Int)]).length ≤ c' →
            Calls Tryz.prog 129 #[.slice A' (l.length + 1) c', .int .i64 ((j : Int) + 1), .pointer (some pk), .pointer (some pd), .pointer (some pn), .pointer (some pm)] W' fun e w' =>
              e = .returned (.bool r.isSome) ∧ w'.cell? pm = some (.func (.func 129) #[] #[.pointer (some pk), .pointer (some pd), .pointer (some pn), .pointer (some pm)]) ∧ (r = none → Below wr.heap.size wr w') ∧ (∀ a, r = some a → KB wr w' D ∧ Done a w')) := Lib.hid (by
          intro W' A' c' h1 h2 h3
          have := IH.out W' A' c' (l ++ [(j : Int)]) (j + 1) (HR.out.trans (h1.mono HR.out.size)) h2 h3 (by simp; omega) hkn (HL.out.snoc hqj) (by omega)
          rw [← HRr.out, show (l ++ [(j : Int)]).length = l.length + 1 by simp] at this
          refine this.mono ?_
          rintro e w' ⟨p1, p2, p3⟩
          have q3 : ∀ a, r = some a → KB wr w' D ∧ Done a w' := fun a h => ⟨(KB.of_below h1 (by have := HR.out.size; omega)).trans (p3 a h).1, (p3 a h).2⟩
          have q2 : r = none → Below wr.heap.size wr w' := fun h => h1.trans ((p2 h).mono h1.size)
          refine ⟨p1, ?_, q2, q3⟩
          cases e : r with
          | none => exact cell_below (q2 e) em
          | some a =>
            exact keepbut_cell (q3 a e).1.k hD em)
        clear hA0 hAc hr
        obtain ⟨i0_, hi, hz0, hz1, hz2⟩ := info_of info3
        have hlen : l.length + 1 ≤ maxLen ∧ (l.length + 1) * 8 ≤ 140737488355328 := ⟨by unfold maxLen; omega, by omega⟩
        have hAW : Hid (∀ W' : World, Below wr.heap.size wr W' → ∀ b, A = some b → ∀ j u, (encs (Value.int .i64) l)[j]? = some u → W'.cell? (b.add j) = some u) := Lib.hid (fun W' h b e j u hu => cell_below h (HAc.out b e j u hu))
        have hone := Lib.hid (one_cell wr (.int .i64 j) 3)
        go_region_held3 (fun W' => W'.cell? pm = some (.func (.func 129) #[] #[.pointer (some pk), .pointer (some pd), .pointer (some pn), .pointer (some pm)])) (first | (refine cell_below (w := wr) ?_ (by assumption); (repeat (first | assumption | exact Below.refl _ _ | apply Below.drew | apply below_al)); done) | assumption)
          (first
            | ((refine step_append_grows rfl (.tmp 29) (.tmp 31) 34 rfl 3 i0_ (.int .i64 0) 1 8 Tryz.underlying34 hi hz0 hz1 hz2 rfl (by decide) A l.length l.length (encs (Value.int .i64) l) rfl (fun e => ⟨HA0.out e, HA0.out e⟩) (by rw [encs_length]; omega) (hAW.out _ (by (repeat (first | assumption | exact Below.refl _ _ | apply Below.drew | apply below_al)))) ⟨wr.heap.size, 0, none⟩ 1 1 [.int .i64 j] rfl rfl hone.out (fun u hu => by cases List.mem_singleton.1 hu; rfl) (by omega) hlen.1 hlen.2 ?_; intro v' w' hown hgrow; obtain ⟨A', c', rfl, hc', hC'⟩ := ints_own rfl hown; have hbw : Below wr.heap.size wr w' := belt (by (repeat (first | assumption | exact Below.refl _ _ | apply Below.drew | apply below_al))) (grown_below hgrow)))
            | ((go_at_call 129; refine (hcall.out _ _ _ hbw hC' hc').mono ?_; rintro e w'' ⟨rfl, p1, p2, p3⟩)))
        have HST : Hid (tryF good n (m + 1) l q = r.or ((List.range' (j + 1) (n - (j + 1))).findSome? fun i : Nat => tryF good n m (l ++ [(i : Int)]) (i + 1))) := Lib.hid (by rw [hI.out, HS.out, ← HRr.out])
        have P1 := Lib.hid p2
        have P2 := Lib.hid p3
        clear p1 p2 p3 hI HS HRr hcall hAW hone HAc HA0 hC' hc' hown hgrow hbw
        cases r with
        | none =>
          have hb := P1.out rfl
          have HST' : Hid (tryF good n (m + 1) l q = (List.range' (j + 1) (n - (j + 1))).findSome? fun i : Nat => tryF good n m (l ++ [(i : Int)]) (i + 1)) := HST
          clear HST P1 P2
          simp only [Option.isSome_none]
          go_wp2_with fail
          go_roundw
          case rel => exact ⟨j + 1, by omega, by omega, by simp, belt HBr.out (Below.mono hb (Nat.le_refl _)), HST'⟩
          case measure => simp [intOf]; omega
        | some a =>
          have HST' : Hid (tryF good n (m + 1) l q = some a) := HST
          clear HST
          simp only [Option.isSome_some]
          go_wp2_with fail
          go_ret
          refine ⟨ret_bool' (by rw [HST'.out]; rfl), fun h => ?_, fun b h => ?_⟩
          · rw [HST'.out] at h; cases h
          · rw [HST'.out] at h
            cases h
            exact ⟨(KB.of_below HBr.out (by have := HW.out.size; omega)).trans (P2.out _ rfl).1, (P2.out _ rfl).2⟩
      · have hjn' : j = n := by omega
        subst hjn'
        have HST' : Hid (tryF good j (m + 1) l q = none) := Lib.hid (by rw [hI.out]; simp)
        clear hI
        go_wp2_with fail
        go_ret
        refine ⟨ret_bool' (by rw [HST'.out]; rfl), fun h => HBr.out, fun b h => ?_⟩
        rw [HST'.out] at h; cases h
end Go.Proofs.YtkdjibejnncmfaaGreatDoor.Co

/- The walk of choices, and of the function that Repair hands to it. -/
namespace Go.Proofs.YtkdjibejnncmfaaGreatDoor.Co
open Go.RowKit Go.Proofs.YtkdjibejnncmfaaGreatDoorW.PrintWords Go.Proofs.YtkdjibejnncmfaaGreatDoorW.PrintLast Go.Proofs.YtkdjibejnncmfaaGreatDoorW.PrintMore
set_option linter.unusedVariables false
set_option linter.unusedSimpArgs false
set_option maxRecDepth 100000
set_option maxHeartbeats 1000000 in
theorem choices_any (good : List Int → Bool) (n k : Nat) (cap : Array Value) (w : World) (D : Nat) (hD : D < w.heap.size) (Done : List Int → World → Prop) (hn : n ≤ 1000) (hkn : k ≤ n)
    (hdo : ∀ (W : World) (A : Option Addr) (c : Nat) (at_ : List Int), Below w.heap.size w W → Kd.C (Kd.int .i64) W A at_.length at_ → at_.length ≤ c → at_.length = k → Comb at_ n →
      Calls Tryz.prog 90 (#[.slice A at_.length c] ++ cap) W fun e w' => e = .returned (.bool (good at_)) ∧ (good at_ = false → Below W.heap.size W w') ∧ (good at_ = true → KB W w' D ∧ Done at_ w')) :
    Calls Tryz.prog 89 #[.int .i64 n, .int .i64 k, .func (.func 90) #[] cap] w fun e w' =>
      e = .returned (.bool (tryF good n k [] 0).isSome) ∧ (tryF good n k [] 0 = none → Below w.heap.size w w') ∧ (∀ a, tryF good n k [] 0 = some a → KB w w' D ∧ Done a w') := by
  have HDO := Lib.hid hdo
  clear hdo
  obtain ⟨w3, hw3⟩ : ∃ w3, w3 = ((w.alloc (.cells #[Value.int .i64 n] 3)).alloc (.cells #[Value.int .i64 k] 3)).alloc (.cells #[Value.func (.func 90) #[] cap] 124) := ⟨_, rfl⟩
  have hs3 : w3.heap.size = w.heap.size + 1 + 1 + 1 := by rw [hw3]; simp
  have hbox := Box.new w3 #[Value.nilFunc] 70
  have x0 := hbox.cell 0
  have x1 := hbox.frozen 0
  simp only [List.getElem?_toArray, List.getElem?_cons_zero] at x0
  rw [hs3, hw3] at x0 x1
  have HB := Lib.hid hbox
  have HW3 := Lib.hid hw3
  have HS3 := Lib.hid hs3
  clear hbox hw3 hs3
  go_enter Tryz.func89, Tryz.ntmps89
  go_wp2_with fail
  obtain ⟨W4, hW4⟩ : ∃ W4, W4 = (((w.alloc (.cells #[Value.int .i64 n] 3)).alloc (.cells #[Value.int .i64 k] 3)).alloc (.cells #[Value.func (.func 90) #[] cap] 124)).alloc (.cells #[Value.func (.func 129) #[] #[.pointer (some ⟨w.heap.size + 1, 0, none⟩), .pointer (some ⟨w.heap.size + 1 + 1, 0, none⟩), .pointer (some ⟨w.heap.size, 0, none⟩), .pointer (some ⟨w.heap.size + 1 + 1 + 1, 0, none⟩)]] 70) := ⟨_, rfl⟩
  rw [← hW4]
  have hB4 : Below w.heap.size w W4 := by rw [hW4]; exact below_al (below_al (below_al (below_al (Below.refl _ _) _) _) _) _
  have cn : W4.cell? ⟨w.heap.size, 0, none⟩ = some (.int .i64 n) := by
    have := ((((Box.new w #[Value.int .i64 n] 3).alloc (.cells #[Value.int .i64 k] 3)).alloc (.cells #[Value.func (.func 90) #[] cap] 124)).alloc (.cells #[Value.func (.func 129) #[] #[.pointer (some ⟨w.heap.size + 1, 0, none⟩), .pointer (some ⟨w.heap.size + 1 + 1, 0, none⟩), .pointer (some ⟨w.heap.size, 0, none⟩), .pointer (some ⟨w.heap.size + 1 + 1 + 1, 0, none⟩)]] 70)).cell 0
    rw [← hW4] at this; exact this
  have ck : W4.cell? ⟨w.heap.size + 1, 0, none⟩ = some (.int .i64 k) := by
    have := (((Box.new (w.alloc (.cells #[Value.int .i64 n] 3)) #[Value.int .i64 k] 3).alloc (.cells #[Value.func (.func 90) #[] cap] 124)).alloc (.cells #[Value.func (.func 129) #[] #[.pointer (some ⟨w.heap.size + 1, 0, none⟩), .pointer (some ⟨w.heap.size + 1 + 1, 0, none⟩), .pointer (some ⟨w.heap.size, 0, none⟩), .pointer (some ⟨w.heap.size + 1 + 1 + 1, 0, none⟩)]] 70)).cell 0
    rw [← hW4] at this; simpa using this
  have cd : W4.cell? ⟨w.heap.size + 1 + 1, 0, none⟩ = some (.func (.func 90) #[] cap) := by
    have := ((Box.new ((w.alloc (.cells #[Value.int .i64 n] 3)).alloc (.cells #[Value.int .i64 k] 3)) #[Value.func (.func 90) #[] cap] 124).alloc (.cells #[Value.func (.func 129) #[] #[.pointer (some ⟨w.heap.size + 1, 0, none⟩), .pointer (some ⟨w.heap.size + 1 + 1, 0, none⟩), .pointer (some ⟨w.heap.size, 0, none⟩), .pointer (some ⟨w.heap.size + 1 + 1 + 1, 0, none⟩)]] 70)).cell 0
    rw [← hW4] at this; simpa using this
  have cm : W4.cell? ⟨w.heap.size + 1 + 1 + 1, 0, none⟩ = some (.func (.func 129) #[] #[.pointer (some ⟨w.heap.size + 1, 0, none⟩), .pointer (some ⟨w.heap.size + 1 + 1, 0, none⟩), .pointer (some ⟨w.heap.size, 0, none⟩), .pointer (some ⟨w.heap.size + 1 + 1 + 1, 0, none⟩)]) := by
    have := (Box.new (((w.alloc (.cells #[Value.int .i64 n] 3)).alloc (.cells #[Value.int .i64 k] 3)).alloc (.cells #[Value.func (.func 90) #[] cap] 124)) #[Value.func (.func 129) #[] #[.pointer (some ⟨w.heap.size + 1, 0, none⟩), .pointer (some ⟨w.heap.size + 1 + 1, 0, none⟩), .pointer (some ⟨w.heap.size, 0, none⟩), .pointer (some ⟨w.heap.size + 1 + 1 + 1, 0, none⟩)]] 70).cell 0
    rw [← hW4] at this; simpa using this
  have hC : Kd.C (Kd.int .i64) W4 none ([] : List Int).length [] := Kd.C_of_reads (d := (0 : Int)) ⟨rfl, by simp, fun h => by simp at h⟩
  have hcall := choices1_any good n k cap W4 _ _ _ _ D (by show w.heap.size + 1 + 1 + 1 ≠ D; omega) (by have := hB4.size; omega) Done hn ck cd cn cm (fun W A c at_ h1 h2 h3 h4 h5 => HDO.out W A c at_ (belt hB4 h1) h2 h3 h4 h5) k W4 none 0 [] 0 (Below.refl _ _) hC (Nat.le_refl _) (by simp) hkn ⟨by simp, by simp⟩ (by omega)
  have HB4 := Lib.hid hB4
  clear x0 x1 HB hW4 cn ck cd cm hC hB4
  refine hcall.mono ?_
  rintro e w' ⟨rfl, h1, h2⟩
  have H1 := Lib.hid h1
  have H2 := Lib.hid h2
  clear h1 h2 hcall
  go_wp2_with fail
  go_ret
  exact ⟨rfl, fun h => belt HB4.out (H1.out h), fun a h => ⟨(KB.of_below HB4.out (by omega)).trans (H2.out a h).1, (H2.out a h).2⟩⟩
end Go.Proofs.YtkdjibejnncmfaaGreatDoor.Co

/- The walk of the function that Repair hands to choices. -/
namespace Go.Proofs.YtkdjibejnncmfaaGreatDoor.Co
open Go.RowKit Go.Proofs.YtkdjibejnncmfaaGreatDoorW.PrintWords Go.Proofs.YtkdjibejnncmfaaGreatDoorW.PrintLast Go.Proofs.YtkdjibejnncmfaaGreatDoorW.PrintMore
set_option linter.unusedVariables false
set_option linter.unusedSimpArgs false
set_option maxRecDepth 100000
def ownF (l : List ByteArray) (at_ : List Int) : List ByteArray := at_.map fun i => vs l i
/-- In how many of the first j places do two lists differ? -/
def wrongTo (q l : List ByteArray) (j : Nat) : Nat := ((List.range j).filter fun i : Nat => !((vs q i).toList == (vs l i).toList)).length
theorem wrongTo_succ (q l : List ByteArray) (j : Nat) : wrongTo q l (j + 1) = if (vs q j).toList == (vs l j).toList then wrongTo q l j else wrongTo q l j + 1 := by
  unfold wrongTo
  rw [List.range_succ, List.filter_append, List.length_append]
  by_cases h : ((vs q j).toList == (vs l j).toList) = true <;> simp [h]
theorem wrongTo_le (q l : List ByteArray) (j : Nat) : wrongTo q l j ≤ j := by
  unfold wrongTo
  exact Nat.le_trans (List.length_filter_le _ _) (by simp)
def goodF (l : List ByteArray) (k : Nat) (at_ : List Int) : Bool := decide (wrongTo (someTo at_ (ownF l at_) l.length) l l.length ≤ (l.length - k) / 2)
theorem ownF_take (l : List ByteArray) (at_ : List Int) (j : Nat) (h : j < at_.length) : ownF l (at_.take (j + 1)) = ownF l (at_.take j) ++ [vs l (rd at_ j)] := by
  unfold ownF
  rw [List.take_add_one, List.map_append]
  have : at_[j]? = some (rd at_ j) := by
    unfold rd
    rw [Int.toNat_natCast, List.getElem?_eq_getElem h]
    simp [List.getD_eq_getElem?_getD, h]
  rw [this]; rfl
theorem rd_mem (at_ : List Int) (j : Nat) (h : j < at_.length) : rd at_ j ∈ at_ := by
  unfold rd
  rw [Int.toNat_natCast, List.getD_eq_getElem?_getD, List.getElem?_eq_getElem h]
  exact List.getElem_mem _
theorem vs_ownF (l : List ByteArray) (at_ : List Int) (j : Nat) (h : j < at_.length) : vs (ownF l at_) j = vs l (rd at_ j) := by
  unfold ownF
  conv => lhs; unfold vs rdOf
  rw [Int.toNat_natCast, List.getD_eq_getElem?_getD, List.getElem?_map]
  unfold rd
  rw [Int.toNat_natCast, List.getD_eq_getElem?_getD, List.getElem?_eq_getElem h]
  rfl
set_option maxHeartbeats 1000000 in
theorem Repair1_any (L : Nat) (A : Option Addr) (c : Nat) (l : List ByteArray) (k : Nat) (W : World) (pl pn pk : Addr) (D : Nat) (old : Value)
    (cl : W.cell? pl = some (.slice A l.length c)) (cn : W.cell? pn = some (.int .i64 l.length)) (ck : W.cell? pk = some (.int .i64 k)) (cD : Box W D 33 #[old])
    (hC : Kd.C Kd.string W A l.length l) (hc : l.length ≤ c) (hl : l.length ≤ 12) (hL : ∀ i : Nat, i < l.length → (vs l i).size = L) (hLb : L ≤ 1000000)
    (Aa : Option Addr) (ca : Nat) (at_ : List Int) (hCa : Kd.C (Kd.int .i64) W Aa at_.length at_) (hca : at_.length ≤ ca) (hk : at_.length = k) (hk1 : 1 ≤ k) (hkl : k ≤ l.length) (hcomb : Comb at_ l.length) :
    Calls Tryz.prog 90 #[.slice Aa at_.length ca, .pointer (some pl), .pointer (some pn), .pointer (some pk), .pointer (some ⟨D, 0, none⟩)] W fun e w' =>
      e = .returned (.bool (goodF l k at_)) ∧ (goodF l k at_ = false → Below W.heap.size W w') ∧ (goodF l k at_ = true → KB W w' D ∧ ∃ v, w'.cell? ⟨D, 0, none⟩ = some v ∧ Kd.R Kd.string 9 w' W.heap.size (fun _ => True) v (someTo at_ (ownF l at_) k)) := by
  subst hk
  have HC := Lib.hid hC
  have HCa := Lib.hid hCa
  have HL := Lib.hid hL
  have HCB := Lib.hid hcomb
  have HD := Lib.hid cD
  clear hC hCa hL hcomb cD
  go_enter Tryz.func90, Tryz.ntmps90
  go_wp2_with fail
  go_loopw [7, 16] (fun v i wr => ∃ j : Nat, j ≤ at_.length ∧ i = .int .i64 j ∧ Kd.R Kd.string 9 wr W.heap.size (fun _ => True) v (ownF l (at_.take j)) ∧ Below W.heap.size W wr) (fun _ i _ => at_.length - (intOf i).toNat)
  case atStart => exact ⟨0, by omega, rfl, Kd.R_nil _ _ _ _ _, Below.refl _ _⟩
  case round =>
    obtain ⟨j, hj, rfl, hR, hBe⟩ := hrel
    have HR := Lib.hid hR
    have HBe := Lib.hid hBe
    have cl1 := cell_below hBe cl
    have cn1 := cell_below hBe cn
    have ck1 := cell_below hBe ck
    by_cases hlt : j < at_.length
    · obtain ⟨ad, e, hxa⟩ := Kd.at_int (Kd.C_below HCa.out hBe) (j : Int) (by omega) (by omega)
      have hm := HCB.out.1 _ (rd_mem at_ j hlt)
      obtain ⟨i, hi⟩ : ∃ i : Nat, rd at_ j = (i : Int) := ⟨(rd at_ j).toNat, by omega⟩
      rw [hi] at hm
      have hil : i < l.length := by omega
      obtain ⟨adv, ev, hxv⟩ := Kd.at_string (Kd.C_below HC.out hBe) (i : Int) (by omega) (by omega)
      subst e
      subst ev
      simp only [Int.toNat_natCast] at hxa hxv
      rw [hi] at hxa
      have hxv' : wr.cell? (adv.add i) = some (.string (vs l (i : Int))) := hxv
      have HOS := Lib.hid (ownF_take l at_ j hlt)
      rw [hi] at HOS
      have hol : (ownF l (at_.take j)).length = j := by unfold ownF; rw [List.length_map, List.length_take]; omega
      have HI := Lib.hid hi
      have hR1 := HR
      clear hxv hR hBe hi hm
      go_wp2_with ((with_reducible refine gate_builtin (b := .append) (xs := #[.tmp 20, .tmp 25]) rfl ?_); at_builtin; refine Kd.R_append Kd.string (w0 := W) W.heap.size rfl (.tmp 20) (.tmp 25) 33 9 (.string ⟨#[]⟩) 16 rfl Tryz.underlying33 info9 rfl (by decide) (by omega) u7 (ownF l (at_.take j)) (vs l (i : Int)) [.string (vs l (i : Int))] (fun _ => True) (fun _ => False) rfl rfl ?aP (fun _ hk => hk.elim) ?aF ?aO ?aB ?aS ?aL ?_; (case aP => exact rfl); (case aF => exact (fun _ _ => trivial)); (case aO => exact hR1.out); (case aB => exact HBe.out); (case aS => exact HBe.out.size); (case aL => omega); intro v1 w2 ho hb hg hat; have ho1 := Lib.hid ho; have hb1 := Lib.hid hb; clear ho hg hat hb)
      go_roundw
      case rel => exact ⟨j + 1, by omega, by go_num, by rw [HOS.out]; exact ho1.out, hb1.out⟩
      case measure => simp [intOf]; omega
    · obtain rfl : j = at_.length := by omega
      have e1 : at_.take at_.length = at_ := List.take_length
      rw [e1] at HR hR
      obtain ⟨Ao, co, ev, hco, hCo⟩ := Kd.R_reads hR
      have hol : (ownF l at_).length = at_.length := by unfold ownF; rw [List.length_map]
      rw [hol] at hco hCo ev
      subst ev
      have HCO := Lib.hid hCo
      have HOL := Lib.hid hol
      have HCA1 := Lib.hid (Kd.C_below HCa.out hBe)
      have hrdn : ∀ i : Nat, i < at_.length → ∃ m : Nat, rd at_ i = (m : Int) ∧ m < l.length := by
        intro i hi
        have := HCB.out.1 _ (rd_mem at_ i hi)
        exact ⟨(rd at_ i).toNat, by omega, by omega⟩
      have hthr := through_own Aa ca at_ Ao co (ownF l at_) L wr HCA1.out hca (fun i hi => by obtain ⟨m, e, hm⟩ := hrdn i hi; rw [e]; exact ⟨by omega, by omega⟩) (by omega) (by rw [hol]; exact hCo) (by omega) (by omega) (by omega)
        (fun i hi => by rw [hol] at hi; rw [vs_ownF l at_ i hi]; obtain ⟨m, e, hm⟩ := hrdn i hi; rw [e]; exact HL.out m hm) hLb
      rw [hol] at hthr
      have HT := Lib.hid hthr
      have HRD := Lib.hid hrdn
      clear hthr hR hBe hCo hol hrdn e1
      go_wp2_with fail
      refine HT.out.mono ?_
      rintro e w1 ⟨g, A', c', rfl, hP, hb1, hg, hA'⟩
      have HP := Lib.hid hP
      have HB1 := Lib.hid hb1
      clear hP hb1 HT
      have HG := Lib.hid (And.intro hg hA')
      clear hg hA'
      have hW2 : ∃ W2, W2 = w1.alloc (.cells #[.slice A' at_.length c', .pointer (some ⟨g, 0, none⟩), .slice Ao at_.length co] 115) := ⟨_, rfl⟩
      have hbw : Below w1.heap.size w1 (w1.alloc (.cells #[.slice A' at_.length c', .pointer (some ⟨g, 0, none⟩), .slice Ao at_.length co] 115)) := below_al (Below.refl _ _) _
      have HW1 : Hid (Below W.heap.size W w1) := Lib.hid (belt HBe.out HB1.out)
      have cl2 := cell_below (belt HW1.out hbw) cl
      have cn2 := cell_below (belt HW1.out hbw) cn
      have ck2 := cell_below (belt HW1.out hbw) ck
      have hbx := Box.new w1 #[.slice A' at_.length c', .pointer (some ⟨g, 0, none⟩), .slice Ao at_.length co] 115
      have x0 := hbx.cell 0
      have x1 := hbx.cell 1
      have x2 := hbx.cell 2
      simp only [List.getElem?_toArray, List.getElem?_cons_zero, List.getElem?_cons_succ] at x0 x1 x2
      have HBX := Lib.hid hbx
      have HBW := Lib.hid hbw
      clear hbx hbw
      go_wp2_with fail
      obtain ⟨W2, hW2⟩ := hW2
      rw [← hW2] at x0 x1 x2 cl2 cn2 ck2 HBX HBW ⊢
      clear hW2
      have HP2 := Lib.hid (HP.out.below HBW.out)
      have hsome := some_any l.length W2 HP2.out (by omega)
      rw [HOL.out] at hsome
      have HSM := Lib.hid hsome
      clear hsome
      refine HSM.out.mono ?_
      rintro e w3 ⟨q3, rfl, hR3, hb3⟩
      obtain ⟨A3, c3, ev3, hc3, hC3⟩ := Kd.R_reads hR3
      rw [someTo_length] at ev3 hc3 hC3
      subst ev3
      have HR3 := Lib.hid hR3
      have HC3 := Lib.hid hC3
      have HB3 := Lib.hid hb3
      clear hR3 hC3 hb3 HSM
      go_wp2_with fail
      obtain ⟨Q3, hQ3⟩ : ∃ Q3, Q3 = someTo at_ (ownF l at_) l.length := ⟨_, rfl⟩
      have hQL : Q3.length = l.length := by rw [hQ3, someTo_length]
      rw [← hQ3] at HC3
      have HQ3 := Lib.hid hQ3
      have HQL := Lib.hid hQL
      clear hQ3 hQL
      have cl3 := cell_below HB3.out cl2
      have cn3 := cell_below HB3.out cn2
      have ck3 := cell_below HB3.out ck2
      have y0 := cell_below HB3.out x0
      have y1 := cell_below HB3.out x1
      have y2 := cell_below HB3.out x2
      have HB2 : Hid (Below W.heap.size W w3) := Lib.hid (belt (belt HW1.out HBW.out) HB3.out)
      go_loop [11, 35] (fun x i => ∃ j : Nat, j ≤ l.length ∧ i = .int .i64 j ∧ x = .int .i64 (wrongTo Q3 l j : Nat)) (fun _ i => l.length - (intOf i).toNat)
      case atStart => exact ⟨0, by omega, rfl, rfl⟩
      case round =>
        obtain ⟨j, hj, rfl, rfl⟩ := hrel
        by_cases hlt : j < l.length
        · obtain ⟨ad, e, hxa⟩ := Kd.at_string HC3.out (j : Int) (by omega) (by omega)
          obtain ⟨adv, ev, hxv⟩ := Kd.at_string (Kd.C_below HC.out HB2.out) (j : Int) (by omega) (by omega)
          subst e
          subst ev
          simp only [Int.toNat_natCast] at hxa hxv
          have hxa' : w3.cell? (ad.add j) = some (.string (vs Q3 (j : Int))) := hxa
          have hxv' : w3.cell? (adv.add j) = some (.string (vs l (j : Int))) := hxv
          have hwl := wrongTo_le Q3 l j
          have HS := Lib.hid (wrongTo_succ Q3 l j)
          clear hxa hxv
          by_cases hp : ((vs Q3 j).toList == (vs l j).toList) = true
          · go_wp2_with fail
            go_round
            case rel => exact ⟨j + 1, by omega, by go_num, by rw [HS.out, if_pos hp]⟩
            case measure => simp [intOf]; omega
          · have hp' : ((vs Q3 j).toList == (vs l j).toList) = false := by simpa using hp
            go_wp2_with fail
            go_round
            case rel => exact ⟨j + 1, by omega, by go_num, by rw [HS.out, if_neg hp]; go_num⟩
            case measure => simp [intOf]; omega
        · have hjl : j = l.length := by omega
          subst hjl
          have hG : Hid (goodF l at_.length at_ = decide (wrongTo Q3 l l.length ≤ (l.length - at_.length) / 2)) := Lib.hid (by unfold goodF; rw [HQ3.out])
          by_cases hgd : (wrongTo Q3 l l.length : Int) ≤ ((l.length : Int) - (at_.length : Int)) / 2
          · have HT : Hid (goodF l at_.length at_ = true) := Lib.hid (by rw [hG.out]; simp; omega)
            clear hG
            have HP3 := Lib.hid (HP2.out.below HB3.out)
            have hsome := some_any at_.length w3 HP3.out (by omega)
            rw [HOL.out] at hsome
            have HSM := Lib.hid hsome
            clear hsome
            go_wp2_with fail
            refine HSM.out.mono ?_
            rintro e w4 ⟨q4, rfl, hR4, hb4⟩
            have hD3 := HD.out.below HB2.out HD.out.lt
            have hD4 := hD3.below hb4 hD3.lt
            have d0 := hD4.cell 0
            have d1 := hD4.frozen 0
            simp only [List.getElem?_toArray, List.getElem?_cons_zero] at d0
            have hdl := HD.out.lt
            obtain ⟨A4, c4, ev4, hc4, hC4⟩ := Kd.R_reads hR4
            have HR4 := Lib.hid hR4
            have HB4 := Lib.hid (belt HB2.out hb4)
            have HD4 := Lib.hid hD4
            subst ev4
            have hsz := HB2.out.size
            clear hD3 hD4 hR4 hb4 hC4 hc4
            go_wp2_with fail
            go_ret
            refine ⟨ret_bool' HT.out.symm, fun h => ?_, fun _ => ⟨?_, ?_⟩⟩
            · rw [HT.out] at h; cases h
            · exact (KB.of_below HB4.out (by omega)).set_ 0 _
            · exact ⟨.slice A4 (someTo at_ (ownF l at_) at_.length).length c4, (HD4.out.set 0 _).cell 0, Kd.R_mono (Kd.R_lower (Kd.R_far (p := ⟨D, 0, none⟩) (Kd.R_bound HR4.out) (fun k hk => by have := hk.2.1; show k ≠ D; omega) _) hsz) (fun _ _ => trivial)⟩
          · have HT : Hid (goodF l at_.length at_ = false) := Lib.hid (by rw [hG.out]; simp; omega)
            clear hG
            go_wp2_with fail
            go_ret
            refine ⟨ret_bool' HT.out.symm, fun h => HB2.out, fun h => ?_⟩
            rw [HT.out] at h; cases h
end Go.Proofs.YtkdjibejnncmfaaGreatDoor.Co

/- The walk of Repair. -/
namespace Go.Proofs.YtkdjibejnncmfaaGreatDoor.Co
open Go.RowKit Go.Proofs.YtkdjibejnncmfaaGreatDoorW.PrintWords Go.Proofs.YtkdjibejnncmfaaGreatDoorW.PrintLast Go.Proofs.YtkdjibejnncmfaaGreatDoorW.PrintMore
set_option linter.unusedVariables false
set_option linter.unusedSimpArgs false
set_option maxRecDepth 100000
def repOk (k : Int) (l : List ByteArray) : Bool := decide (1 ≤ k ∧ k ≤ 12) && alikeF l k 256
def repTry (k : Nat) (l : List ByteArray) : Option (List Int) := tryF (goodF l k) l.length k [] 0
def repF (k : Int) (l : List ByteArray) : List ByteArray × Int :=
  if repOk k l then match repTry k.toNat l with | some a => (someTo a (ownF l a) k.toNat, 0) | none => ([], 90) else ([], 1)
theorem kb_below {w W w' : World} {D : Nat} (h : Below w.heap.size w W) (hd : w.heap.size ≤ D) (hk : KB W w' D) : Below w.heap.size w w' := h.trans (hk.b.mono hd)
set_option maxHeartbeats 1000000 in
theorem Repair_any (k : Int) (A : Option Addr) (c : Nat) (l : List ByteArray) (w : World) (hC : Kd.C Kd.string w A l.length l) (hc : l.length ≤ c) (hs : ∀ s ∈ l, s.size ≤ 9223372036854775807) :
    Calls Tryz.prog 33 #[.int .i64 k, .slice A l.length c] w fun e w' => ∃ v, e = .returned (.tuple #[v, .int .i64 (repF k l).2]) ∧ Kd.R Kd.string 9 w' w.heap.size (fun _ => True) v (repF k l).1 ∧ Below w.heap.size w w' := by
  have hm : l.length ≤ 9223372036854775807 := hC.2.1
  have HC := Lib.hid hC
  have HS := Lib.hid hs
  clear hC hs
  have hbad : repOk k l = false → Hid (repF k l = ([], 1)) := fun h => Lib.hid (by unfold repF; rw [h]; rfl)
  have hb1 := Box.new w #[Value.int .i64 k] 3
  have hb2 := Box.new (w.alloc (.cells #[Value.int .i64 k] 3)) #[Value.slice A l.length c] 33
  simp only [World.size_alloc] at hb2
  have hb1' := hb1.alloc (.cells #[Value.slice A l.length c] 33)
  have x1 := hb1'.cell 0
  have x2 := hb2.cell 0
  simp only [List.getElem?_toArray, List.getElem?_cons_zero, List.getElem?_cons_succ] at x1 x2
  have hW0 : ∃ W0, W0 = (w.alloc (.cells #[Value.int .i64 k] 3)).alloc (.cells #[Value.slice A l.length c] 33) := ⟨_, rfl⟩
  have hB0 : Below w.heap.size w ((w.alloc (.cells #[Value.int .i64 k] 3)).alloc (.cells #[Value.slice A l.length c] 33)) := below_al (below_al (Below.refl _ _) _) _
  have hB1 := Lib.hid hb1'
  have hB2 := Lib.hid hb2
  have HB0 := Lib.hid hB0
  clear hb1 hb2 hb1' hB0
  by_cases hk : 1 ≤ k ∧ k ≤ 12
  · have HK : Hid (decide (1 ≤ k ∧ k ≤ 12) = true) := Lib.hid (by simpa using hk)
    obtain ⟨k', rfl⟩ : ∃ k' : Nat, k = (k' : Int) := ⟨k.toNat, by omega⟩
    obtain ⟨hk1, hk2⟩ := hk
    go_enter Tryz.func33, Tryz.ntmps33
    go_wp2_with fail
    refine (isShare_any k' _).mono ?_
    rintro e w' ⟨rfl, rfl⟩
    rw [HK.out]
    go_wp2_with fail
    obtain ⟨W0, hW0⟩ := hW0
    rw [← hW0] at x1 x2 hB1 hB2 HB0 ⊢
    have HC0 := Lib.hid (Kd.C_below HC.out HB0.out)
    clear hW0
    refine (alike_any A c l k' 256 W0 HC0.out hc (by omega) HS.out).mono ?_
    rintro e w1 ⟨rfl, hb1⟩
    have HB1 := Lib.hid hb1
    by_cases ha : alikeF l k' 256 = true
    · obtain ⟨hl1, hl2, hsz, hall⟩ := alike_true ha
      have HALL := Lib.hid (alike_sizes ha)
      have HSZ := Lib.hid hsz
      rw [ha]
      have z1 := cell_below hb1 x1
      have z2 := cell_below hb1 x2
      have HR : Hid (repF k' l = match repTry k' l with | some a => (someTo a (ownF l a) k', 0) | none => ([], 90)) := Lib.hid (by unfold repF repOk; rw [HK.out, ha]; rfl)
      clear ha hbad hall hsz hb1 x1 x2
      have hn := Box.new w1 #[Value.int .i64 l.length] 3
      have hd := Box.new (w1.alloc (.cells #[Value.int .i64 l.length] 3)) #[Value.slice none 0 0] 33
      simp only [World.size_alloc] at hd
      have hn' := hn.alloc (.cells #[Value.slice none 0 0] 33)
      have x3 := hn'.cell 0
      simp only [List.getElem?_toArray, List.getElem?_cons_zero, List.getElem?_cons_succ] at x3
      have hbw : Below w1.heap.size w1 ((w1.alloc (.cells #[Value.int .i64 l.length] 3)).alloc (.cells #[Value.slice none 0 0] 33)) := below_al (below_al (Below.refl _ _) _) _
      have z3 := cell_below hbw z1
      have z4 := cell_below hbw z2
      have hsz2 : ((w1.alloc (.cells #[Value.int .i64 l.length] 3)).alloc (.cells #[Value.slice none 0 0] 33)).heap.size = w1.heap.size + 2 := by simp
      have HX := Lib.hid hn'
      have HDD := Lib.hid hd
      have HBW := Lib.hid hbw
      have HSZ2 := Lib.hid hsz2
      clear hn hn' hd hbw hsz2
      have hW2 : ∃ W2, W2 = ((w1.alloc (.cells #[Value.int .i64 l.length] 3)).alloc (.cells #[Value.slice none 0 0] 33)) := ⟨_, rfl⟩
      go_wp2_with fail
      obtain ⟨W2, hW2⟩ := hW2
      rw [← hW2] at x3 z3 z4 HX HDD HBW HSZ2 ⊢
      clear hW2
      have HBB : Hid (Below w.heap.size w W2) := Lib.hid (belt (belt HB0.out HB1.out) HBW.out)
      have hDl : w1.heap.size + 1 < W2.heap.size := by have := HSZ2.out; omega
      have hwD : w.heap.size ≤ w1.heap.size + 1 := by have := HB0.out.size; have := HB1.out.size; omega
      have hch := choices_any (goodF l k') l.length k' #[.pointer (some ⟨w.heap.size + 1, 0, none⟩), .pointer (some ⟨w1.heap.size, 0, none⟩), .pointer (some ⟨w.heap.size, 0, none⟩), .pointer (some ⟨w1.heap.size + 1, 0, none⟩)] W2 (w1.heap.size + 1) hDl
        (fun a w' => ∃ v, w'.cell? ⟨w1.heap.size + 1, 0, none⟩ = some v ∧ Kd.R Kd.string 9 w' w.heap.size (fun _ => True) v (someTo a (ownF l a) k')) (by omega) (by omega)
        (fun W Aa ca at_ h1 h2 h3 h4 h5 => (Repair1_any (vs l 0).size A c l k' W _ _ _ _ (.slice none 0 0) (cell_below h1 z4) (cell_below h1 x3) (cell_below h1 z3) (HDD.out.below h1 HDD.out.lt) (Kd.C_below HC.out (belt HBB.out h1)) hc hl2 HALL.out (by have := HSZ.out; omega) Aa ca at_ h2 h3 h4 (by omega) (by omega) h5).mono
          (fun e w' hh => ⟨hh.1, hh.2.1, fun hg => ⟨(hh.2.2 hg).1, (hh.2.2 hg).2.elim fun v hv => ⟨v, hv.1, Kd.R_lower hv.2 (belt HBB.out h1).size⟩⟩⟩))
      have HCH := Lib.hid hch
      clear hch
      refine HCH.out.mono ?_
      rintro e w3 ⟨rfl, h1, h2⟩
      have H1 := Lib.hid h1
      have H2 := Lib.hid h2
      clear h1 h2 HCH x3 z3 z4
      obtain ⟨r, hr⟩ : ∃ r, r = repTry k' l := ⟨_, rfl⟩
      have hr' : tryF (goodF l k') l.length k' [] 0 = r := hr.symm
      rw [hr'] at H1 H2 ⊢
      rw [← hr] at HR
      clear hr hr'
      cases r with
      | none =>
        have HB3 := Lib.hid (belt HBB.out (H1.out rfl))
        have HR' : Hid (repF k' l = ([], 90)) := HR
        clear H1 H2 HR
        simp only [Option.isSome_none]
        go_wp2_with fail
        go_ret2
        exact ⟨.slice none 0 0, by rw [HR'.out]; rfl, by rw [HR'.out]; exact Kd.R_nil _ _ _ _ _, HB3.out⟩
      | some a =>
        obtain ⟨hkb, v, hv, hR⟩ := H2.out a rfl
        have HB3 := Lib.hid (kb_below HBB.out hwD hkb)
        have HR' : Hid (repF k' l = (someTo a (ownF l a) k', 0)) := HR
        have HRR := Lib.hid hR
        clear H1 H2 HR hkb hR
        simp only [Option.isSome_some]
        go_wp2_with fail
        go_ret2
        exact ⟨v, by rw [HR'.out]; rfl, by rw [HR'.out]; exact HRR.out, HB3.out⟩
    · have ha' : alikeF l k' 256 = false := by simpa using ha
      rw [ha']
      have hF := hbad (by unfold repOk; simp [ha'])
      have HB3 := Lib.hid (belt HB0.out HB1.out)
      clear ha hbad ha' hb1
      go_wp2_with fail
      go_ret2
      exact ⟨.slice none 0 0, by rw [hF.out]; rfl, by rw [hF.out]; exact Kd.R_nil _ _ _ _ _, HB3.out⟩
  · have hk' : decide (1 ≤ k ∧ k ≤ 12) = false := by simpa using hk
    have hF := hbad (by unfold repOk; simp [hk'])
    have HK := Lib.hid hk'
    clear hbad hk hk'
    go_enter Tryz.func33, Tryz.ntmps33
    go_wp2_with fail
    refine (isShare_any k _).mono ?_
    rintro e w' ⟨rfl, rfl⟩
    rw [HK.out]
    go_wp2_with fail
    go_ret2
    exact ⟨.slice none 0 0, by rw [hF.out]; rfl, by rw [hF.out]; exact Kd.R_nil _ _ _ _ _, HB0.out⟩
end Go.Proofs.YtkdjibejnncmfaaGreatDoor.Co

/- The walks of Sum, put. -/
namespace Go.Proofs.YtkdjibejnncmfaaGreatDoor.Co
open Go.RowKit Go.Proofs.YtkdjibejnncmfaaGreatDoorW.PrintWords Go.Proofs.YtkdjibejnncmfaaGreatDoorW.PrintLast Go.Proofs.YtkdjibejnncmfaaGreatDoorW.PrintMore
set_option linter.unusedVariables false
set_option linter.unusedSimpArgs false
set_option maxRecDepth 100000
def sumStep (h b : Nat) : Nat := ((h ^^^ b) * 1099511628211) % 18446744073709551616
def sumK (s : ByteArray) (k : Nat) : Nat := (List.range k).foldl (fun h (i : Nat) => sumStep h (bt s i).toNat) 14695981039346656037
def sumF (s : ByteArray) : Nat := sumK s s.size
theorem foldl_range_succ {α : Type} (f : α → Nat → α) (a : α) (k : Nat) : (List.range (k + 1)).foldl f a = f ((List.range k).foldl f a) k := by
  simp only [List.range_succ, List.foldl_append, List.foldl_cons, List.foldl_nil]
theorem sumK_succ (s : ByteArray) (k : Nat) : sumK s (k + 1) = sumStep (sumK s k) (bt s k).toNat := by
  exact foldl_range_succ _ _ _
theorem sumStep_lt (h b : Nat) : sumStep h b < 18446744073709551616 := Nat.mod_lt _ (by omega)
theorem sumK_lt (s : ByteArray) (k : Nat) : sumK s k < 18446744073709551616 := by
  cases k with
  | zero => unfold sumK; simp
  | succ k => rw [sumK_succ]; exact sumStep_lt _ _
theorem sum_word (h : Nat) (b : Int) (hh : h < 18446744073709551616) (hb : 0 ≤ b ∧ b ≤ 255) : IntKind.u64.wrap (Go.bits .xor .u64 (h : Int) b * 1099511628211) = ((sumStep h b.toNat : Nat) : Int) := by
  obtain ⟨n, rfl⟩ := Int.eq_ofNat_of_zero_le hb.1
  rw [u64_xor_nat h n hh (by omega)]
  unfold sumStep
  rw [IntKind.wrap_u64]
  simp only [Int.toNat_natCast]
  omega
set_option maxHeartbeats 400000 in
theorem Sum_any (s : ByteArray) (w : World) (hs : s.size ≤ 9223372036854775807) : Calls Tryz.prog 23 #[.string s] w fun e w' => e = .returned (.int .u64 (sumF s)) ∧ w = w' := by
  go_enter Tryz.func23, Tryz.ntmps23
  go_wp2_with fail
  go_loop [3, 7] (fun h i => ∃ k : Nat, k ≤ s.size ∧ i = .int .i64 k ∧ h = .int .u64 (sumK s k)) (fun _ i => s.size - (intOf i).toNat)
  case atStart => exact ⟨0, by omega, rfl, rfl⟩
  case round =>
    obtain ⟨k, hk, rfl, rfl⟩ := hrel
    by_cases hlt : k < s.size
    · have hb := bt_at s k (by simpa using hlt)
      have hr := bt_range s k
      have hw := sum_word (sumK s k) (bt s k) (sumK_lt s k) hr
      have HS := Lib.hid (sumK_succ s k)
      simp only [Int.toNat_natCast] at hb
      go_wp2_with fail
      go_round
      case rel => exact ⟨k + 1, by omega, by go_num, by rw [HS.out]⟩
      case measure => simp [intOf]; omega
    · obtain rfl : k = s.size := by omega
      go_wp2_with fail
      go_ret
      exact ⟨rfl, rfl⟩
end Go.Proofs.YtkdjibejnncmfaaGreatDoor.Co

/- The walk of put; cells in a row that are written. -/
namespace Go.Proofs.YtkdjibejnncmfaaGreatDoor.Co
open Go.RowKit Go.Proofs.YtkdjibejnncmfaaGreatDoorW.PrintWords Go.Proofs.YtkdjibejnncmfaaGreatDoorW.PrintLast Go.Proofs.YtkdjibejnncmfaaGreatDoorW.PrintMore
set_option linter.unusedVariables false
set_option linter.unusedSimpArgs false
set_option maxRecDepth 100000
def setL {α : Type} (l : List α) (off : Nat) : List α → List α
  | [] => l
  | b :: bs => setL (l.set off b) (off + 1) bs
theorem setL_length {α : Type} (l : List α) (off : Nat) (bs : List α) : (setL l off bs).length = l.length := by
  induction bs generalizing l off with
  | nil => rfl
  | cons b bs ih => unfold setL; rw [ih, List.length_set]
theorem setL_map {α β : Type} (f : α → β) (l : List α) (off : Nat) (bs : List α) : (setL l off bs).map f = setL (l.map f) off (bs.map f) := by
  induction bs generalizing l off with
  | nil => rfl
  | cons b bs ih => rw [List.map_cons]; unfold setL; rw [ih, List.map_set]
theorem setL_get {α : Type} (l : List α) (off : Nat) (bs : List α) (i : Nat) (hl : off + bs.length ≤ l.length) : (setL l off bs)[i]? = if off ≤ i ∧ i < off + bs.length then bs[i - off]? else l[i]? := by
  induction bs generalizing l off with
  | nil => unfold setL; rw [if_neg]; simp
  | cons b bs ih =>
    simp only [List.length_cons] at hl ⊢
    unfold setL
    rw [ih (l.set off b) (off + 1) (by rw [List.length_set]; omega), List.getElem?_set]
    by_cases h1 : off = i
    · subst h1
      have hlt : off < l.length := by omega
      rw [if_neg (by omega), if_pos (by omega)]; simp [hlt]
    · by_cases h2 : off + 1 ≤ i ∧ i < off + 1 + bs.length
      · rw [if_pos h2, if_pos (by omega), show i - off = (i - (off + 1)) + 1 by omega, List.getElem?_cons_succ]
      · rw [if_neg h2, if_neg h1, if_neg (by omega)]
theorem setL_snoc {α : Type} (l : List α) (off : Nat) (bs : List α) (b : α) : setL l off (bs ++ [b]) = (setL l off bs).set (off + bs.length) b := by
  induction bs generalizing l off with
  | nil => rfl
  | cons c bs ih => rw [List.cons_append]; unfold setL; rw [ih, List.length_cons]; congr 1; omega
def setCells (w : World) (g off : Nat) : List Value → World
  | [] => w
  | v :: l => setCells (w.setCell ⟨g, off, none⟩ v) g (off + 1) l
theorem setCells_snoc (w : World) (g off : Nat) (l : List Value) (v : Value) : setCells w g off (l ++ [v]) = (setCells w g off l).setCell ⟨g, off + l.length, none⟩ v := by
  induction l generalizing w off with
  | nil => rfl
  | cons c l ih => rw [List.cons_append]; unfold setCells; rw [ih, List.length_cons, show off + 1 + l.length = off + (l.length + 1) by omega]
theorem Box.setCells {w : World} {g : Nat} {e : TypeId} {cs : List Value} (h : Box w g e cs.toArray) (off : Nat) (l : List Value) : Box (setCells w g off l) g e (setL cs off l).toArray := by
  induction l generalizing w cs off with
  | nil => exact h
  | cons v l ih =>
    unfold Co.setCells setL
    refine ih ?_ (off + 1)
    have := h.set off v
    rw [List.setIfInBounds_toArray] at this
    exact this
theorem setCells_below {w w' : World} {B : Nat} (hb : Below B w w') (g off : Nat) (hg : B ≤ g) (l : List Value) : Below B w (setCells w' g off l) := by
  induction l generalizing w' off with
  | nil => exact hb
  | cons v l ih => unfold setCells; exact ih (hb.setCell hg _) (off + 1)
theorem setCells_keep {w w' : World} {g : Nat} (hb : KeepBut w w' g none) (off : Nat) (l : List Value) : KeepBut w (setCells w' g off l) g none := by
  induction l generalizing w' off with
  | nil => exact hb
  | cons v l ih => unfold setCells; exact ih (hb.set_ off v) (off + 1)
theorem KB.refl (w : World) (D : Nat) : KB w w D := ⟨Below.refl _ _, KeepBut.refl _ _ _⟩
theorem KB.setCells {w w' : World} {g : Nat} (hb : KB w w' g) (off : Nat) (l : List Value) : KB w (setCells w' g off l) g := ⟨setCells_below hb.b g off (Nat.le_refl _) l, setCells_keep hb.k off l⟩
/-- The lowest n bytes of a number, the lowest first. -/
def leB (x : Nat) : Nat → List Int
  | 0 => []
  | n + 1 => ((x % 256 : Nat) : Int) :: leB (x / 256) n
theorem leB_length (x n : Nat) : (leB x n).length = n := by
  induction n generalizing x with
  | zero => rfl
  | succ n ih => simp [leB, ih]
theorem leB_succ (x n : Nat) : leB x (n + 1) = leB x n ++ [((x / 256 ^ n % 256 : Nat) : Int)] := by
  induction n generalizing x with
  | zero => simp [leB]
  | succ n ih =>
    rw [leB, ih, Nat.div_div_eq_div_mul, leB]
    simp [Nat.pow_succ, Nat.mul_comm]
abbrev encB (l : List Int) : List Value := l.map (Value.int .u8)
set_option maxHeartbeats 400000 in
theorem put_any (g off n c : Nat) (x : Nat) (e : TypeId) (cs : List Value) (w : World) (hx : x < 18446744073709551616) (hb : Box w g e cs.toArray) (hn : off + n ≤ cs.length) (hm : n ≤ 1000000) :
    Calls Tryz.prog 131 #[.slice (some ⟨g, off, none⟩) n c, .int .u64 x] w fun e w' => e = .returned (.tuple #[]) ∧ w' = setCells w g off (encB (leB x n)) := by
  have HB := Lib.hid hb
  clear hb
  go_enter Tryz.func131, Tryz.ntmps131
  go_wp2_with fail
  go_loopw [1, 7] (fun y i wr => ∃ k : Nat, k ≤ n ∧ i = .int .i64 k ∧ y = .int .u64 ((x / 256 ^ k : Nat) : Int) ∧ wr = setCells w g off (encB (leB x k))) (fun _ i _ => n - (intOf i).toNat)
  case atStart => exact ⟨0, by omega, rfl, by simp, rfl⟩
  case round =>
    obtain ⟨k, hk, rfl, rfl, hw⟩ := hrel
    have HW := Lib.hid hw
    by_cases hlt : k < n
    · have hbox := HB.out.setCells off (encB (leB x k))
      rw [← hw] at hbox
      have hlen : (setL cs off (encB (leB x k))).length = cs.length := setL_length _ _ _
      obtain ⟨v0, hv0⟩ : ∃ v0, (setL cs off (encB (leB x k)))[off + k]? = some v0 := ⟨_, List.getElem?_eq_getElem (by omega)⟩
      have hc : wr.cell? ⟨g, off + k, none⟩ = some v0 := by
        rw [hbox.cell (off + k)]; simpa using hv0
      have hf : wr.frozen? ⟨g, off + k, none⟩ = false := hbox.frozen (off + k)
      have HS := Lib.hid (leB_succ x k)
      have HLEN := leB_length x k
      obtain ⟨y, hy⟩ : ∃ y, y = x / 256 ^ k := ⟨_, rfl⟩
      have hy2 : y / 256 = x / 256 ^ (k + 1) := by rw [hy, Nat.div_div_eq_div_mul, Nat.pow_succ]
      have hyl : y < 18446744073709551616 := by rw [hy]; exact Nat.lt_of_le_of_lt (Nat.div_le_self _ _) hx
      rw [← hy] at HS ⊢
      have HY2 := Lib.hid hy2
      clear hw hbox hlen hv0 hy hy2
      go_wp2_with fail
      go_roundw
      case rel => exact ⟨k + 1, by omega, by go_num, by rw [← HY2.out]; rfl, by rw [HS.out, encB, List.map_append, List.map_cons, List.map_nil, setCells_snoc, List.length_map, HLEN, ← HW.out]; rfl⟩
      case measure => simp [intOf]; omega
    · obtain rfl : k = n := by omega
      go_wp2_with fail
      go_end0
      exact ⟨rfl, rfl⟩
end Go.Proofs.YtkdjibejnncmfaaGreatDoor.Co

/- The walk of get (a range over slices.Backward). -/
namespace Go.Proofs.YtkdjibejnncmfaaGreatDoor.Co
open Go.RowKit Go.Shelf Go.Proofs.YtkdjibejnncmfaaGreatDoorW.PrintWords Go.Proofs.YtkdjibejnncmfaaGreatDoorW.PrintLast Go.Proofs.YtkdjibejnncmfaaGreatDoorW.PrintMore
set_option linter.unusedVariables false
set_option linter.unusedSimpArgs false
set_option maxRecDepth 100000
section
attribute [local go_sem] Oper.semAt_some
def upto {α : Type} (f : Nat → α) (k : Nat) : List α := (List.range k).map f
theorem upto_succ {α : Type} (f : Nat → α) (k : Nat) : upto f (k + 1) = upto f k ++ [f k] := by simp [upto, List.range_succ]
theorem upto_length {α : Type} (f : Nat → α) (k : Nat) : (upto f k).length = k := by simp [upto]
abbrev IB := Int × Fin 256
/-- What has come when k rounds are over. -/
def backF (len : Nat) (f : Nat → Fin 256) (k : Nat) : IB := (((len : Int) - 1 - k), f (len - 1 - k))
/-- What lies below N, but in g, stays. -/
def KeepN (N g : Nat) (W W' : World) : Prop := ∀ i, i < N → i ≠ g → W'.heap[i]? = W.heap[i]?
theorem KeepN.refl (N g : Nat) (W : World) : KeepN N g W W := fun _ _ _ => rfl
theorem KeepN.trans {N g : Nat} {A B C : World} (h : KeepN N g A B) (k : KeepN N g B C) : KeepN N g A C := fun i h1 h2 => (k i h1 h2).trans (h i h1 h2)
theorem KeepN.cell {N g : Nat} {A B : World} (h : KeepN N g A B) {p : Addr} (h1 : p.block < N) (h2 : p.block ≠ g) : B.cell? p = A.cell? p := by
  unfold World.cell?
  rw [h _ h1 h2]
set_option maxHeartbeats 2000000 in
theorem backward1_in (F : Fence) (n : Nat) (h7 : F.fn 175) (hro : F.round = none) (hn : 1 ≤ n) (l Bs n₀ b off len cap : Nat) (f : Nat → Fin 256) (hreach : len ≤ 1000000) (g : Nat) (hb : b < n₀) (hbg : b ≠ g) (J Jx : List IB → World → Prop)
    (hY : ∀ pre (x : IB) W, J pre W → pre.length < len → YieldAt F (n - 1) Tryz.prog l #[.int .i64 x.1, .int .u8 (x.2.val : Int)] W fun e W' =>
      (e = .returned (.bool true) ∧ J (pre ++ [x]) W' ∧ KeepN n₀ g W W') ∨ (e = .returned (.bool false) ∧ Jx (pre ++ [x]) W'))
    (W : World) (hBs' : Bs < n₀) (hBg : Bs ≠ g) (hBs : W.cell? ⟨Bs, 0, none⟩ = some (.slice (some ⟨b, off, none⟩) len cap)) (hc : ∀ j, j < len → W.cell? ⟨b, off + j, none⟩ = some (.int .u8 ((f j).val : Int))) (h0 : J [] W) :
    CallsIn F n Tryz.prog 175 #[.func (.yield l) #[] #[], .pointer (some ⟨Bs, 0, none⟩)] W fun e W' => (∃ v, e = .returned v) ∧
      ((∃ ys, ys = upto (backF len f) len ∧ J ys W') ∨ (∃ pre, (∃ k, k ≤ len ∧ pre = upto (backF len f) k) ∧ Jx pre W')) := by
  refine callsIn_of_wp Tryz.func175 rfl h7 ?_ hro
  simp only [Tryz.ntmps175, List.size_toArray, List.length_cons, List.length_nil, Nat.reduceAdd, Nat.reduceSub, Array.replicate_succ, Array.replicate_zero, List.push_toArray, List.append_toArray, List.nil_append, List.cons_append]
  gi_wp2
  gi_loopw [3] (fun i wr => ∃ k : Nat, k ≤ len ∧ i = .int .i64 ((len : Int) - 1 - k) ∧ J (upto (backF len f) k) wr ∧ KeepN n₀ g W wr)
    (fun i _ => (intOf i + 1).toNat)
  case atStart => exact ⟨0, Nat.zero_le _, by simp, h0, KeepN.refl _ _ _⟩
  case round =>
    obtain ⟨k, hk, rfl, hJs, hnx⟩ := hrel
    have hBs1 : wr.cell? ⟨Bs, 0, none⟩ = some (.slice (some ⟨b, off, none⟩) len cap) := (hnx.cell (p := ⟨Bs, 0, none⟩) hBs' hBg).trans hBs
    by_cases hlt : k < len
    · have hcx : wr.cell? ⟨b, off + (len - 1 - k), none⟩ = some (.int .u8 ((f (len - 1 - k)).val : Int)) := (hnx.cell (p := ⟨b, off + (len - 1 - k), none⟩) hb hbg).trans (hc _ (by omega))
      obtain ⟨fn, tmps, assign, body, hy, hR⟩ := hY _ (backF len f k) wr hJs (by rw [upto_length]; exact hlt)
      dsimp only [backF] at hy
      obtain ⟨m, hm⟩ : ∃ m : Nat, m = len - 1 - k := ⟨_, rfl⟩
      have hm1 : (len : Int) - 1 - k = (m : Int) := by omega
      rw [← hm] at hcx hy
      rw [hm1] at hy ⊢
      have hm2 : m < len := by omega
      have HM := Lib.hid hm
      clear hm hm1
      gi_wp2
      refine hR.mono ?_
      rintro e W3 (⟨rfl, hJ3, hk3⟩ | ⟨rfl, hJx3⟩)
      · gi_wp2
        go_roundw
        case rel => exact ⟨k + 1, by omega, by have := HM.out; congr 1; omega, by rw [upto_succ]; exact hJ3, hnx.trans hk3⟩
        case measure => simp [intOf]
      · gi_wp2
        refine bodyPost_ret (results_none rfl _ _ _) rfl ?_
        exact ⟨⟨_, rfl⟩, .inr ⟨_, ⟨k + 1, by omega, (upto_succ _ _).symm⟩, hJx3⟩⟩
    · obtain rfl : k = len := by omega
      gi_wp2
      go_end0
      exact ⟨⟨_, rfl⟩, .inl ⟨_, rfl, hJs⟩⟩
set_option maxHeartbeats 1000000 in
theorem backward_in (F : Fence) (n : Nat) (h5 : F.fn 163) (hro : F.round = none) (a : Option Addr) (len cap : Nat) (w : World) :
    CallsIn F n Tryz.prog 163 #[.slice a len cap] w fun e w' => e = .returned (.func (.func 175) #[] #[.pointer (some ⟨w.heap.size, 0, none⟩)]) ∧ w' = w.alloc (.cells #[.slice a len cap] 46) := by
  refine callsIn_of_wp Tryz.func163 rfl h5 ?_ hro
  simp only [Tryz.ntmps163, List.size_toArray, List.length_cons, List.length_nil, Nat.reduceAdd, Nat.reduceSub, Array.replicate_succ, Array.replicate_zero, List.push_toArray, List.append_toArray, List.nil_append, List.cons_append]
  gi_wp2
  go_ret
  exact ⟨rfl, rfl⟩
theorem backward_stops (F : Fence) (n : Nat) (h7 : F.fn 175) (hro : F.round = none) (hn : 1 ≤ n) (Bs n₀ b off len cap : Nat) (f : Nat → Fin 256) (hreach : len ≤ 1000000) (g : Nat) (hb : b < n₀) (hbg : b ≠ g) (w : World) (hBs : Bs < n₀) (hBg : Bs ≠ g) (hn₀ : n₀ ≤ w.heap.size)
    (hc : w.cell? ⟨Bs, 0, none⟩ = some (.slice (some ⟨b, off, none⟩) len cap)) (hI : ∀ j, j < len → w.cell? ⟨b, off + j, none⟩ = some (.int .u8 ((f j).val : Int))) :
    SeqStopsK F n Tryz.prog 175 #[.pointer (some ⟨Bs, 0, none⟩)] (fun x : IB => #[Value.int .i64 x.1, Value.int .u8 (x.2.val : Int)]) (KeepN n₀ g) (fun ys => ys = upto (backF len f) len) (fun pre => True) len w := fun l J Jx W hW _ _ hY h0 => by
  have hc' := (hW.cell (p := ⟨Bs, 0, none⟩) (by show Bs < _; omega)).trans hc
  have hcs : ∀ j, j < len → W.cell? ⟨b, off + j, none⟩ = some (.int .u8 ((f j).val : Int)) := fun j hj => (hW.cell (p := ⟨b, off + j, none⟩) (by show b < _; omega)).trans (hI j hj)
  refine (backward1_in F n h7 hro hn l Bs n₀ b off len cap f hreach g hb hbg J Jx hY W hBs hBg hc' hcs h0).mono ?_
  rintro e W' ⟨he, ⟨ys, rfl, hj⟩ | ⟨pre, ⟨k, hk, rfl⟩, hj⟩⟩
  · exact ⟨he, .inl ⟨_, rfl, hj⟩⟩
  · exact ⟨he, .inr ⟨_, trivial, hj⟩⟩
/-- One step of get. -/
def getStep (n : Int) (x : IB) : Int := Go.bits .or .u64 (IntKind.u64.wrap (n * 256)) (x.2.val : Int)
def getFold (l : List IB) : Int := l.foldl getStep 0
theorem getFold_snoc (l : List IB) (x : IB) : getFold (l ++ [x]) = Go.bits .or .u64 (IntKind.u64.wrap (getFold l * 256)) (x.2.val : Int) := by
  unfold getFold; rw [List.foldl_append]; rfl
set_option maxHeartbeats 2000000 in
theorem get_in (F : Fence) (n : Nat) (h3 : F.fn 156) (h5 : F.fn 163) (h7 : F.fn 175) (hro : F.round = none) (hn : 3 ≤ n) (b off len cap : Nat) (f : Nat → Fin 256) (hreach : len ≤ 1000000) (w : World) (hb : b < w.heap.size)
    (hI : ∀ j, j < len → w.cell? ⟨b, off + j, none⟩ = some (.int .u8 ((f j).val : Int))) :
    CallsIn F n Tryz.prog 156 #[.slice (some ⟨b, off, none⟩) len cap] w fun e W' => e = .returned (.int .u64 (getFold (upto (backF len f) len))) ∧ Below w.heap.size w W' := by
  have h1 : 1 ≤ n := by omega
  refine callsIn_of_wp_marks Tryz.func156 rfl h3 ?_ hro
  simp only [Tryz.ntmps156, List.size_toArray, List.length_cons, List.length_nil, Nat.reduceAdd, Nat.reduceSub, Array.replicate_succ, Array.replicate_zero, List.push_toArray, List.append_toArray, List.nil_append, List.cons_append]
  gi_wp2_with (gi_at_call 163; refine (backward_in F (n - 1) h5 hro _ _ _ _).mono ?_; rintro e w' ⟨rfl, rfl⟩)
  have bS := Boxed.new w 30 (.int .u64 0)
  have bN := Boxed.new (w.alloc (.cells #[.int .u64 0] 30)) 46 (.slice (some ⟨b, off, none⟩) len cap)
  rw [World.size_alloc] at bN
  have hB0 : Below w.heap.size w ((w.alloc (.cells #[.int .u64 0] 30)).alloc (.cells #[.slice (some ⟨b, off, none⟩) len cap] 46)) := ((Below.refl _ w).alloc (Nat.le_refl _) _).alloc (by simp) _
  have hKb : ∀ (W : World) (l : Nat) (o o' : Obj), w.heap.size + 2 ≤ l → W.heap[l]? = some o → o.isCells = false → o.isWalk = false → KeepN (w.heap.size + 2) w.heap.size W (W.putObj l o') := by
    intro W l o o' hl ho _ _ i hi _
    exact (grownBy_putObj' W l o').block i (by have := (Array.getElem?_eq_some_iff.1 ho).1; omega) (by intro e; cases e; omega)
  refine wpIn_rangeFunc_ownG hro h1 (gf := 175) (lb := #[.pointer (some ⟨w.heap.size + 1, 0, none⟩)]) rfl h7 (enters_of Tryz.func175 (by kernel_rfl) rfl)
    (backward_stops F (n - 1) h7 hro (by omega) (w.heap.size + 1) (w.heap.size + 2) b off len cap f hreach w.heap.size (by omega) (by omega) _ (by omega) (by omega) (by simp) bN.cell (fun j hj => cell_below hB0 (hI j hj))) (fun h k => KeepN.trans h k) (by simpa using hKb) (Below.refl _ _) (fun _ => rfl)
    (fun pre W => (W.cell? ⟨w.heap.size, 0, none⟩ = some (.int .u64 (getFold pre)) ∧ W.frozen? ⟨w.heap.size, 0, none⟩ = false) ∧ Below w.heap.size w W)
    (fun _ _ _ => False)
    (OwnFrom.and (Own.from (fun s A B row hs hg hr => ⟨cell_kept hs.1 hg hr, (frozen_kept hs.1 hg hr).trans hs.2⟩) _) (ownFrom_below (Nat.le_refl _) (by simp; omega)))
    (fun _ _ _ _ _ hs _ _ => hs)
    ⟨⟨(bS.alloc _).cell, (bS.alloc _).frozen⟩, hB0⟩
    (fun x => { tmps := #[.slice (some ⟨b, off, none⟩) len cap, undef, .int .u64 0, .pointer (some ⟨w.heap.size, 0, none⟩), undef, .int .u8 (x.2.val : Int), .slice (some ⟨b, off, none⟩) len cap, .func (.func 175) #[] #[.pointer (some ⟨w.heap.size + 1, 0, none⟩)], .int .i64 x.1, .int .u8 (x.2.val : Int), undef, undef, undef, undef, undef, undef], defers := [] }) ?assign ?body ?done ?stop
  case assign =>
    intro l x W K hK
    gi_wp2
    exact hK
  case body =>
    rintro l pre x W ⟨⟨hc, hf⟩, hB⟩ _
    have hx := x.2.isLt
    gi_wp2
    exact ⟨(KeepsOthers.setCell _ _ _).from _, fun i _ hi => Below.heap_setCell W _ _ i hi, ⟨by rw [getFold_snoc]; exact World.cell?_setCell_same' _ _ _ (by rw [hc]; rfl), by rw [World.frozen?_setCell]; exact hf⟩, hB.setCell (p := ⟨w.heap.size, 0, none⟩) (Nat.le_refl _) _⟩
  case done =>
    rintro D ys W hD rfl ⟨⟨hc, _⟩, hB⟩ hK
    gi_wp2
    refine ⟨by simp, .inl ⟨_, _, rfl, run_takeDeferred hK, ?_⟩⟩
    exact ⟨_, results_tmp rfl _ _ _, rfl, hB.trans (belowK_b (w := w) (Nat.le_refl _) W D _ _ (by simp at hD; omega) hK rfl rfl)⟩
  case stop =>
    rintro D c pre W _ _ h _
    exact h.elim
end
/-- The number that bytes are, the lowest first. -/
def ofLE : List Int → Nat
  | [] => 0
  | b :: l => b.toNat + 256 * ofLE l
theorem ofLE_lt (l : List Int) (h : ∀ x ∈ l, IsB x) : ofLE l < 256 ^ l.length := by
  induction l with
  | nil => simp [ofLE]
  | cons b l ih =>
    have h1 := ih (fun x hx => h x (List.mem_cons_of_mem _ hx))
    have h2 := h b List.mem_cons_self
    unfold IsB at h2
    unfold ofLE
    rw [List.length_cons, Nat.pow_succ]
    omega
theorem orStep (n b : Nat) (hn : n < 72057594037927936) (hb : b < 256) : Go.bits .or .u64 (IntKind.u64.wrap ((n : Int) * 256)) (b : Int) = ((b + 256 * n : Nat) : Int) := by
  have e : IntKind.u64.wrap ((n : Int) * 256) = ((n * 256 : Nat) : Int) := by rw [IntKind.wrap_u64]; omega
  rw [e, u64_or_nat _ _ (by omega) (by omega)]
  have := Nat.two_pow_add_eq_or_of_lt (i := 8) (b := b) (by simpa using hb) n
  rw [Nat.mul_comm n 256]
  have e2 : (2 : Nat) ^ 8 = 256 := by decide
  rw [e2] at this
  rw [← this]
  omega
theorem fold_drop (bs : List Int) (hb : ∀ x ∈ bs, IsB x) (h8 : bs.length ≤ 8) (f : Nat → Fin 256) (hf : ∀ j, j < bs.length → ((f j).val : Int) = rd bs j) :
    ∀ k, k ≤ bs.length → getFold (upto (backF bs.length f) k) = ((ofLE (bs.drop (bs.length - k)) : Nat) : Int) := by
  intro k
  induction k with
  | zero => intro _; simp [upto, getFold, ofLE]
  | succ k ih =>
    intro hk
    rw [upto_succ, getFold_snoc, ih (by omega)]
    have hd : bs.drop (bs.length - (k + 1)) = bs[bs.length - (k + 1)] :: bs.drop (bs.length - k) := by
      rw [List.drop_eq_getElem_cons (by omega), show bs.length - (k + 1) + 1 = bs.length - k by omega]
    rw [hd, ofLE]
    have hlt := ofLE_lt (bs.drop (bs.length - k)) (fun x hx => hb x (List.mem_of_mem_drop hx))
    rw [List.length_drop, show bs.length - (bs.length - k) = k by omega] at hlt
    have h7 : 256 ^ k ≤ 256 ^ 7 := Nat.pow_le_pow_right (by omega) (by omega)
    have e7 : (256 : Nat) ^ 7 = 72057594037927936 := by decide
    have hx : ((backF bs.length f k).2.val : Int) = ((bs[bs.length - (k + 1)].toNat : Nat) : Int) := by
      unfold backF
      rw [show bs.length - 1 - k = bs.length - (k + 1) by omega, hf _ (by omega)]
      have hm := hb _ (List.getElem_mem (l := bs) (n := bs.length - (k + 1)) (by omega))
      unfold IsB at hm
      unfold rd
      rw [Int.toNat_natCast, List.getD_eq_getElem?_getD, List.getElem?_eq_getElem (by omega)]
      simp only [Option.getD_some]
      omega
    rw [hx]
    refine orStep _ _ (by omega) ?_
    have hm := hb _ (List.getElem_mem (l := bs) (n := bs.length - (k + 1)) (by omega))
    unfold IsB at hm
    omega
theorem get_any (g off c : Nat) (bs : List Int) (w : World) (h8 : bs.length ≤ 8) (hb : ∀ x ∈ bs, IsB x) (hg : g < w.heap.size) (hI : ∀ j : Nat, j < bs.length → w.cell? ⟨g, off + j, none⟩ = some (.int .u8 (rd bs j))) :
    Calls Tryz.prog 156 #[.slice (some ⟨g, off, none⟩) bs.length c] w fun e w' => e = .returned (.int .u64 (ofLE bs : Nat)) ∧ Below w.heap.size w w' := by
  have hf : ∀ j, j < bs.length → ((((fun j : Nat => (⟨(rd bs j).toNat % 256, Nat.mod_lt _ (by omega)⟩ : Fin 256)) j).val : Nat) : Int) = rd bs j := by
    intro j hj
    have hm := hb _ (rd_mem bs j hj)
    unfold IsB at hm
    show (((rd bs j).toNat % 256 : Nat) : Int) = _
    omega
  have h := callsIn_wide.1 (get_in Fence.wide 3 trivial trivial trivial rfl (by omega) g off bs.length c (fun j => ⟨(rd bs j).toNat % 256, Nat.mod_lt _ (by omega)⟩) (by omega) w hg (fun j hj => by rw [hI j hj, hf j hj]))
  refine h.mono fun e w' ⟨he, hb'⟩ => ⟨?_, hb'⟩
  rw [he, fold_drop bs hb h8 _ hf bs.length (Nat.le_refl _)]
  simp
end Go.Proofs.YtkdjibejnncmfaaGreatDoor.Co

/- The walks of blank (bytes.Trim), needed. -/
namespace Go.Proofs.YtkdjibejnncmfaaGreatDoor.Co
open Go.RowKit Go.Proofs.YtkdjibejnncmfaaGreatDoorW.PrintWords Go.Proofs.YtkdjibejnncmfaaGreatDoorW.PrintLast Go.Proofs.YtkdjibejnncmfaaGreatDoorW.PrintMore
set_option linter.unusedVariables false
set_option linter.unusedSimpArgs false
set_option maxRecDepth 100000
set_option maxHeartbeats 400000 in
theorem trimRight_any (g off n c : Nat) (f : Nat → Int) (w : World) (hI : ∀ j, j < n → w.cell? ⟨g, off + j, none⟩ = some (.int .u8 (f j))) (hn : n ≤ c) (hc : c ≤ 9223372036854775807) :
    Calls Tryz.prog 177 #[.slice (some ⟨g, off, none⟩) n c, .int .u8 0] w fun e w' => (∃ r, r ≤ n ∧ e = .returned (.slice (some ⟨g, off, none⟩) r c) ∧ (∀ j, r ≤ j → j < n → f j = 0) ∧ (r = 0 ∨ f (r - 1) ≠ 0)) ∧ w = w' := by
  have HI := Lib.hid hI
  clear hI
  go_enter Tryz.func177, Tryz.ntmps177
  go_wp2_with fail
  go_loop [0] (fun v => ∃ r : Nat, r ≤ n ∧ v = .slice (some ⟨g, off, none⟩) r c ∧ Hid (∀ j, r ≤ j → j < n → f j = 0)) (fun v => match v with | .slice _ r _ => r | _ => 0)
  case atStart => exact ⟨n, Nat.le_refl _, rfl, Lib.hid (fun j h1 h2 => by omega)⟩
  case round =>
    obtain ⟨r, hr, rfl, hz⟩ := hrel
    by_cases h0 : 0 < r
    · obtain ⟨q, rfl⟩ : ∃ q, r = q + 1 := ⟨r - 1, by omega⟩
      have hx := HI.out q (by omega)
      by_cases h1 : f q = 0
      · rw [h1] at hx
        have HZ := Lib.hid h1
        clear h1
        go_wp2_with fail
        go_round
        case rel => exact ⟨q, by omega, by simp, Lib.hid (fun j h1 h2 => by
          by_cases e : j = q
          · rw [e]; exact HZ.out
          · exact hz.out j (by omega) h2)⟩
        case measure => simp
      · have h1' : ((f q : Int) == 0) = false := by simpa using h1
        go_wp2_with fail
        go_ret
        exact ⟨⟨q + 1, hr, rfl, hz.out, .inr (by simpa using h1)⟩, rfl⟩
    · obtain rfl : r = 0 := by omega
      go_wp2_with fail
      go_ret
      exact ⟨⟨0, by omega, rfl, hz.out, .inl rfl⟩, rfl⟩
set_option maxHeartbeats 400000 in
theorem trimLeft_any (g off n c : Nat) (f : Nat → Int) (w : World) (hI : ∀ j, j < n → w.cell? ⟨g, off + j, none⟩ = some (.int .u8 (f j))) (hn : n ≤ c) (hc : c ≤ 9223372036854775807) :
    Calls Tryz.prog 176 #[.slice (some ⟨g, off, none⟩) n c, .int .u8 0] w fun e w' => (∃ m A c', m ≤ n ∧ e = .returned (.slice A (n - m) c') ∧ (∀ j, j < m → f j = 0) ∧ (m = n ∨ f m ≠ 0)) ∧ w = w' := by
  have HI := Lib.hid hI
  clear hI
  go_enter Tryz.func176, Tryz.ntmps176
  go_wp2_with fail
  go_loop [0] (fun v => ∃ (m : Nat) (A : Option Addr) (c' : Nat), m ≤ n ∧ v = .slice A (n - m) c' ∧ n - m ≤ c' ∧ c' ≤ 9223372036854775807 ∧ (m < n → A = some ⟨g, off + m, none⟩) ∧ Hid (∀ j, j < m → f j = 0)) (fun v => match v with | .slice _ r _ => r | _ => 0)
  case atStart => exact ⟨0, some ⟨g, off, none⟩, c, by omega, by simp, by omega, hc, by simp, Lib.hid (fun j h1 => by omega)⟩
  case round =>
    obtain ⟨m, A, c', hm, rfl, hmc, hc', hA, hz⟩ := hrel
    by_cases h0 : m < n
    · obtain ⟨q, hq⟩ : ∃ q, n - m = q + 1 := ⟨n - m - 1, by omega⟩
      obtain ⟨p, rfl⟩ : ∃ p, c' = p + 1 := ⟨c' - 1, by omega⟩
      have hx := HI.out m (by omega)
      have hqp : q ≤ p := by omega
      have hpb : p < 9223372036854775807 := by omega
      have HQ := Lib.hid hq
      rw [hA h0, hq]
      clear hq hA hmc
      by_cases h1 : f m = 0
      · rw [h1] at hx
        have HZ := Lib.hid h1
        clear h1
        go_wp2_with fail
        go_round
        case rel =>
          have := HQ.out
          refine ⟨m + 1, _, p, by omega, by rw [show n - (m + 1) = q by omega], by omega, by omega, fun h => ?_, Lib.hid (fun j h1 => by
            by_cases e : j = m
            · rw [e]; exact HZ.out
            · exact hz.out j (by omega))⟩
          rw [if_neg (by omega)]; simp [Nat.add_assoc]
        case measure => simp
      · have h1' : ((f m : Int) == 0) = false := by simpa using h1
        go_wp2_with fail
        go_ret
        exact ⟨⟨m, by omega, ⟨_, _, by rw [HQ.out]; rfl⟩, hz.out, .inr (by simpa using h1)⟩, rfl⟩
    · have hmn : m = n := by omega
      subst hmn
      rw [Nat.sub_self]
      clear hA
      go_wp2_with fail
      go_ret
      exact ⟨⟨m, by omega, ⟨none, 0, by simp⟩, hz.out, .inl rfl⟩, rfl⟩
/-- Are all bytes zeros? -/
def blankF (n : Nat) (f : Nat → Int) : Bool := (List.range n).all fun j => f j == 0
theorem blank_law {n r m : Nat} {f : Nat → Int} (hr : r ≤ n) (hm : m ≤ r) (hz : ∀ j, r ≤ j → j < n → f j = 0) (hl : r = 0 ∨ f (r - 1) ≠ 0) (hz2 : ∀ j, j < m → f j = 0) (hl2 : m = r ∨ f m ≠ 0) : decide (r - m = 0) = blankF n f := by
  by_cases hrm : r - m = 0
  · have hmr : m = r := by omega
    have : blankF n f = true := by
      unfold blankF
      rw [List.all_eq_true]
      intro j hj
      have hj' := List.mem_range.1 hj
      by_cases hjm : j < m
      · simpa using hz2 j hjm
      · simpa using hz j (by omega) hj'
    rw [this]; simpa using hrm
  · have : blankF n f = false := by
      unfold blankF
      rw [List.all_eq_false]
      exact ⟨m, List.mem_range.2 (by omega), by rcases hl2 with h | h; omega; simpa using h⟩
    rw [this]; simpa using hrm
set_option maxHeartbeats 400000 in
theorem blank_any (g off n c : Nat) (f : Nat → Int) (w : World) (hI : ∀ j, j < n → w.cell? ⟨g, off + j, none⟩ = some (.int .u8 (f j))) (hn : n ≤ c) (hc : c ≤ 9223372036854775807) :
    Calls Tryz.prog 157 #[.slice (some ⟨g, off, none⟩) n c] w fun e w' => e = .returned (.bool (blankF n f)) ∧ Below w.heap.size w w' := by
  have HI := Lib.hid hI
  clear hI
  have htrim : Calls Tryz.prog 164 #[.slice (some ⟨g, off, none⟩) n c, .string ⟨#[0]⟩] w fun e w' => (∃ A r c', e = .returned (.slice A r c') ∧ r ≤ n ∧ decide (r = 0) = blankF n f) ∧ Below w.heap.size w w' := by
    by_cases h0 : n = 0
    · subst h0
      go_enter Tryz.func164, Tryz.ntmps164
      go_wp2_with fail
      go_ret
      exact ⟨⟨none, 0, 0, rfl, by omega, by simp [blankF]⟩, Below.refl _ _⟩
    · have hb0 : ((n : Int) == 0) = false := by simpa using h0
      have hz0 : ((({ data := #[0] } : ByteArray)[0]'(by decide)).toNat : Int) = 0 := rfl
      go_enter Tryz.func164, Tryz.ntmps164
      go_wp2_with fail
      go_region_held3 (fun W => Below w.heap.size w W) ((repeat (first | assumption | exact Below.refl _ _ | apply Below.drew | apply below_al)))
        (first
          | ((go_at_call 177; refine (trimRight_any g off n c f _ (fun j hj => cell_below (w := w) (by (repeat (first | assumption | exact Below.refl _ _ | apply Below.drew | apply below_al))) (HI.out j hj)) hn hc).mono ?_; rintro e w' ⟨⟨r, hr, rfl, hz, hl⟩, rfl⟩))
          | ((go_at_call 176; refine (trimLeft_any g off r c f _ (fun j hj => cell_below (w := w) (by (repeat (first | assumption | exact Below.refl _ _ | apply Below.drew | apply below_al))) (HI.out j (by omega))) (by omega) hc).mono ?_; rintro e w' ⟨⟨m, A, c', hm, rfl, hz2, hl2⟩, rfl⟩)))
      all_goals
        have HZ := Lib.hid (blank_law hr hm hz hl hz2 hl2)
        clear hz hl hz2 hl2
        go_wp2_with fail
        go_ret
        exact ⟨⟨A, r - m, c', rfl, by omega, HZ.out⟩, by (repeat (first | assumption | exact Below.refl _ _ | apply Below.drew | apply below_al))⟩
  have HT := Lib.hid htrim
  clear htrim
  go_enter Tryz.func157, Tryz.ntmps157
  go_wp2_with fail
  refine HT.out.mono ?_
  rintro e w' ⟨⟨A, r, c', rfl, hr, hd⟩, hb⟩
  have hrb : ((r : Int) == 0) = blankF n f := by rw [← hd]; by_cases h : r = 0 <;> simp [h]
  have HB := Lib.hid hb
  clear hb hd
  go_wp2_with fail
  go_ret
  exact ⟨rfl, HB.out⟩
/-- How many stripes a text needs. -/
def neededF (len enough : Nat) : Nat := (4 + len + 40 * enough - 1) / (40 * enough)
theorem needed_any (s : ByteArray) (k : Nat) (w : World) (hs : s.size ≤ 1000000000) (hk : 1 ≤ k) (hk2 : k ≤ 12) : Calls Tryz.prog 130 #[.string s, .int .i64 k] w fun e w' => e = .returned (.int .i64 (neededF s.size k : Nat)) ∧ w = w' := by
  go_enter Tryz.func130, Tryz.ntmps130
  go_wp2_with fail
  go_ret
  refine ⟨ret_int' ?_, rfl⟩
  unfold neededF
  rw [Int.natCast_ediv, show (4 + (s.size : Int) + 40 * (k : Int) - 1) = ((4 + s.size + 40 * k - 1 : Nat) : Int) by omega]
  simp
end Go.Proofs.YtkdjibejnncmfaaGreatDoor.Co

/- Disks in memory; the walk of New. -/
namespace Go.Proofs.YtkdjibejnncmfaaGreatDoor.Co
open Go.RowKit Go.Proofs.YtkdjibejnncmfaaGreatDoorW.PrintWords Go.Proofs.YtkdjibejnncmfaaGreatDoorW.PrintLast Go.Proofs.YtkdjibejnncmfaaGreatDoorW.PrintMore
set_option linter.unusedVariables false
set_option linter.unusedSimpArgs false
set_option maxRecDepth 100000
structure DS where
  disks : List (List Int)
  armed : Int
  part : Int
  down : Bool
  falls : Int
/-- Disks in memory: the variable d, the row P of the disks' rows, the disks' blocks B; m pages each. -/
structure DAt (w : World) (d P : Nat) (B : List Nat) (c m : Nat) (D : DS) : Prop where
  box : Box w d 127 #[.slice (some ⟨P, 0, none⟩) B.length c, .int .i64 D.armed, .int .i64 D.part, .bool D.down, .int .i64 D.falls]
  rows : ∃ cs, Box w P 128 cs ∧ ∀ (i : Nat) b, B[i]? = some b → cs[i]? = some (.slice (some ⟨b, 0, none⟩) m m)
  disk : ∀ (i : Nat) b l, B[i]? = some b → D.disks[i]? = some l → Box w b 131 (encB l).toArray
  len : D.disks.length = B.length
  size : ∀ l ∈ D.disks, l.length = 64 * m
  bytes : ∀ l ∈ D.disks, ∀ x ∈ l, IsB x
  nodup : B.Nodup
  one : 1 ≤ B.length
  most : B.length ≤ 12
  cap : B.length ≤ c
  two : 2 ≤ m
  few : m ≤ 1024
  arm0 : 0 ≤ D.armed
  arm1 : D.armed ≤ 9223372036854775807
  part0 : 0 ≤ D.part
  part1 : D.part ≤ 64
theorem Box.ne {w : World} {g g' : Nat} {e e' : TypeId} {cs cs' : Array Value} (h : Box w g e cs) (h' : Box w g' e' cs') (hne : e ≠ e') : g ≠ g' := by
  intro he
  subst he
  unfold Box at h h'
  rw [h] at h'
  injection h' with h'
  injection h' with _ h'
  exact hne h'
theorem info131 : (Tryz.prog.info? 131).map (fun i => (i.zero.map (·.cells), i.size, i.bytes)) = some (some (Array.replicate 64 (.int .u8 0)), 64, 64) := by kernel_rfl
theorem info128 : (Tryz.prog.info? 128).map (fun i => (i.zero, i.size, i.bytes)) = some (some (.slice none 0 0), 1, 24) := by kernel_rfl
theorem make_pages (m : Nat) (hm : m ≤ 1024) (W : World) : (Instr.makeSlice 128 (.int .i64 (m : Int)) (.int .i64 (m : Int))).run Tryz.prog W = .ok (.slice (some ⟨W.heap.size, 0, none⟩) m m) (W.alloc (.cells (encB (List.replicate (64 * m) 0)).toArray 131)) := by
  cases hi : Tryz.prog.info? 131 with
  | none => have := info131; rw [hi] at this; cases this
  | some i =>
    have h := info131
    rw [hi] at h
    simp only [Option.map_some, Option.some.injEq, Prod.mk.injEq] at h
    obtain ⟨h1, h2, h3⟩ := h
    cases hz : i.zero with
    | none => rw [hz] at h1; cases h1
    | some z =>
      rw [hz] at h1
      simp only [Option.map_some, Option.some.injEq] at h1
      have hr := run_make (P := Tryz.prog) W 128 131 i z Tryz.underlying128 hi hz .i64 .i64 m m (by omega) (by omega) (by rw [h3]; omega) (by omega)
      rw [hr, h1, h2]
      have : madeCells (Array.replicate 64 (Value.int .u8 0)) ((m : Int).toNat * 64) = (encB (List.replicate (64 * m) 0)).toArray := by
        apply Array.ext
        · rw [size_madeCells]; simp [Nat.mul_comm]
        · intro j h1 h2
          simp [madeCells, encB]
          rw [getElem!_pos _ _ (by simp; omega)]
          simp
      rw [this]
      simp
theorem step_append_ownat {P : Program} {ops : Array Oper} {o : Oper} {a : Act} {w : World} {K : Act → World → Prop} {Q : Exit → Act → World → Prop} {E : Prop}
    (hg : o.guard = none) (s x : Operand) (t : TypeId) (hop : o.op = Op.call { callee := Callee.builtin Builtin.append, args := #[s, x], argTypes := #[t, t] })
    (base : Nat) (e : TypeId) (z : Value) (size bytes : Nat) (h1 : P.underlying t = some (.slice e)) (hinfo : (P.info? e).map (fun i => (i.zero, i.size, i.bytes)) = some (some z, size, bytes)) (h6 : z.cells.size = size) (h7 : 0 < size)
    (v : Value) (n : Nat) (xs : List Value) (hs : a.eval s = v) (hown : w.ownsRow base e size v n xs)
    (ad : Addr) (m c : Nat) (news : List Value) (hx : a.eval x = .slice (some ad) m c) (hn : news.length = m * size) (hc : ∀ j u, news[j]? = some u → w.cell? (ad.add j) = some u) (h1c : ∀ u ∈ news, u.oneCell' = true)
    (b1 : n + m ≤ maxLen) (b2 : (n + m) * bytes ≤ 140737488355328) (hbase : base ≤ w.heap.size)
    (hK : ∀ v' w', w'.ownsRow base e size v' (n + m) (xs ++ news) → w.grownBy w' v.ownBlock → (v'.ownBlock = v.ownBlock ∨ v'.ownBlock = some w.heap.size) → K (a.put o.dst v') w') :
    if Region.wanted o (yielded ops a.tmps) = true then Oper.wp P o a w K Q else E := by
  have hw : Region.wanted o (yielded ops a.tmps) = true := by simp [Region.wanted, hg]
  rw [if_pos hw]
  obtain ⟨i, hi, hz, h4, h5⟩ := info_of hinfo
  obtain ⟨v', w', hrun, r1, r2, _, r3⟩ := run_append_own_at (P := P) w base t o.type e i z size bytes h1 hi hz h4 h5 h6 h7 v n xs hown ad m c news hn hc h1c b1 b2 hbase
  unfold Oper.wp
  simp [execOp, hop, resolve, invoke, builtin, hs, hx, hrun, Result.andThen]
  exact hK v' w' r1 r2 r3
end Go.Proofs.YtkdjibejnncmfaaGreatDoor.Co

/- The walk of New. -/
namespace Go.Proofs.YtkdjibejnncmfaaGreatDoor.Co
open Go.RowKit Go.Proofs.YtkdjibejnncmfaaGreatDoorW.PrintWords Go.Proofs.YtkdjibejnncmfaaGreatDoorW.PrintLast Go.Proofs.YtkdjibejnncmfaaGreatDoorW.PrintMore
set_option linter.unusedVariables false
set_option linter.unusedSimpArgs false
set_option maxRecDepth 100000
def newDS (n m : Nat) : DS := ⟨List.replicate n (List.replicate (64 * m) 0), 0, 0, false, 0⟩
abbrev rowV (m : Nat) (b : Nat) : Value := .slice (some ⟨b, 0, none⟩) m m
theorem own_below {w W : World} {base : Nat} {e : TypeId} {size n : Nat} {v : Value} {xs : List Value} (h : w.ownsRow base e size v n xs) (hb : Below w.heap.size w W) : W.ownsRow base e size v n xs :=
  own_move h (fun k hk => hb.block k (own_lt h k hk))
/-- What the loop of New keeps. -/
def NewI (w : World) (m k : Nat) (wr : World) : Prop := ∃ (v : Value) (bs : List Nat), bs.length = k ∧ wr.ownsRow (w.heap.size + 1) 128 1 v k (bs.map (rowV m)) ∧ Box wr w.heap.size 127 #[v, .int .i64 0, .int .i64 0, .bool false, .int .i64 0] ∧
      (∀ b ∈ bs, w.heap.size + 1 ≤ b ∧ Box wr b 131 (Array.replicate (64 * m) (Value.int .u8 0))) ∧ bs.Nodup ∧ Below w.heap.size w wr
theorem New_step {w wr w' : World} {m k g' cap' : Nat} {v : Value} {bs : List Nat} (hbl : bs.length = k) (HOWN : wr.ownsRow (w.heap.size + 1) 128 1 v k (bs.map (rowV m))) (HBOX : Box wr w.heap.size 127 #[v, .int .i64 0, .int .i64 0, .bool false, .int .i64 0])
    (hbs : ∀ b ∈ bs, w.heap.size + 1 ≤ b ∧ Box wr b 131 (Array.replicate (64 * m) (Value.int .u8 0))) (hnd : bs.Nodup) (hB : Below w.heap.size w wr)
    (hown : w'.ownsRow (w.heap.size + 1) 128 1 (.slice (some ⟨g', 0, none⟩) (k + 1) cap') (k + 1) (bs.map (rowV m) ++ [rowV m wr.heap.size]))
    (hgrow : ((wr.alloc (.cells (Array.replicate (64 * m) (Value.int .u8 0)) 131)).alloc (.cells #[rowV m wr.heap.size] 128)).drew.grownBy w' v.ownBlock) :
    NewI w m (k + 1) (w'.setCell ⟨w.heap.size, 0, none⟩ (.slice (some ⟨g', 0, none⟩) (k + 1) cap')) := by
  have hv0 : v.ownBlock ≠ some w.heap.size := fun e => by have := own_base HOWN _ e; omega
  have hg' : w.heap.size + 1 ≤ g' := own_base hown g' (by simp [Value.ownBlock])
  have hz : ∀ b cs, Box wr b 131 cs → v.ownBlock ≠ some b := by
    intro b cs h e
    obtain ⟨cells, hc⟩ := own_typed HOWN b e
    unfold Box at h
    rw [hc] at h
    injection h with h
    injection h with _ h
    cases h
  have hvl : v.ownBlock ≠ some wr.heap.size := fun e => by have := own_lt HOWN _ e; omega
  have hbx := Box.grown (w := ((wr.alloc (.cells (Array.replicate (64 * m) (Value.int .u8 0)) 131)).alloc (.cells #[rowV m wr.heap.size] 128)).drew) ((HBOX.alloc _).alloc _) hgrow (Ne.symm hv0)
  have hnew := Box.grown (w := ((wr.alloc (.cells (Array.replicate (64 * m) (Value.int .u8 0)) 131)).alloc (.cells #[rowV m wr.heap.size] 128)).drew) ((Box.new wr (Array.replicate (64 * m) (Value.int .u8 0)) 131).alloc _) hgrow (Ne.symm hvl)
  have hw : w.heap.size < wr.heap.size := HBOX.lt
  refine ⟨.slice (some ⟨g', 0, none⟩) (k + 1) cap', bs ++ [wr.heap.size], by simp [hbl], ?_, ?_, ?_, ?_, ?_⟩
  · rw [List.map_append]
    exact own_move hown (fun j hj => Below.heap_setCell _ _ _ _ (by
      have : g' = j := by simpa [Value.ownBlock] using hj
      show j ≠ w.heap.size
      omega))
  · exact hbx.set 0 _
  · intro b hb
    rcases List.mem_append.1 hb with h | h
    · obtain ⟨h1, h2⟩ := hbs b h
      refine ⟨h1, Box.far ?_ (by show b ≠ w.heap.size; omega) _⟩
      exact Box.grown (w := ((wr.alloc (.cells (Array.replicate (64 * m) (Value.int .u8 0)) 131)).alloc (.cells #[rowV m wr.heap.size] 128)).drew) ((h2.alloc _).alloc _) hgrow (Ne.symm (hz b _ h2))
    · have : b = wr.heap.size := by simpa using h
      subst this
      exact ⟨by omega, hnew.far (by show wr.heap.size ≠ w.heap.size; omega) _⟩
  · rw [List.nodup_append]
    refine ⟨hnd, by simp, fun a ha b hb => ?_⟩
    have : b = wr.heap.size := by simpa using hb
    subst this
    have := (hbs a ha).2.lt
    omega
  · refine Below.setCell (p := ⟨w.heap.size, 0, none⟩) ?_ (Nat.le_refl _) _
    refine (below_al (below_al hB _) _).drew.grown hgrow ?_ (fun j hj => ?_)
    · simp; omega
    · have := own_base HOWN j hj; omega
theorem New_done {w wr : World} {m n : Nat} (h : NewI w m n wr) (hn1 : 1 ≤ n) (hn2 : n ≤ 12) (hm1 : 2 ≤ m) (hm2 : m ≤ 1024) :
    ∃ P B c, B.length = n ∧ DAt wr w.heap.size P B c m (newDS n m) ∧ Below w.heap.size w wr ∧ (w.heap.size ≤ P ∧ ∀ b ∈ B, w.heap.size ≤ b) := by
  obtain ⟨v, bs, hbl, hown, hbox, hbs, hnd, hB⟩ := h
  obtain ⟨q, rfl⟩ : ∃ q, n = q + 1 := ⟨n - 1, by omega⟩
  obtain ⟨g, cap, rfl⟩ := ownsRow_succ hown
  have hg : w.heap.size + 1 ≤ g := own_base hown g (by simp [Value.ownBlock])
  obtain ⟨cells, hcs⟩ := own_typed hown g (by simp [Value.ownBlock])
  obtain ⟨A, c, e, hc, hr⟩ := own_reads_of_le (enc := rowV m) (d := 0) (xs := bs) hown
  injection e with e1 e2 e3
  subst e3
  obtain ⟨hl, _, hr⟩ := hr
  obtain ⟨ad, ha, hr⟩ := hr (by omega)
  rw [ha] at e1
  injection e1 with e1
  subst e1
  have hbc : Box wr g 128 cells := hcs
  refine ⟨g, bs, cap, hbl, ?_, hB, by omega, fun b hb => by have := (hbs b hb).1; omega⟩
  refine ⟨by rw [hbl]; exact hbox, ⟨cells, hbc, ?_⟩, ?_, by simp [newDS, hbl], ?_, ?_, hnd, by omega, by omega, by omega, hm1, hm2, by simp [newDS], by simp [newDS], by simp [newDS], by simp [newDS]⟩
  · intro i b hi
    obtain ⟨h1, h2⟩ := List.getElem?_eq_some_iff.1 hi
    have := hr i (by omega)
    rw [← hbc.cell i]
    have e : (⟨g, 0, none⟩ : Addr).add i = ⟨g, i, none⟩ := by simp [Addr.add]; exact fun h => h.symm
    rw [e] at this
    rw [this, List.getD_eq_getElem?_getD, hi]
    rfl
  · intro i b l hi hl'
    simp only [newDS, List.getElem?_replicate] at hl'
    split at hl'
    · injection hl' with hl'
      subst hl'
      rw [encB, List.map_replicate, List.toArray_replicate]
      exact (hbs b (List.mem_of_getElem? hi)).2
    · cases hl'
  · intro l hl
    rw [(List.mem_replicate.1 hl).2, List.length_replicate]
  · intro l hl x hx
    rw [(List.mem_replicate.1 hl).2] at hx
    rw [(List.mem_replicate.1 hx).2]
    exact ⟨by omega, by omega⟩
theorem zeros_eq (n : Nat) : (encB (List.replicate n 0)).toArray = Array.replicate n (Value.int .u8 0) := by simp [encB]
set_option maxHeartbeats 1000000 in
theorem New_ok (n m : Nat) (w : World) (hn1 : 1 ≤ n) (hn2 : n ≤ 12) (hm1 : 2 ≤ m) (hm2 : m ≤ 1024) :
    Calls Tryz.prog 38 #[.int .i64 n, .int .i64 m] w fun e w' => ∃ P B c, e = .returned (.tuple #[.pointer (some ⟨w.heap.size, 0, none⟩), .int .i64 0]) ∧ B.length = n ∧ DAt w' w.heap.size P B c m (newDS n m) ∧ Below w.heap.size w w' ∧ (w.heap.size ≤ P ∧ ∀ b ∈ B, w.heap.size ≤ b) := by
  have hmk := make_pages m hm2
  have hb0 := Box.new w #[.slice none 0 0, .int .i64 0, .int .i64 0, .bool false, .int .i64 0] 127
  have HB0 := Lib.hid hb0
  clear hb0
  go_enter Tryz.func38, Tryz.ntmps38
  go_wp2_with fail
  obtain ⟨W0, hW0⟩ : ∃ W0, W0 = w.alloc (.cells #[.slice none 0 0, .int .i64 0, .int .i64 0, .bool false, .int .i64 0] 127) := ⟨_, rfl⟩
  rw [← hW0] at HB0 ⊢
  have HBW : Hid (Below w.heap.size w W0) := Lib.hid (by rw [hW0]; exact below_al (Below.refl _ _) _)
  have hsz : Hid (W0.heap.size = w.heap.size + 1) := Lib.hid (by rw [hW0]; simp)
  clear hW0
  go_loopw [24] (fun i wr => ∃ k : Nat, k ≤ n ∧ i = .int .i64 k ∧ Hid (NewI w m k wr)) (fun i _ => n - (intOf i).toNat)
  case atStart => exact ⟨0, by omega, rfl, Lib.hid ⟨.slice none 0 0, [], rfl, World.ownsRow_nil _ _ _ _, HB0.out, by simp, List.nodup_nil, HBW.out⟩⟩
  case round =>
    obtain ⟨k, hk, rfl, hI⟩ := hrel
    obtain ⟨v, bs, hbl, hown, hbox, hbs, hnd, hB⟩ := hI.out
    have c0 := hbox.cell 0
    have f0 := hbox.frozen 0
    simp only [List.getElem?_toArray, List.getElem?_cons_zero] at c0
    have HOWN := Lib.hid hown
    have HBOX := Lib.hid hbox
    have HND := Lib.hid hnd
    have HBS := Lib.hid hbs
    have HB := Lib.hid hB
    clear hown hbox hnd hB hbs
    by_cases hlt : k < n
    · go_upto_region 6 with fail
      have hone : Hid (∀ (j : Nat) u, [rowV m wr.heap.size][j]? = some u → (((wr.alloc (.cells (Array.replicate (64 * m) (Value.int .u8 0)) 131)).alloc (.cells #[rowV m wr.heap.size] 128)).drew).cell? ((⟨wr.heap.size + 1, 0, none⟩ : Addr).add j) = some u) := Lib.hid (fun j u h => by
        have := one_cell (wr.alloc (.cells (Array.replicate (64 * m) (Value.int .u8 0)) 131)) (rowV m wr.heap.size) 128 j u h
        simpa using this)
      have d1 : (wr.alloc (.cells (Array.replicate (64 * m) (Value.int .u8 0)) 131)).cell? ⟨w.heap.size, 0, none⟩ = some v := cell_below (below_al (Below.refl _ _) _) c0
      have d2 : ((wr.alloc (.cells (Array.replicate (64 * m) (Value.int .u8 0)) 131)).alloc (.cells #[rowV m wr.heap.size] 128)).cell? ⟨w.heap.size, 0, none⟩ = some v := cell_below (below_al (below_al (Below.refl _ _) _) _) c0
      have hlen : k + 1 ≤ maxLen ∧ (k + 1) * 24 ≤ 140737488355328 := ⟨by unfold maxLen; omega, by omega⟩
      have HSZ := HBW.out.size
      have HNB : Hid (w.heap.size + 1 ≤ wr.heap.size) := Lib.hid (by have := HBOX.out.lt; omega)
      have hv0 : v.ownBlock ≠ some w.heap.size := fun e => by have := own_base HOWN.out _ e; omega
      go_region_law ((refine step_append_ownat rfl (.tmp 30) (.tmp 33) 125 rfl (w.heap.size + 1) 128 (.slice none 0 0) 1 24 Tryz.underlying125 info128 rfl (by decide) v k (bs.map (rowV m)) rfl (own_below HOWN.out (by (repeat (first | assumption | exact Below.refl _ _ | apply Below.drew | apply below_al)))) ⟨wr.heap.size + 1, 0, none⟩ 1 1 [rowV m wr.heap.size] rfl rfl hone.out (fun u hu => by cases List.mem_singleton.1 hu; rfl) hlen.1 hlen.2 (by simp; have := HNB.out; omega) ?_; intro v' w' hown hgrow hat; obtain ⟨g', cap', rfl⟩ := ownsRow_succ hown; have hbx := Box.grown (w := ((wr.alloc (Obj.cells (Array.replicate (64 * m) (Value.int IntKind.u8 0)) 131)).alloc (Obj.cells #[Value.slice (some { block := wr.heap.size, off := 0 }) m m] 128)).drew) ((HBOX.out.alloc _).alloc _) hgrow (Ne.symm hv0); have c1 := hbx.cell 0; have f1 := hbx.frozen 0; simp only [List.getElem?_toArray, List.getElem?_cons_zero] at c1))
      all_goals
        have HN := Lib.hid (New_step hbl HOWN.out HBOX.out HBS.out HND.out HB.out hown hgrow)
        clear hown hgrow hat hbx c1 f1 hone
        go_wp2_with fail
        go_roundw
        case rel => exact ⟨k + 1, by omega, by go_num, HN⟩
        case measure => simp [intOf]; omega
    · have hkn : k = n := by omega
      subst hkn
      clear c0 f0
      go_wp2_with fail
      go_ret2
      obtain ⟨P, B, c, h1, h2, h3, h4⟩ := New_done hI.out hn1 hn2 hm1 hm2
      exact ⟨P, B, c, rfl, h1, h2, h3, h4⟩
end Go.Proofs.YtkdjibejnncmfaaGreatDoor.Co

/- The walks of Count, Pages, slot, has, Up; what Disks in memory tell. -/
namespace Go.Proofs.YtkdjibejnncmfaaGreatDoor.Co
open Go.RowKit Go.Proofs.YtkdjibejnncmfaaGreatDoorW.PrintWords Go.Proofs.YtkdjibejnncmfaaGreatDoorW.PrintLast Go.Proofs.YtkdjibejnncmfaaGreatDoorW.PrintMore
set_option linter.unusedVariables false
set_option linter.unusedSimpArgs false
set_option maxRecDepth 100000
theorem B_get {B : List Nat} {i : Nat} (h : i < B.length) : B[i]? = some (B.getD i 0) := by
  rw [List.getD_eq_getElem?_getD, List.getElem?_eq_getElem h]; rfl
section
variable {w w' : World} {d P c m : Nat} {B : List Nat} {D : DS}
theorem DAt.f0 (h : DAt w d P B c m D) : w.cell? ⟨d, 0, none⟩ = some (.slice (some ⟨P, 0, none⟩) B.length c) := h.box.cell 0
theorem DAt.f1 (h : DAt w d P B c m D) : w.cell? ⟨d, 1, none⟩ = some (.int .i64 D.armed) := h.box.cell 1
theorem DAt.f2 (h : DAt w d P B c m D) : w.cell? ⟨d, 2, none⟩ = some (.int .i64 D.part) := h.box.cell 2
theorem DAt.f3 (h : DAt w d P B c m D) : w.cell? ⟨d, 3, none⟩ = some (.bool D.down) := h.box.cell 3
theorem DAt.f4 (h : DAt w d P B c m D) : w.cell? ⟨d, 4, none⟩ = some (.int .i64 D.falls) := h.box.cell 4
theorem DAt.row (h : DAt w d P B c m D) (i : Nat) (hi : i < B.length) : w.cell? ⟨P, i, none⟩ = some (.slice (some ⟨B.getD i 0, 0, none⟩) m m) := by
  obtain ⟨cs, h1, h2⟩ := h.rows
  rw [h1.cell i, h2 i _ (B_get hi)]
theorem DAt.dsk (h : DAt w d P B c m D) (i : Nat) (hi : i < B.length) : Box w (B.getD i 0) 131 (encB (D.disks.getD i [])).toArray := by
  refine h.disk i _ _ (B_get hi) ?_
  rw [List.getD_eq_getElem?_getD, List.getElem?_eq_getElem (by rw [h.len]; exact hi)]; rfl
theorem DAt.dlen (h : DAt w d P B c m D) (i : Nat) (hi : i < B.length) : (D.disks.getD i []).length = 64 * m := by
  refine h.size _ ?_
  rw [List.getD_eq_getElem?_getD, List.getElem?_eq_getElem (by rw [h.len]; exact hi)]; exact List.getElem_mem _
theorem DAt.dbytes (h : DAt w d P B c m D) (i : Nat) (hi : i < B.length) : ∀ x ∈ D.disks.getD i [], IsB x := by
  refine h.bytes _ ?_
  rw [List.getD_eq_getElem?_getD, List.getElem?_eq_getElem (by rw [h.len]; exact hi)]; exact List.getElem_mem _
theorem DAt.byte (h : DAt w d P B c m D) (i : Nat) (hi : i < B.length) (j : Nat) (hj : j < 64 * m) : w.cell? ⟨B.getD i 0, j, none⟩ = some (.int .u8 (rd (D.disks.getD i []) j)) := by
  rw [(h.dsk i hi).cell j]
  have hl := h.dlen i hi
  obtain ⟨q, hq⟩ : ∃ q, q = D.disks.getD i [] := ⟨_, rfl⟩
  rw [← hq] at hl ⊢
  unfold rd
  simp only [List.getElem?_toArray, encB, List.getElem?_map, Int.toNat_natCast]
  have e : q[j]? = some (q.getD j 0) := by
    rw [List.getD_eq_getElem?_getD, List.getElem?_eq_getElem (show j < q.length by omega)]; rfl
  rw [e]; rfl
/-- All blocks lie below N. -/
theorem DAt.lt_d (h : DAt w d P B c m D) : d < w.heap.size := h.box.lt
theorem DAt.lt_P (h : DAt w d P B c m D) : P < w.heap.size := by obtain ⟨cs, h1, _⟩ := h.rows; exact h1.lt
theorem DAt.lt_B (h : DAt w d P B c m D) (i : Nat) (hi : i < B.length) : B.getD i 0 < w.heap.size := (h.dsk i hi).lt
theorem DAt.below (h : DAt w d P B c m D) (hb : Below w.heap.size w w') : DAt w' d P B c m D := by
  obtain ⟨cs, h1, h2⟩ := h.rows
  refine { h with box := h.box.below hb h.box.lt, rows := ⟨cs, h1.below hb h1.lt, h2⟩, disk := fun i b l hi hl => ?_ }
  have := h.disk i b l hi hl
  exact this.below hb this.lt
theorem DAt.nn (h : DAt w d P B c m D) : (B.length : Int) ≤ c := by have := h.cap; omega
end
set_option maxHeartbeats 400000 in
theorem Count_any {d P c m : Nat} {B : List Nat} {D : DS} (w : World) (h : DAt w d P B c m D) : Calls Tryz.prog 92 #[.pointer (some ⟨d, 0, none⟩)] w fun e w' => e = .returned (.int .i64 B.length) ∧ w = w' := by
  have f0 := h.f0
  go_enter Tryz.func92, Tryz.ntmps92
  go_wp2_with fail
  go_ret
  exact ⟨rfl, rfl⟩
set_option maxHeartbeats 400000 in
theorem Pages_any {d P c m : Nat} {B : List Nat} {D : DS} (w : World) (h : DAt w d P B c m D) : Calls Tryz.prog 114 #[.pointer (some ⟨d, 0, none⟩)] w fun e w' => e = .returned (.int .i64 m) ∧ w = w' := by
  have f0 := h.f0
  have r0 := h.row 0 h.one
  have h1 := h.one
  have H := Lib.hid h
  clear h
  go_enter Tryz.func114, Tryz.ntmps114
  go_wp2_with fail
  go_ret
  exact ⟨rfl, rfl⟩
set_option maxHeartbeats 400000 in
theorem slot_any {d P c m : Nat} {B : List Nat} {D : DS} (w : World) (h : DAt w d P B c m D) : Calls Tryz.prog 95 #[.pointer (some ⟨d, 0, none⟩)] w fun e w' => e = .returned (.int .i64 ((m / 2 : Nat) : Int)) ∧ w = w' := by
  have h1 := h.few
  have H := Lib.hid h
  clear h
  go_enter Tryz.func95, Tryz.ntmps95
  go_wp2_with fail
  refine (Pages_any w H.out).mono ?_
  rintro e w' ⟨rfl, rfl⟩
  go_wp2_with fail
  go_ret
  exact ⟨ret_int' (by omega), rfl⟩
def hasF (n m : Nat) (i j : Int) : Bool := decide (0 ≤ i) && decide (i < n) && decide (0 ≤ j) && decide (j < m)
set_option maxHeartbeats 400000 in
theorem has_any {d P c m : Nat} {B : List Nat} {D : DS} (i j : Int) (w : World) (h : DAt w d P B c m D) : Calls Tryz.prog 101 #[.pointer (some ⟨d, 0, none⟩), .int .i64 i, .int .i64 j] w fun e w' => e = .returned (.bool (hasF B.length m i j)) ∧ w = w' := by
  have H := Lib.hid h
  clear h
  by_cases h1 : 0 ≤ i
  · by_cases h2 : i < B.length
    · by_cases h3 : 0 ≤ j
      · go_enter Tryz.func101, Tryz.ntmps101
        go_wp2_with fail
        refine (Count_any w H.out).mono ?_
        rintro e w' ⟨rfl, rfl⟩
        go_wp2_with fail
        refine (Pages_any w H.out).mono ?_
        rintro e w' ⟨rfl, rfl⟩
        go_wp2_with fail
        go_ret
        exact ⟨ret_bool' (by simp [hasF, h1, h2, h3]; try omega), rfl⟩
      · go_enter Tryz.func101, Tryz.ntmps101
        go_wp2_with fail
        refine (Count_any w H.out).mono ?_
        rintro e w' ⟨rfl, rfl⟩
        go_wp2_with fail
        go_ret
        exact ⟨ret_bool' (by simp [hasF, h1, h2, h3]; try omega), rfl⟩
    · go_enter Tryz.func101, Tryz.ntmps101
      go_wp2_with fail
      refine (Count_any w H.out).mono ?_
      rintro e w' ⟨rfl, rfl⟩
      go_wp2_with fail
      go_ret
      exact ⟨ret_bool' (by simp [hasF, h1, h2]; try omega), rfl⟩
  · go_enter Tryz.func101, Tryz.ntmps101
    go_wp2_with fail
    go_ret
    exact ⟨ret_bool' (by simp [hasF, h1]; try omega), rfl⟩
end Go.Proofs.YtkdjibejnncmfaaGreatDoor.Co

/- What Write, Lose, Rot leave; frames. -/
namespace Go.Proofs.YtkdjibejnncmfaaGreatDoor.Co
open Go.RowKit Go.Proofs.YtkdjibejnncmfaaGreatDoorW.PrintWords Go.Proofs.YtkdjibejnncmfaaGreatDoorW.PrintLast Go.Proofs.YtkdjibejnncmfaaGreatDoorW.PrintMore
set_option linter.unusedVariables false
set_option linter.unusedSimpArgs false
set_option maxRecDepth 100000
/-- Nothing but the blocks d and B has changed. -/
structure Fr (d : Nat) (B : List Nat) (w w' : World) : Prop where
  os : w'.os = w.os
  tape : w'.tape = w.tape
  output : w'.output = w.output
  size : w.heap.size ≤ w'.heap.size
  block : ∀ k, k < w.heap.size → k ≠ d → k ∉ B → w'.heap[k]? = w.heap[k]?
section
variable {d : Nat} {B : List Nat} {w w' w1 : World}
theorem Fr.refl (d : Nat) (B : List Nat) (w : World) : Fr d B w w := ⟨rfl, rfl, rfl, Nat.le_refl _, fun _ _ _ _ => rfl⟩
theorem Fr.trans (h : Fr d B w w') (k : Fr d B w' w1) : Fr d B w w1 :=
  ⟨k.os.trans h.os, k.tape.trans h.tape, k.output.trans h.output, Nat.le_trans h.size k.size, fun i hi h1 h2 => (k.block i (Nat.lt_of_lt_of_le hi h.size) h1 h2).trans (h.block i hi h1 h2)⟩
theorem Fr.of_below (h : Below w.heap.size w w') : Fr d B w w' := ⟨h.os, h.tape, h.output, h.size, fun i hi _ _ => h.block i hi⟩
theorem Fr.set (h : Fr d B w w') (p : Addr) (v : Value) (hp : p.block = d ∨ p.block ∈ B) : Fr d B w (w'.setCell p v) := by
  have hb := (Below.refl 0 w').setCell (p := p) (Nat.zero_le _) v
  refine ⟨hb.os.trans h.os, hb.tape.trans h.tape, hb.output.trans h.output, Nat.le_trans h.size hb.size, fun i hi h1 h2 => ?_⟩
  rw [Below.heap_setCell w' p v i (by intro e; rcases hp with e2 | e2; exact h1 (e.trans e2); exact h2 (e ▸ e2))]
  exact h.block i hi h1 h2
theorem Fr.sets (h : Fr d B w w') (g off : Nat) (l : List Value) (hg : g = d ∨ g ∈ B) : Fr d B w (setCells w' g off l) := by
  induction l generalizing w' off with
  | nil => exact h
  | cons v l ih => unfold setCells; exact ih (h.set _ v hg) (off + 1)
theorem Fr.below (h : Fr d B w w') {N : Nat} (hN : N ≤ w.heap.size) (hd : N ≤ d) (hB : ∀ b ∈ B, N ≤ b) : Below N w w' :=
  ⟨h.os, h.tape, h.output, h.size, fun i hi => h.block i (by omega) (by omega) (fun hm => by have := hB i hm; omega)⟩
theorem Fr.box (h : Fr d B w w') {g : Nat} {e : TypeId} {cs : Array Value} (hb : Box w g e cs) (h1 : g ≠ d) (h2 : g ∉ B) : Box w' g e cs := (h.block g hb.lt h1 h2).trans hb
theorem Fr.cell (h : Fr d B w w') {p : Addr} {v : Value} (hc : w.cell? p = some v) (h1 : p.block ≠ d) (h2 : p.block ∉ B) : w'.cell? p = some v := by
  have hl := World.block_lt_of_cell? w p hc
  have := h.block p.block hl h1 h2
  unfold World.cell? at hc ⊢
  rw [this]; exact hc
end
theorem Box.sets_far {w : World} {g g' : Nat} {e : TypeId} {cs : Array Value} (h : Box w g e cs) (hg : g ≠ g') (off : Nat) (l : List Value) : Box (Co.setCells w g' off l) g e cs := by
  induction l generalizing w off with
  | nil => exact h
  | cons v l ih => unfold Co.setCells; exact ih (h.far hg v) (off + 1)
def wrBytes (s : ByteArray) : List Int := s.data.toList.map fun x => (x.toNat : Int)
theorem wrBytes_length (s : ByteArray) : (wrBytes s).length = s.size := by unfold wrBytes; rw [List.length_map]; exact (Lib.size_eq s).symm
theorem wrBytes_b (s : ByteArray) : ∀ x ∈ wrBytes s, IsB x := by
  intro x hx
  obtain ⟨y, _, rfl⟩ := List.mem_map.1 hx
  have := y.toNat_lt
  exact ⟨by omega, by omega⟩
def DS.put (D : DS) (i off : Nat) (bs : List Int) : DS := { D with disks := D.disks.set i (setL (D.disks.getD i []) off bs) }
theorem setL_mem {l bs : List Int} {off : Nat} {x : Int} (h : x ∈ setL l off bs) : x ∈ l ∨ x ∈ bs := by
  induction bs generalizing l off with
  | nil => exact .inl h
  | cons b bs ih =>
    unfold setL at h
    rcases ih h with h1 | h1
    · rcases List.mem_or_eq_of_mem_set h1 with h2 | h2
      · exact .inl h2
      · exact .inr (h2 ▸ List.mem_cons_self)
    · exact .inr (List.mem_cons_of_mem _ h1)
section
variable {w w' : World} {d P c m : Nat} {B : List Nat} {D : DS}
theorem DAt.b_mem {i : Nat} (hi : i < B.length) : B.getD i 0 ∈ B := by
  rw [List.getD_eq_getElem?_getD, List.getElem?_eq_getElem hi]; exact List.getElem_mem _
theorem DAt.ne_d (h : DAt w d P B c m D) (i : Nat) (hi : i < B.length) : B.getD i 0 ≠ d := (h.dsk i hi).ne h.box (by decide)
theorem DAt.ne_P (h : DAt w d P B c m D) (i : Nat) (hi : i < B.length) : B.getD i 0 ≠ P := by
  obtain ⟨cs, h1, _⟩ := h.rows
  exact (h.dsk i hi).ne h1 (by decide)
theorem DAt.P_ne_d (h : DAt w d P B c m D) : P ≠ d := by
  obtain ⟨cs, h1, _⟩ := h.rows
  exact h1.ne h.box (by decide)
/-- A row of bytes of a disk is written. -/
theorem DAt.put (h : DAt w d P B c m D) (i : Nat) (hi : i < B.length) (off : Nat) (bs : List Int) (hb : ∀ x ∈ bs, IsB x) :
    DAt (setCells w (B.getD i 0) off (encB bs)) d P B c m (D.put i off bs) := by
  obtain ⟨cs, h1, h2⟩ := h.rows
  refine { h with box := h.box.sets_far (h.ne_d i hi).symm _ _, rows := ⟨cs, h1.sets_far (h.ne_P i hi).symm _ _, h2⟩, disk := ?_, len := by simp [DS.put, h.len], size := ?_, bytes := ?_ }
  · intro j b l hj hl
    simp only [DS.put, List.getElem?_set] at hl
    by_cases e : i = j
    · subst e
      rw [if_pos rfl, if_pos (by rw [h.len]; exact hi)] at hl
      injection hl with hl
      subst hl
      have hb2 : b = B.getD i 0 := by rw [B_get hi] at hj; injection hj with hj; exact hj.symm
      subst hb2
      have h3 := (h.dsk i hi).setCells off (encB bs)
      rw [show encB (setL (D.disks.getD i []) off bs) = setL (encB (D.disks.getD i [])) off (encB bs) from setL_map _ _ _ _]
      exact h3
    · rw [if_neg e] at hl
      have hne : b ≠ B.getD i 0 := by
        intro eb
        have hjl : j < B.length := (List.getElem?_eq_some_iff.1 hj).1
        have := (List.getElem_inj (i := i) (j := j) (xs := B) (h₀ := hi) (h₁ := hjl) h.nodup).1 (by
          obtain ⟨_, e1⟩ := List.getElem?_eq_some_iff.1 hj
          rw [e1, eb, List.getD_eq_getElem?_getD, List.getElem?_eq_getElem hi]; rfl)
        exact e this
      exact (h.disk j b l hj hl).sets_far hne _ _
  · intro l hl
    rcases List.mem_or_eq_of_mem_set hl with h3 | h3
    · exact h.size l h3
    · rw [h3, setL_length]; exact h.dlen i hi
  · intro l hl x hx
    rcases List.mem_or_eq_of_mem_set hl with h3 | h3
    · exact h.bytes l h3 x hx
    · rw [h3] at hx
      rcases setL_mem hx with h4 | h4
      · exact h.dbytes i hi x h4
      · exact hb x h4
end
end Go.Proofs.YtkdjibejnncmfaaGreatDoor.Co

/- copy from a string; the walk of Write. -/
namespace Go.Proofs.YtkdjibejnncmfaaGreatDoor.Co
open Go.RowKit Go.Proofs.YtkdjibejnncmfaaGreatDoorW.PrintWords Go.Proofs.YtkdjibejnncmfaaGreatDoorW.PrintLast Go.Proofs.YtkdjibejnncmfaaGreatDoorW.PrintMore
set_option linter.unusedVariables false
set_option linter.unusedSimpArgs false
set_option maxRecDepth 100000
theorem setCells_eq (w : World) (b o : Nat) (l : List Value) : w.setCells b o l = Co.setCells w b o l := by
  induction l generalizing w o with
  | nil => rfl
  | cons v l ih => unfold World.setCells Co.setCells; exact ih _ _
theorem sizeOf5 (w : World) : (Go.sizeOf 5).run Tryz.prog w = .ok 1 w := by
  cases hi : Tryz.prog.info? 5 with
  | none => have := info5; rw [hi] at this; cases this
  | some i =>
    have h := info5
    rw [hi] at h
    simp only [Option.map_some, Option.some.injEq, Prod.mk.injEq] at h
    simp [Go.sizeOf, typeInfo, hi, h.2.1]
theorem run_copy_str {P : Program} (w : World) (dT sT ty elem : TypeId) (b o dLen dCap : Nat) (t : ByteArray)
    (hu : P.underlying dT = some (.slice elem)) (hz : ∀ w, (Go.sizeOf elem).run P w = .ok 1 w)
    (hc : ∀ j, j < dLen → (w.cell? ⟨b, o + j, none⟩).isSome = true) (hf : ∀ j, j < dLen → w.frozen? ⟨b, o + j, none⟩ = false) :
    (Builtin.copy_ #[dT, sT] ty #[.slice (some ⟨b, o, none⟩) dLen dCap, .string t]).run P w = .ok (goInt (Nat.min t.size dLen)) (Co.setCells w b o (encB ((wrBytes t).take dLen))) := by
  have hl : ((t.data.toList.map fun x => Value.int .u8 (x.toNat : Int)).take (Nat.min t.size dLen)).length = Nat.min t.size dLen := by
    rw [List.length_take, List.length_map, ← Lib.size_eq]; simp
  have hle : Nat.min t.size dLen ≤ dLen := Nat.min_le_right _ _
  have hst := run_storeCells_cells (P := P) b o ((t.data.toList.map fun x => Value.int .u8 (x.toNat : Int)).take (Nat.min t.size dLen)) 0 w (by rw [hl]; intro j hj; simpa using hc j (by omega)) (by rw [hl]; intro j hj; simpa using hf j (by omega)) (by
    intro v hv
    obtain ⟨x, _, rfl⟩ := List.mem_map.1 (List.mem_of_mem_take hv)
    rfl)
  have he : (t.data.toList.map fun x => Value.int .u8 (x.toNat : Int)).take (Nat.min t.size dLen) = encB ((wrBytes t).take dLen) := by
    have e1 : (t.data.toList.map fun x => Value.int .u8 (x.toNat : Int)) = encB (wrBytes t) := by unfold wrBytes encB; rw [List.map_map]; rfl
    rw [e1, show encB ((wrBytes t).take dLen) = (encB (wrBytes t)).take dLen from List.map_take]
    rcases Nat.le_total t.size dLen with h | h
    · rw [show Nat.min t.size dLen = t.size from Nat.min_eq_left h, List.take_of_length_le (by simp [wrBytes_length]), List.take_of_length_le (by simp [wrBytes_length]; exact h)]
    · rw [show Nat.min t.size dLen = dLen from Nat.min_eq_right h]
  simp [Builtin.copy_, run_underlying hu, Builtin.lenOf, Builtin.firstCells, hz]
  rw [hst]
  simp [Result.andThen]
  rw [← setCells_eq]
  exact congrArg _ (he.trans List.map_take)
theorem step_copy_str {P : Program} {ops : Array Oper} {o : Oper} {a : Act} {w : World} {K : Act → World → Prop} {Q : Exit → Act → World → Prop} {E : Prop}
    (hg : o.guard = none) (d x : Operand) (dT sT : TypeId) (hop : o.op = Op.call { callee := Callee.builtin Builtin.copy, args := #[d, x], argTypes := #[dT, sT] })
    (elem : TypeId) (hu : P.underlying dT = some (.slice elem)) (hz : ∀ w, (Go.sizeOf elem).run P w = .ok 1 w)
    (b off dLen dCap : Nat) (hd : a.eval d = .slice (some ⟨b, off, none⟩) dLen dCap) (t : ByteArray) (hx : a.eval x = .string t)
    (hc : ∀ j, j < dLen → (w.cell? ⟨b, off + j, none⟩).isSome = true) (hf : ∀ j, j < dLen → w.frozen? ⟨b, off + j, none⟩ = false)
    (hK : K (a.put o.dst (goInt (Nat.min t.size dLen))) (Co.setCells w b off (encB ((wrBytes t).take dLen)))) :
    if Region.wanted o (yielded ops a.tmps) = true then Oper.wp P o a w K Q else E := by
  have hw : Region.wanted o (yielded ops a.tmps) = true := by simp [Region.wanted, hg]
  rw [if_pos hw]
  have hrun := run_copy_str (P := P) w dT sT o.type elem b off dLen dCap t hu hz hc hf
  unfold Oper.wp
  simp [execOp, hop, resolve, invoke, builtin, hd, hx, hrun, Result.andThen]
  rw [show encB ((wrBytes t).take dLen) = ((wrBytes t).map (Value.int .u8)).take dLen from List.map_take] at hK
  exact hK
theorem wpList_copy_str {P : Program} {ops : Array Oper} {rest : List Oper} {o : Oper} {a : Act} {w : World} {Q : Exit → Act → World → Prop}
    (hg : o.guard = none) (d x : Operand) (dT sT : TypeId) (hop : o.op = Op.call { callee := Callee.builtin Builtin.copy, args := #[d, x], argTypes := #[dT, sT] })
    (elem : TypeId) (hu : P.underlying dT = some (.slice elem)) (hz : ∀ w, (Go.sizeOf elem).run P w = .ok 1 w)
    (b off dLen dCap : Nat) (hd : a.eval d = .slice (some ⟨b, off, none⟩) dLen dCap) (t : ByteArray) (hx : a.eval x = .string t)
    (hc : ∀ j, j < dLen → (w.cell? ⟨b, off + j, none⟩).isSome = true) (hf : ∀ j, j < dLen → w.frozen? ⟨b, off + j, none⟩ = false)
    (hK : wpList P ops Q rest (a.put o.dst (goInt (Nat.min t.size dLen))) (Co.setCells w b off (encB ((wrBytes t).take dLen)))) :
    wpList P ops Q (o :: rest) a w := by
  refine wpList_plain hg fun K hK' => ?_
  have hrun := run_copy_str (P := P) w dT sT o.type elem b off dLen dCap t hu hz hc hf
  unfold Oper.wp
  simp [execOp, hop, resolve, invoke, builtin, hd, hx, hrun, Result.andThen]
  rw [show encB ((wrBytes t).take dLen) = ((wrBytes t).map (Value.int .u8)).take dLen from List.map_take] at hK
  exact hK' _ _ hK
theorem DAt.arm {w : World} {d P c m : Nat} {B : List Nat} {D : DS} (h : DAt w d P B c m D) (x : Int) (h0 : 0 ≤ x) (h1 : x ≤ 9223372036854775807) : DAt (w.setCell ⟨d, 1, none⟩ (.int .i64 x)) d P B c m { D with armed := x } := by
  obtain ⟨cs, h2, h3⟩ := h.rows
  exact { h with box := h.box.set 1 _, rows := ⟨cs, h2.far h.P_ne_d _, h3⟩, disk := fun i b l hi hl => (h.disk i b l hi hl).far (by
    have e := h.ne_d i (List.getElem?_eq_some_iff.1 hi).1
    rw [B_get (List.getElem?_eq_some_iff.1 hi).1] at hi
    injection hi with hi
    rw [← hi]; exact e) _, arm0 := h0, arm1 := h1 }
theorem DAt.dn {w : World} {d P c m : Nat} {B : List Nat} {D : DS} (h : DAt w d P B c m D) (x : Bool) : DAt (w.setCell ⟨d, 3, none⟩ (.bool x)) d P B c m { D with down := x } := by
  obtain ⟨cs, h2, h3⟩ := h.rows
  exact { h with box := h.box.set 3 _, rows := ⟨cs, h2.far h.P_ne_d _, h3⟩, disk := fun i b l hi hl => (h.disk i b l hi hl).far (by
    have e := h.ne_d i (List.getElem?_eq_some_iff.1 hi).1
    rw [B_get (List.getElem?_eq_some_iff.1 hi).1] at hi
    injection hi with hi
    rw [← hi]; exact e) _ }
theorem DAt.fal {w : World} {d P c m : Nat} {B : List Nat} {D : DS} (h : DAt w d P B c m D) (x : Int) : DAt (w.setCell ⟨d, 4, none⟩ (.int .i64 x)) d P B c m { D with falls := x } := by
  obtain ⟨cs, h2, h3⟩ := h.rows
  exact { h with box := h.box.set 4 _, rows := ⟨cs, h2.far h.P_ne_d _, h3⟩, disk := fun i b l hi hl => (h.disk i b l hi hl).far (by
    have e := h.ne_d i (List.getElem?_eq_some_iff.1 hi).1
    rw [B_get (List.getElem?_eq_some_iff.1 hi).1] at hi
    injection hi with hi
    rw [← hi]; exact e) _ }
theorem DAt.prt {w : World} {d P c m : Nat} {B : List Nat} {D : DS} (h : DAt w d P B c m D) (x : Int) (h0 : 0 ≤ x) (h1 : x ≤ 64) : DAt (w.setCell ⟨d, 2, none⟩ (.int .i64 x)) d P B c m { D with part := x } := by
  obtain ⟨cs, h2, h3⟩ := h.rows
  exact { h with box := h.box.set 2 _, rows := ⟨cs, h2.far h.P_ne_d _, h3⟩, disk := fun i b l hi hl => (h.disk i b l hi hl).far (by
    have e := h.ne_d i (List.getElem?_eq_some_iff.1 hi).1
    rw [B_get (List.getElem?_eq_some_iff.1 hi).1] at hi
    injection hi with hi
    rw [← hi]; exact e) _, part0 := h0, part1 := h1 }
def writeF (n m : Nat) (D : DS) (i j : Int) (s : ByteArray) : DS × Int :=
  if D.down then (D, 91) else if !hasF n m i j || s.size != 64 then (D, 1) else
    if D.armed = 1 then ({ D.put i.toNat (j.toNat * 64) ((wrBytes s).take D.part.toNat) with armed := 0, down := true, falls := D.falls + 1 }, 91)
    else ({ D.put i.toNat (j.toNat * 64) (wrBytes s) with armed := if 0 < D.armed then D.armed - 1 else D.armed }, 0)
set_option maxHeartbeats 1000000 in
theorem Write_any {d P c m : Nat} {B : List Nat} {D : DS} (i j : Int) (s : ByteArray) (w : World) (h : DAt w d P B c m D) (hs : s.size ≤ 9223372036854775807) (hfa : 0 ≤ D.falls) (hfb : D.falls < 9223372036854775807) :
    Calls Tryz.prog 108 #[.pointer (some ⟨d, 0, none⟩), .int .i64 i, .int .i64 j, .string s] w fun e w' => e = .returned (.int .i64 (writeF B.length m D i j s).2) ∧ DAt w' d P B c m (writeF B.length m D i j s).1 ∧ Fr d B w w' := by
  have f0 := h.f0
  have f1 := h.f1
  have f2 := h.f2
  have f3 := h.f3
  have f4 := h.f4
  have H := Lib.hid h
  clear h
  by_cases h1 : D.down = true
  · have HW : Hid (writeF B.length m D i j s = (D, 91)) := Lib.hid (by unfold writeF; rw [if_pos h1])
    rw [h1] at f3
    clear f0 f1 f2 f4
    go_enter Tryz.func108, Tryz.ntmps108
    go_wp2_with fail
    go_ret
    exact ⟨ret_int' (by rw [HW.out]), by rw [HW.out]; exact H.out, Fr.refl _ _ _⟩
  · have h1' : D.down = false := by simpa using h1
    rw [h1'] at f3
    by_cases h2 : hasF B.length m i j = true
    · by_cases h3 : s.size = 64
      · obtain ⟨i', j', rfl, rfl, hi, hj⟩ : ∃ i' j' : Nat, i = (i' : Int) ∧ j = (j' : Int) ∧ i' < B.length ∧ j' < m := by
          unfold hasF at h2
          simp only [Bool.and_eq_true, decide_eq_true_eq] at h2
          exact ⟨i.toNat, j.toNat, by omega, by omega, by omega, by omega⟩
        have r0 := H.out.row i' hi
        have hx := H.out.cap
        have hmm := H.out.few
        have ha0 := H.out.arm0
        have ha1 := H.out.arm1
        have hp0 := H.out.part0
        have hp1 := H.out.part1
        have h3' : ((s.size : Int) == 64) = true := by simp; omega
        have fz1 := H.out.box.frozen 1
        have fz3 := H.out.box.frozen 3
        have fz4 := H.out.box.frozen 4
        have HD := Lib.hid (H.out.dsk i' hi)
        have hcx0 : ∀ q, q < 64 → (w.cell? ⟨B.getD i' 0, j' * 64 + q, none⟩).isSome = true := by
          intro q hq; rw [H.out.byte i' hi (j' * 64 + q) (by omega)]; rfl
        have hfx0 : ∀ q, q < 64 → w.frozen? ⟨B.getD i' 0, j' * 64 + q, none⟩ = false := fun q hq => HD.out.frozen _
        have hbd : B.getD i' 0 ≠ d := H.out.ne_d i' hi
        obtain ⟨b, hb⟩ : ∃ b, b = B.getD i' 0 := ⟨_, rfl⟩
        rw [← hb] at r0 HD hcx0 hfx0 hbd
        have HCX := Lib.hid hcx0
        have HFX := Lib.hid hfx0
        have HBD := Lib.hid hbd
        have HEB := Lib.hid hb
        have HBM : Hid (b ∈ B) := Lib.hid (by rw [hb]; exact DAt.b_mem hi)
        clear hb hcx0 hfx0 hbd
        by_cases h4 : D.armed = 0
        · rw [h4] at f1
          have HW : Hid (writeF B.length m D i' j' s = (D.put i' (j' * 64) (wrBytes s), 0)) := Lib.hid (by
            unfold writeF
            rw [h1', h2, h4]
            simp [h3, DS.put, h4])
          go_enter Tryz.func108, Tryz.ntmps108
          go_wp2_with fail
          refine (has_any _ _ w H.out).mono ?_
          rintro e w' ⟨rfl, rfl⟩
          rw [h2]
          obtain ⟨W1, hW1⟩ : ∃ W1, W1 = Co.setCells w b (j' * 64) (encB (wrBytes s)) := ⟨_, rfl⟩
          have hcp := run_copy_str (P := Tryz.prog) w 46 9 3 5 b (j' * 64) 64 64 s Tryz.underlying46 sizeOf5 HCX.out HFX.out
          rw [List.take_of_length_le (show (wrBytes s).length ≤ 64 by rw [wrBytes_length]; omega), ← hW1] at hcp
          have HW1 := Lib.hid hW1
          clear hW1
          go_wp2_with fail
          go_ret
          refine ⟨ret_int' (by rw [HW.out]), ?_, ?_⟩
          · rw [HW.out, HW1.out, HEB.out]
            exact H.out.put i' hi _ _ (wrBytes_b s)
          · rw [HW1.out]
            exact (Fr.refl _ _ _).sets _ _ _ (.inr HBM.out)
        · have f1p : (0 : Int) < D.armed := by omega
          obtain ⟨ar, har⟩ : ∃ ar, ar = D.armed - 1 := ⟨_, rfl⟩
          have har2 : D.armed = ar + 1 := by omega
          have HAR := Lib.hid har2
          rw [har2] at f1 f1p ha0 ha1
          clear har har2 h4
          have hw1 : ∃ w1, w1 = w.setCell ⟨d, 1, none⟩ (.int .i64 ar) := ⟨_, rfl⟩
          have H1 := Lib.hid (H.out.arm ar (by omega) (by omega))
          go_enter Tryz.func108, Tryz.ntmps108
          go_wp2_with fail
          refine (has_any _ _ w H.out).mono ?_
          rintro e w' ⟨rfl, rfl⟩
          rw [h2]
          go_upto_region 8 with fail
          obtain ⟨w1, hw1⟩ := hw1
          rw [← hw1] at H1 ⊢
          have HF1 : Hid (Fr d B w w1) := Lib.hid (by rw [hw1]; exact (Fr.refl _ _ _).set _ _ (.inl rfl))
          clear hw1 f0 f1 f2 f3 f4 fz1 fz3 fz4 r0 HD HCX HFX
          have f1 := H1.out.f1
          have f2 := H1.out.f2
          have f4 := H1.out.f4
          have fz3 := H1.out.box.frozen 3
          dsimp only at f1 f2 f4
          have HD := Lib.hid (H1.out.dsk i' hi)
          have hcx0 : ∀ q, q < 64 → (w1.cell? ⟨b, j' * 64 + q, none⟩).isSome = true := by
            intro q hq; rw [HEB.out, H1.out.byte i' hi (j' * 64 + q) (by omega)]; rfl
          have hfx0 : ∀ q, q < 64 → w1.frozen? ⟨b, j' * 64 + q, none⟩ = false := fun q hq => by rw [HEB.out]; exact HD.out.frozen _
          have HCX := Lib.hid hcx0
          have HFX := Lib.hid hfx0
          clear hcx0 hfx0
          by_cases h5 : ar = 0
          · subst h5
            obtain ⟨p, hp⟩ : ∃ p : Nat, D.part = (p : Int) := ⟨D.part.toNat, by omega⟩
            have HP := Lib.hid hp
            rw [hp] at f2 hp0 hp1
            clear hp
            have hp64 : p ≤ 64 := by omega
            obtain ⟨W1, hW1⟩ : ∃ W1, W1 = Co.setCells w1.drew b (j' * 64) (encB ((wrBytes s).take p)) := ⟨_, rfl⟩
            have hcp := run_copy_str (P := Tryz.prog) w1.drew 46 9 3 5 b (j' * 64) p 64 s Tryz.underlying46 sizeOf5 (fun q hq => HCX.out q (by omega)) (fun q hq => HFX.out q (by omega))
            rw [← hW1] at hcp
            have H2 : Hid (DAt W1 d P B c m _) := Lib.hid (by rw [hW1, HEB.out]; exact (H1.out.below (Below.refl _ _).drew).put i' hi (j' * 64) _ (fun x hx => wrBytes_b s x (List.mem_of_mem_take hx)))
            have HF2 : Hid (Fr d B w W1) := Lib.hid (by rw [hW1]; exact (HF1.out.trans (Fr.of_below (Below.refl _ _).drew)).sets _ _ _ (.inr HBM.out))
            clear hW1
            have fw2 := H2.out.f2
            have fw3 := H2.out.f3
            have fz3 := H2.out.box.frozen 3
            have H3 := Lib.hid (H2.out.dn true)
            have HF3 := Lib.hid (HF2.out.set ⟨d, 3, none⟩ (.bool true) (.inl rfl))
            have HW : Hid (writeF B.length m D i' j' s = ({ D.put i' (j' * 64) ((wrBytes s).take p) with armed := 0, down := true, falls := D.falls + 1 }, 91)) := Lib.hid (by
              unfold writeF
              rw [h1', h2, HAR.out, HP.out]
              simp [h3])
            have fw4 := H3.out.f4
            have fz4 := H3.out.box.frozen 4
            dsimp only [DS.put] at fw2 fw3 fw4
            rw [HP.out] at fw2
            go_upto_region 9 with fail
            go_region_with fail
            all_goals
              go_wp2_with fail
              go_ret
              refine ⟨ret_int' (by rw [HW.out]), ?_, HF3.out.set _ _ (.inl rfl)⟩
              rw [HW.out]
              exact H3.out.fal (D.falls + 1)
          · have h5' : ((ar : Int) == 0) = false := by simpa using h5
            have HW : Hid (writeF B.length m D i' j' s = ({ D.put i' (j' * 64) (wrBytes s) with armed := ar }, 0)) := Lib.hid (by
              unfold writeF
              rw [h1', h2, HAR.out]
              simp [h3, h5, show ¬ ar + 1 = 1 by omega, show 0 < ar + 1 by omega])
            obtain ⟨W1, hW1⟩ : ∃ W1, W1 = Co.setCells w1 b (j' * 64) (encB (wrBytes s)) := ⟨_, rfl⟩
            have hcp := run_copy_str (P := Tryz.prog) w1 46 9 3 5 b (j' * 64) 64 64 s Tryz.underlying46 sizeOf5 HCX.out HFX.out
            rw [List.take_of_length_le (show (wrBytes s).length ≤ 64 by rw [wrBytes_length]; omega), ← hW1] at hcp
            have HW1 := Lib.hid hW1
            clear hW1
            go_wp2_with fail
            go_ret
            refine ⟨ret_int' (by rw [HW.out]), ?_, ?_⟩
            · rw [HW.out, HW1.out, HEB.out]
              exact H1.out.put i' hi _ _ (wrBytes_b s)
            · rw [HW1.out]
              exact HF1.out.sets _ _ _ (.inr HBM.out)
      · have HW : Hid (writeF B.length m D i j s = (D, 1)) := Lib.hid (by unfold writeF; rw [h1', h2]; simp [h3])
        have h3' : ((s.size : Int) == 64) = false := by simp; omega
        clear f0 f1 f2 f4
        go_enter Tryz.func108, Tryz.ntmps108
        go_wp2_with fail
        refine (has_any i j w H.out).mono ?_
        rintro e w' ⟨rfl, rfl⟩
        rw [h2]
        go_wp2_with fail
        go_ret
        exact ⟨ret_int' (by rw [HW.out]), by rw [HW.out]; exact H.out, Fr.refl _ _ _⟩
    · have h2' : hasF B.length m i j = false := by simpa using h2
      have HW : Hid (writeF B.length m D i j s = (D, 1)) := Lib.hid (by unfold writeF; rw [h1', h2']; simp)
      clear f0 f1 f2 f4
      go_enter Tryz.func108, Tryz.ntmps108
      go_wp2_with fail
      refine (has_any i j w H.out).mono ?_
      rintro e w' ⟨rfl, rfl⟩
      rw [h2']
      go_wp2_with fail
      go_ret
      exact ⟨ret_int' (by rw [HW.out]), by rw [HW.out]; exact H.out, Fr.refl _ _ _⟩
end Go.Proofs.YtkdjibejnncmfaaGreatDoor.Co
