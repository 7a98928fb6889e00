/- The walk of CodedAny. -/
import Derived.Test.YtkdjibejnncmfaaGreatDoorZK71
import Derived.Test.YtkdjibejnncmfaaGreatDoorZN6
import Derived.Test.YtkdjibejnncmfaaGreatDoorZN7
namespace Go.Proofs.YtkdjibejnncmfaaGreatDoor.Co
open Go.RowKit Go.Proofs.YtkdjibejnncmfaaGreatDoorW.PrintWords Go.Proofs.YtkdjibejnncmfaaGreatDoorW.PrintLast Go.Proofs.YtkdjibejnncmfaaGreatDoorW.PrintMore
set_option linter.unusedVariables false
set_option linter.unusedSimpArgs false
set_option maxRecDepth 100000
/-- Whole numbers that lie in memory. -/
structure IL (w : World) (A : Option Addr) (c : Nat) (l : List Int) : Prop where
  C : Kd.C (Kd.int .i64) w A l.length l
  cap : l.length ≤ c
  capm : c ≤ 9223372036854775807
theorem IL.below {w w' : World} {A : Option Addr} {c : Nat} {l : List Int} (h : IL w A c l) (hb : Below w.heap.size w w') : IL w' A c l := ⟨Kd.C_below h.C hb, h.cap, h.capm⟩
theorem CI_at {w : World} {A : Option Addr} {l : List Int} (h : Kd.C (Kd.int .i64) w A l.length l) (i : Nat) (hi : i < l.length) : ∃ g o, A = some ⟨g, o, none⟩ ∧ w.cell? ⟨g, o + i, none⟩ = some (.int .i64 (rd l i)) := by
  obtain ⟨ad, e, hx⟩ := Kd.at_int h (i : Int) (by omega) (by omega)
  obtain ⟨ad0, e0, hx0⟩ := Kd.at_int h (0 : Int) (by omega) (by omega)
  rw [e] at e0
  injection e0 with e0
  subst e0
  obtain ⟨g, o, sp⟩ := ad
  have hx1 : w.cell? ⟨g, o, sp⟩ = some (.int .i64 (rd l 0)) := hx0
  have e1 : sp = none := World.cell?_spot hx1
  subst e1
  rw [Int.toNat_natCast] at hx
  have hx2 : w.cell? ((⟨g, o, none⟩ : Addr).add i) = some (.int .i64 (rd l i)) := hx
  have ea : (⟨g, o, none⟩ : Addr).add i = ⟨g, o + i, none⟩ := by
    unfold Addr.add
    by_cases h0 : i = 0 <;> simp [h0]
  rw [ea] at hx2
  exact ⟨g, o, e, hx2⟩
theorem IL.cell {w : World} {g o c : Nat} {l : List Int} (h : IL w (some ⟨g, o, none⟩) c l) (i : Nat) (hi : i < l.length) : w.cell? ⟨g, o + i, none⟩ = some (.int .i64 (rd l i)) := by
  obtain ⟨g', o', e, hx⟩ := CI_at h.C i hi
  cases e
  exact hx
/-- Whole numbers that the call owns. -/
abbrev OI (w : World) (base : Nat) (v : Value) (l : List Int) : Prop := w.ownsRow base 3 1 v l.length (nums .i64 l)
theorem own_slice {w : World} {base : Nat} {e : TypeId} {v : Value} {n : Nat} {xs : List Value} (h : w.ownsRow base e 1 v n xs) : ∃ A c, v = .slice A n c ∧ n ≤ c ∧ c ≤ 9223372036854775807 := by
  rcases h.2 with ⟨rfl, h0⟩ | ⟨g, cap, cur, rfl, _, _, k1, k2, _⟩
  · have : n = 0 := by have := h.1; rw [h0] at this; simp at this; omega
    subst this
    exact ⟨none, 0, rfl, Nat.le_refl _, by omega⟩
  · unfold maxLen at k2
    exact ⟨_, cap, rfl, k1, k2⟩
theorem OI.il {w : World} {base : Nat} {v : Value} {l : List Int} (h : OI w base v l) : ∃ A c, v = .slice A l.length c ∧ IL w A c l := by
  obtain ⟨A, c, rfl, h1, h2⟩ := own_slice h
  exact ⟨A, c, rfl, C_of_ownI h, h1, h2⟩
theorem OT.tl {w : World} {base : Nat} {v : Value} {l : List ByteArray} (h : OT w base v l) (hsz : ∀ s ∈ l, s.size ≤ 9223372036854775807) : ∃ A c, v = .slice A l.length c ∧ TL w A c l := by
  obtain ⟨A, c, rfl, h1, h2⟩ := own_slice h
  exact ⟨A, c, rfl, C_of_own h, h1, h2, hsz⟩
/-- A list of texts is returned, and OK. -/
def TxT (L : List ByteArray) (N : Nat) (W : World) (e : Ending) (w' : World) : Prop := ∃ g o cc, e = .returned (.tuple #[.slice (some ⟨g, o, none⟩) N cc, .int .i64 0]) ∧ (N : Int) ≤ cc ∧ TL w' (some ⟨g, o, none⟩) cc L ∧ Below W.heap.size W w'
theorem txt_of {L : List ByteArray} {N : Nat} {W w' : World} {v : Value} (hR : Kd.R Kd.string 9 w' W.heap.size (fun _ => True) v L) (hL : L.length = N) (hN : 1 ≤ N) (hsz : ∀ s ∈ L, s.size ≤ 9223372036854775807) (hb : Below W.heap.size W w') : TxT L N W (.returned (.tuple #[v, .int .i64 0])) w' := by
  obtain ⟨A2, c2, rfl, hcc, hC⟩ := Kd.R_reads hR
  obtain ⟨_, inner, hown, _⟩ := hR
  have hcm := own_cap hown
  obtain ⟨g, o, e, hx⟩ := C_at hC 0 (by omega)
  subst e
  exact ⟨g, o, c2, by rw [hL], by omega, ⟨hC, hcc, hcm, hsz⟩, hb⟩
theorem enc_t {A : Option Addr} {c K N : Nat} {l : List ByteArray} {w : World} (h : TL w A c l) (hK : l.length = K) (hN : 1 ≤ N) (hok : encOk l N = true) (hsz : ∀ s ∈ someTo (firstL K) l N, s.size ≤ 9223372036854775807) :
    Calls Tryz.prog 26 #[.slice A K c, .int .i64 (N : Int)] w (TxT (someTo (firstL K) l N) N w) := by
  subst hK
  refine (Encode_any A c l N w h.C h.cap h.sz h.capm).mono ?_
  rintro e w' ⟨v, rfl, hR, hb⟩
  rw [enc_eq hok] at hR ⊢
  simp only [Int.toNat_natCast] at hR
  exact txt_of hR (someTo_length _ _ _) hN hsz hb
theorem dec_t {A Aa : Option Addr} {c ca K : Nat} {l L : List ByteArray} {at_ : List Int} {w : World} (h : TL w A c l) (ha : IL w Aa ca at_) (hK : l.length = K) (hK2 : at_.length = K) (hK0 : 1 ≤ K) (hd : decF at_ l = (L, 0)) (hL : L.length = K) (hsz : ∀ s ∈ L, s.size ≤ 9223372036854775807) :
    Calls Tryz.prog 28 #[.slice Aa K ca, .slice A K c] w (TxT L K w) := by
  have hh := Decode_any A c l Aa ca at_ w h.C h.cap h.sz ha.C ha.cap ha.capm
  rw [hK, hK2, hd] at hh
  refine hh.mono ?_
  rintro e w' ⟨v, rfl, hR, hb⟩
  exact txt_of hR hL hK0 hsz hb
theorem fits_t {A Aa : Option Addr} {c ca K : Nat} {l : List ByteArray} {at_ : List Int} {w : World} (h : TL w A c l) (ha : IL w Aa ca at_) (hK : l.length = K) (hK2 : at_.length = K) (k : Int) (hd : FitsF k at_ l = (true, 0)) :
    Calls Tryz.prog 30 #[.int .i64 k, .slice Aa K ca, .slice A K c] w fun e w' => e = .returned (.tuple #[.bool true, .int .i64 0]) ∧ Below w.heap.size w w' := by
  have hh := Fits_any k A c l Aa ca at_ w h.C h.cap h.sz ha.C ha.cap ha.capm h.capm
  rw [hK, hK2, hd] at hh
  exact hh
theorem TL.tx {w : World} {A : Option Addr} {c : Nat} {l : List ByteArray} (h : TL w A c l) : TxA w A l := fun i hi => h.at i hi
/-- slices.Equal of two lists that are equal on the first K. -/
theorem eq_t {A1 A2 : Option Addr} {c1 c2 K : Nat} {l1 l2 : List ByteArray} {w : World} (h1 : TL w A1 c1 l1) (h2 : TL w A2 c2 l2) (hK1 : K ≤ l1.length) (hK2 : l2.length = K) (hK : K ≤ 1000) (he : ∀ i : Nat, i < K → vs l1 i = vs l2 i) :
    Calls Tryz.prog 54 #[.slice A1 K c1, .slice A2 K c2] w fun e w' => e = .returned (.bool true) ∧ Below w.heap.size w w' := by
  have hl : (l1.take K).length = K := by rw [List.length_take]; omega
  have hh := eqs_any A1 A2 c1 c2 (l1.take K) l2 w (h1.tx.take K hK1) h2.tx (by omega) (by omega) (by have := h1.cap; omega) (by have := h2.cap; omega) true ⟨fun _ => ⟨by omega, fun i hi => ?_⟩, fun _ => rfl⟩
  · rw [hl, hK2] at hh
    exact hh
  · rw [hl] at hi
    rw [vs_take _ _ _ (by simpa using hi), he i hi]
theorem any_no {A Ao : Option Addr} {c co : Nat} {l : List ByteArray} {order : List Int} {n : Int} {w : World} (hl : TL w A c l) (ho : IL w Ao co order) (hno : (dataB l n 100 && decide (order.length ≤ 100)) = false) :
    Calls Tryz.prog 13 #[.slice A l.length c, .int .i64 n, .slice Ao order.length co] w fun e w' => e = .returned (.bool true) ∧ Below w.heap.size w w' := by
  have HS : Hid (∀ W, Calls Tryz.prog 14 #[] W fun e w' => e = .returned (.bool true) ∧ Below W.heap.size W w') := Lib.hid sane_any
  have HL := Lib.hid hl
  cases hd : dataB l n 100 with
  | false =>
    have HD : Hid (∀ W, Below w.heap.size w W → Calls Tryz.prog 35 #[.slice A l.length c, .int .i64 n, .int .i64 100] W fun e w' => e = .returned (.bool false) ∧ Below W.heap.size W w') := Lib.hid (fun W hW => by
      have h2 := HL.out.below hW
      rw [← hd]
      exact data_any A c l n 100 W h2.C h2.cap h2.sz)
    clear hl ho hno hd
    go_enter Tryz.func13, Tryz.ntmps13
    go_wp2_with (first
      | (go_at_call 14; (with_reducible refine Calls.mono (HS.out _) ?_); rintro e w1 ⟨rfl, hb⟩; have HB1 := Lib.hid hb; clear hb)
      | (go_at_call 35; (with_reducible refine Calls.mono (HD.out _ HB1.out) ?_); rintro e w2 ⟨rfl, hb⟩; have HB2 := Lib.hid (belt HB1.out hb); clear hb))
    go_ret
    exact ⟨rfl, HB2.out⟩
  | true =>
    have HD : Hid (∀ W, Below w.heap.size w W → Calls Tryz.prog 35 #[.slice A l.length c, .int .i64 n, .int .i64 100] W fun e w' => e = .returned (.bool true) ∧ Below W.heap.size W w') := Lib.hid (fun W hW => by
      have h2 := HL.out.below hW
      rw [← hd]
      exact data_any A c l n 100 W h2.C h2.cap h2.sz)
    have hlen : (100 : Int) < (order.length : Int) := by
      rw [hd] at hno
      simp at hno
      omega
    clear hl ho hno hd
    go_enter Tryz.func13, Tryz.ntmps13
    go_wp2_with (first
      | (go_at_call 14; (with_reducible refine Calls.mono (HS.out _) ?_); rintro e w1 ⟨rfl, hb⟩; have HB1 := Lib.hid hb; clear hb)
      | (go_at_call 35; (with_reducible refine Calls.mono (HD.out _ HB1.out) ?_); rintro e w2 ⟨rfl, hb⟩; have HB2 := Lib.hid (belt HB1.out hb); clear hb))
    go_ret
    exact ⟨rfl, HB2.out⟩
theorem twelve_lit (w : World) : IL (w.alloc (.cells #[Value.int .i64 0, .int .i64 1, .int .i64 2, .int .i64 3, .int .i64 4, .int .i64 5, .int .i64 6, .int .i64 7, .int .i64 8, .int .i64 9, .int .i64 10, .int .i64 11] 3)) (some ⟨w.heap.size, 0, none⟩) 12 twelve :=
  ⟨C_of_ownI (lit_ownI w twelve (by decide)), by decide, by omega⟩
theorem OT.raw {w : World} {base : Nat} {v : Value} {l : List ByteArray} (h : OT w base v l) : w.ownsRow base 9 1 v (encs Value.string l).length (encs Value.string l) := by
  have e : (encs Value.string l).length = l.length := by simp [encs]
  rw [e]; exact h
theorem OT.raw_snoc {w : World} {base : Nat} {v : Value} {l : List ByteArray} {s : ByteArray} (h : w.ownsRow base 9 1 v (encs Value.string l ++ [Value.string s]).length (encs Value.string l ++ [Value.string s])) : OT w base v (l ++ [s]) := by
  rw [← encs_snoc] at h
  have e : (encs Value.string (l ++ [s])).length = (l ++ [s]).length := by simp [encs]
  rw [e] at h
  exact h
theorem some_sz (pts : List Int) (vals : List ByteArray) (n : Nat) : ∀ s ∈ someTo pts vals n, s.size = (vs vals 0).size := fun s hs => by
  unfold someTo at hs
  obtain ⟨i, hi, rfl⟩ := List.mem_map.1 hs
  exact piece_size _ _ _
set_option maxHeartbeats 4000000 in
theorem any_yes {A Ao : Option Addr} {c co N K M : Nat} {l : List ByteArray} {order : List Int} {w : World} (hl : TL w A c l) (ho : IL w Ao co order) (hd : dataB l N 100 = true) (hK : l.length = K) (hM : order.length = M) (hM2 : M ≤ 100) :
    Calls Tryz.prog 13 #[.slice A K c, .int .i64 (N : Int), .slice Ao M co] w fun e w' => e = .returned (.bool true) ∧ Below w.heap.size w w' := by
  have HS : Hid (∀ W, Calls Tryz.prog 14 #[] W fun e w' => e = .returned (.bool true) ∧ Below W.heap.size W w') := Lib.hid sane_any
  obtain ⟨p1, p2, p3, p4, p5⟩ := dataB_iff hd
  obtain ⟨g1, o1, eA, _⟩ := hl.at 0 (by omega)
  subst eA
  have HL := Lib.hid hl
  have HO := Lib.hid ho
  have hK1 : 1 ≤ K := by omega
  have hKN : K ≤ N := by omega
  have hN12 : N ≤ 12 := by omega
  have hlc : (K : Int) ≤ c := by have := hl.cap; omega
  have HD : Hid (∀ W, Below w.heap.size w W → Calls Tryz.prog 35 #[.slice (some ⟨g1, o1, none⟩) K c, .int .i64 (N : Int), .int .i64 100] W fun e w' => e = .returned (.bool true) ∧ Below W.heap.size W w') := Lib.hid (fun W hW => by
    have h2 := HL.out.below hW
    rw [← hd, ← hK]
    exact data_any (some ⟨g1, o1, none⟩) c l N 100 W h2.C h2.cap h2.sz)
  obtain ⟨cat, hcat⟩ : ∃ cat, cat = order ++ twelve := ⟨_, rfl⟩
  have hcl : cat.length = M + 12 := by rw [hcat, List.length_append, hM]; rfl
  obtain ⟨AT, hAT⟩ : ∃ AT, AT = pickTo N K cat (M + 12) := ⟨_, rfl⟩
  have hAT2 : AT = (order ++ twelve).foldl (pickS N K) [] := by rw [hAT, ← hcl]; unfold pickTo; rw [List.take_length, hcat]
  have hATP : Picked N K AT := by rw [hAT2]; exact pick_fold _ _ ⟨by simp, by simp, fun x hx => by cases hx⟩
  have hATL : AT.length = K := by rw [hAT2]; exact pick_len order hN12 hKN
  have hok := any_ok hd (by rw [hK]; exact hATP) (by rw [hK]; exact hATL)
  have HOK := Lib.hid hok
  have hall : (someTo (firstL K) l N).length = N := someTo_length _ _ _
  have hp4 : Len l (vs l 0).size := p4
  have hs100 : (vs l 0).size ≤ 100 := by have := p5 0 (by omega); exact_mod_cast this
  have HP := Lib.hid (And.intro hK (And.intro hM (And.intro hcl (And.intro hcat (And.intro hAT (And.intro hATP (And.intro hATL (And.intro hp4 hs100))))))))
  have hE : Hid (∀ W, Below w.heap.size w W → Calls Tryz.prog 26 #[.slice (some ⟨g1, o1, none⟩) K c, .int .i64 (N : Int)] W (TxT (someTo (firstL K) l N) N W)) := Lib.hid (fun W hW => enc_t (HL.out.below hW) hK (by omega) hok.enc (fun s hs => by
    obtain ⟨i, hi, rfl⟩ := List.getElem_of_mem hs
    have hi2 : i < N := by rw [hall] at hi; exact hi
    have e := vs_some (firstL K) l N i hi2
    have e2 : vs (someTo (firstL K) l N) i = (someTo (firstL K) l N)[i] := by unfold vs rdOf; simp [hi]
    rw [← e2, e, piece_size]; omega))
  have hM3 : ¬ (100 : Int) < (M : Int) := by omega
  clear hl ho hd hK hM p1 p2 p3 p4 p5 hcat hcl hAT hAT2 hATP hATL hok hall hp4 hs100
  go_enter Tryz.func13, Tryz.ntmps13
  go_upto_region 7 with (first
    | (go_at_call 14; (with_reducible refine Calls.mono (HS.out _) ?_); rintro e w1 ⟨rfl, hb⟩; have HB1 := Lib.hid hb; clear hb)
    | (go_at_call 35; (with_reducible refine Calls.mono (HD.out _ HB1.out) ?_); rintro e w2 ⟨rfl, hb⟩; have HB2 := Lib.hid (belt HB1.out hb); clear hb)
    | (go_at_call 26; (with_reducible refine Calls.mono (hE.out _ HB2.out) ?_); rintro e w3 ⟨ga, oa, ca, rfl, hca, hta, hb⟩; have HTA := Lib.hid hta; have HB3 := Lib.hid (belt HB2.out hb); clear hb hta))
  obtain ⟨hK, hM, hcl, hcat, hAT, hATP, hATL, hp4, hs100⟩ := HP.out
  have HEQ : Hid (∀ W, Below w3.heap.size w3 W → Calls Tryz.prog 54 #[.slice (some ⟨ga, oa, none⟩) K ca, .slice (some ⟨g1, o1, none⟩) K c] W fun e w' => e = .returned (.bool true) ∧ Below W.heap.size W w') := Lib.hid (fun W hW => by
    refine eq_t (HTA.out.below hW) (HL.out.below (belt HB3.out hW)) (by rw [someTo_length]; omega) hK (by omega) (fun i hi => ?_)
    have := HOK.out.front i (by omega)
    rw [hK] at this
    exact this)
  have hKca : (K : Int) ≤ (ca : Int) := by omega
  have hk0 : (0 : Int) ≤ (K : Int) := by omega
  clear hK hM hcl hcat hAT hATP hATL hp4 hs100
  go_upto_region 10 with (go_at_call 54; (with_reducible refine Calls.mono (HEQ.out _ (Below.refl _ _)) ?_); rintro e w4 ⟨rfl, hb⟩; have HB4 := Lib.hid (belt HB3.out hb); have HTA4 := Lib.hid (HTA.out.below hb); clear hb)
  have HCC : Hid (Calls Tryz.prog 70 #[.slice (some ⟨w4.heap.size + 1, 0, none⟩) 2 2] ((w4.alloc (.cells #[Value.int .i64 0, .int .i64 1, .int .i64 2, .int .i64 3, .int .i64 4, .int .i64 5, .int .i64 6, .int .i64 7, .int .i64 8, .int .i64 9, .int .i64 10, .int .i64 11] 3)).alloc (.cells #[.slice Ao M co, .slice (some ⟨w4.heap.size, 0, none⟩) 12 12] 34)) fun e w' => ∃ g o cc, e = .returned (.slice (some ⟨g, o, none⟩) (M + 12) cc) ∧ IL w' (some ⟨g, o, none⟩) cc cat ∧ Below w4.heap.size w4 w') := Lib.hid (by
    obtain ⟨hK, hM, hcl, hcat, hAT, hATP, hATL, hp4, hs100⟩ := HP.out
    have hil := (HO.out.below HB4.out)
    have ht := twelve_lit w4
    obtain ⟨W5, hW5⟩ : ∃ W5, W5 = w4.alloc (.cells #[Value.int .i64 0, .int .i64 1, .int .i64 2, .int .i64 3, .int .i64 4, .int .i64 5, .int .i64 6, .int .i64 7, .int .i64 8, .int .i64 9, .int .i64 10, .int .i64 11] 3) := ⟨_, rfl⟩
    rw [← hW5] at ht ⊢
    have hb5 : Below w4.heap.size w4 W5 := by rw [hW5]; exact below_al (Below.refl _ _) _
    have hz5 : W5.heap.size = w4.heap.size + 1 := by rw [hW5]; simp
    have hb6 := below_al (Below.refl W5.heap.size W5) (.cells #[.slice Ao M co, .slice (some ⟨w4.heap.size, 0, none⟩) 12 12] 34)
    have c0 := cell_new W5 #[.slice Ao M co, .slice (some ⟨w4.heap.size, 0, none⟩) 12 12] 34 0
    have c1 := cell_new W5 #[.slice Ao M co, .slice (some ⟨w4.heap.size, 0, none⟩) 12 12] 34 1
    rw [hz5] at c0 c1
    have hh := concat_any (w4.heap.size + 1) Ao (some ⟨w4.heap.size, 0, none⟩) co 12 order twelve _ (by rw [hM]; exact c0) c1 ((hil.below hb5).below hb6).C (ht.below hb6).C (by omega) (by decide) (by have : twelve.length = 12 := rfl; omega)
    refine hh.mono ?_
    rintro e w' ⟨v, rfl, hown, hb⟩
    rw [← hcat] at hown
    obtain ⟨A3, c3, rfl, hil3⟩ := OI.il hown
    rw [hcl]
    obtain ⟨g, o, e, _⟩ := CI_at hil3.C 0 (by omega)
    subst e
    exact ⟨g, o, c3, rfl, hil3, belt (belt hb5 hb6) hb⟩)
  clear HEQ HTA HD hE HB1 HB2 HB3 HS
  go_wp2_with (go_at_call 70; (with_reducible refine Calls.mono HCC.out ?_); rintro e w5 ⟨gk, ok, ck, rfl, hil, hb⟩; have HIL := Lib.hid hil; have HB5 := Lib.hid hb; clear hil hb)
  go_loopw [10, 63] (fun v i wr => ∃ j : Nat, j ≤ M + 12 ∧ i = .int .i64 j ∧ OI wr w5.heap.size v (pickTo N K cat j) ∧ Below w5.heap.size w5 wr) (fun _ i _ => M + 12 - (intOf i).toNat)
  case atStart => exact ⟨0, by omega, rfl, ⟨rfl, Or.inl ⟨rfl, rfl⟩⟩, Below.refl _ _⟩
  case round =>
    obtain ⟨j, hj, rfl, hown, hb⟩ := hrel
    have HOW := Lib.hid hown
    have HBr := Lib.hid hb
    by_cases hlt : j < M + 12
    · have hcell : wr.cell? ⟨gk, ok + j, none⟩ = some (.int .i64 (rd cat j)) := cell_below hb (HIL.out.cell j (by have := HP.out.2.2.1; omega))
      obtain ⟨x, hx⟩ : ∃ x, x = rd cat j := ⟨_, rfl⟩
      have hsucc := pickTo_succ N K cat j (by have := HP.out.2.2.1; omega)
      obtain ⟨p, hp⟩ : ∃ p, p = pickTo N K cat j := ⟨_, rfl⟩
      have hpk : p.length ≤ K := by rw [hp]; exact (pick_fold (cat.take j) [] ⟨by simp, by simp, fun x hx => by cases hx⟩).len
      rw [← hx] at hcell hsucc
      rw [← hp] at hsucc hown
      have HX := Lib.hid (And.intro hx hp)
      have HSU := Lib.hid hsucc
      have HOW2 := Lib.hid hown
      obtain ⟨A1, c1, e1, hc1, hc2⟩ := own_slice hown
      subst e1
      have HCT : Hid (Calls Tryz.prog 48 #[.slice A1 p.length c1, .int .i64 x] wr fun e w' => e = .returned (.bool (p.contains x)) ∧ wr = w') := Lib.hid (containsI_any A1 c1 p x wr (C_of_ownI hown) hc1)
      have hj0 : (0 : Int) ≤ (j : Int) := by omega
      have hj1 : (j : Int) < ((M + 12 : Nat) : Int) := by omega
      have hj2 : (j : Int) < (M : Int) + 12 := by omega
      clear hx hp hsucc hown hb
      by_cases h0 : 0 ≤ x
      · by_cases h1 : x < (N : Int)
        · cases h2 : p.contains x with
          | true =>
            have HCT2 : Hid (Calls Tryz.prog 48 #[.slice A1 p.length c1, .int .i64 x] wr fun e w' => e = .returned (.bool true) ∧ wr = w') := Lib.hid (by rw [← h2]; exact HCT.out)
            have HN : Hid (pickTo N K cat (j + 1) = p) := Lib.hid (by rw [HSU.out]; unfold pickS; rw [if_pos h0, if_pos h1, if_pos h2])
            clear h2
            go_wp2_with (go_at_call 48; (with_reducible refine Calls.mono HCT2.out ?_); rintro e w6 ⟨rfl, rfl⟩)
            go_roundw
            case rel => exact ⟨j + 1, by omega, by go_num, by rw [HN.out]; exact HOW2.out, HBr.out⟩
            case measure => simp [intOf]; omega
          | false =>
            have HCT2 : Hid (Calls Tryz.prog 48 #[.slice A1 p.length c1, .int .i64 x] wr fun e w' => e = .returned (.bool false) ∧ wr = w') := Lib.hid (by rw [← h2]; exact HCT.out)
            by_cases h3 : p.length < K
            · have HN : Hid (pickTo N K cat (j + 1) = p ++ [x]) := Lib.hid (by rw [HSU.out]; unfold pickS; rw [if_pos h0, if_pos h1, if_neg (by rw [h2]; simp), if_pos h3])
              have h3' : (p.length : Int) < (K : Int) := by omega
              clear h2
              go_wp2_with (first
                | (go_at_call 48; (with_reducible refine Calls.mono HCT2.out ?_); rintro e w6 ⟨rfl, rfl⟩)
                | ((with_reducible refine gate_builtin (b := .append) (xs := #[.tmp 86, .tmp 88]) rfl ?_); at_builtin; refine print_append_num (w0 := w5) w5.heap.size rfl (.tmp 86) (.tmp 88) 34 3 .i64 8 rfl Tryz.underlying34 info3 (by decide) _ p x rfl rfl HOW2.out HBr.out HBr.out.size (by omega) ?_; intro v1 w6 ho hb2 hg hat; have HO6 := Lib.hid ho; have HB6 := Lib.hid hb2; clear ho hb2 hg hat))
              go_roundw
              case rel => exact ⟨j + 1, by omega, by go_num, by rw [HN.out]; exact HO6.out, HB6.out⟩
              case measure => simp [intOf]; omega
            · have HN : Hid (pickTo N K cat (j + 1) = p) := Lib.hid (by rw [HSU.out]; unfold pickS; rw [if_pos h0, if_pos h1, if_neg (by rw [h2]; simp), if_neg h3])
              have h3' : ¬ (p.length : Int) < (K : Int) := by omega
              clear h2
              go_wp2_with (go_at_call 48; (with_reducible refine Calls.mono HCT2.out ?_); rintro e w6 ⟨rfl, rfl⟩)
              go_roundw
              case rel => exact ⟨j + 1, by omega, by go_num, by rw [HN.out]; exact HOW2.out, HBr.out⟩
              case measure => simp [intOf]; omega
        · have HN : Hid (pickTo N K cat (j + 1) = p) := Lib.hid (by rw [HSU.out]; unfold pickS; rw [if_pos h0, if_neg h1])
          go_wp2_with fail
          go_roundw
          case rel => exact ⟨j + 1, by omega, by go_num, by rw [HN.out]; exact HOW2.out, HBr.out⟩
          case measure => simp [intOf]; omega
      · have HN : Hid (pickTo N K cat (j + 1) = p) := Lib.hid (by rw [HSU.out]; unfold pickS; rw [if_neg h0])
        go_wp2_with fail
        go_roundw
        case rel => exact ⟨j + 1, by omega, by go_num, by rw [HN.out]; exact HOW2.out, HBr.out⟩
        case measure => simp [intOf]; omega
    · have hjM : j = M + 12 := by omega
      subst hjM
      rw [← HP.out.2.2.2.2.1] at hown
      obtain ⟨Aat, cat2, e1, hil⟩ := OI.il hown
      rw [HP.out.2.2.2.2.2.2.1] at e1
      subst e1
      obtain ⟨g2, o2, e2, _⟩ := CI_at hil.C 0 (by have := HP.out.2.2.2.2.2.2.1; omega)
      subst e2
      have HAI := Lib.hid hil
      have HTA5 := Lib.hid ((HTA4.out.below HB5.out).below hb)
      have hq : ∀ j : Nat, j < K → ∃ q : Nat, q < N ∧ rd AT j = (q : Int) := fun j hj => by
        obtain ⟨hK, hM, hcl, hcat, hAT, hATP, hATL, hp4, hs100⟩ := HP.out
        have := (picked_pts hATP hN12).2 j (by omega)
        exact ⟨(rd AT j).toNat, by omega, by omega⟩
      have HQ := Lib.hid hq
      have hoL : (AT.length = K) := HP.out.2.2.2.2.2.2.1
      have HAL := Lib.hid hoL
      clear hown hb hil hq hoL
      go_wp2_with fail
      obtain ⟨wA, hwA⟩ : ∃ wA : World, wA = wr := ⟨_, rfl⟩
      rw [← hwA] at HAI HTA5 HBr ⊢
      clear hwA
      go_loopw [13, 93] (fun v i wr => ∃ j : Nat, j ≤ K ∧ i = .int .i64 j ∧ OT wr wA.heap.size v (ownF (someTo (firstL K) l N) (AT.take j)) ∧ Below wA.heap.size wA wr) (fun _ i _ => K - (intOf i).toNat)
      case atStart => exact ⟨0, by omega, rfl, ⟨rfl, Or.inl ⟨rfl, rfl⟩⟩, Below.refl _ _⟩
      case round =>
        obtain ⟨j, hj, rfl, hown, hb⟩ := hrel
        have HOWB := Lib.hid hown
        have HBr2 := Lib.hid hb
        by_cases hlt : j < K
        · obtain ⟨q, hqN, hqe⟩ := HQ.out j hlt
          have hc2 := (HAI.out.below hb).cell j (by rw [HAL.out]; exact hlt)
          rw [hqe] at hc2
          have hc3 := (HTA5.out.below hb).cell q (by rw [someTo_length]; exact hqN)
          have HT := Lib.hid (ownF_take (someTo (firstL K) l N) AT j (by rw [HAL.out]; exact hlt))
          have HQE := Lib.hid hqe
          obtain ⟨sl, hsl⟩ : ∃ sl, sl = ownF (someTo (firstL K) l N) (AT.take j) := ⟨_, rfl⟩
          obtain ⟨sx, hsx⟩ : ∃ sx, sx = vs (someTo (firstL K) l N) q := ⟨_, rfl⟩
          have hsl3 : sl.length ≤ 12 := by rw [hsl]; unfold ownF; rw [List.length_map, List.length_take]; omega
          have HE3 : (encs Value.string sl).length ≤ 12 := by unfold encs; rw [List.length_map]; exact hsl3
          rw [← hsx] at hc3
          have HOW3 : Hid (OT wr wA.heap.size u13 sl) := Lib.hid (by rw [hsl]; exact HOWB.out)
          have HSS := Lib.hid (And.intro hsl hsx)
          have hj0 : (0 : Int) ≤ (j : Int) := by omega
          have hj1 : (j : Int) < (K : Int) := by omega
          have hq0 : (0 : Int) ≤ (q : Int) := by omega
          have hq1 : (q : Int) < (N : Int) := by omega
          clear hown hb hqe hsl hsx hsl3
          go_wp2_with ((with_reducible refine gate_builtin (b := .append) (xs := #[.tmp 97, .tmp 102]) rfl ?_); at_builtin; refine print_append (w0 := wA) wA.heap.size rfl (.tmp 97) (.tmp 102) 33 9 (.string ⟨#[]⟩) 16 rfl Tryz.underlying33 info9 rfl (by decide) _ (encs Value.string sl) (.string sx) rfl rfl rfl (OT.raw HOW3.out) HBr2.out HBr2.out.size (by omega) ?_; intro v1 w6 ho hb2 hg hat; have HO6 := Lib.hid (OT.raw_snoc ho); have HB6 := Lib.hid hb2; clear ho hb2 hg hat)
          go_roundw
          case rel => ((repeat apply Exists.intro); exact ⟨⟨j + 1, by omega, by go_num, by rw [HT.out, HQE.out, ← HSS.out.1, ← HSS.out.2]; exact HO6.out, HB6.out⟩, rfl⟩)
          case measure => simp [intOf]; omega
        · have hjK : j = K := by omega
          subst hjK
          obtain ⟨hK, hM, hcl, hcat, hAT, hATP, hATL, hp4, hs100⟩ := HP.out
          have htk : AT.take j = AT := List.take_of_length_le (by omega)
          rw [htk] at hown
          obtain ⟨sm, hsm⟩ : ∃ sm, sm = ownF (someTo (firstL j) l N) AT := ⟨_, rfl⟩
          have hsml : sm.length = j := by rw [hsm]; unfold ownF; rw [List.length_map, hATL]
          have hsmz : ∀ s ∈ sm, s.size = (vs l 0).size := fun s hs => by
            rw [hsm] at hs
            unfold ownF at hs
            obtain ⟨x, hx, rfl⟩ := List.mem_map.1 hs
            have hr := hATP.range x hx
            obtain ⟨q, rfl⟩ := Int.eq_ofNat_of_zero_le hr.1
            have e : vs (someTo (firstL j) l N) (q : Int) = _ := vs_some (firstL j) l N q (by omega)
            rw [e, piece_size]
          rw [← hsm] at hown
          obtain ⟨As, cs, e3, htl⟩ := OT.tl hown (fun s hs => by rw [hsmz s hs]; omega)
          rw [hsml] at e3
          subst e3
          have HT3 := Lib.hid htl
          have HOK2 := HOK.out
          have hdec : decF AT sm = (someTo AT sm j, 0) := by have := HOK2.dec; rw [hK, ← hsm] at this; exact this
          have hdec2 : decF AT l = (someTo AT l j, 0) := by have := HOK2.dec2; rw [hK] at this; exact this
          have hfit : FitsF (j : Int) AT sm = (true, 0) := by have := HOK2.fit; rw [hK, ← hsm] at this; exact this
          have hback : ∀ i : Nat, i < j → vs (someTo AT sm j) i = vs l i := by have := HOK2.back; rw [hK, ← hsm] at this; exact this
          have henc2 : encOk (someTo AT l j) N = true := by have := HOK2.enc2; rw [hK] at this; exact this
          have hagain : ∀ i : Nat, i < j → vs (someTo (firstL j) (someTo AT l j) N) (rd AT i) = vs l i := by have := HOK2.again; rw [hK] at this; exact this
          have hol : (someTo AT l j).length = j := someTo_length _ _ _
          have hoz : (vs (someTo AT l j) 0).size = (vs l 0).size := by
            have e : vs (someTo AT l j) ((0 : Nat) : Int) = _ := vs_some AT l j 0 (by omega)
            have e0 : vs (someTo AT l j) (0 : Int) = pieceF AT l (0 : Int) := e
            rw [e0, piece_size]
          have hwb : Below w.heap.size w wA := belt (belt HB4.out HB5.out) HBr.out
          have H1 : Hid (∀ W, Below wr.heap.size wr W → Calls Tryz.prog 28 #[.slice (some ⟨g2, o2, none⟩) j cat2, .slice As j cs] W (TxT (someTo AT sm j) j W)) := Lib.hid (fun W hW => dec_t (HT3.out.below hW) ((HAI.out.below HBr2.out).below hW) hsml hATL hK1 hdec (someTo_length _ _ _) (fun s hs => by
            rw [some_sz _ _ _ s hs]
            have := hsmz (vs sm 0) (vs_mem sm 0 (by omega))
            omega))
          have H2 : Hid (∀ W, Below wr.heap.size wr W → Calls Tryz.prog 30 #[.int .i64 (j : Int), .slice (some ⟨g2, o2, none⟩) j cat2, .slice As j cs] W fun e w' => e = .returned (.tuple #[.bool true, .int .i64 0]) ∧ Below W.heap.size W w') := Lib.hid (fun W hW => fits_t (HT3.out.below hW) ((HAI.out.below HBr2.out).below hW) hsml hATL _ hfit)
          have HLr := Lib.hid (HL.out.below (belt hwb HBr2.out))
          have H3 : Hid (∀ g o cc W, TL W (some ⟨g, o, none⟩) cc (someTo AT sm j) → Below wr.heap.size wr W → Calls Tryz.prog 54 #[.slice (some ⟨g, o, none⟩) j cc, .slice (some ⟨g1, o1, none⟩) j c] W fun e w' => e = .returned (.bool true) ∧ Below W.heap.size W w') := Lib.hid (fun g o cc W hT hW => eq_t hT (HLr.out.below hW) (by rw [someTo_length]; exact Nat.le_refl _) hK (by omega) hback)
          have H4 : Hid (∀ W, Below wr.heap.size wr W → Calls Tryz.prog 28 #[.slice (some ⟨g2, o2, none⟩) j cat2, .slice (some ⟨g1, o1, none⟩) j c] W (TxT (someTo AT l j) j W)) := Lib.hid (fun W hW => dec_t (HLr.out.below hW) ((HAI.out.below HBr2.out).below hW) hK hATL hK1 hdec2 (someTo_length _ _ _) (fun s hs => by rw [some_sz _ _ _ s hs]; omega))
          have H5 : Hid (∀ g o cc W, TL W (some ⟨g, o, none⟩) cc (someTo AT l j) → Calls Tryz.prog 26 #[.slice (some ⟨g, o, none⟩) j cc, .int .i64 (N : Int)] W (TxT (someTo (firstL j) (someTo AT l j) N) N W)) := Lib.hid (fun g o cc W hT => enc_t hT hol (by omega) henc2 (fun s hs => by rw [some_sz _ _ _ s hs]; omega))
          have HAG := Lib.hid hagain
          have HWB := Lib.hid (belt hwb HBr2.out)
          clear hown hb htk hsm hsml hsmz htl HOK2 hdec hdec2 hfit hback henc2 hagain hol hoz hwb hK hM hcl hcat hAT hATP hATL hp4 hs100
          go_upto_region 33 with (first
            | (go_at_call 28; (with_reducible refine Calls.mono (H1.out _ (Below.refl _ _)) ?_); rintro e w6 ⟨gb, ob, cb, rfl, hcb, htb, hb⟩; have HTB := Lib.hid htb; have HB6 := Lib.hid hb; clear hb htb)
            | (go_at_call 30; (with_reducible refine Calls.mono (H2.out _ HB6.out) ?_); rintro e w7 ⟨rfl, hb⟩; have HB7 := Lib.hid (belt HB6.out hb); have HTB7 := Lib.hid (HTB.out.below hb); clear hb)
            | (go_at_call 54; (with_reducible refine Calls.mono (H3.out _ _ _ _ HTB7.out HB7.out) ?_); rintro e w8 ⟨rfl, hb⟩; have HB8 := Lib.hid (belt HB7.out hb); clear hb)
            | (go_at_call 28; (with_reducible refine Calls.mono (H4.out _ HB8.out) ?_); rintro e w9 ⟨gc, oc, cc, rfl, hcc, htc, hb⟩; have HTC := Lib.hid htc; have HB9 := Lib.hid (belt HB8.out hb); clear hb htc)
            | (go_at_call 26; (with_reducible refine Calls.mono (H5.out _ _ _ _ HTC.out) ?_); rintro e w10 ⟨gd, od, cd, rfl, hcd, htd, hb⟩; have HTD := Lib.hid htd; have HB10 := Lib.hid (belt HB9.out hb); clear hb htd))
          go_loopw [164] (fun i W => ∃ t : Nat, t ≤ j ∧ i = .int .i64 t ∧ Below w10.heap.size w10 W) (fun i _ => j - (intOf i).toNat)
          case atStart => exact ⟨0, by omega, rfl, Below.refl _ _⟩
          case round =>
            obtain ⟨W, rfl⟩ : ∃ W : World, W = wr := ⟨_, rfl⟩
            obtain ⟨t, ht, rfl, hbt⟩ := hrel
            have HBT := Lib.hid hbt
            by_cases htj : t < j
            · obtain ⟨q, hqN, hqe⟩ := HQ.out t htj
              have b10 := belt HB10.out hbt
              have c1 := ((HAI.out.below HBr2.out).below b10).cell t (by rw [HAL.out]; exact htj)
              rw [hqe] at c1
              have c2 := (HTD.out.below hbt).cell q (by rw [someTo_length]; exact hqN)
              have c3 := (HLr.out.below b10).cell t (by have := HP.out.1; omega)
              have hse : vs (someTo (firstL j) (someTo AT l j) N) q = vs l t := by have := HAG.out t htj; rw [hqe] at this; exact this
              rw [hse] at c2
              obtain ⟨sx, hsx⟩ : ∃ sx, sx = vs l t := ⟨_, rfl⟩
              rw [← hsx] at c2 c3
              have HSX := Lib.hid (And.intro hsx (And.intro hqe hse))
              have ht0 : (0 : Int) ≤ (t : Int) := by omega
              have ht1 : (t : Int) < (j : Int) := by omega
              have hq0 : (0 : Int) ≤ (q : Int) := by omega
              have hq1 : (q : Int) < (N : Int) := by omega
              clear hbt b10 hsx hqe hse
              go_upto_region 35 with fail
              go_quiet (fail)
              go_wp2_with fail
              go_roundw
              case rel => exact ⟨t + 1, by omega, by go_num, below_drN HBT.out _⟩
              case measure => simp [intOf]; omega
            · clear hbt
              go_wp2_with fail
              go_ret
              exact ⟨rfl, belt (belt HWB.out HB10.out) HBT.out⟩
end Go.Proofs.YtkdjibejnncmfaaGreatDoor.Co
