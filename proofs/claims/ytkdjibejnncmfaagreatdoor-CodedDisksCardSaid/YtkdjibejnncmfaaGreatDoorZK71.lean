/- The walk of CodedStraight. -/
import Derived.Test.YtkdjibejnncmfaaGreatDoorB9
import Derived.Test.YtkdjibejnncmfaaGreatDoorZN4
namespace Go.Proofs.YtkdjibejnncmfaaGreatDoor.Co
open Go.RowKit Go.Proofs.YtkdjibejnncmfaaGreatDoorW.PrintWords Go.Proofs.YtkdjibejnncmfaaGreatDoorW.PrintLast Go.Proofs.YtkdjibejnncmfaaGreatDoorW.PrintMore
set_option linter.unusedVariables false
set_option linter.unusedSimpArgs false
set_option maxRecDepth 100000
/-- Texts that lie in memory, as an argument. -/
structure TL (w : World) (A : Option Addr) (c : Nat) (l : List ByteArray) : Prop where
  C : Kd.C Kd.string w A l.length l
  cap : l.length ≤ c
  capm : c ≤ 9223372036854775807
  sz : ∀ s ∈ l, s.size ≤ 9223372036854775807
theorem TL.below {w w' : World} {A : Option Addr} {c : Nat} {l : List ByteArray} (h : TL w A c l) (hb : Below w.heap.size w w') : TL w' A c l := ⟨Kd.C_below h.C hb, h.cap, h.capm, h.sz⟩
theorem C_at {w : World} {A : Option Addr} {l : List ByteArray} (h : Kd.C Kd.string w A l.length l) (i : Nat) (hi : i < l.length) : ∃ g o, A = some ⟨g, o, none⟩ ∧ w.cell? ⟨g, o + i, none⟩ = some (.string (vs l i)) := by
  obtain ⟨ad, e, hx⟩ := Kd.at_string h (i : Int) (by omega) (by omega)
  obtain ⟨ad0, e0, hx0⟩ := Kd.at_string h (0 : Int) (by omega) (by omega)
  rw [e] at e0
  injection e0 with e0
  subst e0
  obtain ⟨g, o, sp⟩ := ad
  have hx1 : w.cell? ⟨g, o, sp⟩ = some (.string (vs l 0)) := hx0
  have e1 : sp = none := World.cell?_spot hx1
  subst e1
  rw [Int.toNat_natCast] at hx
  have hx2 : w.cell? ((⟨g, o, none⟩ : Addr).add i) = some (.string (vs l i)) := hx
  have ea : (⟨g, o, none⟩ : Addr).add i = ⟨g, o + i, none⟩ := by
    unfold Addr.add
    by_cases h0 : i = 0 <;> simp [h0]
  rw [ea] at hx2
  exact ⟨g, o, e, hx2⟩
theorem TL.at {w : World} {A : Option Addr} {c : Nat} {l : List ByteArray} (h : TL w A c l) (i : Nat) (hi : i < l.length) : ∃ g o, A = some ⟨g, o, none⟩ ∧ w.cell? ⟨g, o + i, none⟩ = some (.string (vs l i)) := C_at h.C i hi
theorem TL.cell {w : World} {g o c : Nat} {l : List ByteArray} (h : TL w (some ⟨g, o, none⟩) c l) (i : Nat) (hi : i < l.length) : w.cell? ⟨g, o + i, none⟩ = some (.string (vs l i)) := by
  obtain ⟨g', o', e, hx⟩ := h.at i hi
  cases e
  exact hx
theorem data_bw {A : Option Addr} {c : Nat} {l : List ByteArray} {w : World} (h : TL w A c l) (n long : Int) {b : Bool} (hb : dataB l n long = b) (W : BW w) :
    Calls Tryz.prog 35 #[.slice A l.length c, .int .i64 n, .int .i64 long] W.val fun e w'' => e = .returned (.bool b) ∧ ∃ W2 : BW w, w'' = W2.val := by
  have h2 := h.below W.property
  rw [← hb]
  exact BW.call (data_any A c l n long W.val h2.C h2.cap h2.sz)
set_option maxHeartbeats 1000000 in
theorem straight_no {A Am : Option Addr} {c cm : Nat} {l m : List ByteArray} {n y : Int} {w : World} (hl : TL w A c l) (hm : TL w Am cm m) (hno : (dataB l n 100 && dataB m n 100 && l.length == m.length && (vs l 0).size == (vs m 0).size) = false) :
    Calls Tryz.prog 6 #[.slice A l.length c, .slice Am m.length cm, .int .i64 n, .int .u8 y] w fun e w' => e = .returned (.bool true) ∧ Below w.heap.size w w' := by
  have HS : Hid (∀ W, Calls Tryz.prog 14 #[] W fun e w' => e = .returned (.bool true) ∧ Below W.heap.size W w') := Lib.hid sane_any
  have HL := Lib.hid hl
  have HM := Lib.hid hm
  have HNO := Lib.hid hno
  have hlm : (l.length : Int) ≤ c := by have := hl.cap; omega
  clear hl hm hno
  go_enter Tryz.func6, Tryz.ntmps6
  go_upto_region 3 with (first | (go_at_call 14; with_reducible refine Calls.mono (HS.out _) ?_; rintro e w1 ⟨rfl, hb⟩; have HB1 := Lib.hid (belt (below_al (Below.refl _ w) (.cells #[Value.int .u8 y] 5)) hb); clear hb) | fail)
  have hl1 := HL.out.below HB1.out
  have hm1 := HM.out.below HB1.out
  have HL1 := Lib.hid hl1
  have HM1 := Lib.hid hm1
  clear hl1 hm1
  cases hd1 : dataB l n 100 with
  | false =>
    have HD1 : Hid (∀ W : BW w1, Calls Tryz.prog 35 #[.slice A l.length c, .int .i64 n, .int .i64 100] W.val fun e w'' => e = .returned (.bool false) ∧ ∃ W2 : BW w1, w'' = W2.val) := Lib.hid (fun W => data_bw HL1.out n 100 hd1 W)
    clear hd1
    refine wp_region_bw (by kernel_rfl) (by kernel_rfl) ?_
    repeat (go_big_quiet_step ((with_reducible exact HD1.out _)))
    refine wpQuiet_nil ?_
    rintro _ ⟨⟨W, hBW⟩, rfl⟩
    have HBW := Lib.hid hBW
    clear hBW
    go_wp2_with fail
    go_ret
    exact ⟨rfl, belt HB1.out HBW.out⟩
  | true =>
    have HD1 : Hid (∀ W : BW w1, Calls Tryz.prog 35 #[.slice A l.length c, .int .i64 n, .int .i64 100] W.val fun e w'' => e = .returned (.bool true) ∧ ∃ W2 : BW w1, w'' = W2.val) := Lib.hid (fun W => data_bw HL1.out n 100 hd1 W)
    have hq1 := dataB_iff hd1
    cases hd2 : dataB m n 100 with
    | false =>
      have HD2 : Hid (∀ W : BW w1, Calls Tryz.prog 35 #[.slice Am m.length cm, .int .i64 n, .int .i64 100] W.val fun e w'' => e = .returned (.bool false) ∧ ∃ W2 : BW w1, w'' = W2.val) := Lib.hid (fun W => data_bw HM1.out n 100 hd2 W)
      clear hd1 hd2 hq1
      refine wp_region_bw (by kernel_rfl) (by kernel_rfl) ?_
      repeat (go_big_quiet_step ((first | with_reducible exact HD1.out _ | with_reducible exact HD2.out _)))
      refine wpQuiet_nil ?_
      rintro _ ⟨⟨W, hBW⟩, rfl⟩
      have HBW := Lib.hid hBW
      clear hBW
      go_wp2_with fail
      go_ret
      exact ⟨rfl, belt HB1.out HBW.out⟩
    | true =>
      have HD2 : Hid (∀ W : BW w1, Calls Tryz.prog 35 #[.slice Am m.length cm, .int .i64 n, .int .i64 100] W.val fun e w'' => e = .returned (.bool true) ∧ ∃ W2 : BW w1, w'' = W2.val) := Lib.hid (fun W => data_bw HM1.out n 100 hd2 W)
      have hq2 := dataB_iff hd2
      obtain ⟨p1, p2, p3, p4, p5⟩ := hq1
      obtain ⟨q1, q2, q3, q4, q5⟩ := hq2
      by_cases he : l.length = m.length
      · have hse : (vs l 0).size ≠ (vs m 0).size := by
          have := HNO.out
          rw [hd1, hd2] at this
          simpa [he] using this
        have e1 : ((l.length : Int) != (m.length : Int)) = false := by rw [bne_cast]; simpa using he
        have e2 : (((vs l 0).size : Int) != ((vs m 0).size : Int)) = true := by rw [bne_cast]; simpa using hse
        obtain ⟨g, o, ea, hx⟩ := HL1.out.at 0 (by omega)
        obtain ⟨g2, o2, ea2, hx2⟩ := HM1.out.at 0 (by omega)
        subst ea ea2
        have k1 : ∀ W : BW w1, W.val.cell? ⟨g, o, none⟩ = some (.string (vs l 0)) := BW.cell hx
        have k2 : ∀ W : BW w1, W.val.cell? ⟨g2, o2, none⟩ = some (.string (vs m 0)) := BW.cell hx2
        have hp : (0 : Int) < (l.length : Int) := by omega
        have hp2 : (0 : Int) < (m.length : Int) := by omega
        have HH := Lib.hid (And.intro he (And.intro hse (And.intro p4 q4)))
        have hz1 : ((vs l 0).size : Int) ≤ 100 := p5 0 (by omega)
        have hz2 : ((vs m 0).size : Int) ≤ 100 := q5 0 (by omega)
        clear hd1 hd2 he hse hx hx2 p4 q4 p5 q5
        refine wp_region_bw (by kernel_rfl) (by kernel_rfl) ?_
        repeat (go_big_quiet_step ((first | with_reducible exact HD1.out _ | with_reducible exact HD2.out _)))
        refine wpQuiet_nil ?_
        rintro _ ⟨⟨W, hBW⟩, rfl⟩
        have HBW := Lib.hid hBW
        clear hBW k1 k2
        go_wp2_with fail
        go_ret
        exact ⟨rfl, belt HB1.out HBW.out⟩
      · have e1 : ((l.length : Int) != (m.length : Int)) = true := by rw [bne_cast]; simpa using he
        have HE := Lib.hid he
        clear hd1 hd2 he p4 p5 q4 q5
        refine wp_region_bw (by kernel_rfl) (by kernel_rfl) ?_
        repeat (go_big_quiet_step ((first | with_reducible exact HD1.out _ | with_reducible exact HD2.out _)))
        refine wpQuiet_nil ?_
        rintro _ ⟨⟨W, hBW⟩, rfl⟩
        have HBW := Lib.hid hBW
        clear hBW
        go_wp2_with fail
        go_ret
        exact ⟨rfl, belt HB1.out HBW.out⟩
/-- A list of texts that the call owns. -/
abbrev OT (w : World) (base : Nat) (v : Value) (l : List ByteArray) : Prop := w.ownsRow base 9 1 v l.length (encs Value.string l)
def Apart (v u : Value) : Prop := v.ownBlock = none ∨ u.ownBlock = none ∨ v.ownBlock ≠ u.ownBlock
theorem apart_ne {v u : Value} (h : Apart v u) : u.ownBlock = none ∨ u.ownBlock ≠ v.ownBlock := by
  rcases h with h | h | h
  · by_cases hu : u.ownBlock = none
    · exact Or.inl hu
    · exact Or.inr (by rw [h]; exact hu)
  · exact Or.inl h
  · exact Or.inr (Ne.symm h)
theorem Apart.symm {v u : Value} (h : Apart v u) : Apart u v := by
  rcases h with h | h | h
  · exact Or.inr (Or.inl h)
  · exact Or.inl h
  · exact Or.inr (Or.inr (Ne.symm h))
theorem Apart.grow {w : World} {base : Nat} {e : TypeId} {size n : Nat} {v v' u : Value} {xs : List Value} (h : Apart v u) (hu : w.ownsRow base e size u n xs) (hat : v'.ownBlock = v.ownBlock ∨ v'.ownBlock = some w.heap.size) : Apart v' u := by
  rcases hat with hat | hat
  · unfold Apart; rw [hat]; exact h
  · by_cases hn : u.ownBlock = none
    · exact Or.inr (Or.inl hn)
    · refine Or.inr (Or.inr ?_)
      rw [hat]
      intro he
      have := (hu.lt _ he.symm).2
      omega
theorem encs_snoc (l : List ByteArray) (s : ByteArray) : encs Value.string (l ++ [s]) = encs Value.string l ++ [Value.string s] := by simp [encs]
theorem OT.snoc {w : World} {base : Nat} {v : Value} {l : List ByteArray} {s : ByteArray} (h : w.ownsRow base 9 1 v (l.length + 1) (encs Value.string l ++ [.string s])) : OT w base v (l ++ [s]) := by
  show w.ownsRow base 9 1 v (l ++ [s]).length (encs Value.string (l ++ [s]))
  rw [encs_snoc, List.length_append]
  exact h
/-- What Encode returns, where it returns OK. -/
def EncP (L : List ByteArray) (N : Nat) (W : World) (e : Ending) (w' : World) : Prop := ∃ g o cc, e = .returned (.tuple #[.slice (some ⟨g, o, none⟩) N cc, .int .i64 0]) ∧ N ≤ cc ∧ cc ≤ 9223372036854775807 ∧ (∀ i : Nat, i < N → w'.cell? ⟨g, o + i, none⟩ = some (.string (vs L i))) ∧ Below W.heap.size W w'
theorem enc_p {A : Option Addr} {c K N : Nat} {l : List ByteArray} {w : World} (h : TL w A c l) (hK : l.length = K) (hN : 1 ≤ N) (hok : encOk l N = true) :
    Calls Tryz.prog 26 #[.slice A K c, .int .i64 (N : Int)] w (EncP (someTo (firstL K) l N) N w) := by
  subst hK
  refine (Encode_any A c l N w h.C h.cap h.sz h.capm).mono ?_
  rintro e w' ⟨v, rfl, hR, hb⟩
  rw [enc_eq hok] at hR ⊢
  simp only [Int.toNat_natCast] at hR
  obtain ⟨A2, c2, rfl, hcc, hC⟩ := Kd.R_reads hR
  obtain ⟨_, inner, hown, _⟩ := hR
  have hcm := own_cap hown
  have hlen := someTo_length (firstL l.length) l N
  obtain ⟨g, o, e, hx⟩ := C_at hC 0 (by omega)
  subst e
  refine ⟨g, o, c2, by rw [hlen], by omega, hcm, fun i hi => ?_, hb⟩
  obtain ⟨g', o', e, hx⟩ := C_at hC i (by omega)
  cases e
  exact hx
theorem enc_o {base K N : Nat} {v : Value} {l : List ByteArray} {w : World} (h : OT w base v l) (hK : l.length = K) (hN : 1 ≤ N) (hok : encOk l N = true) (hsz : ∀ s ∈ l, s.size ≤ 9223372036854775807) :
    Calls Tryz.prog 26 #[v, .int .i64 (N : Int)] w (EncP (someTo (firstL K) l N) N w) := by
  obtain ⟨A, c, rfl, h1, h2, h3⟩ := own_tx h
  rw [hK]
  exact enc_p ⟨C_of_own h, h1, by unfold maxLen at h2; omega, hsz⟩ hK hN hok
/-- The four lists may be encoded; and what the pieces are. -/
theorem straight_ok {l m : List ByteArray} {N K S : Nat} {y : Int} (h : dataB l N 100 = true ∧ dataB m N 100 = true ∧ l.length = K ∧ m.length = K ∧ S = (vs l 0).size ∧ (vs l 0).size = (vs m 0).size ∧ Len l S ∧ Len m S) (hy : IsB y) (hK : 0 < K) (hKN : K ≤ N) (hN : N ≤ 12) (hS : S ≤ 100) :
    encOk l N = true ∧ encOk m N = true ∧ encOk (sumTo l m K) N = true ∧ encOk (sclTo y l K) N = true ∧ (∀ s ∈ sumTo l m K, s.size ≤ 9223372036854775807) ∧ (∀ s ∈ sclTo y l K, s.size ≤ 9223372036854775807) ∧
      (∀ i : Nat, i < N → (vs (someTo (firstL K) l N) i).size = S ∧ (vs (someTo (firstL K) m N) i).size = S ∧ vs (someTo (firstL K) (sumTo l m K) N) i = xorS (vs (someTo (firstL K) l N) i) (vs (someTo (firstL K) m N) i) ∧ vs (someTo (firstL K) (sclTo y l K) N) i = mulS y (vs (someTo (firstL K) l N) i)) := by
  obtain ⟨h1, h2, h3, h4, h5, h6, h7, h8⟩ := h
  have hP := firstL_pts K (by omega)
  have hls : Len (sumTo l m K) S := fun i hi => by rw [sumTo_len] at hi; rw [vs_sum l m K i hi, xorS_size]; exact h7 i (by omega)
  have hlc : Len (sclTo y l K) S := fun i hi => by rw [sclTo_len] at hi; rw [vs_scl y l K i hi, mulS_size]; exact h7 i (by omega)
  have z0 : ∀ {q : List ByteArray}, Len q S → 0 < q.length → (vs q 0).size = S := fun hq h0 => hq 0 h0
  have hmem : ∀ {q : List ByteArray}, Len q S → ∀ s ∈ q, s.size ≤ 9223372036854775807 := fun {q} hq s hs => by
    obtain ⟨i, hi, rfl⟩ := List.getElem_of_mem hs
    have := hq i hi
    have e : vs q i = q[i] := by unfold vs rdOf; simp [hi]
    rw [e] at this
    omega
  have ok : ∀ {q : List ByteArray}, Len q S → q.length = K → encOk q N = true := fun {q} hq hl => by
    have hz := z0 hq (by omega)
    exact encOk_of (by omega) (by omega) (by omega) (by rw [hz]; exact hq) (by omega)
  refine ⟨ok h7 h3, ok h8 h4, ok hls (sumTo_len _ _ _), ok hlc (sclTo_len _ _ _), hmem hls, hmem hlc, fun i hi => ?_⟩
  have hib : IsB (i : Int) := ⟨by omega, by omega⟩
  have hfl := firstL_length K
  rw [vs_some _ _ _ _ hi, vs_some _ _ _ _ hi, vs_some _ _ _ _ hi, vs_some _ _ _ _ hi]
  refine ⟨by rw [piece_size]; exact z0 h7 (by omega), by rw [piece_size]; exact z0 h8 (by omega), ?_, ?_⟩
  · have := piece_sum hP (l := l) (m := m) (by omega) (by omega) h7 h8 (by omega) hib
    rw [h3] at this
    exact this
  · have := piece_scl hP hy (l := l) (by omega) h7 (by omega) hib
    rw [h3] at this
    exact this
set_option maxHeartbeats 1000000 in
theorem straight_yes {A Am : Option Addr} {c cm : Nat} {l m : List ByteArray} {N K : Nat} {y : Int} {w : World} (hl : TL w A c l) (hm : TL w Am cm m) (hy : IsB y) (hd1 : dataB l N 100 = true) (hd2 : dataB m N 100 = true) (hK : l.length = K) (hK2 : m.length = K) (hsz : (vs l 0).size = (vs m 0).size) :
    Calls Tryz.prog 6 #[.slice A K c, .slice Am K cm, .int .i64 (N : Int), .int .u8 y] w fun e w' => e = .returned (.bool true) ∧ Below w.heap.size w w' := by
  have HS : Hid (∀ W, Calls Tryz.prog 14 #[] W fun e w' => e = .returned (.bool true) ∧ Below W.heap.size W w') := Lib.hid sane_any
  have HL := Lib.hid hl
  have HM := Lib.hid hm
  obtain ⟨p1, p2, p3, p4, p5⟩ := dataB_iff hd1
  obtain ⟨q1, q2, q3, q4, q5⟩ := dataB_iff hd2
  have hKp : 0 < K := by omega
  have hK12 : K ≤ 12 := by omega
  have hKN : K ≤ N := by omega
  have hN12 : N ≤ 12 := by omega
  obtain ⟨S, hS⟩ : ∃ S, S = (vs l 0).size := ⟨_, rfl⟩
  have hS100 : S ≤ 100 := by have := p5 0 (by omega); rw [hS]; exact_mod_cast this
  have hLS : Len l S := by rw [hS]; exact p4
  have hMS : Len m S := by rw [hS, hsz]; exact q4
  have HD := Lib.hid (And.intro hd1 (And.intro hd2 (And.intro hK (And.intro hK2 (And.intro hS (And.intro hsz (And.intro hLS hMS)))))))
  have hlm : (K : Int) ≤ c := by have := hl.cap; omega
  have hlm2 : (K : Int) ≤ cm := by have := hm.cap; omega
  clear hl hm hd1 hd2 hK hK2 hS hsz hLS hMS p1 p2 p3 p4 p5 q1 q2 q3 q4 q5
  go_enter Tryz.func6, Tryz.ntmps6
  go_upto_region 3 with (first | (go_at_call 14; with_reducible refine Calls.mono (HS.out _) ?_; rintro e w1 ⟨rfl, hb⟩; have HB1 := Lib.hid (belt (below_al (Below.refl _ w) (.cells #[Value.int .u8 y] 5)) hb); have HBX := Lib.hid ((Box.new w #[Value.int .u8 y] 5).below hb (by simp)); clear hb) | fail)
  obtain ⟨hd1, hd2, hK, hK2, hS, hsz, hLS, hMS⟩ := HD.out
  have HL1 := Lib.hid (HL.out.below HB1.out)
  have HM1 := Lib.hid (HM.out.below HB1.out)
  have HD1 : Hid (∀ W : BW w1, Calls Tryz.prog 35 #[.slice A K c, .int .i64 N, .int .i64 100] W.val fun e w'' => e = .returned (.bool true) ∧ ∃ W2 : BW w1, w'' = W2.val) := Lib.hid (fun W => by rw [← hK]; exact data_bw HL1.out N 100 hd1 W)
  have HD2 : Hid (∀ W : BW w1, Calls Tryz.prog 35 #[.slice Am K cm, .int .i64 N, .int .i64 100] W.val fun e w'' => e = .returned (.bool true) ∧ ∃ W2 : BW w1, w'' = W2.val) := Lib.hid (fun W => by rw [← hK2]; exact data_bw HM1.out N 100 hd2 W)
  have e2 : (((vs l 0).size : Int) != ((vs m 0).size : Int)) = false := by rw [bne_cast]; simpa using hsz
  obtain ⟨g, o, ea, hx⟩ := HL1.out.at 0 (by omega)
  obtain ⟨g2, o2, ea2, hx2⟩ := HM1.out.at 0 (by omega)
  subst ea ea2
  have k1 : ∀ W : BW w1, W.val.cell? ⟨g, o, none⟩ = some (.string (vs l 0)) := BW.cell hx
  have k2 : ∀ W : BW w1, W.val.cell? ⟨g2, o2, none⟩ = some (.string (vs m 0)) := BW.cell hx2
  have hp : (0 : Int) < (K : Int) := by omega
  have hz1 : ((vs l 0).size : Int) ≤ 100 := by omega
  have hz2 : ((vs m 0).size : Int) ≤ 100 := by omega
  clear hd1 hd2 hK hK2 hS hsz hLS hMS hx hx2
  refine wp_region_bw (by kernel_rfl) (by kernel_rfl) ?_
  repeat (go_big_quiet_step ((first | with_reducible exact HD1.out _ | with_reducible exact HD2.out _)))
  refine wpQuiet_nil ?_
  rintro W0 ⟨⟨_, hBW⟩, rfl⟩
  have HBW := Lib.hid hBW
  have HL0 := Lib.hid (HL1.out.below hBW)
  have HM0 := Lib.hid (HM1.out.below hBW)
  have HBX0 := Lib.hid (HBX.out.below hBW HBX.out.lt)
  clear hBW k1 k2 HD1 HD2 e2 hz1 hz2
  go_wp2_with fail
  go_loopw [11, 12, 56] (fun v u i wr => ∃ k : Nat, k ≤ K ∧ i = .int .i64 k ∧ OT wr W0.heap.size v (sumTo l m k) ∧ OT wr W0.heap.size u (sclTo y l k) ∧ Apart v u ∧ Below W0.heap.size W0 wr) (fun _ _ i _ => K - (intOf i).toNat)
  case atStart => exact ⟨0, by omega, rfl, ⟨rfl, Or.inl ⟨rfl, rfl⟩⟩, ⟨rfl, Or.inl ⟨rfl, rfl⟩⟩, Or.inl rfl, Below.refl _ _⟩
  case round =>
    obtain ⟨k, hk, rfl, hv, hu, ha, hB⟩ := hrel
    obtain ⟨hd1, hd2, hK, hK2, hS, hsz, hLS, hMS⟩ := HD.out
    have HV := Lib.hid hv
    have HU := Lib.hid hu
    have HA := Lib.hid ha
    have HBr := Lib.hid hB
    have HVL := sumTo_len l m k
    have HUL := sclTo_len y l k
    by_cases hlt : k < K
    · have c1 : W0.cell? ⟨g, o + k, none⟩ = some (.string (vs l k)) := HL0.out.cell k (by omega)
      have c2 : W0.cell? ⟨g2, o2 + k, none⟩ = some (.string (vs m k)) := HM0.out.cell k (by omega)
      have cb : W0.cell? ⟨w.heap.size, 0, none⟩ = some (.int .u8 y) := HBX0.out.cell 0
      have z1 : (vs l k).size = S := hLS k (by omega)
      have z2 : (vs m k).size = S := hMS k (by omega)
      have HZ := Lib.hid (And.intro z1 z2)
      have HC := Lib.hid (And.intro c1 (And.intro c2 cb))
      have d1 : wr.cell? ⟨g, o + k, none⟩ = some (.string (vs l k)) := cell_below hB c1
      have d2 : wr.cell? ⟨g2, o2 + k, none⟩ = some (.string (vs m k)) := cell_below hB c2
      have hq0 : Below W0.heap.size W0 wr := hB
      have hk0 : (0 : Int) ≤ (k : Int) := by omega
      have hk1 : (k : Int) < (K : Int) := by omega
      have hkc : (k : Int) < (c : Int) := by omega
      have HLEN := Lib.hid (And.intro HVL HUL)
      clear hd1 hd2 hK hK2 hS hsz hLS hMS hv hu ha hB c1 c2 cb z1 z2 HVL HUL
      go_upto_region 11 with fail
      go_region_held3 (fun W => Below W0.heap.size W0 W ∧ W.cell? ⟨g, o + k, none⟩ = some (.string (vs l k)) ∧ W.cell? ⟨g2, o2 + k, none⟩ = some (.string (vs m k))) (and_intros <;> first | ((repeat (first | assumption | exact Below.refl _ _ | apply Below.drew | apply below_al)); done) | (refine cell_below (w := W0) ?_ HC.out.1; (repeat (first | assumption | exact Below.refl _ _ | apply Below.drew | apply below_al)); done) | (refine cell_below (w := W0) ?_ HC.out.2.1; (repeat (first | assumption | exact Below.refl _ _ | apply Below.drew | apply below_al)); done))
        (first
        | (go_at_call 36; refine Calls.mono (xor_any _ _ _ (by rw [HZ.out.1, HZ.out.2]; exact Nat.le_refl _) (by rw [HZ.out.2]; omega)) ?_; rintro e w2 ⟨rfl, hb⟩; have hb2 : Below wr.heap.size wr w2 := ((Below.refl _ _).drew).trans hb; have hq2 : Below W0.heap.size W0 w2 := belt hq0 hb2; have HV2 := Lib.hid (own_below HV.out hb2); have HU2 := Lib.hid (own_below HU.out hb2); clear hb hb2)
        | (refine step_append_ownat rfl (.tmp 59) (.tmp 70) 33 rfl W0.heap.size 9 (.string ⟨#[]⟩) 1 16 Tryz.underlying33 info9 rfl (by decide) _ (sumTo l m k).length (encs Value.string (sumTo l m k)) rfl (World.ownsRow.alloc HV2.out _) ⟨w2.heap.size, 0, none⟩ 1 1 [.string (xorS (vs l k) (vs m k))] rfl rfl (fun j x h => one_cell w2 _ 9 j x h) (fun x hx => by cases List.mem_singleton.1 hx; rfl) (by rw [HLEN.out.1]; unfold maxLen; omega) (by rw [HLEN.out.1]; omega) (by have := hq2.size; simp; omega) ?_; intro v1 w3 hown hgrow hat; have hq3 : Below W0.heap.size W0 w3 := (below_al hq2 _).grown hgrow (by have := hq2.size; simp; omega) (fun j hj => own_base HV2.out j hj); have HV3 := Lib.hid (OT.snoc hown); have HU3 := Lib.hid ((World.ownsRow.alloc HU2.out _).kept hgrow (apart_ne HA.out)); have HA3 := Lib.hid (HA.out.grow (World.ownsRow.alloc HU2.out _) hat); clear hown hgrow hat)
        | (go_at_call 37; refine Calls.mono (mul_any y _ _ _ hy (cell_below hq3 HC.out.2.2) (by rw [HZ.out.1]; omega)) ?_; rintro e w4 ⟨rfl, hb⟩; have hq4 : Below W0.heap.size W0 w4 := belt hq3 hb; have HV4 := Lib.hid (own_below HV3.out hb); have HU4 := Lib.hid (own_below HU3.out hb); clear hb)
        | (refine step_append_ownat rfl (.tmp 72) (.tmp 79) 33 rfl W0.heap.size 9 (.string ⟨#[]⟩) 1 16 Tryz.underlying33 info9 rfl (by decide) _ (sclTo y l k).length (encs Value.string (sclTo y l k)) rfl (World.ownsRow.alloc HU4.out _) ⟨w4.heap.size, 0, none⟩ 1 1 [.string (mulS y (vs l k))] rfl rfl (fun j x h => one_cell w4 _ 9 j x h) (fun x hx => by cases List.mem_singleton.1 hx; rfl) (by rw [HLEN.out.2]; unfold maxLen; omega) (by rw [HLEN.out.2]; omega) (by have := hq4.size; simp; omega) ?_; intro u1 w5 hown hgrow hat; have hq5 : Below W0.heap.size W0 w5 := (below_al hq4 _).grown hgrow (by have := hq4.size; simp; omega) (fun j hj => own_base HU4.out j hj); have HU5 := Lib.hid (OT.snoc hown); have HV5 := Lib.hid ((World.ownsRow.alloc HV4.out _).kept hgrow (apart_ne HA3.out.symm)); have HA5 := Lib.hid ((HA3.out.symm.grow (World.ownsRow.alloc HV4.out _) hat).symm); clear hown hgrow hat))
      have HR : Hid (OT w5 W0.heap.size v1 (sumTo l m (k + 1)) ∧ OT w5 W0.heap.size u1 (sclTo y l (k + 1)) ∧ Apart v1 u1) := Lib.hid ⟨by rw [sumTo_succ]; exact HV5.out, by rw [sclTo_succ]; exact HU5.out, HA5.out⟩
      clear HV2 HU2 HV3 HU3 HA3 HV4 HU4 HV5 HU5 HA5 hq2 hq3 hq4
      go_wp2_with fail
      go_roundw
      case rel => exact ⟨k + 1, by omega, by go_num, HR.out.1, HR.out.2.1, HR.out.2.2, by assumption⟩
      case measure => simp [intOf]; omega
    · have hkK : k = K := by omega
      subst hkK
      clear hd1 hd2 hK hK2 hS hsz hLS hMS hv hu ha hB HVL HUL
      have HE := Lib.hid (straight_ok HD.out hy (by omega) hKN hN12 hS100)
      have hN1 : 1 ≤ N := by omega
      have HE1 : Hid (∀ W, Below W0.heap.size W0 W → Calls Tryz.prog 26 #[.slice (some ⟨g, o, none⟩) k c, .int .i64 (N : Int)] W (EncP (someTo (firstL k) l N) N W)) := Lib.hid (fun W hW => enc_p (HL0.out.below hW) HD.out.2.2.1 hN1 HE.out.1)
      have HE2 : Hid (∀ W, Below W0.heap.size W0 W → Calls Tryz.prog 26 #[.slice (some ⟨g2, o2, none⟩) k cm, .int .i64 (N : Int)] W (EncP (someTo (firstL k) m N) N W)) := Lib.hid (fun W hW => enc_p (HM0.out.below hW) HD.out.2.2.2.1 hN1 HE.out.2.1)
      have HE3 : Hid (∀ W, Below wr.heap.size wr W → Calls Tryz.prog 26 #[u11, .int .i64 (N : Int)] W (EncP (someTo (firstL k) (sumTo l m k) N) N W)) := Lib.hid (fun W hW => enc_o (own_below HV.out hW) (sumTo_len _ _ _) hN1 HE.out.2.2.1 HE.out.2.2.2.2.1)
      have HE4 : Hid (∀ W, Below wr.heap.size wr W → Calls Tryz.prog 26 #[u12, .int .i64 (N : Int)] W (EncP (someTo (firstL k) (sclTo y l k) N) N W)) := Lib.hid (fun W hW => enc_o (own_below HU.out hW) (sclTo_len _ _ _) hN1 HE.out.2.2.2.1 HE.out.2.2.2.2.2.1)
      go_upto_region 17 with (first
        | (go_at_call 26; (with_reducible refine Calls.mono (HE1.out _ HBr.out) ?_); rintro e w2 ⟨ga, oa, ca, rfl, hca, hca2, hxa, hb⟩; have HXA := Lib.hid hxa; have HB2 := Lib.hid hb; clear hxa hb)
        | (go_at_call 26; (with_reducible refine Calls.mono (HE2.out _ (belt HBr.out HB2.out)) ?_); rintro e w3 ⟨gb, ob, cb, rfl, hcb, hcb2, hxb, hb⟩; have HXB := Lib.hid hxb; have HB3 := Lib.hid hb; clear hxb hb)
        | (go_at_call 26; (with_reducible refine Calls.mono (HE3.out _ (belt HB2.out HB3.out)) ?_); rintro e w4 ⟨gc, oc, cc, rfl, hcc, hcc2, hxc, hb⟩; have HXC := Lib.hid hxc; have HB4 := Lib.hid hb; clear hxc hb)
        | (go_at_call 26; (with_reducible refine Calls.mono (HE4.out _ (belt (belt HB2.out HB3.out) HB4.out)) ?_); rintro e w5 ⟨gd, od, cd, rfl, hcd, hcd2, hxd, hb⟩; have HXD := Lib.hid hxd; have HB5 := Lib.hid hb; clear hxd hb))
      have HB6 : Hid (Below w.heap.size w w5) := Lib.hid (belt (belt (belt (belt (belt (belt HB1.out HBW.out) HBr.out) HB2.out) HB3.out) HB4.out) HB5.out)
      have HC0 : Hid (w5.cell? ⟨g, o, none⟩ = some (.string (vs l 0)) ∧ w5.cell? ⟨w.heap.size, 0, none⟩ = some (.int .u8 y)) := Lib.hid (by
        have hb := belt (belt (belt (belt HBr.out HB2.out) HB3.out) HB4.out) HB5.out
        exact ⟨cell_below hb (HL0.out.cell 0 (by have := HD.out.2.2.1; omega)), cell_below hb (HBX0.out.cell 0)⟩)
      have HXX : Hid (∀ i : Nat, i < N → ∃ ai bi ci di, w5.cell? ⟨ga, oa + i, none⟩ = some (.string ai) ∧ w5.cell? ⟨gb, ob + i, none⟩ = some (.string bi) ∧ w5.cell? ⟨gc, oc + i, none⟩ = some (.string ci) ∧ w5.cell? ⟨gd, od + i, none⟩ = some (.string di) ∧ ai.size = S ∧ bi.size = S ∧ ci = xorS ai bi ∧ di = mulS y ai) := Lib.hid (fun i hi => by
        obtain ⟨s1, s2, s3, s4⟩ := HE.out.2.2.2.2.2.2 i hi
        exact ⟨_, _, _, _, cell_below (belt (belt HB3.out HB4.out) HB5.out) (HXA.out i hi), cell_below (belt HB4.out HB5.out) (HXB.out i hi), cell_below HB5.out (HXC.out i hi), HXD.out i hi, s1, s2, s3, s4⟩)
      have hS0 : (vs l 0).size = S := HD.out.2.2.2.2.1.symm
      have HS0 := Lib.hid hS0
      clear hS0 HXA HXB HXC HXD HB2 HB3 HB4 HB5 HE1 HE2 HE3 HE4 HE HV HU HA HBr HL HM HL1 HM1 HL0 HM0 HBX HBX0 HB1 HBW HS
      go_wp2_with fail
      go_loopw [145] (fun i W => ∃ j : Nat, j ≤ N ∧ i = .int .i64 j ∧ Below w5.heap.size w5 W) (fun i _ => N - (intOf i).toNat)
      case atStart => exact ⟨0, by omega, rfl, Below.refl _ _⟩
      case round =>
        obtain ⟨W, rfl⟩ : ∃ W : World, W = wr := ⟨_, rfl⟩
        obtain ⟨j, hj, rfl, hBj⟩ := hrel
        have HBj := Lib.hid hBj
        by_cases hjN : j < N
        · obtain ⟨ai, bi, ci, di, x1, x2, x3, x4, s1, s2, s3, s4⟩ := HXX.out j hjN
          have r0 : ∀ V : BW W, V.val.cell? ⟨g, o, none⟩ = some (.string (vs l 0)) := BW.cell (cell_below hBj HC0.out.1)
          have r1 : ∀ V : BW W, V.val.cell? ⟨ga, oa + j, none⟩ = some (.string ai) := BW.cell (cell_below hBj x1)
          have r2 : ∀ V : BW W, V.val.cell? ⟨gb, ob + j, none⟩ = some (.string bi) := BW.cell (cell_below hBj x2)
          have r3 : ∀ V : BW W, V.val.cell? ⟨gc, oc + j, none⟩ = some (.string ci) := BW.cell (cell_below hBj x3)
          have r4 : ∀ V : BW W, V.val.cell? ⟨gd, od + j, none⟩ = some (.string di) := BW.cell (cell_below hBj x4)
          have H36 : Hid (∀ V : BW W, Calls Tryz.prog 36 #[.string ai, .string bi] V.val fun e w'' => e = .returned (.string ci) ∧ ∃ W2 : BW W, w'' = W2.val) := Lib.hid (fun V => by rw [s3]; exact BW.call (xor_any ai bi V.val (by omega) (by omega)))
          have H37 : Hid (∀ V : BW W, Calls Tryz.prog 37 #[.string ai, .pointer (some ⟨w.heap.size, 0, none⟩)] V.val fun e w'' => e = .returned (.string di) ∧ ∃ W2 : BW W, w'' = W2.val) := Lib.hid (fun V => by rw [s4]; exact BW.call (mul_any y _ ai V.val hy (BW.cell (cell_below hBj HC0.out.2) V) (by omega)))
          have e1 : ((ai.size : Int) != ((vs l 0).size : Int)) = false := by rw [bne_cast, s1, HS0.out]; simp
          have e2 : ((bi.size : Int) != ((vs l 0).size : Int)) = false := by rw [bne_cast, s2, HS0.out]; simp
          have hj0 : (0 : Int) ≤ (j : Int) := by omega
          have hj1 : (j : Int) < (N : Int) := by omega
          have m1 : (ai.size : Int) ≤ 100 := by omega
          have m2 : (bi.size : Int) ≤ 100 := by omega
          have HSS := Lib.hid (And.intro s1 (And.intro s2 (And.intro s3 s4)))
          clear hBj x1 x2 x3 x4 s1 s2 s3 s4
          go_upto_region 22 with fail
          refine wp_region_bw (by kernel_rfl) (by kernel_rfl) ?_
          repeat (go_big_quiet_step ((first | with_reducible exact H36.out _ | with_reducible exact H37.out _)))
          refine wpQuiet_nil ?_
          rintro W2 ⟨⟨_, hBW2⟩, rfl⟩
          have HBW2 := Lib.hid hBW2
          clear hBW2 r0 r1 r2 r3 r4 H36 H37
          go_wp2_with fail
          go_roundw
          case rel => exact ⟨j + 1, by omega, by go_num, belt HBj.out HBW2.out⟩
          case measure => simp [intOf]; omega
        · clear hBj
          go_wp2_with fail
          go_ret
          exact ⟨rfl, belt HB6.out HBj.out⟩
end Go.Proofs.YtkdjibejnncmfaaGreatDoor.Co
