/- A vault that holds a text, through calls of the package: for CodedTexts and CodedHeals. -/
import Derived.Test.YtkdjibejnncmfaaGreatDoorZK71
import Derived.Test.YtkdjibejnncmfaaGreatDoorZN18
namespace Go.Proofs.YtkdjibejnncmfaaGreatDoor.Co
open Go.RowKit Go.Proofs.YtkdjibejnncmfaaGreatDoorW.PrintWords Go.Proofs.YtkdjibejnncmfaaGreatDoorW.PrintLast Go.Proofs.YtkdjibejnncmfaaGreatDoorW.PrintMore
set_option linter.unusedVariables false
set_option linter.unusedSimpArgs false
set_option maxRecDepth 100000
/-- Disks and a vault on them, made since world w, that hold a text. -/
structure St (w : World) (d v P c : Nat) (B : List Nat) (n m k life : Nat) (text : ByteArray) (W : World) : Prop where
  ex : ∃ D, DAt W d P B c m D ∧ Up n m D ∧ D.falls = 0 ∧ Holds n m D text life k ∧ Newest n m D text life k
  va : VAt W v d ⟨0, text, life, k⟩
  len : B.length = n
  od : w.heap.size ≤ d
  ov : w.heap.size ≤ v
  oB : ∀ b ∈ B, w.heap.size ≤ b
  below : Below w.heap.size w W
  vok : VOk n m ⟨0, text, life, k⟩
  two : 2 ≤ m
  few : m ≤ 1024
  most : n ≤ 12
section
variable {w W W' : World} {d v P c n m k life : Nat} {B : List Nat} {text : ByteArray}
theorem St.later (h : St w d v P c B n m k life text W) (hb : Below W.heap.size W W') : St w d v P c B n m k life text W' := by
  obtain ⟨D, h1, h2⟩ := h.ex
  exact { h with ex := ⟨D, h1.below hb, h2⟩, va := h.va.below hb, below := belt h.below hb }
theorem st_room (h : St w d v P c B n m k life text W) : Calls Tryz.prog 40 #[.pointer (some ⟨v, 0, none⟩)] W fun e w' => e = .returned (.int .i64 (roomF m k : Nat)) ∧ St w d v P c B n m k life text w' := by
  obtain ⟨D, h1, h2⟩ := h.ex
  exact (Room_any W h.va h1 h.vok.e1).mono fun e w' hh => ⟨hh.1, h.later hh.2⟩
theorem st_life (h : St w d v P c B n m k life text W) : Calls Tryz.prog 41 #[.pointer (some ⟨v, 0, none⟩)] W fun e w' => e = .returned (.int .i64 life) ∧ St w d v P c B n m k life text w' :=
  (Life_any W h.va).mono fun e w' hh => ⟨hh.1, hh.2 ▸ h⟩
theorem st_text (h : St w d v P c B n m k life text W) : Calls Tryz.prog 43 #[.pointer (some ⟨v, 0, none⟩)] W fun e w' => e = .returned (.string text) ∧ St w d v P c B n m k life text w' :=
  (Text_any W h.va).mono fun e w' hh => ⟨hh.1, hh.2 ▸ h⟩
theorem st_save (h : St w d v P c B n m k life text W) {s : ByteArray} (hs : s.size ≤ roomF m k) (hl : life < 1099511627776) :
    Calls Tryz.prog 42 #[.pointer (some ⟨v, 0, none⟩), .string s] W fun e w' => e = .returned (.int .i64 0) ∧ St w d v P c B n m k (life + 1) s w' := by
  obtain ⟨D, h1, h2, h3, h4, h5⟩ := h.ex
  have hk := h.vok
  have hlen := h.len
  subst hlen
  obtain ⟨D', s1, s2, s3, s4, s5⟩ := save_held (life := life) (text := text) (s := s) h2 h5 h.two h.few hk.e1 hk.e2 h.most hl hs
  rw [h3] at s1 s3
  have hr : roomF m k ≤ 4000 := Nat.min_le_right _ _
  refine (Save_any s W h.va h1 hk (by omega) (by omega) (by omega)).mono ?_
  rintro e w' ⟨rfl, q1, q2, q3⟩
  rw [s1] at q1 q2 ⊢
  refine ⟨rfl, ⟨D', q1, s2, s3, s4, s5⟩, q2, rfl, h.od, h.ov, h.oB, ?_, ⟨hk.e1, hk.e2, room_needed hk.e1 h.two hs, by show 1 ≤ life + 1; omega, by show life + 1 ≤ _; omega, by show s.size ≤ 4000; omega⟩, h.two, h.few, h.most⟩
  exact h.below.trans (q3.below h.below.size h.od (fun b hb => by
    rcases List.mem_cons.1 hb with rfl | hb2
    · exact h.ov
    · exact h.oB b hb2))
theorem st_limit (h : St w d v P c B n m k life text W) {s : ByteArray} (hs : roomF m k < s.size) (hs2 : s.size ≤ 1000000000) :
    Calls Tryz.prog 42 #[.pointer (some ⟨v, 0, none⟩), .string s] W fun e w' => e = .returned (.int .i64 2) ∧ St w d v P c B n m k life text w' := by
  obtain ⟨D, h1, h2, h3, h4, h5⟩ := h.ex
  have hk := h.vok
  have hlen := h.len
  subst hlen
  have s1 := save_limit (life := life) (text := text) (k := k) h2 hs
  rw [h3] at s1
  refine (Save_any s W h.va h1 hk hs2 (by omega) (by omega)).mono ?_
  rintro e w' ⟨rfl, q1, q2, q3⟩
  rw [s1] at q1 q2 ⊢
  refine ⟨rfl, ⟨D, q1, h2, h3, h4, h5⟩, q2, rfl, h.od, h.ov, h.oB, ?_, hk, h.two, h.few, h.most⟩
  exact h.below.trans (q3.below h.below.size h.od (fun b hb => by
    rcases List.mem_cons.1 hb with rfl | hb2
    · exact h.ov
    · exact h.oB b hb2))
theorem st_open (h : St w d v P c B n m k life text W) :
    Calls Tryz.prog 44 #[.pointer (some ⟨d, 0, none⟩)] W fun e w' => ∃ u, e = .returned (.tuple #[.pointer (some ⟨u, 0, none⟩), .int .i64 0]) ∧ St w d v P c B n m k life text w' ∧ St w d u P c B n m k life text w' := by
  obtain ⟨D, h1, h2, h3, h4, h5⟩ := h.ex
  have hk := h.vok
  have hlen := h.len
  subst hlen
  have s1 := open_held h2 h4 h5 hk.l1 hk.l2 hk.st h.few hk.e1 hk.e2 h.most hk.tx
  rw [h3] at s1
  refine (Open_any W h1 (by omega) (by omega)).mono ?_
  rintro e w' ⟨pv, rfl, q1, q2, q3⟩
  rw [s1] at q1 q3 ⊢
  obtain ⟨u, rfl, hu, q4⟩ := q3
  have hne := h.va.ne h1
  have hva := h.va.fr q2 hne.1 hne.2.2
  have hbl := h.below.trans (q2.below h.below.size h.od h.oB)
  have hex : ∃ D, DAt w' d P B c m D ∧ Up B.length m D ∧ D.falls = 0 ∧ Holds B.length m D text life k ∧ Newest B.length m D text life k := ⟨D, q1, h2, h3, h4, h5⟩
  exact ⟨u, rfl, ⟨hex, hva, rfl, h.od, h.ov, h.oB, hbl, hk, h.two, h.few, h.most⟩, ⟨hex, q4, rfl, h.od, Nat.le_trans h.below.size hu, h.oB, hbl, hk, h.two, h.few, h.most⟩⟩
theorem st_enough (h : St w d v P c B n m k life text W) : Calls Tryz.prog 45 #[.pointer (some ⟨v, 0, none⟩)] W fun e w' => e = .returned (.int .i64 k) ∧ St w d v P c B n m k life text w' :=
  (Enough_any W h.va).mono fun e w' hh => ⟨hh.1, hh.2 ▸ h⟩
theorem st_make (hd : DAt W d P B c m (newDS n m)) (hn : B.length = n) (hk : 1 ≤ k) (hkn : k ≤ n) (hb : Below w.heap.size w W) (od : w.heap.size ≤ d) (oB : ∀ b ∈ B, w.heap.size ≤ b) :
    Calls Tryz.prog 39 #[.pointer (some ⟨d, 0, none⟩), .int .i64 (k : Int)] W fun e w' => ∃ v, e = .returned (.tuple #[.pointer (some ⟨v, 0, none⟩), .int .i64 0]) ∧ St w d v P c B n m k 1 ⟨#[]⟩ w' := by
  subst hn
  have h12 := hd.most
  have hm2 := hd.two
  have hm := hd.few
  have hU := newDS_up B.length m
  have hf : (newDS B.length m).falls = 0 := rfl
  obtain ⟨D', s1, s2, s3, s4, s5⟩ := make_held hU hm2 hm hk hkn h12
  rw [hf] at s1 s3
  refine (Make_any (k : Int) W hd (by rw [hf]; omega) (by rw [hf]; omega)).mono ?_
  rintro e w' ⟨pv, rfl, q1, q2, q3⟩
  rw [s1] at q1 q3 ⊢
  obtain ⟨v, rfl, hv, q4⟩ := q3
  have hs : neededF (ByteArray.size ⟨#[]⟩) k ≤ m / 2 := room_needed hk hm2 (Nat.zero_le _)
  exact ⟨v, rfl, ⟨⟨D', q1, s2, s3, s4, s5⟩, q4, rfl, od, Nat.le_trans hb.size hv, oB, hb.trans (q2.below hb.size od oB), ⟨hk, hkn, hs, Nat.le_refl _, by show 1 ≤ _; omega, Nat.zero_le _⟩, hm2, hm, h12⟩⟩
end
end Go.Proofs.YtkdjibejnncmfaaGreatDoor.Co
