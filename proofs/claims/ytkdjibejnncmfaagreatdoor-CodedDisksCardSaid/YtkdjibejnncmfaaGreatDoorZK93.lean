/- The walk of the reference's New. -/
import Derived.Test.YtkdjibejnncmfaaGreatDoorZK91
namespace Go.Proofs.YtkdjibejnncmfaaGreatDoor.Co
open Go.RowKit Go.Proofs.YtkdjibejnncmfaaGreatDoorW.PrintWords Go.Proofs.YtkdjibejnncmfaaGreatDoorW.PrintLast Go.Proofs.YtkdjibejnncmfaaGreatDoorW.PrintMore
set_option linter.unusedVariables false
set_option linter.unusedSimpArgs false
set_option maxRecDepth 100000
theorem apart_ty {w : World} {b1 b2 n m : Nat} {e1 e2 : TypeId} {v u : Value} {xs ys : List Value} (hne : e1 ≠ e2) (h : w.ownsRow b1 e1 1 v n xs) (h2 : w.ownsRow b2 e2 1 u m ys) : u.ownBlock = none ∨ u.ownBlock ≠ v.ownBlock := by
  cases hu : u.ownBlock with
  | none => exact Or.inl rfl
  | some k =>
    refine Or.inr (fun e => ?_)
    obtain ⟨c1, e1⟩ := own_typed h2 k hu
    obtain ⟨c2, e2⟩ := own_typed h k e.symm
    rw [e1] at e2
    injection e2 with e2
    injection e2 with _ e2
    exact hne e2.symm
/-- What the loop of the reference's New keeps. -/
structure RNew (w : World) (m k : Nat) (v : Value) (E : List (Nat × Nat)) (wr : World) : Prop where
  len : E.length = k
  outer : wr.ownsRow w.heap.size 33 1 v (E.map (rowE m)).length (E.map (rowE m))
  box : Box wr w.heap.size 150 #[v, .int .i64 0, .int .i64 0, .bool false, .int .i64 0]
  row : ∀ e ∈ E, OW wr w.heap.size e.1 m e.2 (List.replicate m zeroT)
  nodup : (E.map Prod.fst).Nodup
  below : Below w.heap.size w wr
theorem RNew.step {w wr W5 w6 : World} {m k g cap : Nat} {v v1 : Value} {E : List (Nat × Nat)} (h : RNew w m k v E wr) (hb : Below wr.heap.size wr W5) (hO : OW W5 wr.heap.size g m cap (List.replicate m zeroT))
    (ho : w6.ownsRow w.heap.size 33 1 v1 (E.map (rowE m) ++ [rowE m (g, cap)]).length (E.map (rowE m) ++ [rowE m (g, cap)])) (hb6 : Below w.heap.size w w6) (hg : W5.grownBy w6 v.ownBlock) :
    RNew w m (k + 1) v1 (E ++ [(g, cap)]) (w6.setCell ⟨w.heap.size, 0, none⟩ v1) := by
  have hbx5 := h.box.below hb h.box.lt
  have hO5 : W5.ownsRow w.heap.size 33 1 v (E.map (rowE m)).length (E.map (rowE m)) := own_below h.outer hb
  have hv0 : v.ownBlock ≠ some w.heap.size := fun e => by
    obtain ⟨cs, hc⟩ := own_typed hO5 _ e
    unfold Box at hbx5
    rw [hbx5] at hc
    cases hc
  have hbx6 := Box.grown hbx5 hg (Ne.symm hv0)
  have hv1 : v1.ownBlock ≠ some w.heap.size := fun e => by
    obtain ⟨cs, hc⟩ := own_typed ho _ e
    unfold Box at hbx6
    rw [hbx6] at hc
    cases hc
  have hrow : ∀ {e : Nat × Nat} {b : Nat}, OW W5 b e.1 m e.2 (List.replicate m zeroT) → w.heap.size ≤ b → OW (w6.setCell ⟨w.heap.size, 0, none⟩ v1) w.heap.size e.1 m e.2 (List.replicate m zeroT) := fun {e b} hw hbb => by
    have h1 : w6.ownsRow b 9 1 (.slice (some ⟨e.1, 0, none⟩) m e.2) m (encs Value.string (List.replicate m zeroT)) := World.ownsRow.kept hw.own hg (apart_ty (by decide) hO5 hw.own)
    have h2 : (Value.slice (some ⟨e.1, 0, none⟩) m e.2).ownBlock ≠ some w.heap.size := fun e2 => by
      obtain ⟨cs, hc⟩ := own_typed h1 _ e2
      unfold Box at hbx6
      rw [hbx6] at hc
      cases hc
    have h3 := ownsRow_setCell_other h1 (a := ⟨w.heap.size, 0, none⟩) h2 v1
    exact ⟨⟨h3.1, h3.2.imp id (fun ⟨g, cap, cur, a, b, c⟩ => ⟨g, cap, cur, a, Nat.le_trans hbb b, c⟩)⟩, hw.len, Nat.le_trans hbb hw.ge, hw.hcap, hw.capm⟩
  have hsz := h.below.size
  refine ⟨by rw [List.length_append, h.len]; rfl, ?_, hbx6.set 0 _, ?_, ?_, ?_⟩
  · rw [List.map_append]
    exact ownsRow_setCell_other ho hv1 _
  · intro e he
    rcases List.mem_append.1 he with he | he
    · exact hrow ((h.row e he).below hb) (Nat.le_refl _)
    · have : e = (g, cap) := by simpa using he
      subst this
      exact hrow hO hsz
  · rw [List.map_append, List.nodup_append]
    refine ⟨h.nodup, by simp, fun a ha b hb2 => ?_⟩
    have e2 : b = g := by simpa using hb2
    obtain ⟨e, he, rfl⟩ := List.mem_map.1 ha
    have h1 := own_lt (h.row e he).own e.1 rfl
    have h2 := hO.ge
    omega
  · exact hb6.setCell (p := ⟨w.heap.size, 0, none⟩) (Nat.le_refl _) _
theorem new_page {n m i j : Nat} (hi : i < n) (hj : j < m) : pageAt (newDS n m) i j = List.replicate 64 0 := by
  unfold pageAt newDS
  show (((List.replicate n (List.replicate (64 * m) (0 : Int))).getD i []).drop (j * 64)).take 64 = _
  rw [List.getD_eq_getElem?_getD, List.getElem?_replicate, if_pos hi, Option.getD_some, List.drop_replicate, List.take_replicate]
  congr 1
  omega
theorem new_pages {n m i : Nat} (hi : i < n) : pagesL (newDS n m) i m = List.replicate m zeroT := by
  apply List.ext_getElem
  · rw [pagesL_len, List.length_replicate]
  · intro t h1 h2
    rw [pagesL_len] at h1
    simp only [pagesL, List.getElem_map, List.getElem_range, List.getElem_replicate, new_page hi h1]
    rfl
theorem RNew.done {w wr : World} {m n : Nat} {v : Value} {E : List (Nat × Nat)} (h : RNew w m n v E wr) (hn : 1 ≤ n) :
    ∃ Q c, RAt wr w.heap.size w.heap.size Q E c m (newDS n m) := by
  have ho := h.outer
  rw [List.length_map] at ho
  obtain ⟨q, hq⟩ : ∃ q, E.length = q + 1 := ⟨E.length - 1, by have := h.len; omega⟩
  have ho2 := ho
  rw [hq] at ho2
  obtain ⟨Q, c, rfl⟩ := ownsRow_succ ho2
  obtain ⟨A, c2, e, hc1, hc2⟩ := own_slice ho
  injection e with e1 e2 e3
  subst e3
  rw [← hq] at *
  refine ⟨Q, c, h.box, ho, fun i e he => ?_, h.nodup, Nat.le_refl _, hc1⟩
  have hi : i < n := by have := (List.getElem?_eq_some_iff.1 he).1; have := h.len; omega
  rw [new_pages hi]
  exact h.row e (List.mem_of_getElem? he)
set_option maxHeartbeats 2000000 in
theorem refNew_ok (n m : Nat) (w : World) (hn1 : 1 ≤ n) (hn2 : n ≤ 12) (hm1 : 2 ≤ m) (hm2 : m ≤ 1024) :
    Calls Tryz.prog 60 #[.int .i64 n, .int .i64 m] w fun e w' => ∃ Q E c, e = .returned (.tuple #[.pointer (some ⟨w.heap.size, 0, none⟩), .int .i64 0]) ∧ E.length = n ∧ RAt w' w.heap.size w.heap.size Q E c m (newDS n m) ∧ Below w.heap.size w w' := by
  have HB0 := Lib.hid (Box.new w #[.slice none 0 0, .int .i64 0, .int .i64 0, .bool false, .int .i64 0] 150)
  go_enter Tryz.func60, Tryz.ntmps60
  go_wp2_with fail
  obtain ⟨W0, hW0⟩ : ∃ W0, W0 = w.alloc (.cells #[.slice none 0 0, .int .i64 0, .int .i64 0, .bool false, .int .i64 0] 150) := ⟨_, rfl⟩
  rw [← hW0] at HB0 ⊢
  have HBW : Hid (Below w.heap.size w W0) := Lib.hid (by rw [hW0]; exact below_al (Below.refl _ _) _)
  clear hW0
  go_loopw [7] (fun i wr => ∃ (k : Nat) (v : Value) (E : List (Nat × Nat)), k ≤ n ∧ i = .int .i64 k ∧ Hid (RNew w m k v E wr)) (fun i _ => n - (intOf i).toNat)
  case atStart => exact ⟨0, .slice none 0 0, [], by omega, rfl, Lib.hid ⟨rfl, World.ownsRow_nil _ _ _ _, HB0.out, by simp, List.nodup_nil, HBW.out⟩⟩
  case round =>
    obtain ⟨W, rfl⟩ : ∃ W : World, W = wr := ⟨_, rfl⟩
    obtain ⟨k, v, E, hk, rfl, HI⟩ := hrel
    by_cases hlt : k < n
    · have hkn : (k : Int) < (n : Int) := by omega
      go_wp2_with fail
      go_loopw [8, 9] (fun l i W5 => ∃ j : Nat, j ≤ m ∧ i = .int .i64 j ∧ Hid (OT W5 W.heap.size l (List.replicate j zeroT)) ∧ Hid (Below W.heap.size W W5)) (fun _ i _ => m - (intOf i).toNat)
      case atStart => exact ⟨0, by omega, rfl, Lib.hid ⟨rfl, Or.inl ⟨rfl, rfl⟩⟩, Lib.hid (Below.refl _ _)⟩
      case round =>
        obtain ⟨j, hj, rfl, HO, HB⟩ := hrel
        by_cases hlt2 : j < m
        · have hjm : (j : Int) < (m : Int) := by omega
          obtain ⟨p, hp⟩ : ∃ p, p = List.replicate j zeroT := ⟨_, rfl⟩
          have HP : Hid (List.replicate (j + 1) zeroT = p ++ [zeroT]) := Lib.hid (by rw [hp, List.replicate_succ'])
          have hpl : p.length ≤ 1024 := by rw [hp, List.length_replicate]; omega
          rw [← hp] at HO
          clear hp
          go_wp2_with (first
            | (go_at_call 105; refine (refZeros_any _).mono ?_; rintro e w5 ⟨rfl, hb0⟩; have HO5 := Lib.hid (own_below HO.out hb0); have HB5 := Lib.hid (belt HB.out hb0); clear hb0)
            | ((try with_reducible refine gate_builtin (b := .append) (xs := #[.tmp 36, .tmp 38]) rfl ?_); at_builtin; (refine print_append (w0 := W) W.heap.size rfl (.tmp 36) (.tmp 38) 33 9 (.string ⟨#[]⟩) 16 rfl Tryz.underlying33 info9 rfl (by decide) _ (encs Value.string p) (.string zeroT) rfl rfl rfl (OT.raw HO5.out) HB5.out HB5.out.size (by simp [encs]; omega) ?_); intro v1 w6 ho hb2 hg hat; have HO6 := Lib.hid (OT.raw_snoc ho); have HB6 := Lib.hid hb2; clear ho hb2 hg hat))
          go_roundw
          case rel => exact ⟨j + 1, by omega, by go_num, Lib.hid (by rw [HP.out]; exact HO6.out), HB6⟩
          case measure => simp [intOf]; omega
        · have hjm : j = m := by omega
          subst hjm
          obtain ⟨g2, cap2, e2, HOW⟩ : ∃ g cap, _ = Value.slice (some ⟨g, 0, none⟩) j cap ∧ Hid (OW _ _ g j cap (List.replicate j zeroT)) := by
            have h0 := HO.out
            obtain ⟨g, cap, e, how⟩ := ow_of h0 (fun e => by
              have h1 := h0.1
              rw [e] at h0
              rcases h0.2 with ⟨_, h2⟩ | ⟨g, cap, cur, h2, _⟩
              · rw [List.length_replicate] at h2
                omega
              · cases h2)
            rw [List.length_replicate] at e how
            exact ⟨g, cap, e, Lib.hid how⟩
          subst e2
          have hbx5 := HI.out.box.below HB.out HI.out.box.lt
          have c0 := hbx5.cell 0
          simp only [List.getElem?_toArray, List.getElem?_cons_zero] at c0
          have HO5 := Lib.hid (own_below HI.out.outer HB.out)
          have HB5 := Lib.hid (belt HI.out.below HB.out)
          have hlen : (E.map (rowE j)).length ≤ 12 := by rw [List.length_map, HI.out.len]; omega
          have HV0 : Hid (v.ownBlock ≠ some w.heap.size) := Lib.hid (fun e => by
            obtain ⟨cs, hc⟩ := own_typed HO5.out _ e
            unfold Box at hbx5
            rw [hbx5] at hc
            cases hc)
          have HBX5 := Lib.hid hbx5
          clear hbx5
          go_wp2_with ((try with_reducible refine gate_builtin (b := .append) (xs := #[.tmp 44, .tmp 46]) rfl ?_); at_builtin; refine print_append (w0 := w) w.heap.size rfl (.tmp 44) (.tmp 46) 148 33 nilS 24 rfl Tryz.underlying148 info33 rfl (by decide) v (E.map (rowE j)) (rowE j (g2, cap2)) rfl rfl rfl HO5.out HB5.out HB5.out.size (by omega) ?_; intro v1 w6 ho hb2 hg hat; obtain ⟨Aq, cq, eq1, _, _⟩ := own_slice ho; subst eq1; have hbx := Box.grown HBX5.out hg (Ne.symm HV0.out); have c1 := hbx.cell 0; have f1 := hbx.frozen 0; simp only [List.getElem?_toArray, List.getElem?_cons_zero] at c1; have HN := Lib.hid (RNew.step HI.out HB.out HOW.out ho hb2 hg); clear ho hb2 hg hat hbx)
          go_roundw
          case rel => exact ⟨k + 1, .slice Aq (E.length + 1) cq, E ++ [(g2, cap2)], by omega, by go_num, Lib.hid (by have q := HN.out; simp only [List.length_append, List.length_map, List.length_cons, List.length_nil, Nat.zero_add] at q; exact q)⟩
          case measure => simp [intOf]; omega
    · have hkn : k = n := by omega
      subst hkn
      go_wp2_with fail
      go_ret2
      obtain ⟨Q, c, h1⟩ := HI.out.done hn1
      exact ⟨Q, E, c, rfl, HI.out.len, h1, HI.out.below⟩
def newB (n m : Int) : Bool := decide (1 ≤ n) && decide (n ≤ 12) && decide (2 ≤ m) && decide (m ≤ 1024)
theorem refNew_no (n m : Int) (w : World) (h : newB n m = false) : Calls Tryz.prog 60 #[.int .i64 n, .int .i64 m] w fun e w' => e = .returned (.tuple #[.pointer none, .int .i64 1]) ∧ w = w' := by
  have h2 : n < 1 ∨ 12 < n ∨ m < 2 ∨ 1024 < m := by
    unfold newB at h
    simp at h
    omega
  by_cases a : n < 1
  · go_enter Tryz.func60, Tryz.ntmps60
    go_wp2_with fail
    go_ret2
    exact ⟨rfl, rfl⟩
  · by_cases b : 12 < n
    · go_enter Tryz.func60, Tryz.ntmps60
      go_wp2_with fail
      go_ret2
      exact ⟨rfl, rfl⟩
    · by_cases c : m < 2
      · go_enter Tryz.func60, Tryz.ntmps60
        go_wp2_with fail
        go_ret2
        exact ⟨rfl, rfl⟩
      · have d : 1024 < m := by omega
        go_enter Tryz.func60, Tryz.ntmps60
        go_wp2_with fail
        go_ret2
        exact ⟨rfl, rfl⟩
theorem New_no (n m : Int) (w : World) (h : newB n m = false) : Calls Tryz.prog 38 #[.int .i64 n, .int .i64 m] w fun e w' => e = .returned (.tuple #[.pointer none, .int .i64 1]) ∧ w = w' := by
  have h2 : n < 1 ∨ 12 < n ∨ m < 2 ∨ 1024 < m := by
    unfold newB at h
    simp at h
    omega
  by_cases a : n < 1
  · go_enter Tryz.func38, Tryz.ntmps38
    go_wp2_with fail
    go_ret2
    exact ⟨rfl, rfl⟩
  · by_cases b : 12 < n
    · go_enter Tryz.func38, Tryz.ntmps38
      go_wp2_with fail
      go_ret2
      exact ⟨rfl, rfl⟩
    · by_cases c : m < 2
      · go_enter Tryz.func38, Tryz.ntmps38
        go_wp2_with fail
        go_ret2
        exact ⟨rfl, rfl⟩
      · have d : 1024 < m := by omega
        go_enter Tryz.func38, Tryz.ntmps38
        go_wp2_with fail
        go_ret2
        exact ⟨rfl, rfl⟩
end Go.Proofs.YtkdjibejnncmfaaGreatDoor.Co
