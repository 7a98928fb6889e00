/- What pages are there when pages are written, and the power stays on. -/
import Derived.Test.YtkdjibejnncmfaaGreatDoorZN14
namespace Go.Proofs.YtkdjibejnncmfaaGreatDoor.Co
open Go.RowKit Go.Proofs.YtkdjibejnncmfaaGreatDoorW.PrintWords Go.Proofs.YtkdjibejnncmfaaGreatDoorW.PrintLast Go.Proofs.YtkdjibejnncmfaaGreatDoorW.PrintMore
set_option linter.unusedVariables false
set_option linter.unusedSimpArgs false
set_option maxRecDepth 100000
/-- Disks with the power on, that will not go off. -/
structure Up (n m : Nat) (D : DS) : Prop where
  len : D.disks.length = n
  size : ∀ l ∈ D.disks, l.length = 64 * m
  down : D.down = false
  armed : D.armed = 0
theorem Up.row {n m : Nat} {D : DS} (h : Up n m D) {i : Nat} (hi : i < n) : (D.disks.getD i []).length = 64 * m := by
  have hi2 : i < D.disks.length := by rw [h.len]; exact hi
  rw [List.getD_eq_getElem?_getD, List.getElem?_eq_getElem hi2]
  exact h.size _ (List.getElem_mem _)
theorem Up.put {n m : Nat} {D : DS} (h : Up n m D) {i : Nat} (hi : i < n) (off : Nat) (bs : List Int) : Up n m (D.put i off bs) where
  len := by show (D.disks.set i _).length = n; rw [List.length_set]; exact h.len
  size := fun l hl => by
    rcases List.mem_or_eq_of_mem_set (show l ∈ D.disks.set i _ from hl) with h1 | rfl
    · exact h.size l h1
    · rw [setL_length]; exact h.row hi
  down := h.down
  armed := h.armed
theorem pageAt_put {n m : Nat} {D : DS} (h : Up n m D) {i j i2 j2 : Nat} {pg : List Int} (hi : i < n) (hj : j < m) (hi2 : i2 < n) (hj2 : j2 < m) (hp : pg.length = 64) :
    pageAt (D.put i (j * 64) pg) i2 j2 = if i = i2 ∧ j = j2 then pg else pageAt D i2 j2 := by
  have hr := h.row hi
  have e : ∀ E : DS, pageAt E i2 j2 = cutL (E.disks.getD i2 []) (j2 * 64) 64 := fun E => rfl
  rw [e, e]
  have hd : (D.put i (j * 64) pg).disks.getD i2 [] = if i = i2 then setL (D.disks.getD i []) (j * 64) pg else D.disks.getD i2 [] := by
    show (D.disks.set i _).getD i2 [] = _
    rw [List.getD_eq_getElem?_getD, List.getElem?_set]
    by_cases he : i = i2
    · subst he
      rw [if_pos rfl, if_pos rfl, if_pos (by rw [h.len]; exact hi)]
      rfl
    · rw [if_neg he, if_neg he, List.getD_eq_getElem?_getD]
  rw [hd]
  by_cases he : i = i2
  · subst he
    rw [if_pos rfl]
    by_cases hej : j = j2
    · subst hej
      rw [if_pos ⟨rfl, rfl⟩]
      have := cut_in (l := D.disks.getD i []) (bs := pg) (off := j * 64) (by omega)
      rw [hp] at this
      exact this
    · rw [if_neg (fun h => hej h.2), cut_out (by omega) (by omega)]
  · rw [if_neg he, if_neg (fun h => he h.1)]
theorem writeF_up {n m : Nat} {D : DS} (h : Up n m D) {i j : Nat} {s : ByteArray} (hi : i < n) (hj : j < m) (hs : s.size = 64) : writeF n m D (i : Int) (j : Int) s = (D.put i (j * 64) (wrBytes s), 0) := by
  have hh : hasF n m (i : Int) (j : Int) = true := by unfold hasF; simp; omega
  have h1 : ¬ D.armed = 1 := by rw [h.armed]; omega
  have h2 : ¬ (0 : Int) < D.armed := by rw [h.armed]; omega
  unfold writeF
  rw [h.down, hh, hs, if_neg (by simp), if_neg (by simp), if_neg h1, if_neg h2]
  rfl
theorem wr_str {l : List Int} (h : ∀ x ∈ l, IsB x) : wrBytes (strOfNums l) = l := by
  have hl : (wrBytes (strOfNums l)).length = l.length := by rw [wrBytes_length, str_size]
  apply List.ext_getElem hl
  intro t h1 h2
  have hr : rd l t = l[t] := rd_nat l t h2
  have hs : t < (strOfNums l).size := by rw [str_size]; exact h2
  have e1 := bt_nums l (fun r hr => h _ (rd_mem l r hr)) t h2
  rw [bt_get _ t hs, hr] at e1
  rw [← e1]
  simp only [wrBytes, List.getElem_map]
  rfl
def putAll (D : DS) (l : List Placed) : DS := l.foldl (fun E x => E.put x.disk (x.at_ * 64) x.page) D
theorem putAll_up {n m : Nat} : ∀ (l : List Placed) (D : DS), Up n m D → (∀ x ∈ l, x.disk < n ∧ x.at_ < m) → Up n m (putAll D l) ∧ (putAll D l).falls = D.falls
  | [], D, h, _ => ⟨h, rfl⟩
  | x :: l, D, h, hl => by
    have := putAll_up l (D.put x.disk (x.at_ * 64) x.page) (h.put (hl x List.mem_cons_self).1 _ _) (fun y hy => hl y (List.mem_cons_of_mem _ hy))
    exact this
theorem allF_up {n m : Nat} : ∀ (l : List Placed) (D : DS), Up n m D → (∀ x ∈ l, x.disk < n ∧ x.at_ < m) → (∀ x ∈ l, x.Ok) → allF n m D l = (putAll D l, 0)
  | [], D, h, _, _ => rfl
  | x :: l, D, h, hl, ho => by
    have hx := hl x List.mem_cons_self
    have hk := ho x List.mem_cons_self
    have hw := writeF_up h (s := strOfNums x.page) hx.1 hx.2 (by rw [str_size]; exact hk.len)
    rw [wr_str hk.bytes] at hw
    unfold allF
    rw [hw, if_pos rfl]
    exact allF_up l _ (h.put hx.1 _ _) (fun y hy => hl y (List.mem_cons_of_mem _ hy)) (fun y hy => ho y (List.mem_cons_of_mem _ hy))
/-- The page that stays at a place. -/
def lastP (l : List Placed) (i j : Nat) (old : List Int) : List Int := l.foldl (fun acc x => if x.disk = i ∧ x.at_ = j then x.page else acc) old
theorem pageAt_putAll {n m i j : Nat} (hi : i < n) (hj : j < m) : ∀ (l : List Placed) (D : DS), Up n m D → (∀ x ∈ l, x.disk < n ∧ x.at_ < m) → (∀ x ∈ l, x.Ok) → pageAt (putAll D l) i j = lastP l i j (pageAt D i j)
  | [], D, h, _, _ => rfl
  | x :: l, D, h, hl, ho => by
    have hx := hl x List.mem_cons_self
    have hk := ho x List.mem_cons_self
    have ih := pageAt_putAll hi hj l (D.put x.disk (x.at_ * 64) x.page) (h.put hx.1 _ _) (fun y hy => hl y (List.mem_cons_of_mem _ hy)) (fun y hy => ho y (List.mem_cons_of_mem _ hy))
    show pageAt (putAll (D.put x.disk (x.at_ * 64) x.page) l) i j = _
    rw [ih, pageAt_put h hx.1 hx.2 hi hj hk.len]
    rfl
theorem lastP_none : ∀ (l : List Placed) (i j : Nat) (old : List Int), (∀ x ∈ l, ¬ (x.disk = i ∧ x.at_ = j)) → lastP l i j old = old
  | [], i, j, old, _ => rfl
  | x :: l, i, j, old, h => by
    show lastP l i j (if x.disk = i ∧ x.at_ = j then x.page else old) = old
    rw [if_neg (h x List.mem_cons_self)]
    exact lastP_none l i j old (fun y hy => h y (List.mem_cons_of_mem _ hy))
theorem lastP_some {p : List Int} : ∀ (l : List Placed) (i j : Nat) (old : List Int), (∀ x ∈ l, x.disk = i ∧ x.at_ = j → x.page = p) → (old = p ∨ ∃ x ∈ l, x.disk = i ∧ x.at_ = j) → lastP l i j old = p
  | [], i, j, old, _, h => by
    rcases h with h | ⟨x, hx, _⟩
    · exact h
    · cases hx
  | x :: l, i, j, old, h1, h2 => by
    show lastP l i j (if x.disk = i ∧ x.at_ = j then x.page else old) = p
    refine lastP_some l i j _ (fun y hy => h1 y (List.mem_cons_of_mem _ hy)) ?_
    by_cases hx : x.disk = i ∧ x.at_ = j
    · rw [if_pos hx]; exact Or.inl (h1 x List.mem_cons_self hx)
    · rw [if_neg hx]
      rcases h2 with h2 | ⟨y, hy, hyy⟩
      · exact Or.inl h2
      · rcases List.mem_cons.1 hy with rfl | hy2
        · exact absurd hyy hx
        · exact Or.inr ⟨y, hy2, hyy⟩
theorem lastP_app (l1 l2 : List Placed) (i j : Nat) (old : List Int) : lastP (l1 ++ l2) i j old = lastP l2 i j (lastP l1 i j old) := by unfold lastP; rw [List.foldl_append]
theorem placed_mem {n m : Nat} {text : ByteArray} {life en disk i : Nat} (h1 : disk < n) (h2 : i < neededF text.size en) : placedF n m text life en disk i ∈ imageF n m text life en := by
  unfold imageF
  rw [List.mem_flatMap]
  exact ⟨disk, List.mem_range.2 h1, List.mem_map.2 ⟨i, List.mem_range.2 h2, rfl⟩⟩
/-- What a text leaves at a place. -/
theorem lastP_image {n m : Nat} {text : ByteArray} {life en disk i : Nat} (old : List Int) (h1 : disk < n) (h2 : i < neededF text.size en) : lastP (imageF n m text life en) disk (firstF m life + i) old = (placedF n m text life en disk i).page := by
  refine lastP_some _ _ _ _ (fun x hx he => ?_) (Or.inr ⟨_, placed_mem h1 h2, rfl, rfl⟩)
  obtain ⟨d2, i2, hd, hi, rfl⟩ := imageF_mem hx
  have e1 : d2 = disk := he.1
  have e2 : firstF m life + i2 = firstF m life + i := he.2
  have e3 : i2 = i := by omega
  rw [e1, e3]
theorem lastP_else {n m : Nat} {text : ByteArray} {life en disk at_ : Nat} (old : List Int) (h : ¬ (firstF m life ≤ at_ ∧ at_ < firstF m life + neededF text.size en)) : lastP (imageF n m text life en) disk at_ old = old := by
  refine lastP_none _ _ _ _ (fun x hx he => h ?_)
  obtain ⟨d2, i2, hd, hi, rfl⟩ := imageF_mem hx
  have e2 : firstF m life + i2 = at_ := he.2
  omega
theorem lastP_zeros {n m disk at_ : Nat} (old : List Int) (h1 : disk < n) (h2 : at_ < m) : lastP (zerosL n m) disk at_ old = List.replicate 64 0 := by
  refine lastP_some _ _ _ _ (fun x hx he => ?_) (Or.inr ⟨zeroP disk at_, ?_, rfl, rfl⟩)
  · unfold zerosL at hx
    obtain ⟨d2, _, hx2⟩ := List.mem_flatMap.1 hx
    obtain ⟨a2, _, rfl⟩ := List.mem_map.1 hx2
    rfl
  · unfold zerosL
    exact List.mem_flatMap.2 ⟨disk, List.mem_range.2 h1, List.mem_map.2 ⟨at_, List.mem_range.2 h2, rfl⟩⟩
end Go.Proofs.YtkdjibejnncmfaaGreatDoor.Co
