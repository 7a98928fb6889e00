/- Texts that are put together of parts of others, as bytes. -/
import Derived.Test.YtkdjibejnncmfaaGreatDoorZK85
namespace Go.Proofs.YtkdjibejnncmfaaGreatDoor.Co
open Go.RowKit Go.Proofs.YtkdjibejnncmfaaGreatDoorW.PrintWords Go.Proofs.YtkdjibejnncmfaaGreatDoorW.PrintLast Go.Proofs.YtkdjibejnncmfaaGreatDoorW.PrintMore
set_option linter.unusedVariables false
set_option linter.unusedSimpArgs false
set_option maxRecDepth 100000
theorem wr_cat (a b : ByteArray) : wrBytes (a ++ b) = wrBytes a ++ wrBytes b := by simp [wrBytes, ByteArray.data_append]
theorem wr_ext (x : ByteArray) (a b : Nat) : wrBytes (x.extract a b) = ((wrBytes x).drop a).take (b - a) := by
  unfold wrBytes
  rw [ByteArray.data_extract, Array.toList_extract, List.extract_eq_take_drop, List.map_take, List.map_drop]
theorem setL_head {pg bs : List Int} (h : bs.length ≤ pg.length) : setL pg 0 bs = bs ++ pg.drop bs.length := by
  apply List.ext_getElem?
  intro t
  rw [setL_get pg 0 bs t (by omega)]
  by_cases ht : t < bs.length
  · rw [if_pos (by omega), Nat.sub_zero, List.getElem?_append_left ht]
  · rw [if_neg (by omega), List.getElem?_append_right (by omega), List.getElem?_drop, show bs.length + (t - bs.length) = t by omega]
theorem text_of {x : ByteArray} {l : List Int} (h : wrBytes x = l) : x = strOfNums l := by rw [← h, str_wr]
/-- The first p bytes of s ahead of the rest of a page. -/
theorem head_text {pg : List Int} {s : ByteArray} {p : Nat} (hpg : pg.length = 64) (hb : ∀ x ∈ pg, IsB x) (hs : s.size = 64) (hp : p ≤ 64) :
    s.extract 0 p ++ (strOfNums pg).extract p 64 = strOfNums (setL pg 0 ((wrBytes s).take p)) := by
  have hl : ((wrBytes s).take p).length = p := by rw [List.length_take, wrBytes_length]; omega
  refine text_of ?_
  rw [wr_cat, wr_ext, wr_ext, wr_str hb, setL_head (by omega), hl, List.drop_zero, Nat.sub_zero]
  congr 1
  exact List.take_of_length_le (by rw [List.length_drop]; omega)
/-- A byte between the parts of a page. -/
theorem mid_text {pg : List Int} {p : Nat} {x : Int} (hpg : pg.length = 64) (hb : ∀ x ∈ pg, IsB x) (hp : p < 64) (hx : IsB x) :
    (strOfNums pg).extract 0 p ++ strOfNums [x] ++ (strOfNums pg).extract (p + 1) 64 = strOfNums (setL pg p [x]) := by
  refine text_of ?_
  rw [wr_cat, wr_cat, wr_ext, wr_ext, wr_str hb, wr_str (fun y hy => by rw [List.mem_singleton.1 hy]; exact hx)]
  show _ = pg.set p x
  rw [List.set_eq_take_append_cons_drop, if_pos (by omega), List.drop_zero, Nat.sub_zero, List.take_of_length_le (show (pg.drop (p + 1)).length ≤ 64 - (p + 1) by rw [List.length_drop]; omega)]
  simp
end Go.Proofs.YtkdjibejnncmfaaGreatDoor.Co
