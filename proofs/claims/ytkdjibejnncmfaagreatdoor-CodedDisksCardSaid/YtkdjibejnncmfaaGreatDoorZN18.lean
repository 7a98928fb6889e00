/- Make and Save leave a text that is held, and none newer. -/
import Derived.Test.YtkdjibejnncmfaaGreatDoorZN17
namespace Go.Proofs.YtkdjibejnncmfaaGreatDoor.Co
open Go.RowKit Go.Proofs.YtkdjibejnncmfaaGreatDoorW.PrintWords Go.Proofs.YtkdjibejnncmfaaGreatDoorW.PrintLast Go.Proofs.YtkdjibejnncmfaaGreatDoorW.PrintMore
set_option linter.unusedVariables false
set_option linter.unusedSimpArgs false
set_option maxRecDepth 100000
theorem soundK_page {D E : DS} {n m i j : Nat} (h : pageAt D i j = pageAt E i j) : soundK D n m i j = soundK E n m i j := by unfold soundK; rw [h]
theorem zero_unsound {D : DS} {n m i j : Nat} (h : pageAt D i j = List.replicate 64 0) : soundK D n m i j = none := by
  have hz : ∀ l : List Int, (∀ x ∈ l, x = 0) → ofLE l = 0 := by
    intro l
    induction l with
    | nil => intro _; rfl
    | cons b l ih =>
      intro hb
      unfold ofLE
      rw [ih (fun x hx => hb x (List.mem_cons_of_mem _ hx)), hb b List.mem_cons_self]
      rfl
  have hl : lifeOf (List.replicate 64 0) = 0 := by
    unfold lifeOf
    exact hz _ (fun x hx => (List.mem_replicate.1 (cutL_mem hx)).2)
  have hs : soundB n m (List.replicate 64 0) i j = false := by
    unfold soundB pageB
    rw [hl]
    simp
  unfold soundK
  rw [h, hs]
  simp
section
variable {n m life k : Nat} {D : DS} {text : ByteArray}
theorem image_ok (hs : neededF text.size k ≤ m / 2) (hm : m ≤ 1024) (hkn : k ≤ n) (hn : n ≤ 12) : ∀ x ∈ imageF n m text life k, x.Ok := fun x hx => by
  obtain ⟨disk, i, h1, h2, rfl⟩ := imageF_mem hx
  exact placedF_ok hm (by omega) (by omega) (by omega)
theorem image_here {disk at_ : Nat} (h : firstF m life ≤ at_ ∧ at_ < firstF m life + neededF text.size k) : ∃ i, i < neededF text.size k ∧ at_ = firstF m life + i := ⟨at_ - firstF m life, by omega, by omega⟩
/-- What writing a text's pages brings about. -/
theorem wrote (hU : Up n m D) (hs : neededF text.size k ≤ m / 2) (hm : m ≤ 1024) (hkn : k ≤ n) (hn : n ≤ 12) (l0 : List Placed) (hin0 : ∀ x ∈ l0, x.disk < n ∧ x.at_ < m) (hok0 : ∀ x ∈ l0, x.Ok) :
    allF n m D (l0 ++ imageF n m text life k) = (putAll D (l0 ++ imageF n m text life k), 0) ∧ Up n m (putAll D (l0 ++ imageF n m text life k)) ∧ (putAll D (l0 ++ imageF n m text life k)).falls = D.falls ∧ Holds n m (putAll D (l0 ++ imageF n m text life k)) text life k ∧
      ∀ disk at_, disk < n → at_ < m → ¬ (firstF m life ≤ at_ ∧ at_ < firstF m life + neededF text.size k) → pageAt (putAll D (l0 ++ imageF n m text life k)) disk at_ = lastP l0 disk at_ (pageAt D disk at_) := by
  have hin : ∀ x ∈ l0 ++ imageF n m text life k, x.disk < n ∧ x.at_ < m := fun x hx => (List.mem_append.1 hx).elim (hin0 x) (imageF_in hs x)
  have hok : ∀ x ∈ l0 ++ imageF n m text life k, x.Ok := fun x hx => (List.mem_append.1 hx).elim (hok0 x) (image_ok hs hm hkn hn x)
  have hp := putAll_up (l0 ++ imageF n m text life k) D hU hin
  refine ⟨allF_up _ D hU hin hok, hp.1, hp.2, fun disk i hd hi => ?_, fun disk at_ hd ha hno => ?_⟩
  · rw [pageAt_putAll hd (firstF_in hi hs) _ D hU hin hok, lastP_app, lastP_image _ hd hi]
  · rw [pageAt_putAll hd ha _ D hU hin hok, lastP_app, lastP_else _ hno]
theorem newDS_up (n m : Nat) : Up n m (newDS n m) := ⟨by simp [newDS], fun l hl => by rw [(List.mem_replicate.1 (show l ∈ List.replicate n (List.replicate (64 * m) (0 : Int)) from hl)).2]; simp, rfl, rfl⟩
theorem make_held (hU : Up n m D) (hm2 : 2 ≤ m) (hm : m ≤ 1024) (hk : 1 ≤ k) (hkn : k ≤ n) (hn : n ≤ 12) :
    ∃ D', makeF n m D (k : Int) = (some ⟨D.falls, ⟨#[]⟩, 1, k⟩, 0, D') ∧ Up n m D' ∧ D'.falls = D.falls ∧ Holds n m D' ⟨#[]⟩ 1 k ∧ Newest n m D' ⟨#[]⟩ 1 k := by
  have hs : neededF (ByteArray.size ⟨#[]⟩) k ≤ m / 2 := by
    have e : ByteArray.size ⟨#[]⟩ = 0 := rfl
    rw [e]
    exact room_needed hk hm2 (Nat.zero_le _)
  obtain ⟨T, hT⟩ : ∃ T : ByteArray, T = ⟨#[]⟩ := ⟨_, rfl⟩
  have hin0 : ∀ x ∈ zerosL n m, x.disk < n ∧ x.at_ < m := fun x hx => by
    unfold zerosL at hx
    obtain ⟨d2, h2, hx2⟩ := List.mem_flatMap.1 hx
    obtain ⟨a2, h3, rfl⟩ := List.mem_map.1 hx2
    exact ⟨List.mem_range.1 h2, List.mem_range.1 h3⟩
  have hok0 : ∀ x ∈ zerosL n m, x.Ok := fun x hx => by
    have hx0 := hin0 x hx
    unfold zerosL at hx
    obtain ⟨d2, h2, hx2⟩ := List.mem_flatMap.1 hx
    obtain ⟨a2, h3, rfl⟩ := List.mem_map.1 hx2
    have h4 := List.mem_range.1 h2
    have h5 := List.mem_range.1 h3
    exact zeroP_ok (by omega) (by omega)
  rw [← hT] at hs ⊢
  obtain ⟨w1, w2, w3, w4, w5⟩ := wrote (life := 1) (text := T) hU hs hm hkn hn (zerosL n m) hin0 hok0
  obtain ⟨D', hD'⟩ : ∃ D', D' = putAll D (zerosL n m ++ imageF n m T 1 k) := ⟨_, rfl⟩
  rw [← hD'] at w1 w2 w3 w4 w5
  refine ⟨D', ?_, w2, w3, w4, fun disk at_ x hd ha hx => ?_⟩
  · unfold makeF
    rw [if_neg (by omega), hU.down, if_neg (by simp), Int.toNat_natCast]
    have e : makeL n m k = zerosL n m ++ imageF n m T 1 k := by rw [hT]; rfl
    rw [e, w1, if_pos rfl, w3, hT]
  · by_cases hr : firstF m 1 ≤ at_ ∧ at_ < firstF m 1 + neededF T.size k
    · obtain ⟨i, hi, rfl⟩ := image_here (disk := disk) hr
      rw [sound_held w4 (by omega) (by omega) hs hm hk hkn hn hd hi] at hx
      injection hx with hx
      subst hx
      exact ⟨Nat.le_refl _, fun _ => rfl⟩
    · have hz := w5 disk at_ hd ha hr
      rw [lastP_zeros _ hd ha] at hz
      rw [zero_unsound hz] at hx
      cases hx
theorem next_held (hN : Newest n m D text life k) : nextF D n m life = life + 1 := by
  have hmax : life = lifeMax D n m life := lifeMax_unique (Nat.le_refl _) (fun x hx => by
    obtain ⟨disk, at_, h1, h2, h3⟩ := (foundTo_ne D n m x n).1 hx
    exact (hN disk at_ x h1 h2 h3).1) (Or.inl rfl)
  unfold nextF
  rw [← hmax, if_neg (by omega)]
theorem save_held (hU : Up n m D) (hN : Newest n m D text life k) (hm2 : 2 ≤ m) (hm : m ≤ 1024) (hk : 1 ≤ k) (hkn : k ≤ n) (hn : n ≤ 12) (hl : life < 1099511627776) {s : ByteArray} (hs : s.size ≤ roomF m k) :
    ∃ D', saveF n m D ⟨D.falls, text, life, k⟩ s = (0, D', ⟨D.falls, s, life + 1, k⟩) ∧ Up n m D' ∧ D'.falls = D.falls ∧ Holds n m D' s (life + 1) k ∧ Newest n m D' s (life + 1) k := by
  have hst := room_needed hk hm2 hs
  obtain ⟨w1, w2, w3, w4, w5⟩ := wrote (life := life + 1) (text := s) hU hst hm hkn hn [] (fun x hx => by cases hx) (fun x hx => by cases hx)
  rw [List.nil_append] at w1 w2 w3 w4 w5
  obtain ⟨D', hD'⟩ : ∃ D', D' = putAll D (imageF n m s (life + 1) k) := ⟨_, rfl⟩
  rw [← hD'] at w1 w2 w3 w4 w5
  refine ⟨D', ?_, w2, w3, w4, fun disk at_ x hd ha hx => ?_⟩
  · have hd : downF D ⟨D.falls, text, life, k⟩ = false := by unfold downF; rw [hU.down]; simp
    unfold saveF
    rw [hd, if_neg (by simp)]
    simp only []
    rw [if_neg (by omega), next_held hN, if_neg (by omega), w1, if_pos rfl]
  · by_cases hr : firstF m (life + 1) ≤ at_ ∧ at_ < firstF m (life + 1) + neededF s.size k
    · obtain ⟨i, hi, rfl⟩ := image_here (disk := disk) hr
      rw [sound_held w4 (by omega) (by omega) hst hm hk hkn hn hd hi] at hx
      injection hx with hx
      subst hx
      exact ⟨Nat.le_refl _, fun _ => rfl⟩
    · have hz := w5 disk at_ hd ha hr
      rw [soundK_page (E := D) hz] at hx
      have := (hN disk at_ x hd ha hx).1
      exact ⟨by omega, fun e => by omega⟩
theorem save_limit (hU : Up n m D) {s : ByteArray} (hs : roomF m k < s.size) : saveF n m D ⟨D.falls, text, life, k⟩ s = (2, D, ⟨D.falls, text, life, k⟩) := by
  have hd : downF D ⟨D.falls, text, life, k⟩ = false := by unfold downF; rw [hU.down]; simp
  unfold saveF
  rw [hd, if_neg (by simp)]
  simp only []
  rw [if_pos hs]
end
end Go.Proofs.YtkdjibejnncmfaaGreatDoor.Co
