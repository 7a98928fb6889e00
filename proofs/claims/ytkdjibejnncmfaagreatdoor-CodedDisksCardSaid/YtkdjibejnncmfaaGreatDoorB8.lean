/- Contracts of package coded, part 8. -/
import Derived.Test.YtkdjibejnncmfaaGreatDoorB7
/- What sane's calls answer: the values, by the kernel. -/
namespace Go.Proofs.YtkdjibejnncmfaaGreatDoor.Co
open Go.RowKit
set_option maxRecDepth 100000
def sD0 : DS := newDS 3 8
def sM1 : Option VS × Int × DS := makeF 3 8 sD0 2
def sV1 : VS := ⟨0, ⟨#[]⟩, 1, 2⟩
def sS2 : Int × DS × VS := saveF 3 8 sM1.2.2 sV1 ⟨#[97]⟩
def sV2 : VS := ⟨0, ⟨#[97]⟩, 2, 2⟩
def sL3 : DS × Int := loseF 3 8 sS2.2.1 1
def sW4 : List (Int × Int) × Int := WrongF 3 8 sL3.1 sV2
def sH5 : (Int × Int) × DS := healF 3 8 sL3.1 sV2
def sD6 : DS := armF sH5.2 2 63
def sS6 : Int × DS × VS := saveF 3 8 sD6 sV2 ⟨#[98]⟩
def sO7 : Option VS × Int × DS := openF 3 8 (restartF sS6.2.1)
theorem sane_vals : (sM1.1, sM1.2.1, sS2.1, sS2.2.2, sL3.2, sW4, sH5.1, sS6.1, sO7.2.1, sO7.1.map (fun v => (v.text, v.enough))) =
    (some sV1, 0, 0, sV2, 0, ([(1, 0)], 0), (1, 0), 91, 0, some (⟨#[97]⟩, 2)) := by kernel_rfl
theorem sane_falls : (sM1.2.2.falls, sS2.2.1.falls, sL3.1.falls, sH5.2.falls, sS6.2.1.falls) = (0, 0, 0, 0, 1) := by kernel_rfl
theorem sane_field : (mulN 2 128, mulN 3 7, divN 1 2, powN 2 8, lg 29) = (29, 9, 142, 29, 8) := by kernel_rfl
theorem sane_enc : encF [⟨#[1]⟩, ⟨#[2]⟩] 4 = ([⟨#[1]⟩, ⟨#[2]⟩, ⟨#[7]⟩, ⟨#[4]⟩], 0) := by kernel_rfl
theorem sane_dec : decF [2, 3] [⟨#[7]⟩, ⟨#[4]⟩] = ([⟨#[1]⟩, ⟨#[2]⟩], 0) := by kernel_rfl
theorem sane_rep : repF 2 [⟨#[1]⟩, ⟨#[2]⟩, ⟨#[7]⟩, ⟨#[5]⟩] = ([⟨#[1]⟩, ⟨#[2]⟩], 0) := by kernel_rfl
theorem sane_fits : FitsF 2 [0, 1, 2] [⟨#[1]⟩, ⟨#[2]⟩, ⟨#[6]⟩] = (false, 0) := by kernel_rfl
end Go.Proofs.YtkdjibejnncmfaaGreatDoor.Co
