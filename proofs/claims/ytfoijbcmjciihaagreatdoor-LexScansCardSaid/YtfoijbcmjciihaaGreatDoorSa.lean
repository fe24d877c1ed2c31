/- The chapter's examples: walked. -/
import Derived.Test.YtfoijbcmjciihaaGreatDoorJn
import Derived.Test.YtfoijbcmjciihaaGreatDoorY
import Derived.Test.YtfoijbcmjciihaaGreatDoorZ1
set_option linter.unusedSimpArgs false
set_option linter.unusedVariables false
namespace Go.Proofs.YtfoijbcmjciihaaGreatDoor
open Go.RowKit

def T1 : List LX.Tok := [⟨5, 0, [102, 117, 110], 0⟩, ⟨2, 0, [102], 4⟩, ⟨2, 0, [120], 6⟩, ⟨6, 0, [61], 7⟩, ⟨2, 0, [120], 8⟩, ⟨6, 0, [43], 9⟩, ⟨1, -1, [126, 49], 10⟩, ⟨6, 0, [59], 27⟩]
theorem up1 : LX.up 20000 (bts ⟨#[102, 117, 110, 32, 102, 32, 120, 61, 120, 43, 126, 49, 40, 42, 32, 97, 32, 40, 42, 32, 98, 32, 42, 41, 32, 42, 41, 59]⟩) = .ok T1 [(12, 27)] := by kernel_rfl
theorem up2 : LX.up 20000 (bts ⟨#[120, 39, 49, 32, 39, 97, 32, 120, 39, 97, 32, 40, 42, 41]⟩) = .bad 11 12 := by kernel_rfl
theorem up3 : LX.up 20000 (bts ⟨#[97, 32, 33]⟩) = .bad 2 11 := by kernel_rfl
theorem num4 : LX.num (bts ⟨#[126, 57, 50, 50, 51, 51, 55, 50, 48, 51, 54, 56, 53, 52, 55, 55, 53, 56, 48, 56]⟩) = some (-9223372036854775808) := by kernel_rfl
theorem up5 : LX.up 20000 (bts ⟨#[97, 40, 42, 10, 42, 41, 98]⟩) = .ok [⟨2, 0, [97], 0⟩, ⟨2, 0, [98], 6⟩] [(1, 6)] := by kernel_rfl
theorem strip5 : ofB (LX.stripT (bts ⟨#[97, 40, 42, 10, 42, 41, 98]⟩)) = ⟨#[97, 32, 32, 10, 32, 32, 98]⟩ := by kernel_rfl
theorem pos6 : LX.posP (bts ⟨#[97, 98, 10, 99]⟩) 4 = (2, 2) := by kernel_rfl
theorem at6 : LX.atP (bts ⟨#[97, 98, 10, 99]⟩) 2 2 = some 4 := by kernel_rfl
theorem join1 : joinB (T1.map tkv) = ⟨#[102, 117, 110, 32, 102, 32, 120, 32, 61, 32, 120, 32, 43, 32, 126, 49, 32, 59]⟩ := by kernel_rfl
theorem kindA : LX.kindOf (bts ⟨#[102, 39, 49]⟩) = 2 := by kernel_rfl
theorem kindB : LX.kindOf (bts ⟨#[105, 110]⟩) = 5 := by kernel_rfl
theorem kindC : LX.kindOf (bts ⟨#[102, 39]⟩) = 0 := by kernel_rfl
theorem plainD : LX.plainOf (bts ⟨#[102, 39, 49]⟩) = false := by kernel_rfl
theorem plainE : LX.plainOf (bts ⟨#[39, 97]⟩) = true := by kernel_rfl
theorem kindF : LX.kindOf (bts ⟨#[61, 62]⟩) = 6 := by kernel_rfl
theorem dig12 : digS (-12) = ⟨#[126, 49, 50]⟩ := by kernel_rfl
end Go.Proofs.YtfoijbcmjciihaaGreatDoor
