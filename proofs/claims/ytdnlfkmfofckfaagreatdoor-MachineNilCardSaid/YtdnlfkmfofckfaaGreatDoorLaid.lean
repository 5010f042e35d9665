/- MachineNil: what the start-up code leaves of what the row lists; the row's tie. -/
import Derived.Test.YtdnlfkmfofckfaaGreatDoorLists
import Derived.LaidByTextLater
import Derived.SevenTiedAt
namespace Go.Proofs.YtdnlfkmfofckfaaGreatDoor
open Go
set_option maxRecDepth 100000
theorem tDone (os : Os) (tape : Tape) : varsDone Tryz.prog 400 801 os tape = true := by kernel_rfl
theorem tRun1 (os : Os) (tape : Tape) : (DataW.laidRun Tryz.prog (varsWorld Tryz.prog 400 801 os tape).memory 8 (laidT.map (·.1))).map (·.1) = some laidT := by kernel_rfl
theorem tRun2 (os : Os) (tape : Tape) : (DataW.laidRun Tryz.prog (varsWorld Tryz.prog 400 801 os tape).memory 8 (laidT.map (·.1))).map (fun x => decide x.2.Nodup && laidRowsB Tryz.prog (varsWorld Tryz.prog 400 801 os tape).memory x.2) = some true := by kernel_rfl
theorem tPlain : (laidT.all fun x => x.2.handleName?.isNone) = true := by kernel_rfl
theorem pin_unicode_utf8_first : Tryz.pinned.checked.prog.pinnedFits "unicode/utf8.first" = true := by kernel_rfl
theorem pin_strconv_isPrint16 : Tryz.pinned.checked.prog.pinnedFits "strconv.isPrint16" = true := by kernel_rfl
theorem pin_strconv_isNotPrint16 : Tryz.pinned.checked.prog.pinnedFits "strconv.isNotPrint16" = true := by kernel_rfl
theorem pin_strconv_isPrint32 : Tryz.pinned.checked.prog.pinnedFits "strconv.isPrint32" = true := by kernel_rfl
theorem pin_strconv_isNotPrint32 : Tryz.pinned.checked.prog.pinnedFits "strconv.isNotPrint32" = true := by kernel_rfl
theorem pin_strconv_isGraphic : Tryz.pinned.checked.prog.pinnedFits "strconv.isGraphic" = true := by kernel_rfl
theorem pin_unicode_CaseRanges : Tryz.pinned.checked.prog.pinnedFits "unicode.CaseRanges" = true := by kernel_rfl
theorem notOwn : Tryz.pinned.checked.prog.headLifts.contains "ownunsafe" = false := by kernel_rfl
theorem fitsT : Tryz.pinned.checked.prog.listedFits Rows.machineNilRow.laid = true := by
  unfold Program.listedFits
  rw [notOwn]
  kernel_rfl
end Go.Proofs.YtdnlfkmfofckfaaGreatDoor
