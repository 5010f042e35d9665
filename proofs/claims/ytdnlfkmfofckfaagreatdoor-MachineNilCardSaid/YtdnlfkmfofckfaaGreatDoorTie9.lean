/- MachineNil: the row's tie. -/
import Derived.Test.YtdnlfkmfofckfaaGreatDoorTied
import Derived.Test.YtdnlfkmfofckfaaGreatDoorLaid
namespace Go.Proofs.YtdnlfkmfofckfaaGreatDoor
open Go
set_option maxRecDepth 100000
theorem tieT : Tryz.prog.laidByTextLater laidT kindsT true := Program.laidByTextLater_of_run 801 400 8 tW tW' tRoot tKinds tId tNamed tDone tRun1 tRun2 tPlain
theorem rowTie : Rows.machineNilRow.laidByTextAt .later Tryz.pinned [.data, .data, .data, .pinned, .data, .pinned, .pinned, .pinned, .pinned, .pinned, .sentinel, .sentinel, .pinned] true :=
  OpenClaim.laidByTextAt_pinned rfl rfl tieT rfl rfl rfl rfl (fun y hy _e => by
    simp only [Rows.machineNilRow, List.zip_cons_cons, List.zip_nil_right, List.mem_cons, List.mem_nil_iff, or_false] at hy
    rcases hy with rfl | rfl | rfl | rfl | rfl | rfl | rfl | rfl | rfl | rfl | rfl | rfl | rfl
    · cases _e
    · cases _e
    · cases _e
    · exact ⟨pin_unicode_utf8_first, by kernel_rfl⟩
    · cases _e
    · exact ⟨pin_strconv_isPrint16, by kernel_rfl⟩
    · exact ⟨pin_strconv_isNotPrint16, by kernel_rfl⟩
    · exact ⟨pin_strconv_isPrint32, by kernel_rfl⟩
    · exact ⟨pin_strconv_isNotPrint32, by kernel_rfl⟩
    · exact ⟨pin_strconv_isGraphic, by kernel_rfl⟩
    · cases _e
    · cases _e
    · exact ⟨pin_unicode_CaseRanges, by kernel_rfl⟩) fitsT
end Go.Proofs.YtdnlfkmfofckfaaGreatDoor
