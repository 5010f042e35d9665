/- MachineNil: the card's closed facts. -/
import Derived.Test.YtdnlfkmfofckfaaGreatDoorCards
import Derived.SevenTiedAt
namespace Go.Proofs.YtdnlfkmfofckfaaGreatDoor
open Go
set_option maxRecDepth 100000
theorem fInst : Tryz.f3.isInstance Tryz.prog Rows.machineNilRow.origin Rows.machineNilRow.targs := of_decide_eq_true (by kernel_rfl)
theorem fWrap : Tryz.f3.isWrapper Tryz.prog Rows.machineNilRow.wrapper Rows.machineNilRow.mainSum := by unfold Func.isWrapper; first | (rw [if_pos (by decide +kernel)]; kernel_rfl) | (rw [if_neg (by decide +kernel)]; exact ⟨rfl, rfl⟩)
theorem cText : Rows.machineNilRow.wfByText (OpenSpec.ofChange Rows.machineNilSpec) = true := by kernel_rfl
theorem cMain : Tryz.pinned.checked.prog.mainIs = some ((true, "59d774180f6c1d2c62aa8f17fc8d91c360d8c2904a5990bafd27f0f6245576e1").1, (true, "59d774180f6c1d2c62aa8f17fc8d91c360d8c2904a5990bafd27f0f6245576e1").2.toList) := by kernel_rfl
theorem cLooks : true = Tryz.pinned.checked.prog.looks [] := by kernel_rfl
theorem cWants : Tryz.prog.wantsStandIn 3 = false := by kernel_rfl
end Go.Proofs.YtdnlfkmfofckfaaGreatDoor
