/- MachineNil: the tie of what the row lists to the program's text, a fact at a time. -/
import Derived.Test.YtdnlfkmfofckfaaGreatDoorLists
import Derived.LaidByTextLater
import Derived.SevenTiedAt
namespace Go.Proofs.YtdnlfkmfofckfaaGreatDoor
open Go
set_option maxRecDepth 100000
theorem tW : Tryz.prog.worded (varsWordLater true) = true := by kernel_rfl
theorem tW' : Tryz.prog.worded (varsWordLater !true) = false := by kernel_rfl
theorem tRoot : Tryz.prog.worded rootWordLater = true := by kernel_rfl
theorem tKinds : laidT.map (fun x => Tryz.prog.kindOfLater x.1) = kindsT.map some := by kernel_rfl
theorem tId : Tryz.prog.funcNamed "gosem.cut.vars" = some 801 := by kernel_rfl
theorem tNamed : varsNamedLaterB Tryz.prog 801 laidT = true := by kernel_rfl
end Go.Proofs.YtdnlfkmfofckfaaGreatDoor
