/- MachineNil: the names of the row under short ones. -/
import Derived.Test.YtdnlfkmfofckfaaGreatDoorRows
namespace Go.Proofs.YtdnlfkmfofckfaaGreatDoor
open Go
abbrev jR := Rows.machineNilRow
abbrev jS := Rows.machineNilSpec
end Go.Proofs.YtdnlfkmfofckfaaGreatDoor
