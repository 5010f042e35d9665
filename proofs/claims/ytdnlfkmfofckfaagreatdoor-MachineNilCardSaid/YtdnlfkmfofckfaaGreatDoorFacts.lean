/- MachineNil: the row's closed facts. -/
import Derived.Test.YtdnlfkmfofckfaaGreatDoorJname
import Derived.Stop.Joined
namespace Go.Proofs.YtdnlfkmfofckfaaGreatDoor
open Go
set_option maxRecDepth 100000
theorem j01 : jR.wf (OpenSpec.ofChange jS) = true := by kernel_rfl
theorem j03 : mapsRowed Tryz.prog = true := by kernel_rfl
theorem j04 : Tryz.f3.params.all (Tryz.prog.readableRec ·) = true := by kernel_rfl
theorem j05 : namedTie Tryz.prog jR.named jS.vars = true := by kernel_rfl
theorem j06 : (jR.stops == []) = true := by kernel_rfl
theorem j07 : (Tryz.prog.stops == []) = true := by kernel_rfl
theorem j08 : (jR.knobs == []) = true := by kernel_rfl
theorem j09 : (Tryz.prog.stopKnobs == []) = true := by kernel_rfl
theorem j14 : (jR.maps == (Tryz.f3.params.toList ++ jS.plain.varTypes Tryz.prog).any (Tryz.prog.mapsRec ·)) = true := by kernel_rfl
theorem j15 : (jR.ifaces == (Tryz.f3.params.toList ++ jS.plain.varTypes Tryz.prog).any (Tryz.prog.ifacesRec ·)) = true := by kernel_rfl
theorem j16 : (jR.mapsOut == Tryz.prog.mapsAmong Tryz.f3.resultTypes.toList) = true := by kernel_rfl
theorem j17 : (jR.loops == (Tryz.f3.params.toList ++ jS.plain.varTypes Tryz.prog).any (Tryz.prog.loopsFrom ·)) = true := by kernel_rfl
theorem j18 : (jR.wideKeys == (Tryz.f3.params.toList ++ jS.plain.varTypes Tryz.prog ++ Tryz.f3.resultTypes.toList).any (Tryz.prog.wideKeysFrom ·)) = true := by kernel_rfl
theorem j19 : jS.vars.all (Tryz.prog.varReadable ·) = true := by kernel_rfl
theorem j20 : Tryz.f3.resultTypes.all (fun t => Tryz.prog.readableRec t && decide (t < Tryz.prog.types.size)) = true := by kernel_rfl
theorem j21 : (jR.ifacesOut == Tryz.f3.resultTypes.toList.any (Tryz.prog.ifacesRec ·)) = true := by kernel_rfl
theorem j22 : (jR.loopsOut == Tryz.f3.resultTypes.toList.any (Tryz.prog.loopsFrom ·)) = true := by kernel_rfl
theorem j23 : (jR.plainKeys == Tryz.prog.plainKeys) = true := by kernel_rfl
theorem j24 : jR.shortTexts.isNone = true := by kernel_rfl
theorem j25 : Tryz.prog.stopsHeard = true := by kernel_rfl
theorem j26 : Tryz.prog.mayEnter = true := by kernel_rfl
theorem j27 : (jR.lifted == Tryz.prog.liftsFinal) = true := by kernel_rfl
theorem j28 : (Tryz.prog.make == some jR.make) = true := by kernel_rfl
theorem j29 : (jR.kinds == (if jR.domain.isEmpty then [] else Tryz.f3.params.toList.map fun t => match Tryz.prog.underlying t with | some (.int k) => some k | _ => none)) = true := by kernel_rfl
theorem j30 : (jR.pinned == jR.pinnedBy) = true := by kernel_rfl
theorem j31 : (jR.veiled == (Tryz.f3.params.toList ++ jS.plain.varTypes Tryz.prog ++ Tryz.f3.resultTypes.toList).any (Tryz.prog.veiledRec ·)) = true := by kernel_rfl
theorem j32 : jR.veiledFits Tryz.prog Tryz.f3.params.toList (Tryz.f3.params.toList ++ jS.plain.varTypes Tryz.prog ++ Tryz.f3.resultTypes.toList) = true := by kernel_rfl
end Go.Proofs.YtdnlfkmfofckfaaGreatDoor
