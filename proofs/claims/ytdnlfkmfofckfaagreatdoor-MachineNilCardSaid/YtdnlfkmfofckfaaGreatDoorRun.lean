/- MachineNil: the run of the law's code, from an empty heap of the evaluator, with an argument of which nothing is known, answers true. -/
import Derived.Test.YtdnlfkmfofckfaaGreatDoorProg
import Derived.Test.YtdnlfkmfofckfaaGreatDoorLow
import Derived.Test.YtdnlfkmfofckfaaGreatDoorEvZe
namespace Go.Proofs.YtdnlfkmfofckfaaGreatDoor
open Go.Proofs.YtdnlfkmfofckfaaGreatDoor.Ev
theorem mixed : Tryz.prog.follows .mixedOrders = true := by kernel_rfl
theorem rowCount : RowIs Tryz.prog 542 Extern.BytealgCount.count := ⟨_, Tryz.func542, by kernel_rfl, by kernel_rfl, by kernel_rfl, by kernel_rfl⟩
theorem rowIndex : RowIs Tryz.prog 707 Extern.BytealgIndexByte.indexByte := ⟨_, Tryz.func707, by kernel_rfl, by kernel_rfl, by kernel_rfl, by kernel_rfl⟩
theorem bodied : Bodied Tryz.prog 566 := ⟨_, Tryz.func566, by kernel_rfl, by kernel_rfl⟩
noncomputable def orc : Cal := told 566 toLow noC
theorem orc_ok : FunOk Tryz.prog 14 orc := told_ok bodied (toLow_ok fun s w hs ha => Tryz.strings_ToLower_ascii s w hs ha) none_ok
noncomputable def run : Cal := runF Tryz.prog 14 20000 (rowB 542 707) orc 99
theorem run_ok : FunOk Tryz.prog 14 run := runF_ok (rowB_ok rowCount rowIndex) orc_ok mixed
theorem run_yes : yes (run 3 [.u] ⟨14, .e⟩) = true := by kernel_rfl
theorem walk (a0 : Int) (w : World) : Calls Tryz.prog 3 #[.int .i64 a0] w fun e w' => e = .returned (.bool true) ∧ Stays w w' :=
  calls_true (args := [.u]) (vs := [.int .i64 a0]) run_ok run_yes (fun _ => ⟨_, [], rfl, rfl, rfl⟩) w
end Go.Proofs.YtdnlfkmfofckfaaGreatDoor
