/- MachineNil: the program's types lie as they should. -/
import Derived.Test.YtdnlfkmfofckfaaGreatDoorJname
import Derived.Test.YtdnlfkmfofckfaaGreatDoorEvZg
import Derived.Stop.Joined
namespace Go.Proofs.YtdnlfkmfofckfaaGreatDoor
open Go Go.Proofs.YtdnlfkmfofckfaaGreatDoor.Ev
set_option maxRecDepth 100000
theorem lo0 : (List.range 100).all (fun i => rowFine Tryz.prog (0 + i)) = true := by kernel_rfl
theorem lo1 : (List.range 100).all (fun i => rowFine Tryz.prog (100 + i)) = true := by kernel_rfl
theorem lo2 : (List.range 100).all (fun i => rowFine Tryz.prog (200 + i)) = true := by kernel_rfl
theorem lo3 : (List.range 100).all (fun i => rowFine Tryz.prog (300 + i)) = true := by kernel_rfl
theorem lo4 : (List.range 100).all (fun i => rowFine Tryz.prog (400 + i)) = true := by kernel_rfl
theorem lo5 : (List.range 100).all (fun i => rowFine Tryz.prog (500 + i)) = true := by kernel_rfl
theorem lo6 : (List.range 100).all (fun i => rowFine Tryz.prog (600 + i)) = true := by kernel_rfl
theorem lo7 : (List.range 55).all (fun i => rowFine Tryz.prog (700 + i)) = true := by kernel_rfl
theorem lo0' : (List.range 100).all (rowFine Tryz.prog) = true := by
  have h := lo0
  simp only [Nat.zero_add] at h
  exact h
theorem lo1' : (List.range 200).all (rowFine Tryz.prog) = true := all_parts (p := rowFine Tryz.prog) (k := 100) (n := 100) lo0' lo1
theorem lo2' : (List.range 300).all (rowFine Tryz.prog) = true := all_parts (p := rowFine Tryz.prog) (k := 200) (n := 100) lo1' lo2
theorem lo3' : (List.range 400).all (rowFine Tryz.prog) = true := all_parts (p := rowFine Tryz.prog) (k := 300) (n := 100) lo2' lo3
theorem lo4' : (List.range 500).all (rowFine Tryz.prog) = true := all_parts (p := rowFine Tryz.prog) (k := 400) (n := 100) lo3' lo4
theorem lo5' : (List.range 600).all (rowFine Tryz.prog) = true := all_parts (p := rowFine Tryz.prog) (k := 500) (n := 100) lo4' lo5
theorem lo6' : (List.range 700).all (rowFine Tryz.prog) = true := all_parts (p := rowFine Tryz.prog) (k := 600) (n := 100) lo5' lo6
theorem lo7' : (List.range 755).all (rowFine Tryz.prog) = true := all_parts (p := rowFine Tryz.prog) (k := 700) (n := 55) lo6' lo7
theorem loSize : Tryz.prog.types.size = 755 := by kernel_rfl
theorem loG : Tryz.prog.globals.all (fun g => decide (g.type < Tryz.prog.types.size)) = true := by kernel_rfl
theorem loF : Tryz.prog.funcs.all (fun f => f.params.all fun t => decide (t < Tryz.prog.types.size)) = true := by kernel_rfl
theorem j02 : laidOutB Tryz.prog = true := by
  unfold laidOutB
  exact Bool.and_eq_true_iff.2 ⟨Bool.and_eq_true_iff.2 ⟨by rw [loSize]; exact lo7', loG⟩, loF⟩
end Go.Proofs.YtdnlfkmfofckfaaGreatDoor
