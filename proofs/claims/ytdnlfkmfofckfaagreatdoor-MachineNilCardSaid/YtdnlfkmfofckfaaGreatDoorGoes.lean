/- MachineNil: no text of the whole translation starts a goroutine. -/
import Derived.Test.YtdnlfkmfofckfaaGreatDoorCards
import Derived.SevenTiedAt
namespace Go.Proofs.YtdnlfkmfofckfaaGreatDoor
open Go
set_option maxRecDepth 100000
theorem fNamed : Tryz.prog.funcNamed "manystrand/manystrandlaw13.MachineNil" = some 3 := by kernel_rfl
theorem cAll : Tryz.prog.funcs.any Func.goes = false := by kernel_rfl
theorem cOne (g : Nat) : (Tryz.prog.funcs[g]?).any Func.goes = false := by
  cases h : Tryz.prog.funcs[g]? with
  | none => rfl
  | some fn =>
    cases q : fn.goes with
    | false => exact q
    | true =>
      have : Tryz.prog.funcs.any Func.goes = true := Array.any_eq_true.2 ⟨g, (Array.getElem?_eq_some_iff.1 h).1, by rw [(Array.getElem?_eq_some_iff.1 h).2]; exact q⟩
      rw [cAll] at this; exact nomatch this
theorem anyNot {α : Type} (l : List α) : (l.any fun _ => false) = false := by induction l with
  | nil => rfl
  | cons x l ih => exact ih
theorem cFrom : Tryz.prog.goes 3 = false := by
  unfold Program.goes
  rw [cAll, Bool.and_false, Bool.or_false, show (fun g : FuncId => (Tryz.prog.funcs[g]?).any Func.goes) = fun _ => false from funext cOne]
  exact anyNot _
theorem cFrom2 : Tryz.prog.goesFrom "manystrand/manystrandlaw13.MachineNil" = false := by
  unfold Program.goesFrom
  rw [fNamed, Option.any_some]
  exact cFrom
theorem goesBy_false (c : OpenClaim) (P : Program) (h1 : c.start = .entering) (h2 : P.goesFrom c.func = false) : false = c.goesBy P := by
  unfold OpenClaim.goesBy Program.goesAt
  rw [h1, h2]; rfl
theorem cGoes : false = Rows.machineNilRow.goesBy Tryz.pinned.checked.prog := goesBy_false _ _ rfl cFrom2
end Go.Proofs.YtdnlfkmfofckfaaGreatDoor
