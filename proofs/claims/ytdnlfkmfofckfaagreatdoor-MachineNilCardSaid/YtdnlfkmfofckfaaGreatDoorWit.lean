/- MachineNil: a world in which the law's row can begin. -/
import Derived.Test.YtdnlfkmfofckfaaGreatDoorRows
import Derived.Test.YtdnlfkmfofckfaaGreatDoorEvZf
import Derived.ProofKit
import Derived.OpenShut
import Derived.LaidMore
import Derived.Lay
import Derived.Stop.Joined
namespace Go.Proofs.YtdnlfkmfofckfaaGreatDoor
open Go.ChangeShapes Go.WideShapes Go.ChangeAt Go.RowKit Go.Proofs.YtdnlfkmfofckfaaGreatDoor.Ev

abbrev laidM := Rows.machineNilRow.laid
def strOf : DataW Unit → List UInt8
  | .iface _ (.ptr (.agg [.lit (.string bs)])) => bs
  | _ => []
noncomputable def errAt (d : DataW Unit) (n : Nat) : List Value × List Obj := ([.iface 730 (.pointer (some ⟨n, 0, none⟩))], [.cells #[.string ⟨(strOf d).toArray⟩] 732])
noncomputable def ovM (s : String) : Option (Nat → List Value × List Obj) :=
  if s = "strconv.ErrSyntax" then some (errAt Rows.laid_strconv_ErrSyntax) else if s = "strconv.ErrRange" then some (errAt Rows.laid_strconv_ErrRange) else none
set_option maxRecDepth 100000
theorem eFind : ((List.range Tryz.prog.types.size).find? fun u => Tryz.prog.typeName? 3 u == some "*errors.errorString") = some 730 :=
  findName (s' := "errors.errorString") (d := 2) (of_decide_eq_true (by kernel_rfl)) (by kernel_rfl) (by kernel_rfl)
theorem eIface (d : DataW Unit) (x : List Value × List Obj) (n : Nat) (h : d.lay Tryz.prog 730 n = some ([.pointer (some ⟨n, 0, none⟩)], x.2)) (hx : x = ([.iface 730 (.pointer (some ⟨n, 0, none⟩))], x.2)) :
    (DataW.iface "*errors.errorString" d).lay Tryz.prog 249 n = some x := by
  unfold DataW.lay
  rw [Tryz.underlying249, eFind]
  dsimp only
  rw [h]
  dsimp only
  rw [hx, show Lay.pack Tryz.prog 730 [.pointer (some ⟨n, 0, none⟩)] = some (.pointer (some ⟨n, 0, none⟩)) by kernel_rfl]
theorem eLay0 (n : Nat) : Rows.laid_strconv_ErrSyntax.lay Tryz.prog 249 n = some (errAt Rows.laid_strconv_ErrSyntax n) := eIface _ _ n (by kernel_rfl) (by kernel_rfl)
theorem eGlob0 : (Tryz.prog.globalNamed "strconv.ErrSyntax").bind (fun g => Tryz.prog.globals[g]?.map (·.type)) = some 249 := by kernel_rfl
theorem eLay1 (n : Nat) : Rows.laid_strconv_ErrRange.lay Tryz.prog 249 n = some (errAt Rows.laid_strconv_ErrRange n) := eIface _ _ n (by kernel_rfl) (by kernel_rfl)
theorem eGlob1 : (Tryz.prog.globalNamed "strconv.ErrRange").bind (fun g => Tryz.prog.globals[g]?.map (·.type)) = some 249 := by kernel_rfl
theorem layM (n : Nat) : Lay.layList Tryz.prog n laidM = layQ ovM Tryz.prog n laidM := by
  refine layQ_eq laidM (fun x hx f hf g gl hg hgl n => ?_) n
  have h2 : x = ("strconv.ErrSyntax", Rows.laid_strconv_ErrSyntax) ∨ x = ("strconv.ErrRange", Rows.laid_strconv_ErrRange) ∨ (x.1 ≠ "strconv.ErrSyntax" ∧ x.1 ≠ "strconv.ErrRange") := by
    simp only [laidM, Rows.machineNilRow, List.mem_cons, List.mem_nil_iff, or_false] at hx
    rcases hx with rfl | rfl | rfl | rfl | rfl | rfl | rfl | rfl | rfl | rfl | rfl | rfl | rfl <;> first | exact .inl rfl | exact .inr (.inl rfl) | exact .inr (.inr (⟨by decide, by decide⟩))
  rcases h2 with rfl | rfl | ⟨k0, k1⟩
  · have : f = errAt Rows.laid_strconv_ErrSyntax := by
      have e : ovM "strconv.ErrSyntax" = some (errAt Rows.laid_strconv_ErrSyntax) := by unfold ovM; rw [if_pos rfl]
      exact (Option.some.inj (e.symm.trans hf)).symm
    subst this
    have e := eGlob0
    rw [show Tryz.prog.globalNamed "strconv.ErrSyntax" = some g from hg] at e
    simp only [Option.bind_some, hgl, Option.map_some, Option.some.injEq] at e
    rw [e]; exact eLay0 n
  · have : f = errAt Rows.laid_strconv_ErrRange := by
      have e : ovM "strconv.ErrRange" = some (errAt Rows.laid_strconv_ErrRange) := by unfold ovM; rw [if_neg (by decide), if_pos rfl]
      exact (Option.some.inj (e.symm.trans hf)).symm
    subst this
    have e := eGlob1
    rw [show Tryz.prog.globalNamed "strconv.ErrRange" = some g from hg] at e
    simp only [Option.bind_some, hgl, Option.map_some, Option.some.injEq] at e
    rw [e]; exact eLay1 n
  · unfold ovM at hf
    rw [if_neg k0, if_neg k1] at hf
    exact nomatch hf

noncomputable abbrev wQ (os : Os) : World := laidQ ovM Tryz.prog os laidM
theorem wIs (os : Os) : World.laidAll Tryz.prog os laidM = wQ os := laidQ_eq layM os
abbrev in0 : Input := ⟨#[], #[.int .i64 0], []⟩
noncomputable abbrev wC (os : Os) : World := (wQ os).forCall (fun _ _ => 0) in0
theorem noInit : Tryz.prog.inits.idxOf? 3 = none := by kernel_rfl
theorem wZip (os : Os) : (wC os).variablesZipB Tryz.prog = true := by kernel_rfl
theorem wRest (os : Os) : ((wC os).heap.toList.drop Tryz.prog.globals.size).take ((begin Tryz.prog (fun _ _ => 0) default).world.heap.size - Tryz.prog.globals.size) =
      (begin Tryz.prog (fun _ _ => 0) default).world.heap.toList.drop Tryz.prog.globals.size := by kernel_rfl
theorem wOk (os : Os) : Input.okWideB Tryz.prog (wC os) 3 in0 = true := by kernel_rfl
theorem wPre (os : Os) (H : Type) (enc : TypeId × Value → H) : Rows.machineNilSpec.preB enc Tryz.prog Tryz.f3 Rows.machineNilRow.domain false (wC os).memory #[.int .i64 0] 8 = true := by kernel_rfl
theorem wSize (os : Os) (H : Type) (enc : TypeId × Value → H) : Rows.machineNilSpec.sizedB enc Tryz.prog Tryz.f3 false (wC os).memory #[.int .i64 0] 8 = true := by kernel_rfl
theorem wFits (os : Os) : (World.holding Tryz.prog os ⟨#[], #[], []⟩).layFits Tryz.prog laidM [] = true := by
  rw [fitsQ_eq layM]; kernel_rfl
theorem wIfaces (os : Os) : (World.holding Tryz.prog os ⟨#[], #[], []⟩).layIfaces Tryz.prog laidM (World.laidAll Tryz.prog os laidM) = true := by
  rw [ifacesQ_eq layM, wIs]; kernel_rfl
theorem wPlain : (laidM.all fun x => x.2.handleName?.isNone) = true := by kernel_rfl
theorem wMet (os : Os) : laidMetH Tryz.prog laidM (wC os).memory := by
  rw [MakeChecks.laidMetH_plain _ _ _ wPlain]
  have h := laidMet_laidAll (P := Tryz.prog) (os := os) (laid := laidM) #[.int .i64 0] (wFits os) (wIfaces os)
  rw [wIs] at h
  exact h
theorem witness (os : Os) (H : Type) (enc : TypeId × Value → H) :
    ∃ (w : World) (tape : Tape) (i : Input), w.os = os ∧ (w.forCall tape i).Shaped Tryz.prog ∧ i.vars = [] ∧ Input.okWide Tryz.prog (w.forCall tape i) .any w.heap.size 3 i ∧
      ((Rows.machineNilSpec.pre enc Tryz.prog Tryz.f3 Rows.machineNilRow.domain false (w.forCall tape i).memory i.args ∧ laidMetH Tryz.prog laidM (w.forCall tape i).memory) ∧ sizedMet enc Tryz.prog Tryz.f3 (OpenSpec.ofChange Rows.machineNilSpec) false (w.forCall tape i).memory i.args) ∧
      ({} : Assume).holds Tryz.prog (lone (Frame.enter Tryz.prog 3 i.args .normal) [] (w.forCall tape i)) :=
  ChangeSpec.witness_shaped (enc := enc) (C := Tryz.checked) (os := os) (X := fun w _ => laidMetH Tryz.prog laidM w) false (wQ os) #[.int .i64 0] 8 (by rw [← wIs]; exact World.laidAll_os _ _ _)
      (World.shaped_of_ZipB (wZip os) (wRest os)) (wOk os) (wPre os H enc) (wSize os H enc) (wMet os)
end Go.Proofs.YtdnlfkmfofckfaaGreatDoor
