/- Functions without a body: counting a byte, finding a byte. -/
import Derived.Test.YtdnlfkmfofckfaaGreatDoorEvZb
import Derived.Lib.Bytealg
namespace Go.Proofs.YtdnlfkmfofckfaaGreatDoor.Ev
variable {P : Program}

noncomputable def cntL (c : Nat) (l : List Nat) : Nat := List.rec (motive := fun _ => Nat) 0 (fun x _ ih => Bool.rec (motive := fun _ => Nat) ih (Nat.add ih 1) (Nat.beq x c)) l
noncomputable def fstL (c : Nat) (l : List Nat) : Option Nat := List.rec (motive := fun _ => Option Nat) none (fun x _ ih => Bool.rec (motive := fun _ => Option Nat) (onO ih fun n => some (Nat.add n 1)) (some 0) (Nat.beq x c)) l

theorem beq_u8 (x : UInt8) (c : Nat) : Nat.beq x.toNat (Nat.mod c 256) = (x == c.toUInt8) := by
  rw [Bool.eq_iff_iff, beq_iff_eq]
  constructor
  · intro h
    have h := Nat.eq_of_beq_eq_true h
    apply UInt8.toNat_inj.1
    rw [h]; simp [UInt8.toNat_ofNat']; rfl
  · rintro rfl
    have : (c.toUInt8).toNat = Nat.mod c 256 := by simp [UInt8.toNat_ofNat']; rfl
    rw [this]; exact Nat.beq_refl _

theorem cntL_ok (c : Nat) : ∀ l : List UInt8, cntL (Nat.mod c 256) (l.map UInt8.toNat) = Lib.countByte l c.toUInt8
  | [] => rfl
  | x :: l => by
    have e : cntL (Nat.mod c 256) ((x :: l).map UInt8.toNat) = Bool.rec (motive := fun _ => Nat) (cntL (Nat.mod c 256) (l.map UInt8.toNat)) (Nat.add (cntL (Nat.mod c 256) (l.map UInt8.toNat)) 1) (Nat.beq x.toNat (Nat.mod c 256)) := rfl
    rw [e, cntL_ok c l, beq_u8]
    unfold Lib.countByte
    rw [List.count_cons]
    cases h : x == c.toUInt8 <;> simp

theorem fstL_ok (c : Nat) : ∀ l : List UInt8, Lib.indexByte l c.toUInt8 = (match fstL (Nat.mod c 256) (l.map UInt8.toNat) with | some n => (n : Int) | none => -1)
  | [] => rfl
  | x :: l => by
    have e : fstL (Nat.mod c 256) ((x :: l).map UInt8.toNat) = Bool.rec (motive := fun _ => Option Nat) (onO (fstL (Nat.mod c 256) (l.map UInt8.toNat)) fun n => some (Nat.add n 1)) (some 0) (Nat.beq x.toNat (Nat.mod c 256)) := rfl
    rw [e, beq_u8]
    unfold Lib.indexByte
    rw [fstL_ok c l]
    cases h : x == c.toUInt8
    · cases h2 : fstL (Nat.mod c 256) (l.map UInt8.toNat) with
      | none => rfl
      | some n =>
        have hne : ((n : Int) == -1) = false := by rw [beq_eq_false_iff_ne]; omega
        simp only [hne, Bool.false_eq_true, if_false]
        rfl
    · rfl

/-- That a function is one of the model's rows. -/
def RowIs (P : Program) (k : FuncId) (e : Array Value → Sem Value) : Prop :=
  ∃ fn, P.funcs[k]? = some fn ∧ (fn.name == "runtime.NumGoroutine") = false ∧ fn.body.isNone = true ∧ Extern.findNext fn = none ∧ Extern.find fn = some e

noncomputable def rowB (kc ki : FuncId) : Cal := fun f args H =>
  two args fun x y => V.onS x fun l => V.onI y fun k c => match k with
    | .u8 => ite2 (Nat.beq f kc) (some (.i .i64 (Int.ofNat (cntL (Nat.mod c.toNat 256) l)), H))
        (ite2 (Nat.beq f ki) (some (.i .i64 (Option.rec (motive := fun _ => Int) (-1) Int.ofNat (fstL (Nat.mod c.toNat 256) l)), H)) none)
    | _ => none

theorem rowB_ok {G : Nat} {kc ki : FuncId} (hc : RowIs P kc Extern.BytealgCount.count) (hi : RowIs P ki Extern.BytealgIndexByte.indexByte) : RowOk P G (rowB kc ki) := by
  intro f args H v H' h ρ vs w hg ha hr hf
  obtain ⟨x, y, rfl, h1⟩ := two_inv h
  obtain ⟨l, rfl, h2⟩ := V.onS_inv h1
  obtain ⟨k, c, rfl, h3⟩ := V.onI_inv h2
  obtain ⟨u, us, rfl, ⟨s, rfl, hs⟩, y', us', rfl, hy, hnil⟩ := ha
  have hnil : us' = [] := hnil
  subst hnil
  have hy : y' = .int k c := hy
  subst hy
  split at h3
  · have run : ∀ {e : Array Value → Sem Value} {z : Value}, RowIs P f e → (e #[.string s, .int .u8 c]).run P w = .ok z w → (callFunc f #[.string s, .int .u8 c]).run P w = .ok (.value z) w := by
      rintro e z ⟨fn, q1, q2, q3, q4, q5⟩ hz
      rw [run_callFunc_extern q1 q2 q3 q4 q5, hz]; rfl
    have hl : l = s.data.toList.map UInt8.toNat := hs.symm
    cases e1 : Nat.beq f kc
    · rw [e1, ite2_false] at h3
      cases e2 : Nat.beq f ki
      · rw [e2, ite2_false] at h3; exact nomatch h3
      · rw [e2, ite2_true] at h3
        injection h3 with h3; injection h3 with h3 h4; subst h3; subst h4
        have := Nat.eq_of_beq_eq_true e2; subst this
        refine ⟨_, w, ρ, run hi (Lib.run_indexByteString s c w), ?_, Step.refl _ hr⟩
        show (_ : Value) = _
        rw [fstL_ok, ← hl]
        cases fstL (Nat.mod c.toNat 256) l <;> rfl
    · rw [e1, ite2_true] at h3
      injection h3 with h3; injection h3 with h3 h4; subst h3; subst h4
      have := Nat.eq_of_beq_eq_true e1; subst this
      refine ⟨_, w, ρ, run hc (Lib.run_countString s c w), ?_, Step.refl _ hr⟩
      show (_ : Value) = _
      rw [← cntL_ok, ← hl]; rfl
  · exact nomatch h3

end Go.Proofs.YtdnlfkmfofckfaaGreatDoor.Ev
