/- The witness's world, where some variables' data are laid by a table of ready answers. -/
import Derived.Test.YtdnlfkmfofckfaaGreatDoorEvZe
import Derived.Lay
import Derived.LaidMore
namespace Go.Proofs.YtdnlfkmfofckfaaGreatDoor.Ev
variable {P : Program}

/-- 'Lay.layList', with ready answers for some names. -/
noncomputable def layQ (ov : String → Option (Nat → List Value × List Obj)) (P : Program) (n : Nat) : List (String × DataW Unit) → Option (List (Nat × List Value) × List Obj)
  | [] => some ([], [])
  | x :: r => match P.globalNamed x.1 with
    | some g => match P.globals[g]? with
      | some gl => match (match ov x.1 with | some f => some (f n) | none => x.2.lay P gl.type n) with
        | some y => match layQ ov P (n + y.2.length) r with
          | some z => some ((g, y.1) :: z.1, y.2 ++ z.2)
          | none => none
        | none => none
      | none => none
    | none => none

theorem layQ_eq {ov : String → Option (Nat → List Value × List Obj)} : ∀ (l : List (String × DataW Unit)) (_ : ∀ x ∈ l, ∀ f, ov x.1 = some f → ∀ g gl, P.globalNamed x.1 = some g → P.globals[g]? = some gl → ∀ n, x.2.lay P gl.type n = some (f n)) (n : Nat),
    Lay.layList P n l = layQ ov P n l
  | [], _, _ => rfl
  | x :: r, h, n => by
    have ih := fun n => layQ_eq r (fun y hy => h y (List.mem_cons_of_mem _ hy)) n
    have e : ∀ g gl, P.globalNamed x.1 = some g → P.globals[g]? = some gl → x.2.lay P gl.type n = (match ov x.1 with | some f => some (f n) | none => x.2.lay P gl.type n) := fun g gl hg hgl => by
      cases ho : ov x.1 with
      | none => rfl
      | some f => exact h x List.mem_cons_self f ho g gl hg hgl n
    unfold Lay.layList layQ
    cases hg : P.globalNamed x.1 with
    | none => simp only
    | some g =>
      cases hgl : P.globals[g]? with
      | none => simp only [hgl]
      | some gl =>
        simp only [hgl]
        rw [e g gl hg hgl]
        cases ho : ov x.1 with
        | none =>
          cases hy : x.2.lay P gl.type n with
          | none => simp only
          | some y =>
            simp only [ih]
            cases layQ ov P (n + y.2.length) r <;> rfl
        | some f =>
          simp only [ih]
          cases layQ ov P (n + (f n).2.length) r <;> rfl

/-- 'World.laidAll' by 'layQ'. -/
noncomputable def laidQ (ov : String → Option (Nat → List Value × List Obj)) (P : Program) (os : Os) (l : List (String × DataW Unit)) : World :=
  match layQ ov P (World.holding P os ⟨#[], #[], []⟩).heap.size l with
  | some y => { World.holding P os ⟨#[], #[], []⟩ with heap := ⟨Lay.setRows (World.holding P os ⟨#[], #[], []⟩).heap.toList y.1 ++ y.2⟩ }
  | none => World.holding P os ⟨#[], #[], []⟩
noncomputable def fitsQ (ov : String → Option (Nat → List Value × List Obj)) (P : Program) (w : World) (l : List (String × DataW Unit)) (B : List Nat) : Bool :=
  match layQ ov P w.heap.size l with
  | some y => decide (y.1.map (·.1)).Nodup && (y.1.all fun r => Lay.isRow w.heap.toList[r.1]? && !B.contains r.1) && B.all (· < w.heap.size)
  | none => false
noncomputable def ifacesQ (ov : String → Option (Nat → List Value × List Obj)) (P : Program) (w : World) (l : List (String × DataW Unit)) (w' : World) : Bool :=
  match layQ ov P w.heap.size l with
  | some y => (y.1.all fun r => r.2.all (Lay.okV P w')) && y.2.all (Lay.okO P w')
  | none => false

theorem laidQ_eq {ov : String → Option (Nat → List Value × List Obj)} {l : List (String × DataW Unit)} (h : ∀ n, Lay.layList P n l = layQ ov P n l) (os : Os) : World.laidAll P os l = laidQ ov P os l := by
  unfold World.laidAll World.layVars laidQ
  rw [h]
  cases layQ ov P (World.holding P os ⟨#[], #[], []⟩).heap.size l <;> rfl
theorem fitsQ_eq {ov : String → Option (Nat → List Value × List Obj)} {l : List (String × DataW Unit)} (h : ∀ n, Lay.layList P n l = layQ ov P n l) (w : World) (B : List Nat) : w.layFits P l B = fitsQ ov P w l B := by
  unfold World.layFits fitsQ
  rw [h]
  cases layQ ov P w.heap.size l <;> rfl
theorem ifacesQ_eq {ov : String → Option (Nat → List Value × List Obj)} {l : List (String × DataW Unit)} (h : ∀ n, Lay.layList P n l = layQ ov P n l) (w w' : World) : w.layIfaces P l w' = ifacesQ ov P w l w' := by
  unfold World.layIfaces ifacesQ
  rw [h]
  cases layQ ov P w.heap.size l <;> rfl

/-! ### the first type of a name -/

theorem find_first {p : Nat → Bool} {n u : Nat} (hu : u < n) (hp : p u = true) (hlt : ∀ v, v < u → p v = false) : (List.range n).find? p = some u := by
  rw [List.find?_range_eq_some]
  exact ⟨hp, List.mem_range.2 hu, fun j hj => by rw [hlt j hj]; rfl⟩

/-- Whether a type's name could be 's'. -/
noncomputable def could0 (P : Program) (s : String) (t : TypeId) : Bool :=
  match P.info? t with
  | some i => match i.desc with
    | .named n _ => n == s
    | .pointer _ => true
    | .bool | .int _ | .float _ | .string => i.str == s
    | _ => false
  | none => false
noncomputable def could1 (P : Program) (s s' : String) (t : TypeId) : Bool :=
  match P.info? t with
  | some i => match i.desc with
    | .named n _ => n == s
    | .pointer e => could0 P s' e
    | .bool | .int _ | .float _ | .string => i.str == s
    | _ => false
  | none => false

theorem could0_ok {s : String} {d : Nat} {t : TypeId} (h : P.typeName? d t = some s) : could0 P s t = true := by
  cases d with
  | zero => exact nomatch (show (none : Option String) = some s from h)
  | succ d =>
    unfold Program.typeName? at h
    unfold could0
    split at h
    · rename_i i hi
      rw [hi]
      dsimp only
      split at h
      · rename_i n _ hn
        rw [hn]
        split at h
        · injection h with h; simp [h]
        · exact nomatch h
      · rename_i e he
        rw [he]
      all_goals first
        | (rename_i he; rw [he]; split at h; exact nomatch h; injection h with h; simp [h])
        | (exact nomatch h)
    · exact nomatch h

theorem could1_ok {s' : String} {d : Nat} {t : TypeId} (h : P.typeName? (d + 1) t = some ("*" ++ s')) : could1 P ("*" ++ s') s' t = true := by
  unfold Program.typeName? at h
  unfold could1
  split at h
  · rename_i i hi
    rw [hi]
    dsimp only
    split at h
    · rename_i n _ hn
      rw [hn]
      split at h
      · injection h with h; simp [h]
      · exact nomatch h
    · rename_i e he
      rw [he]
      cases hq : P.typeName? d e with
      | none => rw [hq] at h; exact nomatch h
      | some q =>
        rw [hq] at h
        have h : "*" ++ q = "*" ++ s' := Option.some.inj h
        have : q = s' := by
          have := congrArg String.toList h
          rw [String.toList_append, String.toList_append] at this
          exact String.toList_injective (List.append_cancel_left this)
        subst this
        exact could0_ok hq
    all_goals first
      | (rename_i he; rw [he]; split at h; exact nomatch h; injection h with h; simp [h])
      | (exact nomatch h)
  · exact nomatch h

theorem findName {P : Program} {s' : String} {d u : Nat} (hu : u < P.types.size) (hp : P.typeName? (d + 1) u = some ("*" ++ s')) (hlt : (List.range u).all (fun v => notB (could1 P ("*" ++ s') s' v)) = true) :
    ((List.range P.types.size).find? fun u => P.typeName? (d + 1) u == some ("*" ++ s')) = some u := by
  refine find_first hu (by simp [hp]) fun v hv => ?_
  have h1 := List.all_eq_true.1 hlt v (List.mem_range.2 hv)
  cases h : (P.typeName? (d + 1) v == some ("*" ++ s')) with
  | false => rfl
  | true =>
    rw [could1_ok (beq_iff_eq.1 h)] at h1
    exact nomatch h1

end Go.Proofs.YtdnlfkmfofckfaaGreatDoor.Ev
