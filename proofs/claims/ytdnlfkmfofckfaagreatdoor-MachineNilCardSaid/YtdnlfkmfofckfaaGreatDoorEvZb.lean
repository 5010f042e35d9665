/- Deferred functions that begin with a 'recover', while nothing panics; calls to a depth. -/
import Derived.Test.YtdnlfkmfofckfaaGreatDoorEvZa
import Derived.Recover
namespace Go.Proofs.YtdnlfkmfofckfaaGreatDoor.Ev
variable {P : Program}

noncomputable def isRec (o : Oper) : Bool :=
  match o.guard with
  | some _ => false
  | none => match o.op with
    | .call c => (match c.callee with | .builtin b => (match b with | .recover => true | _ => false) | _ => false)
    | _ => false
theorem isRec_ok {o : Oper} (h : isRec o = true) (e : Operand → Value) (w : World) : o.guard = none ∧ (execOp e o).run P w = .ok .recover w := by
  unfold isRec at h
  split at h
  · exact nomatch h
  · rename_i hg
    refine ⟨hg, ?_⟩
    split at h
    · rename_i c hop
      split at h
      · rename_i b hb
        split at h
        · obtain ⟨callee, args, ats⟩ := c
          have hb : callee = .builtin .recover := hb
          subst hb
          simp only [execOp, hop, resolve, Sem.run_bind, Sem.run_pure, Result.andThen_ok, invoke, builtin]
        · exact nomatch h
      · exact nomatch h
    · exact nomatch h

/-- Operations with no guard that look at values alone. -/
noncomputable def evPure (P : Program) (G n : Nat) (l : List Oper) : Tr V → Option (Tr V) :=
  List.rec (motive := fun _ => Tr V → Option (Tr V)) some (fun o _ ih F => ifB (Option.rec (motive := fun _ => Bool) true (fun _ => false) o.guard) (onO (pOp P G F o.op) fun v => onO (putF n F o.dst v) ih)) l

theorem evPure_ok {G n : Nat} {ops : Array Oper} {Q : Exit → Act → List Frame → World → Prop} {cs : List Frame} {w : World} {ρ : Ren} (hg : Glob ρ G) : ∀ (l : List Nat) (ol : List Oper), l.map (ops[·]?) = ol.map some → ∀ {F F' : Tr V}, evPure P G n ol F = some F' → ∀ {a : Act}, FRel ρ F n a →
    (∀ a', FRel ρ F' n a' → a'.defers = a.defers → Q .normal a' cs w) → wpOpsS P ops Q l a cs w := by
  intro l
  induction l with
  | nil =>
    intro ol hl F F' h a hF hQ
    have : ol = [] := by cases ol with
      | nil => rfl
      | cons => simp at hl
    subst this
    injection (show some F = some F' from h) with h; subst h
    exact hQ a hF rfl
  | cons i l ih =>
    intro ol hl F F' h a hF hQ
    cases ol with
    | nil => simp at hl
    | cons o ol =>
      simp only [List.map_cons, List.cons.injEq] at hl
      obtain ⟨hi, hl⟩ := hl
      obtain ⟨h1, h2⟩ := ifB_inv (show ifB (Option.rec (motive := fun _ => Bool) true (fun _ => false) o.guard) (onO (pOp P G F o.op) fun v => onO (putF n F o.dst v) (evPure P G n ol)) = some F' from h)
      obtain ⟨v, h3, h4⟩ := onO_inv h2
      obtain ⟨F1, h5, h6⟩ := onO_inv h4
      have hgd : o.guard = none := by
        cases q : o.guard with
        | none => rfl
        | some x => rw [q] at h1; exact nomatch (show (false : Bool) = true from h1)
      obtain ⟨y, hy, hv⟩ := pOp_ok (hF.eval hg) w h3
      have hw : Region.wanted o (yielded ops a.tmps) = true := by unfold Region.wanted; rw [hgd]
      simp only [wpOpsS, hi, hw, if_true, hy]
      show wpOpsS P ops Q l (a.put o.dst y) cs w
      exact ih ol hl h6 (putF_ok hF hv h5) fun a' hF' hd => hQ a' hF' (by rw [hd, put_defers])

/-- A body whose first region begins with a 'recover'. -/
noncomputable def recBody (c : Code) : Option (Oper × List Oper × Code) :=
  match c with
  | .seq x y => (match x with
    | .region _ ops draw => ite2 draw none (List.rec (motive := fun _ => Option (Oper × List Oper × Code)) none (fun o l _ => ifB (isRec o) (some (o, l, y))) ops.toList)
    | _ => none)
  | _ => none
theorem recBody_inv {c : Code} {o : Oper} {l : List Oper} {y : Code} (h : recBody c = some (o, l, y)) : ∃ id ops, c = .seq (.region id ops false) y ∧ ops.toList = o :: l ∧ isRec o = true := by
  unfold recBody at h
  split at h
  · rename_i x y'
    split at h
    · rename_i id ops draw
      cases draw
      · have h : List.rec (motive := fun _ => Option (Oper × List Oper × Code)) none (fun o l _ => ifB (isRec o) (some (o, l, y'))) ops.toList = some (o, l, y) := h
        cases q : ops.toList with
        | nil => rw [q] at h; exact nomatch h
        | cons o' l' =>
          rw [q] at h
          obtain ⟨h1, h2⟩ := ifB_inv h
          injection h2 with h2; injection h2 with h2 h3; injection h3 with h3 h4
          subst h2; subst h3; subst h4
          exact ⟨id, ops, rfl, q, h1⟩
      · exact nomatch h
    · exact nomatch h
  · exact nomatch h

section
variable (P : Program) (G fuel : Nat) (cal : Cal)
noncomputable def evRecD (k : FuncId) (args : List V) (H : Heap) : Option Heap :=
  onO (body P k) fun p => ifB (Nat.ble (lenL args) p.1.ntmps) (onO (recBody p.2) fun q =>
    onO (putF p.1.ntmps (argF args 0 .e) q.1.dst .xn) fun F => onO (evPure P G p.1.ntmps q.2.1 F) fun F' =>
      onO (evC P cal G p.1.ntmps fuel q.2.2 ⟨F', [], H⟩) fun outs => onO (onO (bindO outs fun q => ifB (andB (notEx q.1) (isNil q.2.D)) (onO (evRes P p.1 q.2.F q.2.H) fun v => some [(v, q.2.H)])) joinL) fun r => some r.2)
end

theorem evRecD_ok {G fuel : Nat} {cal : Cal} (hcal : CalOk P G cal) (hmix : P.follows .mixedOrders = true) : DCalOk P G (evRecD P G fuel cal) := by
  intro f args H H' h
  obtain ⟨p, h3, h4⟩ := onO_inv h
  obtain ⟨h5, h6⟩ := ifB_inv h4
  obtain ⟨⟨o, l, y⟩, e1, h6⟩ := onO_inv h6
  obtain ⟨F, e2, h6⟩ := onO_inv h6
  obtain ⟨F', e3, h6⟩ := onO_inv h6
  obtain ⟨outs, h7, h2⟩ := onO_inv h6
  obtain ⟨r, h9, h12⟩ := onO_inv h2
  obtain ⟨rs, h10, h11⟩ := onO_inv h9
  injection h12 with h12; subst h12
  obtain ⟨b1, b2, b3⟩ := body_inv h3
  refine ⟨body_fn h3, fun ρ vs w hg ha hr hf => ?_⟩
  obtain ⟨id, ops, hc, hops, hrec⟩ := recBody_inv e1
  refine callsD_of_wpS b1 b2 fun c₀ cs hm => ?_
  rw [hc]
  refine wpS_seq (wpS_region ?_)
  have hsr := enter_sr (n := p.1.ntmps) hg ha hr hf h5
  generalize hA : ({ tmps := vs.toArray ++ Array.replicate (p.1.ntmps - vs.toArray.size) undef, defers := [] } : Act) = A at hsr
  have hAd : A.defers = [] := by rw [← hA]
  have h0 : ops[0]? = some o := by rw [← Array.getElem?_toList, hops]; rfl
  have hlen : ops.size = l.length + 1 := by rw [← Array.length_toList, hops]; rfl
  obtain ⟨hgd, hrun⟩ := isRec_ok (P := P) hrec A.eval w
  have hw : Region.wanted o (yielded ops A.tmps) = true := by unfold Region.wanted; rw [hgd]
  rw [hlen, List.range_succ_eq_map]
  simp only [wpOpsS, h0, hw, if_true, hrun]
  have hnone : recoverD (c₀ :: cs) = none := by simp [recoverD, hm]
  rw [hnone]
  show wpOpsS P ops _ _ (A.put o.dst .nilIface) (c₀ :: cs) w
  have hF1 : FRel ρ F p.1.ntmps (A.put o.dst .nilIface) := putF_ok (x := .xn) (y := .nilIface) hsr.fr rfl e2
  refine evPure_ok hg _ l ?_ e3 hF1 fun a' hF' hd => ?_
  · apply List.ext_getElem?
    intro i
    have hi1 : ops[i + 1]? = l[i]? := by rw [← Array.getElem?_toList, hops]; simp
    by_cases hi : i < l.length
    · simp [hi, hi1]
    · simp [hi]
  · refine wpS_of_wp ?_
    have hs' : SR G p.1.ntmps ρ ⟨F', [], H⟩ a' w := ⟨hg, hF', by rw [hd, put_defers, hAd]; rfl, hr, hf⟩
    refine evC_ok hcal hmix y h7 hs' fun q hq ρ' a'' w' hs hst => ?_
    obtain ⟨ys, g1, g2⟩ := bindO_inv h10 q hq
    obtain ⟨g3, g4⟩ := ifB_inv g1
    obtain ⟨g3, g3'⟩ := andB_inv g3
    obtain ⟨u1, g7, g8⟩ := onO_inv g4
    injection g8 with g8; subst g8
    have hU := joinL_under h11 _ (g2 _ (List.mem_singleton.2 rfl))
    have hD : a''.defers = [] := by
      have := hs.ds
      cases z : q.2.D with
      | nil => rw [z] at this; exact this
      | cons x l => rw [z] at g3'; exact nomatch (show (false : Bool) = true from g3')
    obtain ⟨y', e1', e2'⟩ := evRes_ok g7 hs.fr hs.heap
    have hc0 : c₀ :: cs = { c₀ with mode := FrameMode.returning } :: cs := by cases c₀; simp only at hm; subst hm; rfl
    have hL : a''.defers = [] ∧ ∃ u', c₀ :: cs = { c₀ with mode := u' } :: cs ∧ ∃ v, (results p.1 a''.tmps).run P w' = .ok v w' ∧ (u' = .returning ∧ (∃ y, (.returned v : Ending) = .returned y) ∧ ∃ ρ', HStep ρ ρ' H r.2 w w') :=
      ⟨hD, .returning, hc0, y', e1', rfl, ⟨y', rfl⟩, ρ', (hst.sub hU.2.1).widen (Nat.le_refl _) hU.2.2⟩
    cases hq1 : q.1 with
    | nm => exact hL
    | rt => exact hL
    | ex id => rw [hq1] at g3; exact nomatch (show (false : Bool) = true from g3)

/-! ### calls to a depth -/

noncomputable def evDC (P : Program) (G fuel : Nat) (dorc : DCal) (cal : Cal) : DCal := fun f args H => orE (dorc f args H) (orE (evRecD P G fuel cal f args H) (evFunD P G fuel cal f args H))
noncomputable def evCal (P : Program) (G fuel : Nat) (row orc : Cal) (dorc : DCal) (d : Nat) : Cal :=
  Nat.rec (motive := fun _ => Cal) (fun _ _ _ => none) (fun _ ih f args H => orE (row f args H) (orE (orc f args H) (evFun P G fuel ih (evDC P G fuel dorc ih) f args H))) d

theorem evCal_ok {G fuel : Nat} {row orc : Cal} {dorc : DCal} (hrow : RowOk P G row) (ho : FunOk P G orc) (hd : DCalOk P G dorc) (hmix : P.follows .mixedOrders = true) : ∀ d, CalOk P G (evCal P G fuel row orc dorc d) := by
  intro d
  induction d with
  | zero => exact ⟨orc, row, ho, hrow, fun f args H p h => nomatch (show (none : Option (V × Heap)) = some p from h)⟩
  | succ d ih =>
    have hD : DCalOk P G (evDC P G fuel dorc (evCal P G fuel row orc dorc d)) := by
      intro f args H H' h
      rcases orE_inv (show orE (dorc f args H) (orE (evRecD P G fuel (evCal P G fuel row orc dorc d) f args H) (evFunD P G fuel (evCal P G fuel row orc dorc d) f args H)) = some H' from h) with h | h
      · exact hd f args H H' h
      · rcases orE_inv h with h | h
        · exact evRecD_ok ih hmix f args H H' h
        · exact evFunD_ok ih hmix f args H H' h
    refine ⟨fun f args H => orE (orc f args H) (evFun P G fuel (evCal P G fuel row orc dorc d) (evDC P G fuel dorc (evCal P G fuel row orc dorc d)) f args H), row, ?_, hrow, fun f args H p h => (orE_inv h).symm⟩
    intro f args H v H' h
    rcases orE_inv h with h | h
    · exact ho f args H v H' h
    · exact evFun_ok ih hD hmix f args H v H' h

end Go.Proofs.YtdnlfkmfofckfaaGreatDoor.Ev
