/- Regions in the order of their text, deferred calls, and the code of a function. -/
import Derived.Test.YtdnlfkmfofckfaaGreatDoorEvY
import Derived.Defers
import Derived.Scope
namespace Go.Proofs.YtdnlfkmfofckfaaGreatDoor.Ev
variable {P : Program}

noncomputable def bindO {α β : Type} (l : List α) (f : α → Option (List β)) : Option (List β) := List.rec (motive := fun _ => Option (List β)) (some []) (fun x _ ih => onO (f x) fun ys => onO ih fun zs => some (appL ys zs)) l
theorem bindO_inv {α β : Type} {f : α → Option (List β)} : ∀ {l : List α} {r : List β}, bindO l f = some r → ∀ x ∈ l, ∃ ys, f x = some ys ∧ ∀ y ∈ ys, y ∈ r := by
  intro l
  induction l with
  | nil => intro r _ x hx; exact nomatch hx
  | cons z l ih =>
    intro r h x hx
    obtain ⟨ys, h1, h2⟩ := onO_inv (show onO (f z) (fun ys => onO (bindO l f) fun zs => some (appL ys zs)) = some r from h)
    obtain ⟨zs, h3, h4⟩ := onO_inv h2
    injection h4 with h4; subst h4
    rw [appL_eq]
    cases hx with
    | head => exact ⟨ys, h1, fun y hy => List.mem_append_left _ hy⟩
    | tail _ hx =>
      obtain ⟨ys', g1, g2⟩ := ih h3 x hx
      exact ⟨ys', g1, fun y hy => List.mem_append_right _ (g2 y hy)⟩

/-! ### the state -/

structure St where
  F : Tr V
  D : List (FuncId × List V)
  H : Heap

def DOk (ρ : Ren) (q : FuncId × List V) (d : Deferred) : Prop := ∃ cap, d.target = .fn (.func q.1) cap ∧ RL ρ q.2 (d.args.toList ++ cap.toList)
def DRel (ρ : Ren) : List (FuncId × List V) → List Deferred → Prop
  | [], ds => ds = []
  | q :: qs, ds => ∃ d ds', ds = d :: ds' ∧ DOk ρ q d ∧ DRel ρ qs ds'

theorem DOk.mono {ρ ρ' : Ren} (h : ρ.le ρ') {q : FuncId × List V} {d : Deferred} : DOk ρ q d → DOk ρ' q d := fun ⟨cap, h1, h2⟩ => ⟨cap, h1, h2.mono h⟩
theorem DRel.mono {ρ ρ' : Ren} (h : ρ.le ρ') : ∀ {qs : List (FuncId × List V)} {ds : List Deferred}, DRel ρ qs ds → DRel ρ' qs ds
  | [], _, e => e
  | _ :: _, _, ⟨d, ds', e, h1, h2⟩ => ⟨d, ds', e, h1.mono h, h2.mono h⟩

structure SR (G n : Nat) (ρ : Ren) (S : St) (a : Act) (w : World) : Prop where
  glob : Glob ρ G
  fr : FRel ρ S.F n a
  ds : DRel ρ S.D a.defers
  heap : HRel ρ S.H.t.get w
  fresh : Fresh ρ S.H.nx

/-- A step from one heap to another. -/
abbrev HStep (ρ ρ' : Ren) (H H' : Heap) (w w' : World) : Prop := Step ρ ρ' H.t.get H'.t.get H.nx H'.nx w w'

theorem Fresh.free {ρ : Ren} {n m : Nat} (h : Fresh ρ n) : Free ρ n m := fun a h1 _ => h a h1
theorem SR.next {G n : Nat} {ρ ρ' : Ren} {S : St} {a a' : Act} {w w' : World} {F' : Tr V} {D' : List (FuncId × List V)} {H' : Heap} (h : SR G n ρ S a w) (s : HStep ρ ρ' S.H H' w w') (hF : FRel ρ' F' n a') (hD : DRel ρ' D' a'.defers) : SR G n ρ' ⟨F', D', H'⟩ a' w' where
  glob := h.glob.mono (s.ren h.fresh.free)
  fr := hF
  ds := hD
  heap := s.rel
  fresh := fun a ha => by
    have ha : H'.nx ≤ a := ha
    have hle : S.H.nx ≤ H'.nx := s.le
    rw [s.old a (by omega)]; exact h.fresh a (by omega)

/-! ### a region in the order of its text -/

section
variable (P : Program) (cal : Cal) (G n : Nat) (ops : List Oper)

noncomputable def evDef (o : Oper) (S : St) : Option (List St) :=
  onO (gd S.F ops o.guard) fun b => ifB b (match o.op with
    | .defer c => onO (calleeOf G S.F c) fun q => onO (putF n S.F o.dst (.t [])) fun F' => some [⟨F', q :: S.D, S.H⟩]
    | _ => none)
noncomputable def evO1 (o : Oper) (S : St) : Option (List St) :=
  orE (onO (evOne P cal G ops S.F S.H o) fun outs => bindO outs fun p => onO (putF n S.F o.dst p.1) fun F' => some [⟨F', S.D, p.2⟩]) (evDef G n ops o S)
noncomputable def evSeq (l : List Oper) : St → Option (List St) :=
  List.rec (motive := fun _ => St → Option (List St)) (fun S => some [S]) (fun o _ ih S => onO (evO1 P cal G n ops o S) fun outs => bindO outs ih) l
end

section
variable {cal : Cal} {G n : Nat} {ops : Array Oper} {Q : Exit → Act → World → Prop}

theorem evDef_ok {o : Oper} {S : St} {outs : List St} (h : evDef G n ops.toList o S = some outs) {ρ : Ren} {a : Act} {w : World} (hs : SR G n ρ S a w) {K : Act → World → Prop}
    (hK : ∀ S' ∈ outs, ∀ ρ' a' w', SR G n ρ' S' a' w' → HStep ρ ρ' S.H S'.H w w' → K a' w') : wpO P ops Q o K a w := by
  obtain ⟨b, h1, h2⟩ := onO_inv h
  obtain ⟨rfl, h3⟩ := ifB_inv h2
  split at h3
  · rename_i c hop
    obtain ⟨q, h4, h5⟩ := onO_inv h3
    obtain ⟨F', h6, h7⟩ := onO_inv h5
    injection h7 with h7; subst h7
    refine wpO_run hs.fr h1 ?_
    obtain ⟨callee, args, ats⟩ := c
    cases callee
    case value f =>
      obtain ⟨fn, first, cap, e1, h8⟩ := V.onF_inv (show V.onF (ev G S.F f) (fun fn first cap => match fn with
        | .func k => some (k, appL (appL first (mapL (ev G S.F) args.toList)) cap)
        | _ => none) = some q from h4)
      cases fn
      case func k =>
        injection h8 with h8; subst h8
        have he := hs.fr.eval hs.glob
        have hf1 := he f
        rw [e1] at hf1
        obtain ⟨xs, ys, hx, hxs, hys⟩ := hf1
        have hargs := evs_ok he args.toList
        have hrun : (execOp a.eval o).run P w = .ok (.defer { target := .fn (.func k) ys.toArray, args := xs.toArray ++ args.map a.eval }) w := by
          simp only [execOp, hop, resolve, hx, Deferred.ofValue, Sem.run_bind, Sem.run_pure, Result.andThen_ok]
        unfold Oper.wp
        rw [hrun]
        have hF := putF_ok (x := .t []) (y := undef) hs.fr ⟨[], rfl, rfl⟩ h6
        refine hK _ (List.mem_singleton.2 rfl) ρ _ w ?_ (Step.refl _ hs.heap)
        have hpd : ∀ (a : Act) (ds : List Deferred), (({ a with defers := ds } : Act).put o.dst undef) = { a.put o.dst undef with defers := ds } := fun a ds => by cases o.dst <;> rfl
        rw [hpd]
        refine ⟨hs.glob, ⟨hF.size, hF.at_⟩, ?_, hs.heap, hs.fresh⟩
        refine ⟨_, _, rfl, ⟨ys.toArray, rfl, ?_⟩, hs.ds⟩
        rw [appL_eq, appL_eq]
        simpa using (hxs.append hargs).append hys
      all_goals exact nomatch h8
    all_goals exact nomatch (show (none : Option (FuncId × List V)) = some q from h4)
  · exact nomatch h3

theorem evO1_ok (hcal : CalOk P G cal) {o : Oper} {S : St} {outs : List St} (h : evO1 P cal G n ops.toList o S = some outs) {ρ : Ren} {a : Act} {w : World} (hs : SR G n ρ S a w) {K : Act → World → Prop}
    (hK : ∀ S' ∈ outs, ∀ ρ' a' w', SR G n ρ' S' a' w' → HStep ρ ρ' S.H S'.H w w' → K a' w') : wpO P ops Q o K a w := by
  rcases orE_inv h with h | h
  · obtain ⟨l, h1, h2⟩ := onO_inv h
    refine evOne_ok (n := n) (Q := Q) hcal h1 ρ a w hs.glob hs.fr hs.heap hs.fresh K fun p hp y w' ρ' hy hst => ?_
    obtain ⟨ys, h3, h4⟩ := bindO_inv h2 p hp
    obtain ⟨F', h5, h6⟩ := onO_inv h3
    injection h6 with h6; subst h6
    have hle := hst.ren hs.fresh.free
    refine hK _ (h4 _ (List.mem_singleton.2 rfl)) ρ' _ w' (hs.next hst (putF_ok (hs.fr.mono hle) hy h5) ?_) hst
    rw [put_defers]; exact hs.ds.mono hle
  · exact evDef_ok h hs hK

theorem evSeq_ok (hcal : CalOk P G cal) : ∀ (l : List Oper) {S : St} {outs : List St}, evSeq P cal G n ops.toList l S = some outs → ∀ {ρ : Ren} {a : Act} {w : World}, SR G n ρ S a w →
    (∀ S' ∈ outs, ∀ ρ' a' w', SR G n ρ' S' a' w' → HStep ρ ρ' S.H S'.H w w' → Q .normal a' w') → wpList P ops Q l a w := by
  intro l
  induction l with
  | nil =>
    intro S outs h ρ a w hs hQ
    injection (show some [S] = some outs from h) with h; subst h
    exact hQ S (List.mem_singleton.2 rfl) ρ a w hs (Step.refl _ hs.heap)
  | cons o l ih =>
    intro S outs h ρ a w hs hQ
    obtain ⟨mid, h1, h2⟩ := onO_inv (show onO (evO1 P cal G n ops.toList o S) (fun outs => bindO outs (evSeq P cal G n ops.toList l)) = some outs from h)
    show wpO P ops Q o (wpList P ops Q l) a w
    refine evO1_ok hcal h1 hs fun S' hS' ρ' a' w' hs' hst => ?_
    obtain ⟨ys, h3, h4⟩ := bindO_inv h2 S' hS'
    exact ih h3 hs' fun S'' hS'' ρ'' a'' w'' hs'' hst'' => hQ S'' (h4 _ hS'') ρ'' a'' w'' hs'' (Step.trans hst hst'')
end

/-! ### the code -/

inductive Ex where
  | nm
  | ex (id : Nat)
  | rt

def Ex.to : Ex → Exit
  | .nm => .normal
  | .ex id => .exit id
  | .rt => .ret

noncomputable def Ex.isNm (e : Ex) : Bool := Ex.rec (motive := fun _ => Bool) true (fun _ => false) false e
theorem Ex.isNm_ok {e : Ex} (h : e.isNm = true) : e = .nm := by cases e <;> first | rfl | exact nomatch h
noncomputable def Ex.isId (e : Ex) (id : Nat) : Bool := Ex.rec (motive := fun _ => Bool) false (fun i => Nat.beq i id) false e

abbrev Outs := Option (List (Ex × St))

noncomputable def nms (l : Option (List St)) : Outs := onO l fun l => some (mapL (fun S => (Ex.nm, S)) l)

section
variable (P : Program) (cal : Cal) (G n : Nat) (fuel : Nat)

noncomputable def goL (c : St → Outs) (f : Nat) : St → Outs :=
  Nat.rec (motive := fun _ => St → Outs) (fun _ => none) (fun _ ih S => onO (c S) fun outs => bindO outs fun q => ite2 q.1.isNm (ih q.2) (some [q])) f

noncomputable def evC (c : Code) : St → Outs :=
  Code.rec (motive := fun _ => St → Outs)
    (fun S => some [(.nm, S)])
    (fun _ ops draw S => ite2 draw (onO (evDraw P cal G n ops.toList S.F S.H) fun p => some [(.nm, ⟨p.1, S.D, p.2⟩)]) (nms (evSeq P cal G n ops.toList ops.toList S)))
    (fun _ _ iha ihb S => onO (iha S) fun outs => bindO outs fun q => ite2 q.1.isNm (ihb q.2) (some [q]))
    (fun c _ _ iha ihb S => (ev G S.F c).onB fun t => ite2 t (iha S) (ihb S))
    (fun id _ ih S => onO (ih S) fun outs => some (mapL (fun q => (ite2 (q.1.isId id) Ex.nm q.1, q.2)) outs))
    (fun _ ih S => goL ih fuel S)
    (fun _ _ _ _ _ _ _ => none)
    (fun id S => some [(.ex id, S)])
    (fun _ ih S => ih S)
    (fun _ S => some [(.nm, S)])
    (fun _ _ => none)
    (fun S => some [(.rt, S)])
    (fun _ _ => none) c
end

section
variable {cal : Cal} {G n fuel : Nat}

/-- What a piece of code comes to. -/
def CodeOk (P : Program) (G n : Nat) (c : Code) (f : St → Outs) : Prop :=
  ∀ {S : St} {outs : List (Ex × St)}, f S = some outs → ∀ {ρ : Ren} {a : Act} {w : World}, SR G n ρ S a w → ∀ {Q : Exit → Act → World → Prop},
    (∀ q ∈ outs, ∀ ρ' a' w', SR G n ρ' q.2 a' w' → HStep ρ ρ' S.H q.2.H w w' → Q q.1.to a' w') → c.wp P Q a w

theorem least {p : Nat → Prop} (h : ∃ k, p k) : ∃ k, p k ∧ ∀ j, p j → k ≤ j := by
  obtain ⟨k, hk⟩ := h
  induction k using Nat.strongRecOn with
  | _ k ih =>
    by_cases h : ∃ j, j < k ∧ p j
    · obtain ⟨j, h1, h2⟩ := h; exact ih j h1 h2
    · exact ⟨k, hk, fun j hj => Nat.le_of_not_lt fun hl => h ⟨j, hl, hj⟩⟩

theorem goL_ok {c : Code} {f : St → Outs} (hc : CodeOk P G n c f) (k : Nat) : CodeOk P G n (.loop c) (goL f k) := by
  intro S outs h ρ a w hs Q hQ
  let I : Nat → Act → World → Prop := fun k a w => ∃ ρ S outs, SR G n ρ S a w ∧ goL f k S = some outs ∧
    ∀ q ∈ outs, ∀ ρ' a' w', SR G n ρ' q.2 a' w' → HStep ρ ρ' S.H q.2.H w w' → Q q.1.to a' w'
  classical
  let μ : Act → World → Nat := fun a w => if h : ∃ k, I k a w then Classical.choose (least h) else 0
  refine wp_loop (fun a w => ∃ k, I k a w) μ ⟨k, ρ, S, outs, hs, h, hQ⟩ ?_
  intro a w hI
  have hμ : μ a w = Classical.choose (least hI) := dif_pos hI
  obtain ⟨ρ, S, outs, hs, h, hQ⟩ := (Classical.choose_spec (least hI)).1
  cases hk : Classical.choose (least hI) with
  | zero => rw [hk] at h; exact nomatch (show (none : Outs) = some outs from h)
  | succ k' =>
    rw [hk] at h
    obtain ⟨mid, h1, h2⟩ := onO_inv (show onO (f S) (fun outs => bindO outs fun q => ite2 q.1.isNm (goL f k' q.2) (some [q])) = some outs from h)
    refine hc h1 hs fun q hq ρ' a' w' hs' hst => ?_
    obtain ⟨ys, h3, h4⟩ := bindO_inv h2 q hq
    cases he : q.1.isNm
    · rw [he, ite2_false] at h3
      injection h3 with h3; subst h3
      have := hQ q (h4 _ (List.mem_singleton.2 rfl)) ρ' a' w' hs' hst
      cases hq1 : q.1 with
      | nm => rw [hq1] at he; exact nomatch he
      | ex id => rw [hq1] at this; exact this
      | rt => rw [hq1] at this; exact this
    · rw [he, ite2_true] at h3
      rw [Ex.isNm_ok he]
      have hI' : I k' a' w' := ⟨ρ', q.2, ys, hs', h3, fun q' hq' ρ'' a'' w'' hs'' hst'' => hQ q' (h4 _ hq') ρ'' a'' w'' hs'' (Step.trans hst hst'')⟩
      refine ⟨⟨k', hI'⟩, ?_⟩
      rw [hμ, hk]
      have : μ a' w' = Classical.choose (least (⟨k', hI'⟩ : ∃ k, I k a' w')) := dif_pos ⟨k', hI'⟩
      rw [this]
      exact Nat.lt_succ_of_le ((Classical.choose_spec (least (⟨k', hI'⟩ : ∃ k, I k a' w'))).2 _ hI')

theorem evC_ok (hcal : CalOk P G cal) (hmix : P.follows .mixedOrders = true) : ∀ (c : Code), CodeOk P G n c (evC P cal G n fuel c) := by
  intro c
  induction c with
  | skip =>
    intro S outs h ρ a w hs Q hQ
    injection (show some [(Ex.nm, S)] = some outs from h) with h; subst h
    exact wp_skip (hQ _ (List.mem_singleton.2 rfl) ρ a w hs (Step.refl _ hs.heap))
  | region id ops draw =>
    intro S outs h ρ a w hs Q hQ
    cases draw
    · obtain ⟨l, h1, h2⟩ := onO_inv (show nms (evSeq P cal G n ops.toList ops.toList S) = some outs from h)
      injection h2 with h2; subst h2
      refine wp_region_list (evSeq_ok hcal ops.toList h1 hs fun S' hS' ρ' a' w' hs' hst => ?_)
      exact hQ (.nm, S') (by rw [mapL_eq]; exact List.mem_map.2 ⟨S', hS', rfl⟩) ρ' a' w' hs' hst
    · obtain ⟨⟨F', H'⟩, h1, h2⟩ := onO_inv (show onO (evDraw P cal G n ops.toList S.F S.H) (fun p => some [(Ex.nm, (⟨p.1, S.D, p.2⟩ : St))]) = some outs from h)
      injection h2 with h2; subst h2
      refine evDraw_ok hcal hmix h1 hs.glob hs.fr hs.heap hs.fresh fun ρ' a' w' hF hst hd => ?_
      exact hQ _ (List.mem_singleton.2 rfl) ρ' a' w' (hs.next hst hF (by rw [hd]; exact hs.ds.mono (hst.ren hs.fresh.free))) hst
  | seq x y ihx ihy =>
    intro S outs h ρ a w hs Q hQ
    obtain ⟨mid, h1, h2⟩ := onO_inv (show onO (evC P cal G n fuel x S) (fun outs => bindO outs fun q => ite2 q.1.isNm (evC P cal G n fuel y q.2) (some [q])) = some outs from h)
    refine wp_seq (ihx h1 hs fun q hq ρ' a' w' hs' hst => ?_)
    obtain ⟨ys, h3, h4⟩ := bindO_inv h2 q hq
    cases he : q.1.isNm
    · rw [he, ite2_false] at h3
      injection h3 with h3; subst h3
      have := hQ q (h4 _ (List.mem_singleton.2 rfl)) ρ' a' w' hs' hst
      cases hq1 : q.1 with
      | nm => rw [hq1] at he; exact nomatch he
      | ex id => rw [hq1] at this; exact this
      | rt => rw [hq1] at this; exact this
    · rw [he, ite2_true] at h3
      rw [Ex.isNm_ok he]
      exact ihy h3 hs' fun q' hq' ρ'' a'' w'' hs'' hst'' => hQ q' (h4 _ hq') ρ'' a'' w'' hs'' (Step.trans hst hst'')
  | cond c x y ihx ihy =>
    intro S outs h ρ a w hs Q hQ
    obtain ⟨t, h1, h2⟩ := V.onB_inv (show (ev G S.F c).onB (fun t => ite2 t (evC P cal G n fuel x S) (evC P cal G n fuel y S)) = some outs from h)
    have hc := hs.fr.eval hs.glob c
    rw [h1] at hc
    refine wp_cond (t := t) hc ?_
    cases t
    · exact ihy h2 hs hQ
    · exact ihx h2 hs hQ
  | block id c ih =>
    intro S outs h ρ a w hs Q hQ
    obtain ⟨mid, h1, h2⟩ := onO_inv (show onO (evC P cal G n fuel c S) (fun outs => some (mapL (fun q => (ite2 (q.1.isId id) Ex.nm q.1, q.2)) outs)) = some outs from h)
    injection h2 with h2; subst h2
    refine wp_block (ih h1 hs fun q hq ρ' a' w' hs' hst => ?_)
    have := hQ (ite2 (q.1.isId id) Ex.nm q.1, q.2) (by rw [mapL_eq]; exact List.mem_map.2 ⟨q, hq, rfl⟩) ρ' a' w' hs' hst
    cases hq1 : q.1 with
    | nm => rw [hq1] at this; exact this
    | rt => rw [hq1] at this; exact this
    | ex i =>
      rw [hq1] at this
      show if i = id then _ else _
      cases e : Nat.beq i id
      · have e' : (Ex.ex i).isId id = false := e
        simp only [e', ite2_false] at this
        rw [if_neg (Nat.ne_of_beq_eq_false e)]; exact this
      · have e' : (Ex.ex i).isId id = true := e
        simp only [e', ite2_true] at this
        rw [if_pos (Nat.eq_of_beq_eq_true e)]; exact this
  | loop c ih =>
    intro S outs h ρ a w hs Q hQ
    exact goL_ok ih fuel h hs hQ
  | rangeFunc f params x y ihx ihy => intro S outs h; exact nomatch (show (none : Outs) = some outs from h)
  | exit id =>
    intro S outs h ρ a w hs Q hQ
    injection (show some [(Ex.ex id, S)] = some outs from h) with h; subst h
    exact wp_exit (hQ _ (List.mem_singleton.2 rfl) ρ a w hs (Step.refl _ hs.heap))
  | scope c ih =>
    intro S outs h ρ a w hs Q hQ
    refine wp_scope_straight (ih h hs fun q hq ρ' a' w' hs' hst => ?_)
    have := hQ q hq ρ' a' w' hs' hst
    cases hq1 : q.1 <;> (rw [hq1] at this; exact this)
  | label l =>
    intro S outs h ρ a w hs Q hQ
    injection (show some [(Ex.nm, S)] = some outs from h) with h; subst h
    exact wp_label (hQ _ (List.mem_singleton.2 rfl) ρ a w hs (Step.refl _ hs.heap))
  | goto l => intro S outs h; exact nomatch (show (none : Outs) = some outs from h)
  | ret =>
    intro S outs h ρ a w hs Q hQ
    injection (show some [(Ex.rt, S)] = some outs from h) with h; subst h
    exact wp_ret (hQ _ (List.mem_singleton.2 rfl) ρ a w hs (Step.refl _ hs.heap))
  | refuse why => intro S outs h; exact nomatch (show (none : Outs) = some outs from h)
end
end Go.Proofs.YtdnlfkmfofckfaaGreatDoor.Ev
