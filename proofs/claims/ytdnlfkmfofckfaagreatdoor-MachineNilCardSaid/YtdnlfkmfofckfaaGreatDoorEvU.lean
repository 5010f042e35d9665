/- The frame lemma; steps in a wider range of names; one operation, guard and all. -/
import Derived.Test.YtdnlfkmfofckfaaGreatDoorEvT
import Derived.Orders
import Derived.Tactics
namespace Go.Proofs.YtdnlfkmfofckfaaGreatDoor.Ev
variable {P : Program}

/-! ### two heaps side by side -/

def un (h y : HF) : HF := fun a => match h a with | some b => some b | none => y a

theorem un_left {h y : HF} {a : Nat} {b : Blk} (e : h a = some b) : un h y a = some b := by unfold un; rw [e]
theorem un_right {h y : HF} {a : Nat} (e : h a = none) : un h y a = y a := by unfold un; rw [e]
theorem un_cases {h y : HF} {a : Nat} {b : Blk} (e : un h y a = some b) : h a = some b ∨ (h a = none ∧ y a = some b) := by
  unfold un at e
  cases q : h a with
  | none => rw [q] at e; exact .inr ⟨rfl, e⟩
  | some b' => rw [q] at e; exact .inl e

def CellsOnly (y : HF) : Prop := ∀ a b, y a = some b → ∃ ro cells, b = .c ro cells

theorem HRel.sub {ρ : Ren} {h x : HF} {w : World} (hr : HRel ρ h w) (hs : ∀ a b, x a = some b → h a = some b) : HRel ρ x w where
  at_ a b e := by
    obtain ⟨L, g1, g2⟩ := hr.at_ a b (hs a b e)
    exact ⟨L, g1, BR.congr (Ren.le_refl ρ) rfl (fun m ver seen _ v' es hm => ⟨v', es, hs _ _ hm, Nat.le_refl _, fun _ => ⟨rfl, fun _ _ => rfl⟩⟩) g2⟩
  inj a a' b b' L L' e1 e2 := hr.inj a a' b b' L L' (hs _ _ e1) (hs _ _ e2)

/-- THE FRAME: what a step does to a part of the heap leaves the rest. -/
theorem Step.frame {ρ ρ' : Ren} {h h' y : HF} {lo hi : Nat} {w w' : World} (s : Step ρ ρ' h h' lo hi w w') (hr : HRel ρ (un h y) w) (hf : Free ρ lo hi)
    (hd : ∀ a b, y a = some b → h a = none ∧ ¬ (lo ≤ a ∧ a < hi)) (hc : CellsOnly y ∨ CellsOnly h') : Step ρ ρ' (un h y) (un h' y) lo hi w w' := by
  have hle := s.ren hf
  have hd' : ∀ a b, y a = some b → h' a = none := fun a b e => by
    cases q : h' a with
    | none => rfl
    | some b' =>
      obtain ⟨g1, g2⟩ := hd a b e
      rcases s.dom a b' q with ⟨b0, h0⟩ | h0
      · rw [g1] at h0; exact nomatch h0
      · exact absurd h0 g2
  have hold : ∀ a b, y a = some b → ρ' a = ρ a := fun a b e => s.old a (hd a b e).2
  have hin : ∀ a b, y a = some b → un h y a = some b := fun a b e => by rw [un_right (hd a b e).1]; exact e
  have hkeep : ∀ a b L, y a = some b → ρ a = some L → w'.heap[L.blk]? = w.heap[L.blk]? := fun a b L e eL => by
    have hlt := hr.le_of (hin a b e) eL
    refine s.kept.2 _ hlt fun a1 b1 L1 e1 _ e3 e4 => ?_
    have := hr.inj a1 a b1 b L1 L (un_left e1) (hin a b e) e3 eL e4
    subst this
    rw [(hd _ _ e).1] at e1; exact nomatch e1
  refine ⟨s.old, ⟨fun a b e => ?_, fun a a' b b' L L' e1 e2 e3 e4 e5 => ?_⟩, ⟨s.kept.1, fun c hcl hn => s.kept.2 c hcl fun a b L e => hn a b L (un_left e)⟩, fun a b L e e3 => ?_, fun a b e => ?_, s.le, s.env⟩
  · rcases un_cases e with e | ⟨_, e⟩
    · obtain ⟨L, g1, g2⟩ := s.rel.at_ a b e
      refine ⟨L, g1, BR.congr (Ren.le_refl ρ') rfl ?_ g2⟩
      rintro m ver seen rfl v' es hm
      rcases un_cases hm with hm | ⟨_, hm⟩
      · exact ⟨v', es, hm, Nat.le_refl _, fun _ => ⟨rfl, fun _ _ => rfl⟩⟩
      · rcases hc with hc | hc
        · obtain ⟨_, _, q⟩ := hc m _ hm; exact nomatch q
        · obtain ⟨_, _, q⟩ := hc a _ e; exact nomatch q
    · obtain ⟨L, g1, g2⟩ := hr.at_ a b (hin a b e)
      refine ⟨L, by rw [hold a b e]; exact g1, BR.congr hle (hkeep a b L e g1) ?_ g2⟩
      rintro m ver seen rfl v' es hm
      rcases un_cases hm with hm | ⟨_, hm⟩
      · rcases hc with hc | hc
        · obtain ⟨_, _, q⟩ := hc a _ e; exact nomatch q
        · obtain ⟨_, _, q⟩ := hc m _ hm; exact nomatch q
      · exact ⟨v', es, hin _ _ hm, Nat.le_refl _, fun _ => ⟨rfl, fun Lm q => hkeep m _ Lm hm q⟩⟩
  · have mixed : ∀ {a a' : Nat} {b b' : Blk} {L L' : Loc}, h' a = some b → y a' = some b' → ρ' a = some L → ρ' a' = some L' → L.blk = L'.blk → False := by
      intro a a' b b' L L' e1 e2 e3 e4 e5
      rw [hold _ _ e2] at e4
      have hlt := hr.le_of (hin _ _ e2) e4
      rcases s.own a b L e1 e3 with q | ⟨a0, b0, L0, q1, _, q3, q4⟩
      · omega
      · have := hr.inj a0 a' b0 b' L0 L' (un_left q1) (hin _ _ e2) q3 e4 (by omega)
        subst this
        rw [(hd _ _ e2).1] at q1; exact nomatch q1
    rcases un_cases e1 with e1 | ⟨_, e1⟩ <;> rcases un_cases e2 with e2 | ⟨_, e2⟩
    · exact s.rel.inj a a' b b' L L' e1 e2 e3 e4 e5
    · exact (mixed e1 e2 e3 e4 e5).elim
    · exact (mixed e2 e1 e4 e3 e5.symm).elim
    · rw [hold _ _ e1] at e3; rw [hold _ _ e2] at e4
      exact hr.inj a a' b b' L L' (hin _ _ e1) (hin _ _ e2) e3 e4 e5
  · rcases un_cases e with e | ⟨_, e⟩
    · rcases s.own a b L e e3 with q | ⟨a0, b0, L0, q1, q2, q3, q4⟩
      · exact .inl q
      · exact .inr ⟨a0, b0, L0, un_left q1, q2, q3, q4⟩
    · rw [hold _ _ e] at e3
      exact .inr ⟨a, b, L, hin _ _ e, id, e3, rfl⟩
  · rcases un_cases e with e | ⟨_, e⟩
    · rcases s.dom a b e with ⟨b0, h0⟩ | h0
      · exact .inl ⟨b0, un_left h0⟩
      · exact .inr h0
    · exact .inl ⟨b, hin _ _ e⟩

theorem Step.widen {ρ ρ' : Ren} {h h' : HF} {lo hi lo' hi' : Nat} {w w' : World} (s : Step ρ ρ' h h' lo hi w w') (h1 : lo' ≤ lo) (h2 : hi ≤ hi') : Step ρ ρ' h h' lo' hi' w w' where
  old := fun a ha => s.old a (by omega)
  rel := s.rel
  kept := s.kept
  own := s.own
  dom := fun a b e => by
    rcases s.dom a b e with q | q
    · exact .inl q
    · exact .inr (by omega)
  le := by have := s.le; omega
  env := s.env

/-- Two steps in one range of names. -/
theorem Step.trans2 {ρ ρ1 ρ2 : Ren} {h h1 h2 : HF} {lo hi : Nat} {w w1 w2 : World} (s : Step ρ ρ1 h h1 lo hi w w1) (t : Step ρ1 ρ2 h1 h2 lo hi w1 w2) : Step ρ ρ2 h h2 lo hi w w2 where
  old := fun a ha => by rw [t.old a ha, s.old a ha]
  rel := t.rel
  kept := by
    refine ⟨Nat.le_trans s.kept.1 t.kept.1, fun c hc hn => ?_⟩
    rw [t.kept.2 c (Nat.lt_of_lt_of_le hc s.kept.1) ?_, s.kept.2 c hc hn]
    intro a b L e1 e2 e3 e4
    rcases s.own a b L e1 e3 with h5 | ⟨a0, b0, L0, g1, g2, g3, g4⟩
    · omega
    · exact hn a0 b0 L0 g1 (g2 e2) g3 (by omega)
  own := fun a b L e1 e3 => by
    rcases t.own a b L e1 e3 with h5 | ⟨a0, b0, L0, g1, g2, g3, g4⟩
    · exact .inl (Nat.le_trans s.kept.1 h5)
    · rcases s.own a0 b0 L0 g1 g3 with h5 | ⟨a1, b1, L1, f1, f2, f3, f4⟩
      · exact .inl (by omega)
      · exact .inr ⟨a1, b1, L1, f1, fun q => f2 (g2 q), f3, by omega⟩
  dom := fun a b e => by
    rcases t.dom a b e with ⟨b0, h0⟩ | h0
    · rcases s.dom a b0 h0 with h3 | h3
      · exact .inl h3
      · exact .inr h3
    · exact .inr h0
  le := s.le
  env := ⟨t.env.1.trans s.env.1, t.env.2.trans s.env.2⟩

theorem Step.same {ρ ρ' : Ren} {h h' g g' : HF} {lo hi : Nat} {w w' : World} (s : Step ρ ρ' h h' lo hi w w') (e : h = g) (e' : h' = g') : Step ρ ρ' g g' lo hi w w' := e ▸ e' ▸ s

/-! ### one operation -/

def wpO (P : Program) (ops : Array Oper) (Q : Exit → Act → World → Prop) (o : Oper) (K : Act → World → Prop) (a : Act) (w : World) : Prop :=
  if Region.wanted o (yielded ops a.tmps) then o.wp P a w K Q ∨ (o.asks P a w ∧ LetsOut Q) else K (a.put o.dst undef) w

/-- A function of Go, as the evaluator has it. -/
abbrev Cal := FuncId → List V → Heap → Option (V × Heap)

def Fresh (ρ : Ren) (n : Nat) : Prop := ∀ a, n ≤ a → ρ a = none

/-- A function with a body: it is entered, and returns. -/
def FunOk (P : Program) (G : Nat) (cal : Cal) : Prop :=
  ∀ f args H v H', cal f args H = some (v, H') → (∃ fn, P.funcs[f]? = some fn ∧ (fn.name == "runtime.NumGoroutine") = false ∧ fn.body.isNone = false) ∧
    ∀ (ρ : Ren) (vs : List Value) (w : World), Glob ρ G → RL ρ args vs → HRel ρ H.t.get w → Fresh ρ H.nx →
    Calls P f vs.toArray w fun
      | .returned y, w' => ∃ ρ', R ρ' v y ∧ Step ρ ρ' H.t.get H'.t.get H.nx H'.nx w w'
      | _, _ => False
/-- A function without one: the model has its answer. -/
def RowOk (P : Program) (G : Nat) (cal : Cal) : Prop :=
  ∀ f args H v H', cal f args H = some (v, H') → ∀ (ρ : Ren) (vs : List Value) (w : World), Glob ρ G → RL ρ args vs → HRel ρ H.t.get w → Fresh ρ H.nx →
    ∃ y w' ρ', (callFunc f vs.toArray).run P w = .ok (.value y) w' ∧ R ρ' v y ∧ Step ρ ρ' H.t.get H'.t.get H.nx H'.nx w w'
def CalOk (P : Program) (G : Nat) (cal : Cal) : Prop := ∃ c1 c2 : Cal, FunOk P G c1 ∧ RowOk P G c2 ∧ ∀ f args H p, cal f args H = some p → c1 f args H = some p ∨ c2 f args H = some p

/-- The call that a call's operands stand for, if it is one of a Go function's. -/
noncomputable def calleeOf (G : Nat) (F : Tr V) (c : Call) : Option (FuncId × List V) :=
  match c.callee with
  | .value f => V.onF (ev G F f) fun fn first cap => match fn with
    | .func k => some (k, appL (appL first (mapL (ev G F) c.args.toList)) cap)
    | _ => none
  | _ => none

noncomputable def cOp (cal : Cal) (G : Nat) (H : Heap) (F : Tr V) (op : Op) : Option (V × Heap) :=
  match op with
  | .call c => onO (calleeOf G F c) fun q => cal q.1 q.2 H
  | _ => none

theorem cOp_ok {cal : Cal} {ρ : Ren} {G : Nat} {H H' : Heap} {F : Tr V} {v : V} (hcal : CalOk P G cal) {a : Act} {w : World} {o : Oper} (hg : Glob ρ G) (he : ∀ x, R ρ (ev G F x) (a.eval x)) (hr : HRel ρ H.t.get w) (hf : Fresh ρ H.nx)
    (hh : cOp cal G H F o.op = some (v, H')) {K : Act → World → Prop} {Q : Exit → Act → World → Prop}
    (hK : ∀ y w' ρ', R ρ' v y → Step ρ ρ' H.t.get H'.t.get H.nx H'.nx w w' → K (a.put o.dst y) w') : o.wp P a w K Q := by
  cases ho : o.op <;> rw [ho] at hh
  case call c =>
    obtain ⟨q, h1, h2⟩ := onO_inv (show onO (calleeOf G F c) (fun q => cal q.1 q.2 H) = some (v, H') from hh)
    obtain ⟨callee, args, ats⟩ := c
    cases callee
    case value f =>
      obtain ⟨fn, first, cap, e1, h3⟩ := V.onF_inv (show V.onF (ev G F f) (fun fn first cap => match fn with
        | .func k => some (k, appL (appL first (mapL (ev G F) args.toList)) cap)
        | _ => none) = some q from h1)
      cases fn
      case func k =>
        injection h3 with h3; subst h3
        obtain ⟨c1, c2, hc1, hc2, hor⟩ := hcal
        have hf1 := he f
        rw [e1] at hf1
        obtain ⟨xs, ys, hx, hxs, hys⟩ := hf1
        have hargs := evs_ok he args.toList
        have hRL : RL ρ (appL (appL first (mapL (ev G F) args.toList)) cap) (xs ++ args.toList.map a.eval ++ ys) := by rw [appL_eq, appL_eq]; exact (hxs.append hargs).append hys
        have ha : (args.toList.map a.eval).toArray = args.map a.eval := by apply Array.ext'; simp
        rcases hor _ _ _ _ h2 with h2 | h2
        case inr =>
          obtain ⟨y, w', ρ', q1, q2, q3⟩ := hc2 _ _ _ _ _ h2 ρ _ w hg hRL hr hf
          have hrun : (execOp a.eval o).run P w = .ok (.value y) w' := by
            have q1 : (callFunc k (xs.toArray ++ args.map a.eval ++ ys.toArray)).run P w = .ok (.value y) w' := by
              rw [← ha, ← q1]; simp
            simp only [execOp, ho, resolve, hx, Deferred.ofValue, Sem.run_bind, Sem.run_pure, Result.andThen_ok, invoke, q1]
          unfold Oper.wp
          rw [hrun]
          exact hK y w' ρ' q2 q3
        obtain ⟨⟨fd, g1, g2, g3⟩, hc⟩ := hc1 _ _ _ _ _ h2
        have hl := hc ρ (xs ++ args.toList.map a.eval ++ ys) w hg hRL hr hf
        have hrun : (execOp a.eval o).run P w = .ok (.enter k (xs ++ args.toList.map a.eval ++ ys).toArray) w := by
          simp only [execOp, ho, resolve, hx, Deferred.ofValue, Sem.run_bind, Sem.run_pure, Result.andThen_ok, invoke, callFunc, program, Sem.run, g1, g2, g3, Bool.false_eq_true, if_false]
          rw [← ha]
          simp
        unfold Oper.wp
        rw [hrun]
        show Calls P k _ w _
        refine Calls.mono hl fun e w' hh => ?_
        cases e with
        | returned y => obtain ⟨ρ', r1, r2⟩ := hh; exact hK y w' ρ' r1 r2
        | panicked c => exact hh.elim
        | outgrown => exact hh.elim
      all_goals exact nomatch h3
    all_goals exact nomatch (show (none : Option (FuncId × List V)) = some q from h1)
  all_goals exact nomatch (show (none : Option (V × Heap)) = some (v, H') from hh)

/-! ### the guard -/

noncomputable def gv (v : V) (want : Bool) : Option Bool := match v with | .b x => some (ite2 x want (notB want)) | .t _ => some false | _ => none
noncomputable def gd (F : Tr V) (ops : List Oper) (g : Option (Nat × Bool)) : Option Bool :=
  match g with
  | none => some true
  | some (j, want) => onO (nthL ops j) fun oj => onO oj.dst fun t => gv (getF F t) want

theorem gd_ok {ρ : Ren} {F : Tr V} {n : Nat} {a : Act} {ops : Array Oper} {o : Oper} {b : Bool} (hF : FRel ρ F n a) (h : gd F ops.toList o.guard = some b) : Region.wanted o (yielded ops a.tmps) = b := by
  unfold gd at h
  unfold Region.wanted
  split at h
  · rename_i hg
    rw [hg]; injection h with h
  · rename_i j want hg
    rw [hg]
    obtain ⟨oj, h1, h2⟩ := onO_inv h
    obtain ⟨t, h3, h4⟩ := onO_inv h2
    rw [nthL_eq, Array.getElem?_toList] at h1
    have hat := hF.at_ t
    unfold gv at h4
    have hy : yielded ops a.tmps j = match a.tmps[t]? with | some (.bool b) => some b | _ => none := by
      unfold yielded
      rw [h1]
      show (match (oj.dst).bind (a.tmps[·]?) with | some (.bool b) => some b | _ => none) = _
      rw [h3]; rfl
    show (yielded ops a.tmps j == some want) = b
    rw [hy]
    split at h4
    · rename_i x hx
      injection h4 with h4
      rw [hx] at hat
      have hv : a.tmps.getD t undef = .bool x := hat
      have : a.tmps[t]? = some (.bool x) := by
        rw [Array.getD_eq_getD_getElem?] at hv
        cases q : a.tmps[t]? with
        | none => rw [q] at hv; exact nomatch hv
        | some y => rw [q] at hv; rw [show y = .bool x from hv]
      rw [this, ← h4]
      cases x <;> cases want <;> rfl
    · rename_i cs hx
      injection h4 with h4
      rw [hx] at hat
      obtain ⟨xs, hv, _⟩ := hat
      have : (match a.tmps[t]? with | some (.bool b) => some b | _ => none) = none := by
        rw [Array.getD_eq_getD_getElem?] at hv
        cases q : a.tmps[t]? with
        | none => rfl
        | some y => rw [q] at hv; rw [show y = .tuple xs.toArray from hv]
      rw [this, ← h4]
      rfl
    · exact nomatch h4

/-- An operation, from a heap, with what comes of it. -/
def OpOk (P : Program) (G n : Nat) (ops : Array Oper) (Q : Exit → Act → World → Prop) (fr : Ren → Prop) (F : Tr V) (H : Heap) (o : Oper) (outs : List (V × Heap)) : Prop :=
  ∀ (ρ : Ren) (a : Act) (w : World), Glob ρ G → FRel ρ F n a → HRel ρ H.t.get w → fr ρ → ∀ K : Act → World → Prop,
    (∀ p ∈ outs, ∀ y w' ρ', R ρ' p.1 y → Step ρ ρ' H.t.get p.2.t.get H.nx p.2.nx w w' → K (a.put o.dst y) w') → wpO P ops Q o K a w

section
variable {G n : Nat} {ops : Array Oper} {Q : Exit → Act → World → Prop} {fr : Ren → Prop} {F : Tr V} {H : Heap} {o : Oper}

theorem op_skip (h : gd F ops.toList o.guard = some false) : OpOk P G n ops Q fr F H o [(.t [], H)] := by
  intro ρ a w hg hF hr hfr K hK
  unfold wpO
  rw [gd_ok hF h, if_neg (by simp)]
  exact hK _ (List.mem_singleton.2 rfl) undef w ρ ⟨[], rfl, rfl⟩ (Step.refl _ hr)

theorem wpO_run {ρ : Ren} {a : Act} {w : World} {K : Act → World → Prop} (hF : FRel ρ F n a) (h : gd F ops.toList o.guard = some true) (hw : o.wp P a w K Q) : wpO P ops Q o K a w := by
  unfold wpO
  rw [gd_ok hF h, if_pos rfl]
  exact .inl hw

theorem op_pure {v : V} (h : gd F ops.toList o.guard = some true) (hp : pOp P G F o.op = some v) : OpOk P G n ops Q fr F H o [(v, H)] := by
  intro ρ a w hg hF hr hfr K hK
  refine wpO_run hF h ?_
  obtain ⟨y, hy, hv⟩ := pOp_ok (hF.eval hg) w hp
  unfold Oper.wp; rw [hy]
  exact hK _ (List.mem_singleton.2 rfl) y w ρ hv (Step.refl _ hr)

theorem op_load {v : V} (h : gd F ops.toList o.guard = some true) (hp : lOp P G H.t F o.op = some v) : OpOk P G n ops Q fr F H o [(v, H)] := by
  intro ρ a w hg hF hr hfr K hK
  refine wpO_run hF h ?_
  obtain ⟨y, hy, hv⟩ := lOp_ok (hF.eval hg) hr hp
  unfold Oper.wp; rw [hy]
  exact hK _ (List.mem_singleton.2 rfl) y w ρ hv (Step.refl _ hr)

theorem op_alloc {v : V} {H' : Heap} (h : gd F ops.toList o.guard = some true) (hfr : ∀ ρ, fr ρ → ρ H.nx = none) (hp : aOp P G H F o.op = some (v, H')) : OpOk P G n ops Q fr F H o [(v, H')] := by
  intro ρ a w hg hF hr hf K hK
  refine wpO_run hF h ?_
  obtain ⟨y, w', ρ', hy, hv, hs⟩ := aOp_ok (hF.eval hg) hr (hfr ρ hf) hp
  unfold Oper.wp; rw [hy]
  exact hK _ (List.mem_singleton.2 rfl) y w' ρ' hv hs

theorem op_eff {outs : List (V × Heap)} (h : gd F ops.toList o.guard = some true) (hfr : ∀ ρ, fr ρ → ρ H.nx = none) (hp : eOp P G H F o.op = some outs) : OpOk P G n ops Q fr F H o outs := by
  intro ρ a w hg hF hr hf K hK
  refine wpO_run hF h ?_
  obtain ⟨p, hm, r, y, w', ρ', hy, hc, hv, hs⟩ := eOp_ok (hF.eval hg) hr (hfr ρ hf) hp
  unfold Oper.wp; rw [hy]
  rcases hc with rfl | ⟨rfl, rfl⟩
  · exact hK p hm y w' ρ' hv hs
  · exact hK p hm undef w' ρ' hv hs

theorem op_call {cal : Cal} {v : V} {H' : Heap} (hcal : CalOk P G cal) (h : gd F ops.toList o.guard = some true) (hfr : ∀ ρ, fr ρ → Fresh ρ H.nx) (hp : cOp cal G H F o.op = some (v, H')) : OpOk P G n ops Q fr F H o [(v, H')] := by
  intro ρ a w hg hF hr hf K hK
  exact wpO_run hF h (cOp_ok hcal hg (hF.eval hg) hr (hfr ρ hf) hp (fun y w' ρ' h1 h2 => hK _ (List.mem_singleton.2 rfl) y w' ρ' h1 h2))
end

/-! ### all together -/

noncomputable def orE {β : Type} (o : Option β) (x : Option β) : Option β := Option.rec (motive := fun _ => Option β) x (fun b => some b) o
theorem orE_inv {β : Type} {o x : Option β} {b : β} (h : orE o x = some b) : o = some b ∨ x = some b := by
  cases o with
  | none => exact .inr h
  | some b' => exact .inl h

noncomputable def one3 (H : Heap) (v : Option V) : Option (List (V × Heap)) := onO v fun v => some [(v, H)]
noncomputable def evRun (P : Program) (cal : Cal) (G : Nat) (F : Tr V) (H : Heap) (op : Op) : Option (List (V × Heap)) :=
  orE (one3 H (pOp P G F op)) (orE (one3 H (lOp P G H.t F op)) (orE (one2 (aOp P G H F op)) (orE (eOp P G H F op) (one2 (cOp cal G H F op)))))
noncomputable def evOne (P : Program) (cal : Cal) (G : Nat) (ops : List Oper) (F : Tr V) (H : Heap) (o : Oper) : Option (List (V × Heap)) :=
  onO (gd F ops o.guard) fun b => ite2 b (evRun P cal G F H o.op) (some [(.t [], H)])

theorem evOne_ok {cal : Cal} {G n : Nat} {ops : Array Oper} {Q : Exit → Act → World → Prop} {F : Tr V} {H : Heap} {o : Oper} {outs : List (V × Heap)} (hcal : CalOk P G cal) (h : evOne P cal G ops.toList F H o = some outs) :
    OpOk P G n ops Q (Fresh · H.nx) F H o outs := by
  obtain ⟨b, h1, h2⟩ := onO_inv h
  cases b
  · injection (show some [((.t [] : V), H)] = some outs from h2) with h2; subst h2
    exact op_skip h1
  · have h3 : evRun P cal G F H o.op = some outs := h2
    rcases orE_inv h3 with h3 | h3
    · obtain ⟨v, h4, h5⟩ := onO_inv h3
      injection h5 with h5; subst h5
      exact op_pure h1 h4
    rcases orE_inv h3 with h3 | h3
    · obtain ⟨v, h4, h5⟩ := onO_inv h3
      injection h5 with h5; subst h5
      exact op_load h1 h4
    rcases orE_inv h3 with h3 | h3
    · obtain ⟨⟨v, H'⟩, h4, h5⟩ := onO_inv h3
      injection h5 with h5; subst h5
      exact op_alloc h1 (fun ρ hρ => hρ _ (Nat.le_refl _)) h4
    rcases orE_inv h3 with h3 | h3
    · exact op_eff h1 (fun ρ hρ => hρ _ (Nat.le_refl _)) h3
    · obtain ⟨⟨v, H'⟩, h4, h5⟩ := onO_inv h3
      injection h5 with h5; subst h5
      exact op_call hcal h1 (fun ρ hρ => hρ) h4

end Go.Proofs.YtdnlfkmfofckfaaGreatDoor.Ev
