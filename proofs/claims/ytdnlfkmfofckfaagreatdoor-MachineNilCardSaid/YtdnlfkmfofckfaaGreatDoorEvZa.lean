/- Functions: results, deferred calls, calls to any depth. -/
import Derived.Test.YtdnlfkmfofckfaaGreatDoorEvZ
namespace Go.Proofs.YtdnlfkmfofckfaaGreatDoor.Ev
variable {P : Program}

/-! ### two outcomes made one -/

noncomputable def mB (f : Blk → Blk → Bool) (a b : Option Blk) : Option Blk := onO a fun x => onO b fun y => ifB (f x y) (some x)
noncomputable def meet (f : Blk → Blk → Bool) (t : Tr Blk) : Tr Blk → Tr Blk :=
  Tr.rec (motive := fun _ => Tr Blk → Tr Blk) (fun _ => .e) (fun _ v _ ihl ihr t' => Tr.rec (motive := fun _ => Tr Blk) .e (fun l' v' r' _ _ => .n (ihl l') (mB f v v') (ihr r')) t') t

theorem mB_inv {f : Blk → Blk → Bool} (hf : ∀ x y, f x y = true → x = y) {a b : Option Blk} {x : Blk} (h : mB f a b = some x) : a = some x ∧ b = some x := by
  obtain ⟨x', h1, h2⟩ := onO_inv h
  obtain ⟨y', h3, h4⟩ := onO_inv h2
  obtain ⟨h5, h6⟩ := ifB_inv h4
  injection h6 with h6; subst h6
  rw [hf _ _ h5]
  rw [hf _ _ h5] at h1
  exact ⟨h1, h3⟩

theorem meet_inv {f : Blk → Blk → Bool} (hf : ∀ x y, f x y = true → x = y) : ∀ (t t' : Tr Blk) (k : Nat) (b : Blk), (meet f t t').get k = some b → t.get k = some b ∧ t'.get k = some b := by
  intro t
  induction t with
  | e => intro t' k b h; exact nomatch (show (none : Option Blk) = some b from h)
  | n l v r ihl ihr =>
    intro t' k b h
    cases t' with
    | e => exact nomatch (show (none : Option Blk) = some b from h)
    | n l' v' r' =>
      have e : meet f (.n l v r) (.n l' v' r') = .n (meet f l l') (mB f v v') (meet f r r') := rfl
      rw [e, Tr.get_n] at h
      rw [Tr.get_n, Tr.get_n]
      by_cases h0 : k = 0
      · rw [if_pos h0] at h ⊢
        rw [if_pos h0]
        exact mB_inv hf h
      · rw [if_neg h0] at h ⊢
        rw [if_neg h0]
        by_cases h2 : k % 2 = 0
        · rw [if_pos h2] at h ⊢
          rw [if_pos h2]
          exact ihl _ _ _ h
        · rw [if_neg h2] at h ⊢
          rw [if_neg h2]
          exact ihr _ _ _ h

noncomputable def eqM (es es' : List (K × V)) : Bool :=
  List.rec (motive := fun _ => List (K × V) → Bool) (fun m => List.rec (motive := fun _ => Bool) true (fun _ _ _ => false) m)
    (fun x _ ih m => List.rec (motive := fun _ => Bool) false (fun y ys _ => andB (kEq x.1 y.1) (andB (veq x.2 y.2) (ih ys))) m) es es'
noncomputable def beqBlk (b b' : Blk) : Bool :=
  match b with
  | .c ro cs => (match b' with | .c ro' cs' => andB (beqB ro ro') (veqs cs cs') | _ => false)
  | .m ver es => (match b' with | .m ver' es' => andB (Nat.beq ver ver') (eqM es es') | _ => false)
  | _ => false

theorem eqM_ok : ∀ {es es' : List (K × V)}, eqM es es' = true → es = es' := by
  intro es
  induction es with
  | nil =>
    intro es' h
    cases es' with
    | nil => rfl
    | cons => exact nomatch (show (false : Bool) = true from h)
  | cons x es ih =>
    intro es' h
    cases es' with
    | nil => exact nomatch (show (false : Bool) = true from h)
    | cons y ys =>
      obtain ⟨h1, h⟩ := andB_inv (show andB (kEq x.1 y.1) (andB (veq x.2 y.2) (eqM es ys)) = true from h)
      obtain ⟨h2, h3⟩ := andB_inv h
      rw [ih h3]
      obtain ⟨x1, x2⟩ := x
      obtain ⟨y1, y2⟩ := y
      have h1 := (kEq_eq x1 y1).1 h1
      have h2 := veq_ok (show veq x2 y2 = true from h2)
      rw [h1, h2]

theorem beqBlk_ok (b b' : Blk) (h : beqBlk b b' = true) : b = b' := by
  unfold beqBlk at h
  split at h
  · split at h
    · obtain ⟨h1, h2⟩ := andB_inv h
      rw [beqB_inv h1, veqs_ok h2]
    · exact nomatch h
  · split at h
    · obtain ⟨h1, h2⟩ := andB_inv h
      rw [Nat.eq_of_beq_eq_true h1, eqM_ok h2]
    · exact nomatch h
  · exact nomatch h

theorem Step.sub {ρ ρ' : Ren} {h h' h'' : HF} {lo hi : Nat} {w w' : World} (s : Step ρ ρ' h h' lo hi w w') (hs : ∀ a b, h'' a = some b → h' a = some b) : Step ρ ρ' h h'' lo hi w w' where
  old := s.old
  rel := s.rel.sub hs
  kept := s.kept
  own := fun a b L e => s.own a b L (hs a b e)
  dom := fun a b e => s.dom a b (hs a b e)
  le := s.le
  env := s.env

noncomputable def mxN (a b : Nat) : Nat := Bool.rec (motive := fun _ => Nat) a b (Nat.ble a b)
theorem mxN_le (a b : Nat) : a ≤ mxN a b ∧ b ≤ mxN a b := by
  unfold mxN
  cases h : Nat.ble a b
  · have : ¬ a ≤ b := fun q => by rw [Nat.ble_eq_true_of_le q] at h; exact nomatch h
    exact ⟨Nat.le_refl _, by show b ≤ a; omega⟩
  · exact ⟨Nat.le_of_ble_eq_true h, Nat.le_refl _⟩

noncomputable def join2 (p q : V × Heap) : V × Heap := (ite2 (veq p.1 q.1) p.1 .w, ⟨mxN p.2.nx q.2.nx, meet beqBlk p.2.t q.2.t⟩)
noncomputable def joinL (l : List (V × Heap)) : Option (V × Heap) :=
  List.rec (motive := fun _ => Option (V × Heap)) none (fun p t ih => List.rec (motive := fun _ => Option (V × Heap)) (some p) (fun _ _ _ => onO ih fun q => some (join2 p q)) t) l

def Under (p q : V × Heap) : Prop := (∀ ρ y, R ρ p.1 y → R ρ q.1 y) ∧ (∀ a b, q.2.t.get a = some b → p.2.t.get a = some b) ∧ p.2.nx ≤ q.2.nx
theorem Under.trans {p q r : V × Heap} (h : Under p q) (h' : Under q r) : Under p r := ⟨fun ρ y z => h'.1 ρ y (h.1 ρ y z), fun a b z => h.2.1 a b (h'.2.1 a b z), Nat.le_trans h.2.2 h'.2.2⟩
theorem join2_under (p q : V × Heap) : Under p (join2 p q) ∧ Under q (join2 p q) := by
  refine ⟨⟨fun ρ y z => ?_, fun a b z => (meet_inv beqBlk_ok _ _ _ _ z).1, (mxN_le _ _).1⟩, ⟨fun ρ y z => ?_, fun a b z => (meet_inv beqBlk_ok _ _ _ _ z).2, (mxN_le _ _).2⟩⟩
  · show R ρ (ite2 (veq p.1 q.1) p.1 .w) y
    cases h : veq p.1 q.1
    · exact trivial
    · exact z
  · show R ρ (ite2 (veq p.1 q.1) p.1 .w) y
    cases h : veq p.1 q.1
    · exact trivial
    · rw [ite2_true, veq_ok h]; exact z
theorem joinL_under : ∀ {l : List (V × Heap)} {q : V × Heap}, joinL l = some q → ∀ p ∈ l, Under p q := by
  intro l
  induction l with
  | nil => intro q _ p hp; exact nomatch hp
  | cons x l ih =>
    intro q h p hp
    cases l with
    | nil =>
      injection (show some x = some q from h) with h; subst h
      rw [List.mem_singleton] at hp; subst hp
      exact ⟨fun _ _ z => z, fun _ _ z => z, Nat.le_refl _⟩
    | cons y t =>
      obtain ⟨q', h1, h2⟩ := onO_inv (show onO (joinL (y :: t)) (fun q => some (join2 x q)) = some q from h)
      injection h2 with h2; subst h2
      cases hp with
      | head => exact (join2_under x q').1
      | tail _ hp => exact (ih h1 p hp).trans (join2_under x q').2

/-! ### results -/

noncomputable def evR (P : Program) (F : Tr V) (H : Heap) (r : ResultVar) : Option V := match r with | .tmp t => some (getF F t) | .cell a t => hLoad P H.t t (getF F a)
noncomputable def seqV (l : List ResultVar) (f : ResultVar → Option V) : Option (List V) := List.rec (motive := fun _ => Option (List V)) (some []) (fun r _ ih => onO (f r) fun v => onO ih fun vs => some (v :: vs)) l
noncomputable def tup (vs : List V) : V := List.rec (motive := fun _ => V) (.t []) (fun v t _ => List.rec (motive := fun _ => V) v (fun _ _ _ => .t vs) t) vs
noncomputable def evRes (P : Program) (fn : Func) (F : Tr V) (H : Heap) : Option V := onO (seqV fn.results.toList (evR P F H)) fun vs => some (tup vs)

/-- One result. -/
def resF (tmps : Array Value) : ResultVar → Sem Value
  | .tmp t => pure (tmps.getD t undef)
  | .cell b t => do loadVar t (← asAddr (tmps.getD b undef))
theorem results_eq (fn : Func) (tmps : Array Value) : results fn tmps = (do let vs ← fn.results.mapM (resF tmps); pure (if h : vs.size = 1 then vs[0] else .tuple vs)) := by
  unfold results
  congr 1

theorem evRes_ok {fn : Func} {F : Tr V} {H : Heap} {v : V} (h : evRes P fn F H = some v) {ρ : Ren} {n : Nat} {a : Act} {w : World} (hF : FRel ρ F n a) (hr : HRel ρ H.t.get w) :
    ∃ y, (results fn a.tmps).run P w = .ok y w ∧ R ρ v y := by
  obtain ⟨vs, h1, h2⟩ := onO_inv h
  injection h2 with h2
  have key : ∀ (l : List ResultVar) (vs : List V), seqV l (evR P F H) = some vs →
      ∃ ys : List Value, (l.mapM (resF a.tmps)).run P w = .ok ys w ∧ RL ρ vs ys := by
    intro l
    induction l with
    | nil => intro vs h; injection (show some [] = some vs from h) with h; subst h; exact ⟨[], by simp, rfl⟩
    | cons r l ih =>
      intro vs h
      obtain ⟨v, h1, h3⟩ := onO_inv (show onO (evR P F H r) (fun v => onO (seqV l (evR P F H)) fun vs => some (v :: vs)) = some vs from h)
      obtain ⟨vs', h4, h5⟩ := onO_inv h3
      injection h5 with h5; subst h5
      obtain ⟨ys, g1, g2⟩ := ih vs' h4
      cases r with
      | tmp t =>
        injection (show some (getF F t) = some v from h1) with h1; subst h1
        exact ⟨a.tmps.getD t undef :: ys, by simp only [List.mapM_cons, resF, Sem.run_bind, Sem.run_pure, Result.andThen_ok, g1], a.tmps.getD t undef, ys, rfl, hF.at_ t, g2⟩
      | cell b t =>
        have hx := hF.at_ b
        obtain ⟨y, q1, q2⟩ := hLoad_ok (show hLoad P H.t t (getF F b) = some v from h1) hr hx
        obtain ⟨a', o, e, _⟩ := V.onP_inv (show hLoad P H.t t (getF F b) = some v from h1)
        rw [e] at hx
        obtain ⟨L, _, hv⟩ := hx
        rw [hv] at q1
        have q1 : (loadVar t ⟨L.blk, L.base + o, none⟩).run P w = .ok y w := by
          simpa [Instr.loadAt, Instr.sureAddr] using q1
        refine ⟨y :: ys, ?_, y, ys, rfl, q2, g2⟩
        simp only [List.mapM_cons, resF, hv, asAddr, Sem.run_bind, Sem.run_pure, Result.andThen_ok, q1, g1]
  obtain ⟨ys, g1, g2⟩ := key _ _ h1
  have hres : (results fn a.tmps).run P w = .ok (if h : ys.toArray.size = 1 then ys.toArray[0] else .tuple ys.toArray) w := by
    rw [results_eq, Sem.run_bind, Array.mapM_eq_mapM_toList]
    rw [show ((List.toArray <$> fn.results.toList.mapM (resF a.tmps)).run P w) = .ok ys.toArray w from by
      rw [map_eq_pure_bind, Sem.run_bind, g1]; rfl]
    rfl
  refine ⟨_, hres, ?_⟩
  subst h2
  cases vs with
  | nil =>
    have : ys = [] := g2
    subst this
    exact ⟨[], rfl, rfl⟩
  | cons v vs =>
    obtain ⟨y, ys', e, q1, q2⟩ := g2
    subst e
    cases vs with
    | nil =>
      have : ys' = [] := q2
      subst this
      exact q1
    | cons v' vs' =>
      obtain ⟨y', ys'', e, q3, q4⟩ := q2
      subst e
      have hne : ¬ (y :: y' :: ys'').toArray.size = 1 := by simp
      rw [dif_neg hne]
      exact ⟨y :: y' :: ys'', rfl, y, y' :: ys'', rfl, q1, y', ys'', rfl, q3, q4⟩

/-! ### functions -/

noncomputable def argF (l : List V) : Nat → Tr V → Tr V := List.rec (motive := fun _ => Nat → Tr V → Tr V) (fun _ F => F) (fun x _ ih i F => ih (Nat.add i 1) (F.set i x)) l
theorem argF_get : ∀ (l : List V) (i : Nat) (F : Tr V) (t : Nat), getF (argF l i F) t = if i ≤ t then (l[t - i]?).getD (getF F t) else getF F t := by
  intro l
  induction l with
  | nil => intro i F t; show getF F t = _; simp
  | cons x l ih =>
    intro i F t
    have e : argF (x :: l) i F = argF l (i + 1) (F.set i x) := rfl
    rw [e, ih, getF_set]
    by_cases h : i + 1 ≤ t
    · rw [if_pos h, if_neg (by omega), if_pos (by omega)]
      have : t - i = (t - (i + 1)) + 1 := by omega
      rw [this, List.getElem?_cons_succ]
    · rw [if_neg h]
      by_cases h2 : t = i
      · subst h2; simp
      · rw [if_neg h2, if_neg (by omega)]

theorem enter_frel {ρ : Ren} {vs : List V} {xs : List Value} {n : Nat} (h : RL ρ vs xs) (hn : vs.length ≤ n) (ds : List Deferred) : FRel ρ (argF vs 0 .e) n { tmps := xs.toArray ++ Array.replicate (n - xs.toArray.size) undef, defers := ds } := by
  have hl := h.length
  refine ⟨by simp; omega, fun t => ?_⟩
  rw [argF_get, if_pos (Nat.zero_le t), Nat.sub_zero]
  cases e : vs[t]? with
  | none => exact trivial
  | some v =>
    obtain ⟨y, e1, e2⟩ := h.get e
    have hlt : t < xs.length := (List.getElem?_eq_some_iff.1 e1).1
    have : (xs.toArray ++ Array.replicate (n - xs.toArray.size) undef).getD t undef = y := by
      rw [Array.getD_eq_getD_getElem?, Array.getElem?_append_left (by simpa using hlt)]
      simp [e1]
    rw [this]; exact e2

/-- Deferred calls, as the evaluator has them. -/
abbrev DCal := FuncId → List V → Heap → Option Heap

def FnOk (P : Program) (f : FuncId) : Prop := ∃ fn, P.funcs[f]? = some fn ∧ (fn.name == "runtime.NumGoroutine") = false ∧ fn.body.isNone = false

def DCalOk (P : Program) (G : Nat) (cal : DCal) : Prop :=
  ∀ f args H H', cal f args H = some H' → FnOk P f ∧
    ∀ (ρ : Ren) (vs : List Value) (w : World), Glob ρ G → RL ρ args vs → HRel ρ H.t.get w → Fresh ρ H.nx →
    CallsD P f vs.toArray .returning w fun e u w' => u = .returning ∧ (∃ y, e = .returned y) ∧ ∃ ρ', HStep ρ ρ' H H' w w'

noncomputable def evDfr (dcal : DCal) (D : List (FuncId × List V)) : Heap → Option Heap := List.rec (motive := fun _ => Heap → Option Heap) some (fun q _ ih H => onO (dcal q.1 q.2 H) ih) D

theorem evDfr_ok {dcal : DCal} {G : Nat} (hd : DCalOk P G dcal) {fn : Func} {tmps : Array Value} {R' : Ending → World → Prop} : ∀ {D : List (FuncId × List V)} {H H' : Heap}, evDfr dcal D H = some H' → ∀ {ρ : Ren} {ds : List Deferred} {w : World}, Glob ρ G → DRel ρ D ds → HRel ρ H.t.get w → Fresh ρ H.nx →
    (∀ ρ' w', HStep ρ ρ' H H' w w' → ∃ v, (results fn tmps).run P w' = .ok v w' ∧ R' (.returned v) w') → Leaves P fn tmps R' ds .returning w := by
  intro D
  induction D with
  | nil =>
    intro H H' h ρ ds w _ hD hr _ hK
    injection (show some H = some H' from h) with h; subst h
    have hD : ds = [] := hD
    subst hD
    exact hK ρ w (Step.refl _ hr)
  | cons q D ih =>
    intro H H' h ρ ds w hg hD hr hf hK
    obtain ⟨H1, h1, h2⟩ := onO_inv (show onO (dcal q.1 q.2 H) (evDfr dcal D) = some H' from h)
    obtain ⟨d, ds', e, ⟨cap, ht, hargs⟩, hD'⟩ := hD
    subst e
    obtain ⟨⟨fd, g1, g2, g3⟩, hc⟩ := hd _ _ _ _ h1
    have hc := hc ρ _ w hg hargs hr hf
    have hinv : (invoke d.target d.args).run P w = .ok (.enter q.1 (d.args.toList ++ cap.toList).toArray) w := by
      simp only [ht, invoke, callFunc, program, Sem.run_bind, Sem.run, Result.andThen_ok, g1, g2, g3, Bool.false_eq_true, if_false, Sem.run_pure]
      simp
    refine ⟨(fun h => nomatch h), .func q.1, cap, q.1, _, ht, hinv, ?_⟩
    refine hc.mono fun e u w' hh => ?_
    obtain ⟨rfl, ⟨y, rfl⟩, ρ', hst⟩ := hh
    show Leaves P fn tmps R' ds' (settle .returning) w'
    have hle := hst.ren hf.free
    have hf' : Fresh ρ' H1.nx := fun a ha => by
      have hle : H.nx ≤ H1.nx := hst.le
      rw [hst.old a (by omega)]; exact hf a (by omega)
    exact ih h2 (hg.mono hle) (hD'.mono hle) hst.rel hf' fun ρ'' w'' hst' => hK ρ'' w'' (Step.trans hst hst')

noncomputable def body (P : Program) (k : FuncId) : Option (Func × Code) :=
  match (idxA P.funcs).get k with
  | some fn => match fn.body with
    | some c => ite2 (fn.name == "runtime.NumGoroutine") none (some (fn, c))
    | none => none
  | none => none
theorem body_inv {k : FuncId} {p : Func × Code} (h : body P k = some p) : P.funcs[k]? = some p.1 ∧ p.1.body = some p.2 ∧ (p.1.name == "runtime.NumGoroutine") = false := by
  unfold body at h
  split at h
  · rename_i fn hfn
    have hfn := idxA_get hfn
    split at h
    · rename_i c hc
      cases q : fn.name == "runtime.NumGoroutine"
      · rw [q, ite2_false] at h; injection h with h; subst h; exact ⟨hfn, hc, q⟩
      · rw [q, ite2_true] at h; exact nomatch h
    · exact nomatch h
  · exact nomatch h
theorem body_fn {k : FuncId} {p : Func × Code} (h : body P k = some p) : FnOk P k := by
  obtain ⟨h1, h2, h3⟩ := body_inv h
  exact ⟨p.1, h1, h3, by rw [h2]; rfl⟩

noncomputable def notEx (e : Ex) : Bool := Ex.rec (motive := fun _ => Bool) true (fun _ => false) true e

section
variable (P : Program) (G fuel : Nat) (cal : Cal) (dcal : DCal)
noncomputable def evOuts (k : FuncId) (args : List V) (H : Heap) : Option (Func × List (Ex × St)) :=
  onO (body P k) fun p => ifB (Nat.ble (lenL args) p.1.ntmps) (onO (evC P cal G p.1.ntmps fuel p.2 ⟨argF args 0 .e, [], H⟩) fun outs => some (p.1, outs))
noncomputable def evFun (k : FuncId) (args : List V) (H : Heap) : Option (V × Heap) :=
  onO (evOuts P G fuel cal k args H) fun p => onO (bindO p.2 fun q => ifB (notEx q.1) (onO (evDfr dcal q.2.D q.2.H) fun H' => onO (evRes P p.1 q.2.F H') fun v => some [(v, H')])) joinL
noncomputable def isNil {α : Type} (l : List α) : Bool := List.rec (motive := fun _ => Bool) true (fun _ _ _ => false) l
noncomputable def evFunD (k : FuncId) (args : List V) (H : Heap) : Option Heap :=
  onO (evOuts P G fuel cal k args H) fun p => onO (onO (bindO p.2 fun q => ifB (andB (notEx q.1) (isNil q.2.D)) (onO (evRes P p.1 q.2.F q.2.H) fun v => some [(v, q.2.H)])) joinL) fun r => some r.2
end

section
variable {G fuel : Nat} {cal : Cal} {dcal : DCal}

theorem enter_sr {ρ : Ren} {args : List V} {vs : List Value} {w : World} {H : Heap} {n : Nat} (hg : Glob ρ G) (ha : RL ρ args vs) (hr : HRel ρ H.t.get w) (hf : Fresh ρ H.nx) (hn : Nat.ble (lenL args) n = true) :
    SR G n ρ ⟨argF args 0 .e, [], H⟩ { tmps := vs.toArray ++ Array.replicate (n - vs.toArray.size) undef, defers := [] } w :=
  ⟨hg, enter_frel ha (by rw [← lenL_eq]; exact Nat.le_of_ble_eq_true hn) [], rfl, hr, hf⟩

theorem evFun_ok (hcal : CalOk P G cal) (hd : DCalOk P G dcal) (hmix : P.follows .mixedOrders = true) : FunOk P G (evFun P G fuel cal dcal) := by
  intro f args H v H' h
  obtain ⟨⟨fn, outs⟩, h1, h2⟩ := onO_inv h
  obtain ⟨p, h3, h4⟩ := onO_inv h1
  obtain ⟨h5, h6⟩ := ifB_inv h4
  obtain ⟨outs', h7, h8⟩ := onO_inv h6
  injection h8 with h8; injection h8 with h8 h9; subst h8; subst h9
  obtain ⟨rs, h10, h11⟩ := onO_inv h2
  obtain ⟨b1, b2, b3⟩ := body_inv h3
  refine ⟨body_fn h3, fun ρ vs w hg ha hr hf => ?_⟩
  refine Calls.mono (R := fun e w' => match e with | .returned y => ∃ ρ', R ρ' v y ∧ Step ρ ρ' H.t.get H'.t.get H.nx H'.nx w w' | _ => False) ?_ (fun e w' hh => by cases e <;> exact hh)
  refine calls_of_wp_defers b1 b2 ?_
  refine evC_ok hcal hmix p.2 h7 (enter_sr hg ha hr hf h5) fun q hq ρ' a' w' hs hst => ?_
  obtain ⟨ys, g1, g2⟩ := bindO_inv h10 q hq
  obtain ⟨g3, g4⟩ := ifB_inv g1
  obtain ⟨H1, g5, g6⟩ := onO_inv g4
  obtain ⟨u1, g7, g8⟩ := onO_inv g6
  injection g8 with g8; subst g8
  have hU := joinL_under h11 _ (g2 _ (List.mem_singleton.2 rfl))
  have hL : Leaves P p.1 a'.tmps (fun e w' => match e with | .returned y => ∃ ρ', R ρ' v y ∧ Step ρ ρ' H.t.get H'.t.get H.nx H'.nx w w' | _ => False) a'.defers .returning w' := by
    refine evDfr_ok hd g5 hs.glob hs.ds hs.heap hs.fresh fun ρ'' w'' hst' => ?_
    have hle := hst'.ren hs.fresh.free
    obtain ⟨y, e1, e2⟩ := evRes_ok g7 (hs.fr.mono hle) hst'.rel
    refine ⟨y, e1, ρ'', hU.1 ρ'' y e2, ?_⟩
    have h12 : Step ρ ρ'' H.t.get H1.t.get H.nx H1.nx w w'' := Step.trans hst hst'
    exact (h12.sub hU.2.1).widen (Nat.le_refl _) hU.2.2
  cases hq1 : q.1 with
  | nm => exact hL
  | rt => exact hL
  | ex id => rw [hq1] at g3; exact nomatch (show (false : Bool) = true from g3)

theorem evFunD_ok (hcal : CalOk P G cal) (hmix : P.follows .mixedOrders = true) : DCalOk P G (evFunD P G fuel cal) := by
  intro f args H H' h
  obtain ⟨⟨fn, outs⟩, h1, h2⟩ := onO_inv h
  obtain ⟨p, h3, h4⟩ := onO_inv h1
  obtain ⟨h5, h6⟩ := ifB_inv h4
  obtain ⟨outs', h7, h8⟩ := onO_inv h6
  injection h8 with h8; injection h8 with h8 h9; subst h8; subst h9
  obtain ⟨r, h9, h12⟩ := onO_inv h2
  obtain ⟨rs, h10, h11⟩ := onO_inv h9
  injection h12 with h12; subst h12
  obtain ⟨b1, b2, b3⟩ := body_inv h3
  refine ⟨body_fn h3, fun ρ vs w hg ha hr hf => ?_⟩
  refine (callsD_of_wp (R := fun e w' => (∃ y, e = .returned y) ∧ ∃ ρ', HStep ρ ρ' H r.2 w w') b1 b2 ?_).mono fun e u w' hh => ⟨hh.1, hh.2⟩
  refine evC_ok hcal hmix p.2 h7 (enter_sr hg ha hr hf h5) fun q hq ρ' a' w' hs hst => ?_
  obtain ⟨ys, g1, g2⟩ := bindO_inv h10 q hq
  obtain ⟨g3, g4⟩ := ifB_inv g1
  obtain ⟨g3, g3'⟩ := andB_inv g3
  obtain ⟨u1, g7, g8⟩ := onO_inv g4
  injection g8 with g8; subst g8
  have hU := joinL_under h11 _ (g2 _ (List.mem_singleton.2 rfl))
  have hD : a'.defers = [] := by
    have := hs.ds
    cases z : q.2.D with
    | nil => rw [z] at this; exact this
    | cons x l => rw [z] at g3'; exact nomatch (show (false : Bool) = true from g3')
  obtain ⟨y, e1, e2⟩ := evRes_ok g7 hs.fr hs.heap
  have hL : a'.defers = [] ∧ ∃ v, (results p.1 a'.tmps).run P w' = .ok v w' ∧ ((∃ y, (.returned v : Ending) = .returned y) ∧ ∃ ρ', HStep ρ ρ' H r.2 w w') :=
    ⟨hD, y, e1, ⟨y, rfl⟩, ρ', (hst.sub hU.2.1).widen (Nat.le_refl _) hU.2.2⟩
  cases hq1 : q.1 with
  | nm => exact hL
  | rt => exact hL
  | ex id => rw [hq1] at g3; exact nomatch (show (false : Bool) = true from g3)
end

end Go.Proofs.YtdnlfkmfofckfaaGreatDoor.Ev
