/- The last operations on values alone, and all of them under one name. -/
import Derived.Test.YtdnlfkmfofckfaaGreatDoorEvH
namespace Go.Proofs.YtdnlfkmfofckfaaGreatDoor.Ev
variable {P : Program}

/-! ### one constant for each operation: operands, program, variables, frame -/

noncomputable def oMove (x : Operand) (_ : Program) (G : Nat) (F : Tr V) : Option V := some (ev G F x)
noncomputable def oPick (c a b : Operand) (_ : Program) (G : Nat) (F : Tr V) : Option V := (ev G F c).onB fun t => some (ite2 t (ev G F a) (ev G F b))
noncomputable def oBuild (t : TypeId) (parts : Array (Nat × Operand)) (P : Program) (G : Nat) (F : Tr V) : Option V := pBuild P t (mapL (fun p => (p.1, ev G F p.2)) parts.toList)
noncomputable def fnPlain (fn : Fn) : Bool := match fn with | .method _ => false | _ => true
noncomputable def pNil (x : V) : Option V :=
  match x with
  | .p a o => some (.p a o)
  | .x t d => some (.x t d)
  | .f fn a c => ifB (fnPlain fn) (some (.f fn a c))
  | _ => none
noncomputable def oNilCheck (x : Operand) (_ : Program) (G : Nat) (F : Tr V) : Option V := pNil (ev G F x)
noncomputable def oBin (op : BinOp) (t : TypeId) (x y : Operand) (_ : TypeId) (P : Program) (G : Nat) (F : Tr V) : Option V := pBin P op t x y (ev G F x) (ev G F y)
noncomputable def oUn (op : UnOp) (_ : TypeId) (x : Operand) (_ : Program) (G : Nat) (F : Tr V) : Option V := pUn op (ev G F x)
noncomputable def tHas (P : Program) (t : TypeId) : Bool := match tU P t with | some _ => true | none => false
noncomputable def pConv (P : Program) (src dst : TypeId) (x : V) : Option V :=
  match x with
  | .i _ n => ifB (tHas P src) (onO (tInt P dst) fun k => some (.i k (wrapV k n)))
  | .s l => ifB (tHas P src) (ifB (tIsStr P dst) (some (.s l)))
  | .os no => ifB (tHas P src) (ifB (tIsStr P dst) (some (.os no)))
  | _ => none
noncomputable def oConv (src dst : TypeId) (x : Operand) (P : Program) (G : Nat) (F : Tr V) : Option V := pConv P src dst (ev G F x)
noncomputable def oIface (t : TypeId) (x : Operand) (P : Program) (G : Nat) (F : Tr V) : Option V := onO (tIsIface P t) fun b => ifB (notB b) (some (.x t (ev G F x)))
noncomputable def oFunc (fn : Fn) (a c : Array Operand) (_ : Program) (G : Nat) (F : Tr V) : Option V := some (.f fn (mapL (ev G F) a.toList) (mapL (ev G F) c.toList))
noncomputable def evO (G : Nat) (F : Tr V) (x : Option Operand) : Option V := Option.rec (motive := fun _ => Option V) none (fun x => some (ev G F x)) x
noncomputable def oSlice (t : TypeId) (x : Operand) (lo hi mx : Option Operand) (P : Program) (G : Nat) (F : Tr V) : Option V := pSlice P t (ev G F x) (evO G F lo) (evO G F hi) (evO G F mx)
noncomputable def oFieldAddr (t : TypeId) (x : Operand) (i : Nat) (P : Program) (G : Nat) (F : Tr V) : Option V := pFieldAddr P t (ev G F x) i
noncomputable def oField (t : TypeId) (x : Operand) (i : Nat) (P : Program) (G : Nat) (F : Tr V) : Option V := pField P t (ev G F x) i
noncomputable def oIndexAddr (t : TypeId) (x i : Operand) (P : Program) (G : Nat) (F : Tr V) : Option V := pIndexAddr P t (ev G F x) (ev G F i)
noncomputable def oIndex (t : TypeId) (x i : Operand) (P : Program) (G : Nat) (F : Tr V) : Option V := pIndex P t (ev G F x) (ev G F i)
noncomputable def pAssert (P : Program) (x : V) (to : TypeId) (ok : Bool) : Option V :=
  onO (tIsIface P to) fun b => ifB (notB b) (x.onX fun t d => ite2 (Nat.beq t to) (some (ite2 ok (.t [d, .b true]) d)) (ifB ok (onO (tZeroV P to) fun z => some (.t [z, .b false]))))
noncomputable def oAssert (x : Operand) (_ to : TypeId) (ok : Bool) (P : Program) (G : Nat) (F : Tr V) : Option V := pAssert P (ev G F x) to ok
noncomputable def oExtract (x : Operand) (i : Nat) (_ : Program) (G : Nat) (F : Tr V) : Option V := pExtract (ev G F x) i

/-! builtins on values -/
noncomputable def pLen (P : Program) (t : TypeId) (x : V) : Option V :=
  x.way (fun _ _ => none) (fun _ _ n _ _ => ifB (tIsSlice P t) (some (.i .i64 (Int.ofNat n)))) (ifB (tIsSlice P t) (some (.i .i64 (Int.ofNat 0)))) (fun l => ifB (tIsStr P t) (some (.i .i64 (Int.ofNat (lenL l))))) (fun _ => onO (tArray P t) fun q => some (.i .i64 (Int.ofNat q.1)))
noncomputable def pCap (P : Program) (t : TypeId) (x : V) : Option V :=
  x.way (fun _ _ => none) (fun _ _ _ _ c => ifB (tIsSlice P t) (onO c fun k => some (.i .i64 (Int.ofNat k)))) (ifB (tIsSlice P t) (some (.i .i64 (Int.ofNat 0)))) (fun _ => none) (fun _ => none)
noncomputable def maxI (a b : Int) : Int := ite2 (ltI a b) b a
noncomputable def minI (a b : Int) : Int := ite2 (ltI b a) b a
noncomputable def foldM (f : Int → Int → Int) (vs : List V) : IntKind → Int → Option V :=
  List.rec (motive := fun _ => IntKind → Int → Option V) (fun k a => some (.i k a)) (fun v _ ih k a => v.onI fun _ b => ih k (f a b)) vs
noncomputable def pMM (f : Int → Int → Int) (vs : List V) : Option V := List.rec (motive := fun _ => Option V) none (fun v t _ => v.onI fun k a => foldM f t k a) vs
noncomputable def pArg1 (vs : List V) (ts : List TypeId) (f : TypeId → V → Option V) : Option V := onO (nthL vs 0) fun v => onO (nthL ts 0) fun t => f t v
noncomputable def pBuiltin (P : Program) (b : Builtin) (ts : List TypeId) (vs : List V) : Option V :=
  Builtin.rec (motive := fun _ => Program → List TypeId → List V → Option V) (fun _ _ _ => none) (fun P ts vs => pArg1 vs ts (pCap P)) (fun _ _ _ => none) (fun _ _ _ => none) (fun _ _ _ => none) (fun _ _ _ => none) (fun _ _ _ => none) (fun _ _ _ => none)
    (fun P ts vs => pArg1 vs ts (pLen P)) (fun _ _ _ => none) (fun _ _ vs => pMM maxI vs) (fun _ _ vs => pMM minI vs) (fun _ _ _ => none) (fun _ _ _ => none) (fun _ _ _ => none) (fun _ _ _ => none) (fun _ _ _ => none) (fun _ _ _ => none)
    (fun _ _ _ => none) (fun _ _ _ => none) (fun _ _ _ => none) (fun _ _ _ => none) (fun _ _ _ => none) (fun _ _ _ => none) (fun _ _ _ => none) (fun _ _ _ => none) b P ts vs
noncomputable def oCall (c : Call) (P : Program) (G : Nat) (F : Tr V) : Option V :=
  Callee.rec (motive := fun _ => Call → Program → Nat → Tr V → Option V) (fun _ _ _ _ _ => none) (fun _ _ _ _ _ _ => none) (fun b c P G F => pBuiltin P b c.argTypes.toList (mapL (ev G F) c.args.toList)) c.callee c P G F

/-- An operation that looks at values alone. -/
noncomputable def pOp (P : Program) (G : Nat) (F : Tr V) (op : Op) : Option V :=
  Op.rec (motive := fun _ => Program → Nat → Tr V → Option V) oMove oMove oPick (fun _ _ _ _ => none) (fun _ _ _ _ _ => none) oBuild (fun _ _ _ _ _ _ => none) (fun _ _ _ _ _ _ _ => none) (fun _ _ _ _ _ => none) (fun _ _ _ _ _ _ => none) (fun _ _ _ _ => none) (fun _ _ _ _ => none) oNilCheck oBin oUn oConv (fun _ _ _ _ _ => none) oIface oFunc (fun _ _ _ _ _ => none) (fun _ _ _ _ _ => none) (fun _ _ _ _ _ _ => none) oSlice oFieldAddr oField oIndexAddr oIndex (fun _ _ _ _ _ _ _ => none) (fun _ _ _ _ _ _ _ => none) (fun _ _ _ _ _ _ => none) (fun _ _ _ _ _ _ _ => none) (fun _ _ _ _ _ => none) (fun _ _ _ _ _ => none) (fun _ _ _ _ => none) oAssert oExtract oCall (fun _ _ _ _ => none) (fun _ _ _ _ => none) (fun _ _ _ _ => none) (fun _ _ _ _ _ => none) (fun _ _ _ _ _ _ => none) (fun _ _ _ _ _ => none) op P G F

/-! ### they are the model's -/

theorem evO_ok {ρ : Ren} {G : Nat} {F : Tr V} {e : Operand → Value} (he : ∀ x, R ρ (ev G F x) (e x)) (x : Option Operand) : ROpt ρ (evO G F x) (x.map e) := by
  cases x with
  | none => rfl
  | some x => exact ⟨e x, rfl, he x⟩

theorem evs_ok {ρ : Ren} {G : Nat} {F : Tr V} {e : Operand → Value} (he : ∀ x, R ρ (ev G F x) (e x)) : ∀ l : List Operand, RL ρ (mapL (ev G F) l) (l.map e)
  | [] => rfl
  | x :: l => ⟨e x, l.map e, rfl, he x, evs_ok he l⟩

theorem parts_ok {ρ : Ren} {G : Nat} {F : Tr V} {e : Operand → Value} (he : ∀ x, R ρ (ev G F x) (e x)) : ∀ l : List (Nat × Operand), RP ρ (mapL (fun p => (p.1, ev G F p.2)) l) (l.map fun p => (p.1, e p.2))
  | [] => rfl
  | p :: l => ⟨e p.2, _, rfl, he p.2, parts_ok he l⟩

theorem pNil_ok {ρ : Ren} {x v : V} {u : Value} (w : World) (e : Operand → Value) (o : Oper) (xo : Operand) (ho : o.op = .nilCheck xo) (hu : e xo = u) (h : pNil x = some v) (hx : R ρ x u) :
    (execOp e o).run P w = .ok (.value u) w ∧ R ρ v u := by
  unfold pNil at h
  split at h
  · injection h with h; subst h
    refine ⟨?_, hx⟩
    obtain ⟨L, _, rfl⟩ := hx
    simp [execOp, ho, hu]
  · injection h with h; subst h
    refine ⟨?_, hx⟩
    obtain ⟨y, rfl, _⟩ := hx
    simp [execOp, ho, hu]
  · rename_i fn _ _
    obtain ⟨h1, h2⟩ := ifB_inv h
    injection h2 with h2; subst h2
    refine ⟨?_, hx⟩
    obtain ⟨xs, ys, rfl, _⟩ := hx
    simp only [execOp, ho, hu]
    cases fn <;> first | rfl | exact nomatch (show false = true from h1)
  · exact nomatch h

theorem pConv_ok {ρ : Ren} {src dst : TypeId} {x v : V} {u : Value} (w : World) (h : pConv P src dst x = some v) (hx : R ρ x u) : ∃ y, (convert src dst u).run P w = .ok y w ∧ R ρ v y := by
  have has : tHas P src = true → ∃ d, P.underlying src = some d := by
    intro h; unfold tHas at h; rw [tU_eq] at h; split at h
    · exact ⟨_, by assumption⟩
    · exact nomatch h
  unfold pConv at h
  split at h
  · rename_i k n
    obtain ⟨h1, h2⟩ := ifB_inv h
    obtain ⟨d, hd⟩ := has h1
    obtain ⟨k', hk, h3⟩ := onO_inv h2
    injection h3 with h3; subst h3
    rw [show u = _ from hx]
    refine ⟨.int k' (k'.wrap n), ?_, by show _ = _; rw [wrapV_eq]⟩
    simp only [convert, Sem.run_bind, run_und hd, run_und (tInt_und hk), Result.andThen_ok]
    rfl
  · obtain ⟨h1, h2⟩ := ifB_inv h
    obtain ⟨d, hd⟩ := has h1
    obtain ⟨h3, h4⟩ := ifB_inv h2
    injection h4 with h4; subst h4
    obtain ⟨s, rfl, hs⟩ := hx
    refine ⟨.string s, ?_, s, rfl, hs⟩
    simp only [convert, Sem.run_bind, run_und hd, run_und (tIsStr_und h3), Result.andThen_ok]
    rfl
  · obtain ⟨h1, h2⟩ := ifB_inv h
    obtain ⟨d, hd⟩ := has h1
    obtain ⟨h3, h4⟩ := ifB_inv h2
    injection h4 with h4; subst h4
    obtain ⟨s, rfl, hs⟩ := hx
    refine ⟨.string s, ?_, s, rfl, hs⟩
    simp only [convert, Sem.run_bind, run_und hd, run_und (tIsStr_und h3), Result.andThen_ok]
    rfl
  · exact nomatch h

theorem tIsIface_not {t : TypeId} (h : tIsIface P t = some false) : ∃ d, P.underlying t = some d ∧ ∀ ms, d ≠ .interface ms := by
  unfold tIsIface at h; rw [tU_eq] at h; split at h
  · exact nomatch h
  · exact ⟨_, by assumption, by intro ms e; subst e; rename_i hne _; exact hne _ rfl⟩
  · exact nomatch h

theorem pAssert_ok {ρ : Ren} {x v : V} {st to : TypeId} {ok : Bool} {u : Value} (w : World) (h : pAssert P x to ok = some v) (hx : R ρ x u) : ∃ y, (Instr.typeAssert u st to ok).run P w = .ok y w ∧ R ρ v y := by
  obtain ⟨b, hb, h1⟩ := onO_inv h
  obtain ⟨h2, h3⟩ := ifB_inv h1
  have hbf : b = false := by cases b; rfl; exact nomatch h2
  subst hbf
  obtain ⟨t, d, rfl, h4⟩ := V.onX_inv h3
  obtain ⟨y, rfl, hy⟩ := hx
  obtain ⟨ds, hds, hne⟩ := tIsIface_not hb
  cases ht : Nat.beq t to
  · have htn : t ≠ to := Nat.ne_of_beq_eq_false ht
    rw [ht, ite2_false] at h4
    obtain ⟨hok, h5⟩ := ifB_inv h4
    obtain ⟨z, hz, h6⟩ := onO_inv h5
    injection h6 with h6; subst h6; subst hok
    obtain ⟨zy, hzy, hzr⟩ := tZeroV_ok hz ρ w
    refine ⟨.tuple #[zy, .bool false], ?_, [zy, .bool false], rfl, zy, [.bool false], rfl, hzr, .bool false, [], rfl, rfl, rfl⟩
    simp only [Instr.typeAssert, Sem.run_bind, run_und hds, Result.andThen_ok]
    cases ds <;> first | exact absurd rfl (hne _) | simp [htn, hzy]
  · have htn := Nat.eq_of_beq_eq_true ht
    subst htn
    rw [ht, ite2_true] at h4
    injection h4 with h4; subst h4
    cases ok
    · refine ⟨y, ?_, hy⟩
      simp only [Instr.typeAssert, Sem.run_bind, run_und hds, Result.andThen_ok]
      cases ds <;> first | exact absurd rfl (hne _) | simp
    · refine ⟨.tuple #[y, .bool true], ?_, [y, .bool true], rfl, y, [.bool true], rfl, hy, .bool true, [], rfl, rfl, rfl⟩
      simp only [Instr.typeAssert, Sem.run_bind, run_und hds, Result.andThen_ok]
      cases ds <;> first | exact absurd rfl (hne _) | simp

theorem pLen_ok {ρ : Ren} {t : TypeId} {x v : V} {u : Value} (ty : TypeId) {ts : Array TypeId} {us : Array Value} (w : World) (h : pLen P t x = some v) (hx : R ρ x u) (ht : ts[0]? = some t) (hu : us[0]? = some u) :
    ∃ y, (Builtin.len_ ts ty us).run P w = .ok y w ∧ R ρ v y := by
  unfold pLen V.way at h
  split at h
  · exact nomatch h
  · obtain ⟨h1, h2⟩ := ifB_inv h
    injection h2 with h2; subst h2
    obtain ⟨e, he⟩ := tIsSlice_und h1
    obtain ⟨L, off, cap, _, rfl, _⟩ := hx
    exact ⟨goInt _, by simp [Builtin.len_, ht, hu, run_und he], rfl⟩
  · obtain ⟨h1, h2⟩ := ifB_inv h
    injection h2 with h2; subst h2
    obtain ⟨e, he⟩ := tIsSlice_und h1
    rw [show u = _ from hx] at hu
    exact ⟨goInt 0, by simp [Builtin.len_, ht, hu, run_und he], rfl⟩
  · rename_i l
    obtain ⟨h1, h2⟩ := ifB_inv h
    injection h2 with h2; subst h2
    obtain ⟨s, rfl, hs⟩ := hx
    refine ⟨goInt s.size, by simp [Builtin.len_, ht, hu, run_und (tIsStr_und h1)], ?_⟩
    show _ = _
    rw [lenL_eq, ← hs, bytesOf_length]; rfl
  · obtain ⟨q, hq, h2⟩ := onO_inv h
    injection h2 with h2; subst h2
    obtain ⟨n, e⟩ := q
    exact ⟨goInt n, by simp [Builtin.len_, ht, hu, run_und (tArray_und hq)], rfl⟩
  · exact nomatch h

theorem pCap_ok {ρ : Ren} {t : TypeId} {x v : V} {u : Value} (ty : TypeId) {ts : Array TypeId} {us : Array Value} (w : World) (h : pCap P t x = some v) (hx : R ρ x u) (ht : ts[0]? = some t) (hu : us[0]? = some u) :
    ∃ y, (Builtin.cap_ ts ty us).run P w = .ok y w ∧ R ρ v y := by
  unfold pCap V.way at h
  split at h
  · exact nomatch h
  · obtain ⟨h1, h2⟩ := ifB_inv h
    obtain ⟨k, hk, h3⟩ := onO_inv h2
    injection h3 with h3; subst h3
    obtain ⟨e, he⟩ := tIsSlice_und h1
    obtain ⟨L, off, cap, _, rfl, _, _, _, hc, _⟩ := hx
    have := hc k hk
    subst this
    exact ⟨goInt cap, by simp [Builtin.cap_, ht, hu, run_und he], rfl⟩
  · obtain ⟨h1, h2⟩ := ifB_inv h
    injection h2 with h2; subst h2
    obtain ⟨e, he⟩ := tIsSlice_und h1
    rw [show u = _ from hx] at hu
    exact ⟨goInt 0, by simp [Builtin.cap_, ht, hu, run_und he], rfl⟩
  all_goals exact nomatch h

theorem foldM_ok {ρ : Ren} (f : Int → Int → Int) (g : Value → Value → Sem Value) (w : World) (hg : ∀ k k' a b, (g (.int k a) (.int k' b)).run P w = .ok (.int k (f a b)) w) :
    ∀ {vs : List V} {us : List Value} {k : IntKind} {a : Int} {v : V}, foldM f vs k a = some v → RL ρ vs us → ∃ y, (us.foldlM g (.int k a)).run P w = .ok y w ∧ R ρ v y
  | [], us, k, a, v, h, hr => by
    injection (show some (V.i k a) = some v from h) with h; subst h
    rw [show us = [] from hr]
    exact ⟨.int k a, rfl, rfl⟩
  | x :: vs, us, k, a, v, h, hr => by
    obtain ⟨u, us', rfl, hx, hr'⟩ := hr
    obtain ⟨k', b, rfl, h1⟩ := V.onI_inv (show x.onI (fun _ b => foldM f vs k (f a b)) = some v from h)
    obtain ⟨y, hy, hr⟩ := foldM_ok f g w hg h1 hr'
    refine ⟨y, ?_, hr⟩
    rw [show u = _ from hx]
    simp only [List.foldlM_cons, Sem.run_bind, hg, Result.andThen_ok, hy]

theorem pBuiltin_ok {ρ : Ren} {b : Builtin} {ts : List TypeId} {vs : List V} {us : List Value} {v : V} (ty : TypeId) (cs : Array Bool) (w : World) (h : pBuiltin P b ts vs = some v) (hr : RL ρ vs us) :
    ∃ y, (builtin b ts.toArray ty cs us.toArray).run P w = .ok (.value y) w ∧ R ρ v y := by
  have arg : ∀ {f : TypeId → V → Option V}, pArg1 vs ts f = some v → ∃ x t u, f t x = some v ∧ R ρ x u ∧ (ts.toArray)[0]? = some t ∧ (us.toArray)[0]? = some u := by
    intro f h
    obtain ⟨x, hx, h1⟩ := onO_inv h
    obtain ⟨t, ht, h2⟩ := onO_inv h1
    rw [nthL_eq] at hx ht
    obtain ⟨u, hu, hxu⟩ := hr.get hx
    exact ⟨x, t, u, h2, hxu, by simpa using ht, by simpa using hu⟩
  cases b
  case len =>
    obtain ⟨x, t, u, h1, hx, ht, hu⟩ := arg (show pArg1 vs ts (pLen P) = some v from h)
    obtain ⟨y, hy, hv⟩ := pLen_ok ty w h1 hx ht hu
    exact ⟨y, by simp only [builtin, Sem.run_bind, hy, Result.andThen_ok, Sem.run_pure], hv⟩
  case cap =>
    obtain ⟨x, t, u, h1, hx, ht, hu⟩ := arg (show pArg1 vs ts (pCap P) = some v from h)
    obtain ⟨y, hy, hv⟩ := pCap_ok ty w h1 hx ht hu
    exact ⟨y, by simp only [builtin, Sem.run_bind, hy, Result.andThen_ok, Sem.run_pure], hv⟩
  case max =>
    cases vs with
    | nil => exact nomatch (show (none : Option V) = some v from h)
    | cons x vs =>
      obtain ⟨k, a, rfl, h1⟩ := V.onI_inv (show x.onI (fun k a => foldM maxI vs k a) = some v from h)
      obtain ⟨u, us', rfl, hx, hr'⟩ := hr
      obtain ⟨y, hy, hv⟩ := foldM_ok (P := P) maxI Builtin.max2 w (fun k k' a b => by unfold maxI; rw [ltI_eq]; simp only [Builtin.max2, Sem.run_pure]; congr 2; by_cases c : a < b <;> simp [c, ite2]) h1 hr'
      refine ⟨y, ?_, hv⟩
      rw [show u = _ from hx]
      simp only [builtin, Builtin.max_, Sem.run_bind, hy, Result.andThen_ok, Sem.run_pure]
  case min =>
    cases vs with
    | nil => exact nomatch (show (none : Option V) = some v from h)
    | cons x vs =>
      obtain ⟨k, a, rfl, h1⟩ := V.onI_inv (show x.onI (fun k a => foldM minI vs k a) = some v from h)
      obtain ⟨u, us', rfl, hx, hr'⟩ := hr
      obtain ⟨y, hy, hv⟩ := foldM_ok (P := P) minI Builtin.min2 w (fun k k' a b => by unfold minI; rw [ltI_eq]; simp only [Builtin.min2, Sem.run_pure]; congr 2; by_cases c : b < a <;> simp [c, ite2]) h1 hr'
      refine ⟨y, ?_, hv⟩
      rw [show u = _ from hx]
      simp only [builtin, Builtin.min_, Sem.run_bind, hy, Result.andThen_ok, Sem.run_pure]
  all_goals exact nomatch (show (none : Option V) = some v from h)

theorem pOp_ok {ρ : Ren} {G : Nat} {F : Tr V} {e : Operand → Value} (he : ∀ x, R ρ (ev G F x) (e x)) {o : Oper} {v : V} (w : World) (h : pOp P G F o.op = some v) :
    ∃ y, (execOp e o).run P w = .ok (.value y) w ∧ R ρ v y := by
  cases ho : o.op <;> rw [ho] at h
  case move x => injection (show some (ev G F x) = some v from h) with h; subst h; exact ⟨e x, by simp [execOp, ho], he x⟩
  case assign x => injection (show some (ev G F x) = some v from h) with h; subst h; exact ⟨e x, by simp [execOp, ho], he x⟩
  case pick c a b =>
    obtain ⟨t, ht, h1⟩ := V.onB_inv (show (ev G F c).onB (fun t => some (ite2 t (ev G F a) (ev G F b))) = some v from h)
    injection h1 with h1; subst h1
    have hc := he c
    rw [ht] at hc
    cases t
    · exact ⟨e b, by simp [execOp, ho, show e c = _ from hc, asBool], he b⟩
    · exact ⟨e a, by simp [execOp, ho, show e c = _ from hc, asBool], he a⟩
  case build t parts =>
    obtain ⟨y, hy, hv⟩ := pBuild_ok w (show pBuild P t (mapL (fun p => (p.1, ev G F p.2)) parts.toList) = some v from h) (parts_ok he parts.toList)
    refine ⟨y, ?_, hv⟩
    have : (parts.map fun (i, x) => (i, e x)) = (parts.toList.map fun p => (p.1, e p.2)).toArray := by
      apply Array.ext'; simp
    simp only [execOp, ho, this, Sem.run_bind, hy, Result.andThen_ok, Sem.run_pure]
  case nilCheck x =>
    obtain ⟨h1, h2⟩ := pNil_ok (P := P) w e o x ho rfl (show pNil (ev G F x) = some v from h) (he x)
    exact ⟨_, h1, h2⟩
  case binOp op t x y ty =>
    obtain ⟨r, hr, hv⟩ := pBin_ok w (show pBin P op t x y (ev G F x) (ev G F y) = some v from h) (he x) (he y)
    exact ⟨r, by simp only [execOp, ho]; rw [Sem.run_bind, hr]; rfl, hv⟩
  case unOp op t x =>
    obtain ⟨r, hr, hv⟩ := pUn_ok (P := P) w (show pUn op (ev G F x) = some v from h) (he x)
    exact ⟨r, by simp only [execOp, ho, Sem.run_bind, hr, Result.andThen_ok, Sem.run_pure], hv⟩
  case convert s d x =>
    obtain ⟨r, hr, hv⟩ := pConv_ok w (show pConv P s d (ev G F x) = some v from h) (he x)
    exact ⟨r, by simp only [execOp, ho, Sem.run_bind, hr, Result.andThen_ok, Sem.run_pure], hv⟩
  case makeInterface t x =>
    obtain ⟨b, hb, h1⟩ := onO_inv (show (onO (tIsIface P t) fun b => ifB (notB b) (some (.x t (ev G F x)))) = some v from h)
    obtain ⟨h2, h3⟩ := ifB_inv h1
    have hbf : b = false := by cases b; rfl; exact nomatch h2
    subst hbf
    injection h3 with h3; subst h3
    obtain ⟨d, hd, hne⟩ := tIsIface_not hb
    refine ⟨.iface t (e x), ?_, e x, rfl, he x⟩
    simp only [execOp, ho, Instr.makeInterface, Sem.run_bind, run_und hd, Result.andThen_ok]
    cases d <;> first | exact absurd rfl (hne _) | simp
  case makeFunc fn a c =>
    injection (show some (V.f fn (mapL (ev G F) a.toList) (mapL (ev G F) c.toList)) = some v from h) with h; subst h
    refine ⟨.func fn (a.map e) (c.map e), by simp [execOp, ho, Instr.makeFunc], a.toList.map e, c.toList.map e, by rw [show (a.toList.map e).toArray = a.map e from by apply Array.ext'; simp, show (c.toList.map e).toArray = c.map e from by apply Array.ext'; simp], evs_ok he _, evs_ok he _⟩
  case slice t x lo hi mx =>
    obtain ⟨r, hr, hv⟩ := pSlice_ok w (show pSlice P t (ev G F x) (evO G F lo) (evO G F hi) (evO G F mx) = some v from h) (he x) (evO_ok he lo) (evO_ok he hi) (evO_ok he mx)
    exact ⟨r, by simp only [execOp, ho, Sem.run_bind, hr, Result.andThen_ok, Sem.run_pure], hv⟩
  case fieldAddr t x i =>
    obtain ⟨r, hr, hv⟩ := pFieldAddr_ok w (show pFieldAddr P t (ev G F x) i = some v from h) (he x)
    exact ⟨r, by simp only [execOp, ho, Sem.run_bind, hr, Result.andThen_ok, Sem.run_pure], hv⟩
  case field t x i =>
    obtain ⟨r, hr, hv⟩ := pField_ok w (show pField P t (ev G F x) i = some v from h) (he x)
    exact ⟨r, by simp only [execOp, ho, Sem.run_bind, hr, Result.andThen_ok, Sem.run_pure], hv⟩
  case indexAddr t x i =>
    obtain ⟨r, hr, hv⟩ := pIndexAddr_ok w (show pIndexAddr P t (ev G F x) (ev G F i) = some v from h) (he x) (he i)
    exact ⟨r, by simp only [execOp, ho, Sem.run_bind, hr, Result.andThen_ok, Sem.run_pure], hv⟩
  case index t x i =>
    obtain ⟨r, hr, hv⟩ := pIndex_ok w (show pIndex P t (ev G F x) (ev G F i) = some v from h) (he x) (he i)
    exact ⟨r, by simp only [execOp, ho, Sem.run_bind, hr, Result.andThen_ok, Sem.run_pure], hv⟩
  case typeAssert x s t ok =>
    obtain ⟨r, hr, hv⟩ := pAssert_ok (st := s) w (show pAssert P (ev G F x) t ok = some v from h) (he x)
    exact ⟨r, by simp only [execOp, ho, Sem.run_bind, hr, Result.andThen_ok, Sem.run_pure], hv⟩
  case extract x i =>
    obtain ⟨r, hr, hv⟩ := pExtract_ok (P := P) w (show pExtract (ev G F x) i = some v from h) (he x)
    exact ⟨r, by simp only [execOp, ho, Sem.run_bind, hr, Result.andThen_ok, Sem.run_pure], hv⟩
  case call c =>
    obtain ⟨callee, args, ats⟩ := c
    cases callee
    case builtin b =>
      obtain ⟨r, hr, hv⟩ := pBuiltin_ok (P := P) o.type (args.map fun | .const _ => true | _ => false) w (show pBuiltin P b ats.toList (mapL (ev G F) args.toList) = some v from h) (evs_ok he args.toList)
      refine ⟨r, ?_, hv⟩
      have ha : (args.toList.map e).toArray = args.map e := by apply Array.ext'; simp
      rw [ha] at hr
      simp only [execOp, ho, resolve, Sem.run_bind, Sem.run_pure, Result.andThen_ok, invoke]
      exact hr
    all_goals exact nomatch (show (none : Option V) = some v from h)
  all_goals exact nomatch (show (none : Option V) = some v from h)

end Go.Proofs.YtdnlfkmfofckfaaGreatDoor.Ev
