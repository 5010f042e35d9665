/- Plans: how one is made of a region's operations, that it is one, and how it is run. -/
import Derived.Test.YtdnlfkmfofckfaaGreatDoorEvW
namespace Go.Proofs.YtdnlfkmfofckfaaGreatDoor.Ev
variable {P : Program}

/-! ### equality of values -/

def kindEq (j k : IntKind) : Bool := decide (j = k)
def fnEq (f g : Fn) : Bool := match f with | .func j => (match g with | .func k => Nat.beq j k | _ => false) | _ => false
theorem fnEq_ok {f g : Fn} (h : fnEq f g = true) : f = g := by
  unfold fnEq at h
  split at h
  · split at h
    · rw [Nat.eq_of_beq_eq_true h]
    · exact nomatch h
  · exact nomatch h
def optEq (a b : Option Nat) : Bool := match a with | none => (match b with | none => true | _ => false) | some x => (match b with | some y => Nat.beq x y | _ => false)
theorem optEq_ok {a b : Option Nat} (h : optEq a b = true) : a = b := by
  unfold optEq at h
  split at h <;> split at h
  · rfl
  · exact nomatch h
  · rw [Nat.eq_of_beq_eq_true h]
  · exact nomatch h

noncomputable def andB (a b : Bool) : Bool := Bool.rec (motive := fun _ => Bool) false b a
theorem andB_inv {a b : Bool} (h : andB a b = true) : a = true ∧ b = true := by cases a; exact nomatch h; exact ⟨rfl, h⟩
theorem orB_inv {a b : Bool} (h : orB a b = true) : a = true ∨ b = true := by cases a; exact .inr h; exact .inl rfl
theorem notB_inv {a : Bool} (h : notB a = true) : a = false := by cases a; rfl; exact nomatch h
noncomputable def beqB (a b : Bool) : Bool := Bool.rec (motive := fun _ => Bool) (notB b) b a
theorem beqB_inv {a b : Bool} (h : beqB a b = true) : a = b := by cases a <;> cases b <;> first | rfl | exact nomatch h
theorem eqL_inv {a b : List Nat} (h : eqL a b = true) : a = b := by rw [eqL_eq] at h; exact of_decide_eq_true h

mutual
noncomputable def veq : V → V → Bool
  | .b x, v => match v with | .b y => beqB x y | _ => false
  | .i k n, v => match v with | .i j m => andB (kindEq k j) (eqI n m) | _ => false
  | .s l, v => match v with | .s m => eqL l m | _ => false
  | .pn, v => match v with | .pn => true | _ => false
  | .p a o, v => match v with | .p b q => andB (Nat.beq a b) (Nat.beq o q) | _ => false
  | .ln, v => match v with | .ln => true | _ => false
  | .l a o n es c, v => match v with | .l a' o' n' es' c' => andB (Nat.beq a a') (andB (Nat.beq o o') (andB (Nat.beq n n') (andB (Nat.beq es es') (optEq c c')))) | _ => false
  | .mn, v => match v with | .mn => true | _ => false
  | .m a, v => match v with | .m b => Nat.beq a b | _ => false
  | .fn0, v => match v with | .fn0 => true | _ => false
  | .f fn xs ys, v => match v with | .f fn' xs' ys' => andB (fnEq fn fn') (andB (veqs xs xs') (veqs ys ys')) | _ => false
  | .xn, v => match v with | .xn => true | _ => false
  | .x t d, v => match v with | .x t' d' => andB (Nat.beq t t') (veq d d') | _ => false
  | .g cs, v => match v with | .g ds => veqs cs ds | _ => false
  | .t cs, v => match v with | .t ds => veqs cs ds | _ => false
  | .u, v => match v with | .u => true | _ => false
  | .w, v => match v with | .w => true | _ => false
  | .os _, _ => false
noncomputable def veqs : List V → List V → Bool
  | [], ds => match ds with | [] => true | _ => false
  | c :: cs, ds => match ds with | d :: ds => andB (veq c d) (veqs cs ds) | [] => false
end

mutual
theorem veq_ok : ∀ {a b : V}, veq a b = true → a = b
  | .b x, v, h => by
    unfold veq at h
    split at h
    · rw [beqB_inv h]
    · exact nomatch h
  | .i k n, v, h => by
    unfold veq at h
    split at h
    · obtain ⟨h1, h2⟩ := andB_inv h
      rw [of_decide_eq_true (show decide _ = true from h1), of_decide_eq_true ((eqI_eq _ _).symm.trans h2)]
    · exact nomatch h
  | .s l, v, h => by
    unfold veq at h
    split at h
    · rw [eqL_inv h]
    · exact nomatch h
  | .pn, v, h => by
    unfold veq at h
    split at h
    · rfl
    · exact nomatch h
  | .p a o, v, h => by
    unfold veq at h
    split at h
    · obtain ⟨h1, h2⟩ := andB_inv h
      rw [Nat.eq_of_beq_eq_true h1, Nat.eq_of_beq_eq_true h2]
    · exact nomatch h
  | .ln, v, h => by
    unfold veq at h
    split at h
    · rfl
    · exact nomatch h
  | .l a o n es c, v, h => by
    unfold veq at h
    split at h
    · obtain ⟨h1, h⟩ := andB_inv h
      obtain ⟨h2, h⟩ := andB_inv h
      obtain ⟨h3, h⟩ := andB_inv h
      obtain ⟨h4, h⟩ := andB_inv h
      rw [Nat.eq_of_beq_eq_true h1, Nat.eq_of_beq_eq_true h2, Nat.eq_of_beq_eq_true h3, Nat.eq_of_beq_eq_true h4, optEq_ok h]
    · exact nomatch h
  | .mn, v, h => by
    unfold veq at h
    split at h
    · rfl
    · exact nomatch h
  | .m a, v, h => by
    unfold veq at h
    split at h
    · rw [Nat.eq_of_beq_eq_true h]
    · exact nomatch h
  | .fn0, v, h => by
    unfold veq at h
    split at h
    · rfl
    · exact nomatch h
  | .f fn xs ys, v, h => by
    unfold veq at h
    split at h
    · obtain ⟨h1, h⟩ := andB_inv h
      obtain ⟨h2, h⟩ := andB_inv h
      rw [fnEq_ok h1, veqs_ok h2, veqs_ok h]
    · exact nomatch h
  | .xn, v, h => by
    unfold veq at h
    split at h
    · rfl
    · exact nomatch h
  | .x t d, v, h => by
    unfold veq at h
    split at h
    · obtain ⟨h1, h⟩ := andB_inv h
      rw [Nat.eq_of_beq_eq_true h1, veq_ok h]
    · exact nomatch h
  | .g cs, v, h => by
    unfold veq at h
    split at h
    · rw [veqs_ok h]
    · exact nomatch h
  | .t cs, v, h => by
    unfold veq at h
    split at h
    · rw [veqs_ok h]
    · exact nomatch h
  | .u, v, h => by
    unfold veq at h
    split at h
    · rfl
    · exact nomatch h
  | .w, v, h => by
    unfold veq at h
    split at h
    · rfl
    · exact nomatch h
  | .os _, v, h => by
    unfold veq at h
    exact nomatch h
theorem veqs_ok : ∀ {a b : List V}, veqs a b = true → a = b
  | [], v, h => by
    unfold veqs at h
    split at h
    · rfl
    · exact nomatch h
  | c :: cs, v, h => by
    unfold veqs at h
    split at h
    · obtain ⟨h1, h⟩ := andB_inv h
      rw [veq_ok h1, veqs_ok h]
    · exact nomatch h
end

/-! ### masks -/

theorem bit_eq (m j : Nat) : bit m j = m.testBit j := by
  unfold bit
  have e : Nat.land (Nat.shiftRight m j) 1 = m / 2 ^ j % 2 := by
    show ((m >>> j) &&& 1) = _
    rw [Nat.and_one_is_mod, Nat.shiftRight_eq_div_pow]
  rw [Nat.testBit_eq_decide_div_mod_eq, Bool.eq_iff_iff, decide_eq_true_iff, e]
  exact ⟨Nat.eq_of_beq_eq_true, fun h => by rw [h]; rfl⟩

theorem bit_lor (a b j : Nat) : bit (Nat.lor a b) j = true ↔ bit a j = true ∨ bit b j = true := by
  rw [bit_eq, bit_eq, bit_eq, show Nat.lor a b = a ||| b from rfl, Nat.testBit_or, Bool.or_eq_true]
theorem bit_one (k j : Nat) : bit (Nat.shiftLeft 1 k) j = true ↔ j = k := by
  rw [bit_eq, show Nat.shiftLeft 1 k = 1 <<< k from rfl, Nat.testBit_shiftLeft]
  simp only [Bool.and_eq_true, decide_eq_true_iff, Nat.testBit_one_eq_true_iff_self_eq_zero]
  omega
theorem bit_zero (j : Nat) : ¬ bit 0 j = true := by rw [bit_eq]; simp
theorem bit_full {n j : Nat} (h : j < n) : bit (Nat.sub (Nat.pow 2 n) 1) j = true := by
  rw [bit_eq, show Nat.sub (Nat.pow 2 n) 1 = 2 ^ n - 1 from rfl, Nat.testBit_two_pow_sub_one]
  simpa using h

/-! ### lists -/

noncomputable def allL {α : Type} (p : α → Bool) (l : List α) : Bool := List.rec (motive := fun _ => Bool) true (fun x _ ih => andB (p x) ih) l
theorem allL_inv {α : Type} {p : α → Bool} : ∀ {l : List α}, allL p l = true → ∀ x ∈ l, p x = true
  | y :: l, h, x, hx => by
    obtain ⟨h1, h2⟩ := andB_inv (show andB (p y) (allL p l) = true from h)
    cases hx with
    | head => exact h1
    | tail _ hx => exact allL_inv h2 x hx
noncomputable def filL {α : Type} (p : α → Bool) (l : List α) : List α := List.rec (motive := fun _ => List α) [] (fun x _ ih => Bool.rec (motive := fun _ => List α) ih (x :: ih) (p x)) l
theorem filL_mem {α : Type} {p : α → Bool} : ∀ {l : List α} {x : α}, x ∈ filL p l → x ∈ l
  | y :: l, x, h => by
    have h : x ∈ Bool.rec (motive := fun _ => List α) (filL p l) (y :: filL p l) (p y) := h
    cases hp : p y
    · rw [hp] at h; exact List.mem_cons_of_mem _ (filL_mem h)
    · rw [hp] at h
      cases h with
      | head => exact List.mem_cons_self
      | tail _ h => exact List.mem_cons_of_mem _ (filL_mem h)

/-! ### a plan is made -/

def opT (x : Operand) : List Nat := match x with | .tmp t => [t] | _ => []
noncomputable def opTs (l : List Operand) : List Nat := List.rec (motive := fun _ => List Nat) [] (fun x _ ih => appL (opT x) ih) l
def opO (x : Option Operand) : List Nat := match x with | some x => opT x | none => []
noncomputable def tsOf (op : Op) : List Nat :=
  match op with
  | .move x | .assign x | .box _ x | .load _ x | .nilCheck x | .unOp _ _ x | .convert _ _ x | .makeInterface _ x | .fieldAddr _ x _ | .field _ x _ | .range _ x | .next x _ | .entry x | .typeAssert x _ _ _ | .extract x _ => opT x
  | .pick c a b => appL (opT c) (appL (opT a) (opT b))
  | .build _ ps | .buildSlice _ _ ps => opTs (mapL (fun p => p.2) ps.toList)
  | .store _ a v | .binOp _ _ a v _ | .makeSlice _ a v | .indexAddr _ a v | .index _ a v | .lookup _ a v _ => appL (opT a) (opT v)
  | .makeFunc _ first cap => appL (opTs first.toList) (opTs cap.toList)
  | .makeMap _ r => opO r
  | .slice _ x l h m => appL (opT x) (appL (opO l) (appL (opO h) (opO m)))
  | .mapUpdate _ m k v | .insert _ m k v => appL (opT m) (appL (opT k) (opT v))
  | .call c => appL (match c.callee with | .value f => opT f | .invoke r _ => opT r | .builtin _ => []) (opTs c.args.toList)
  | _ => []
noncomputable def isCh (op : Op) : Bool :=
  match op with
  | .store .. | .mapUpdate .. | .insert .. | .range .. | .next .. | .makeMap .. => true
  | .call c => match c.callee with | .builtin b => (match b with | .append | .copy | .delete => true | _ => false) | _ => true
  | _ => false

noncomputable def bndE (e : Edge) : Bool := match e.ground with | .textOnly _ => false | .gcOnly _ => false | _ => true
theorem bnd_ok (e : Edge) (h : Region.binds .any e = true) : bndE e = true := by
  unfold Region.binds at h
  unfold bndE
  split <;> simp_all
theorem bnd_back (e : Edge) (h : bndE e = true) : Region.binds .any e = true := by
  unfold bndE at h
  unfold Region.binds
  split <;> simp_all

noncomputable def ancBy (f : Nat → Nat) (es : List Edge) : Nat :=
  List.rec (motive := fun _ => Nat) 0 (fun e _ ih => Bool.rec (motive := fun _ => Nat) ih (Nat.lor ih (Nat.lor (Nat.shiftLeft 1 e.on) (f e.on))) (bndE e)) es
noncomputable def gTs (ops : List Oper) (o : Oper) : List Nat :=
  match o.guard with
  | some (j, _) => (match nthL ops j with | some oj => (match oj.dst with | some t => [t] | none => []) | none => [])
  | none => []
noncomputable def mkSts (ops : List Oper) (l : List Oper) : Nat → Tr Nat → List PSt :=
  List.rec (motive := fun _ => Nat → Tr Nat → List PSt) (fun _ _ => [])
    (fun o _ ih i T => (fun m => (⟨i, o, appL (gTs ops o) (tsOf o.op), [], m, isCh o.op⟩ : PSt) :: ih (Nat.add i 1) (T.set i m))
      (ancBy (fun j => Option.rec (motive := fun _ => Nat) 0 (fun m => m) (T.get j)) o.after.toList)) l

noncomputable def dstIs (d : Option Tmp) (t : Nat) : Bool := Option.rec (motive := fun _ => Bool) false (fun d => Nat.beq d t) d
/-- Is a temporary written by an operation that stands at a place or behind it? -/
noncomputable def later (sts : List PSt) (i t : Nat) : Bool := List.rec (motive := fun _ => Bool) false (fun s _ ih => Bool.rec (motive := fun _ => Bool) ih (Nat.ble i s.i) (dstIs s.o.dst t)) sts
noncomputable def part0 (sts : List PSt) (s : PSt) : PSt := ⟨s.i, s.o, filL (fun t => notB (later sts s.i t)) s.ts, filL (fun t => later sts s.i t) s.ts, s.anc, s.ch⟩
noncomputable def lay (sts : List PSt) (cs : List PSt) : Nat → List PSt :=
  List.rec (motive := fun _ => Nat → List PSt) (fun d => filL (fun s => andB (notB s.ch) (notB (bit d s.i))) sts)
    (fun c _ ih d => appL (filL (fun s => andB (notB s.ch) (andB (bit c.anc s.i) (notB (bit d s.i)))) sts) (c :: ih (Nat.lor d c.anc))) cs
noncomputable def mkFlat (ops : List Oper) : List PSt := (fun sts => (fun sts => lay sts (filL (fun s => s.ch) sts) 0) (mapL (part0 sts) sts)) (mkSts ops ops 0 .e)

theorem mkSts_op (ops : List Oper) : ∀ (l : List Oper) (i : Nat) (T : Tr Nat) (s : PSt), s ∈ mkSts ops l i T → i ≤ s.i ∧ l[s.i - i]? = some s.o := by
  intro l
  induction l with
  | nil => intro i T s h; exact nomatch (show s ∈ [] from h)
  | cons o l ih =>
    intro i T s h
    have h : s ∈ (⟨i, o, appL (gTs ops o) (tsOf o.op), [], _, isCh o.op⟩ : PSt) :: mkSts ops l (Nat.add i 1) (T.set i _) := h
    cases h with
    | head => exact ⟨Nat.le_refl _, by simp⟩
    | tail _ h =>
      obtain ⟨h1, h2⟩ := ih _ _ s h
      have h1 : i + 1 ≤ s.i := h1
      refine ⟨by omega, ?_⟩
      have : s.i - i = (s.i - (i + 1)) + 1 := by omega
      rw [this, List.getElem?_cons_succ]; exact h2

theorem lay_mem (sts : List PSt) : ∀ (cs : List PSt) (d : Nat) (s : PSt), s ∈ lay sts cs d → s ∈ sts ∨ s ∈ cs := by
  intro cs
  induction cs with
  | nil => intro d s h; exact .inl (filL_mem (show s ∈ filL _ sts from h))
  | cons c cs ih =>
    intro d s h
    have h : s ∈ appL (filL _ sts) (c :: lay sts cs (Nat.lor d c.anc)) := h
    rw [appL_eq] at h
    rcases List.mem_append.1 h with h | h
    · exact .inl (filL_mem h)
    · cases h with
      | head => exact .inr List.mem_cons_self
      | tail _ h => exact (ih _ s h).imp id (List.mem_cons_of_mem _)

theorem mkFlat_op (ops : Array Oper) : ∀ s ∈ mkFlat ops.toList, ops[s.i]? = some s.o := by
  intro s hs
  have h1 : s ∈ mapL (part0 (mkSts ops.toList ops.toList 0 .e)) (mkSts ops.toList ops.toList 0 .e) := (lay_mem _ _ _ s hs).elim id filL_mem
  rw [mapL_eq] at h1
  obtain ⟨s', h3, rfl⟩ := List.mem_map.1 h1
  obtain ⟨_, h2⟩ := mkSts_op _ _ _ _ s' h3
  rw [Nat.sub_zero, Array.getElem?_toList] at h2; exact h2

/-! ### that it is one -/

noncomputable def findP (l : List PSt) (i : Nat) : Option PSt := List.rec (motive := fun _ => Option PSt) none (fun s _ ih => Bool.rec (motive := fun _ => Option PSt) ih (some s) (Nat.beq s.i i)) l
theorem findP_ok : ∀ {l : List PSt} {i : Nat} {s : PSt}, findP l i = some s → s ∈ l ∧ s.i = i := by
  intro l
  induction l with
  | nil => intro i s h; exact nomatch (show (none : Option PSt) = some s from h)
  | cons x l ih =>
    intro i s h
    have h : Bool.rec (motive := fun _ => Option PSt) (findP l i) (some x) (Nat.beq x.i i) = some s := h
    cases q : Nat.beq x.i i
    · rw [q] at h; obtain ⟨h1, h2⟩ := ih h; exact ⟨List.mem_cons_of_mem _ h1, h2⟩
    · rw [q] at h; injection h with h; subst h; exact ⟨List.mem_cons_self, Nat.eq_of_beq_eq_true q⟩
noncomputable def ancAt (flat : List PSt) (j : Nat) : Nat := Option.rec (motive := fun _ => Nat) 0 (fun s => s.anc) (findP flat j)

theorem ancBy_inv (flat : List PSt) : ∀ (es : List Edge) (j : Nat), bit (ancBy (ancAt flat) es) j = true → ∃ e ∈ es, Region.binds .any e = true ∧ (j = e.on ∨ ∃ s' ∈ flat, s'.i = e.on ∧ bit s'.anc j = true)
  | [], j, h => absurd h (bit_zero j)
  | e :: es, j, h => by
    have h : bit (Bool.rec (motive := fun _ => Nat) (ancBy (ancAt flat) es) (Nat.lor (ancBy (ancAt flat) es) (Nat.lor (Nat.shiftLeft 1 e.on) (ancAt flat e.on))) (bndE e)) j = true := h
    cases q : bndE e
    · rw [q] at h
      obtain ⟨e', h1, h2⟩ := ancBy_inv flat es j h
      exact ⟨e', List.mem_cons_of_mem _ h1, h2⟩
    · rw [q] at h
      rcases (bit_lor _ _ _).1 h with h | h
      · obtain ⟨e', h1, h2⟩ := ancBy_inv flat es j h
        exact ⟨e', List.mem_cons_of_mem _ h1, h2⟩
      · refine ⟨e, List.mem_cons_self, bnd_back e q, ?_⟩
        rcases (bit_lor _ _ _).1 h with h | h
        · exact .inl ((bit_one _ _).1 h)
        · right
          unfold ancAt at h
          cases z : findP flat e.on with
          | none => rw [z] at h; exact absurd h (bit_zero j)
          | some s' => rw [z] at h; exact ⟨s', (findP_ok z).1, (findP_ok z).2, h⟩

noncomputable def dstEq (d : Option Tmp) (t : Nat) : Bool := Option.rec (motive := fun _ => Bool) false (fun d => Nat.beq d t) d
theorem dstEq_of {d : Option Tmp} {t : Nat} (h : d = some t) : dstEq d t = true := by subst h; exact Nat.beq_refl t

noncomputable def chk1 (flat : List PSt) (s : PSt) : Bool :=
  andB (allL (fun e => orB (notB (bndE e)) (Nat.ble (Nat.add e.on 1) s.i)) s.o.after.toList)
    (andB (Nat.beq s.anc (ancBy (ancAt flat) s.o.after.toList)) (andB (allL (fun t => allL (fun s' => orB (notB (dstEq s'.o.dst t)) (bit s.anc s'.i)) flat) s.ts) (allL (fun t => allL (fun s' => orB (notB (dstEq s'.o.dst t)) (bit s'.anc s.i)) flat) s.t0)))

/-- From the end on: the next operation whose order is fixed, the places, the temporaries that are written. -/
structure Chk where
  ok : Bool
  nc : Option Nat
  ids : Nat
  ds : Nat
noncomputable def dMask (d : Option Tmp) (m : Nat) : Nat := Option.rec (motive := fun _ => Nat) m (fun d => Nat.lor m (Nat.shiftLeft 1 d)) d
noncomputable def chkF (l : List PSt) : Chk :=
  List.rec (motive := fun _ => Chk) ⟨true, none, 0, 0⟩
    (fun s _ c => Chk.rec (motive := fun _ => Chk) (fun ok nc ids ds =>
      ⟨andB (Option.rec (motive := fun _ => Bool) true (fun m => bit m s.i) nc)
        (andB (notB (bit ids s.i))
          (andB (Option.rec (motive := fun _ => Bool) true (fun d => notB (bit ds d)) s.o.dst)
            (andB (allL (fun t => notB (bit (dMask s.o.dst ds) t)) s.ts) ok))),
        Bool.rec (motive := fun _ => Option Nat) nc (some s.anc) s.ch, Nat.lor ids (Nat.shiftLeft 1 s.i), dMask s.o.dst ds⟩) c) l

def POrd : List PSt → Prop
  | [] => True
  | s :: l => (∀ t ∈ s.ts, ∀ x ∈ s :: l, x.o.dst ≠ some t) ∧ (∀ d, s.o.dst = some d → ∀ x ∈ l, x.o.dst ≠ some d) ∧ POrd l

theorem bit_dMask {d : Option Tmp} {m j : Nat} : bit (dMask d m) j = true ↔ d = some j ∨ bit m j = true := by
  cases d with
  | none => exact ⟨.inr, fun h => h.resolve_left (fun h => nomatch h)⟩
  | some d =>
    show bit (Nat.lor m (Nat.shiftLeft 1 d)) j = true ↔ _
    rw [bit_lor, bit_one]
    constructor
    · rintro (h | h)
      · exact .inr h
      · exact .inl (by rw [h])
    · rintro (h | h)
      · injection h with h; exact .inr h.symm
      · exact .inl h

theorem chkF_ok : ∀ (l : List PSt), (chkF l).ok = true →
    (l.map (·.i)).Nodup ∧ (∀ j, bit (chkF l).ids j = true ↔ ∃ s ∈ l, s.i = j) ∧ (∀ t, bit (chkF l).ds t = true ↔ ∃ s ∈ l, s.o.dst = some t) ∧ POrd l ∧
    (∀ u c v, l = u ++ c :: v → (∀ x ∈ u, x.ch = false) → c.ch = true → (chkF l).nc = some c.anc) ∧
    (∀ l1 s l2 c l3, l = l1 ++ s :: (l2 ++ c :: l3) → (∀ x ∈ l2, x.ch = false) → c.ch = true → bit c.anc s.i = true)
  | [], _ => ⟨List.nodup_nil, fun j => ⟨fun h => absurd h (bit_zero j), fun ⟨_, h, _⟩ => nomatch h⟩, fun j => ⟨fun h => absurd h (bit_zero j), fun ⟨_, h, _⟩ => nomatch h⟩, trivial,
      fun u c v e => by simp at e, fun l1 s l2 c l3 e => by simp at e⟩
  | s :: l, h => by
    have e1 : (chkF (s :: l)).ok = andB (Option.rec (motive := fun _ => Bool) true (fun m => bit m s.i) (chkF l).nc)
        (andB (notB (bit (chkF l).ids s.i)) (andB (Option.rec (motive := fun _ => Bool) true (fun d => notB (bit (chkF l).ds d)) s.o.dst)
            (andB (allL (fun t => notB (bit (dMask s.o.dst (chkF l).ds) t)) s.ts) (chkF l).ok))) := rfl
    have e2 : (chkF (s :: l)).nc = Bool.rec (motive := fun _ => Option Nat) (chkF l).nc (some s.anc) s.ch := rfl
    have e3 : (chkF (s :: l)).ids = Nat.lor (chkF l).ids (Nat.shiftLeft 1 s.i) := rfl
    have e4 : (chkF (s :: l)).ds = dMask s.o.dst (chkF l).ds := rfl
    rw [e1] at h
    obtain ⟨h1, h⟩ := andB_inv h
    obtain ⟨h2, h⟩ := andB_inv h
    obtain ⟨h3, h⟩ := andB_inv h
    obtain ⟨h4, h⟩ := andB_inv h
    obtain ⟨g1, g2, g3, g4, g5, g6⟩ := chkF_ok l h
    have gids : ∀ j, bit (chkF (s :: l)).ids j = true ↔ ∃ x ∈ s :: l, x.i = j := by
      intro j
      rw [e3, bit_lor, bit_one, g2]
      constructor
      · rintro (⟨x, hx, hj⟩ | rfl)
        · exact ⟨x, List.mem_cons_of_mem _ hx, hj⟩
        · exact ⟨s, List.mem_cons_self, rfl⟩
      · rintro ⟨x, hx, rfl⟩
        cases hx with
        | head => exact .inr rfl
        | tail _ hx => exact .inl ⟨x, hx, rfl⟩
    have gds : ∀ t, bit (chkF (s :: l)).ds t = true ↔ ∃ x ∈ s :: l, x.o.dst = some t := by
      intro t
      rw [e4, bit_dMask, g3]
      constructor
      · rintro (h | ⟨x, hx, hj⟩)
        · exact ⟨s, List.mem_cons_self, h⟩
        · exact ⟨x, List.mem_cons_of_mem _ hx, hj⟩
      · rintro ⟨x, hx, h⟩
        cases hx with
        | head => exact .inl h
        | tail _ hx => exact .inr ⟨x, hx, h⟩
    refine ⟨?_, gids, gds, ⟨fun t ht x hx hd => ?_, fun d hd x hx hxd => ?_, g4⟩, fun u c v e hu hc => ?_, fun l1 s' l2 c l3 e hl hc => ?_⟩
    · rw [List.map_cons, List.nodup_cons]
      refine ⟨fun hm => ?_, g1⟩
      obtain ⟨x, hx, e⟩ := List.mem_map.1 hm
      have := (g2 s.i).2 ⟨x, hx, e⟩
      rw [notB_inv h2] at this; exact nomatch this
    · have h5 := notB_inv (allL_inv h4 t ht)
      have h6 := (gds t).2 ⟨x, hx, hd⟩
      rw [e4, h5] at h6; exact nomatch h6
    · rw [hd] at h3
      have h5 := notB_inv (show notB (bit (chkF l).ds d) = true from h3)
      have h6 := (g3 d).2 ⟨x, hx, hxd⟩
      rw [h5] at h6; exact nomatch h6
    · cases u with
      | nil =>
        injection e with e5 e6; subst e5; subst e6
        rw [e2, hc]
      | cons y u =>
        injection e with e5 e6; subst e5
        rw [e2, hu _ List.mem_cons_self]
        exact g5 u c v e6 (fun x hx => hu x (List.mem_cons_of_mem _ hx)) hc
    · cases l1 with
      | nil =>
        injection e with e5 e6; subst e5
        have := g5 l2 c l3 e6 hl hc
        rw [this] at h1; exact h1
      | cons y l1 =>
        injection e with e5 e6
        exact g6 l1 s' l2 c l3 e6 hl hc

noncomputable def planChk (ops : List Oper) (flat : List PSt) : Bool :=
  andB (allL (chk1 flat) flat) (Chk.rec (motive := fun _ => Bool) (fun ok _ ids _ => andB ok (Nat.beq ids (Nat.sub (Nat.pow 2 (lenL ops)) 1))) (chkF flat))
/-- A region's plan, if it has one. -/
noncomputable def mkPlan (ops : List Oper) : Option (List PSt) := (fun flat => ifB (planChk ops flat) (some flat)) (mkFlat ops)

theorem mkPlan_ok {ops : Array Oper} {flat : List PSt} (h : mkPlan ops.toList = some flat) : PlanOk ops flat ∧ POrd flat := by
  obtain ⟨h1, h2⟩ := ifB_inv (show ifB (planChk ops.toList (mkFlat ops.toList)) (some (mkFlat ops.toList)) = some flat from h)
  injection h2 with h2; subst h2
  obtain ⟨h3, h4⟩ := andB_inv h1
  obtain ⟨h5, h6⟩ := andB_inv (show andB (chkF (mkFlat ops.toList)).ok (Nat.beq (chkF (mkFlat ops.toList)).ids (Nat.sub (Nat.pow 2 (lenL ops.toList)) 1)) = true from h4)
  obtain ⟨g1, g2, g3, g4, g5, g6⟩ := chkF_ok _ h5
  refine ⟨⟨mkFlat_op ops, fun i hi => ?_, g1, fun s hs e he hb => ?_, fun s hs j hj => ?_, fun s hs t ht s' hs' hd => ?_, fun s hs t ht s' hs' hd => ?_, g6⟩, g4⟩
  · rw [← g2, Nat.eq_of_beq_eq_true h6]
    exact bit_full (by rw [lenL_eq]; simpa using hi)
  · obtain ⟨c1, _⟩ := andB_inv (allL_inv h3 s hs)
    have := allL_inv c1 e (Array.mem_toList_iff.2 he)
    rcases orB_inv this with h | h
    · rw [bnd_ok e hb] at h; exact nomatch h
    · exact Nat.le_of_ble_eq_true h
  · obtain ⟨_, c2⟩ := andB_inv (allL_inv h3 s hs)
    obtain ⟨c2, _⟩ := andB_inv c2
    rw [Nat.eq_of_beq_eq_true c2] at hj
    obtain ⟨e, h1, h2, h3⟩ := ancBy_inv _ _ _ hj
    exact ⟨e, Array.mem_toList_iff.1 h1, h2, h3⟩
  · obtain ⟨_, c2⟩ := andB_inv (allL_inv h3 s hs)
    obtain ⟨_, c3⟩ := andB_inv c2
    obtain ⟨c3, _⟩ := andB_inv c3
    rcases orB_inv (allL_inv (allL_inv c3 t ht) s' hs') with h | h
    · rw [dstEq_of hd] at h; exact nomatch h
    · exact h
  · obtain ⟨_, c2⟩ := andB_inv (allL_inv h3 s hs)
    obtain ⟨_, c3⟩ := andB_inv c2
    obtain ⟨_, c3⟩ := andB_inv c3
    rcases orB_inv (allL_inv (allL_inv c3 t ht) s' hs') with h | h
    · rw [dstEq_of hd] at h; exact nomatch h
    · exact h

end Go.Proofs.YtdnlfkmfofckfaaGreatDoor.Ev
