/- Operands, frames, facts on types, and the operations that look at values alone. -/
import Derived.Test.YtdnlfkmfofckfaaGreatDoorEvC
import Derived.Laws.Cells
import Derived.Great.FillDense
namespace Go.Proofs.YtdnlfkmfofckfaaGreatDoor.Ev

/-! ### constants and operands -/

noncomputable def cv1 (v : Value) : V :=
  match v with
  | .bool b => .b b
  | .int k n => .i k n
  | .string s => .s (bytesOf s)
  | .pointer none => .pn
  | .slice none 0 0 => .ln
  | .map none => .mn
  | .nilFunc => .fn0
  | .nilIface => .xn
  | _ => .w
noncomputable def cv (v : Value) : V :=
  match v with
  | .agg cs => .g (mapL cv1 cs.toList)
  | .tuple cs => .t (mapL cv1 cs.toList)
  | v => cv1 v

theorem cv1_ok (ρ : Ren) (v : Value) : R ρ (cv1 v) v := by
  unfold cv1
  split <;> first | rfl | exact ⟨_, rfl, rfl⟩ | exact trivial

theorem mapL_cv1_ok (ρ : Ren) : ∀ l : List Value, RL ρ (mapL cv1 l) l
  | [] => rfl
  | x :: l => ⟨x, l, rfl, cv1_ok ρ x, mapL_cv1_ok ρ l⟩

theorem cv_ok (ρ : Ren) (v : Value) : R ρ (cv v) v := by
  unfold cv
  split
  · exact ⟨_, (by simp), mapL_cv1_ok ρ _⟩
  · exact ⟨_, (by simp), mapL_cv1_ok ρ _⟩
  · exact cv1_ok ρ _

noncomputable def getF (F : Tr V) (t : Nat) : V := Option.rec (motive := fun _ => V) .w (fun v => v) (F.get t)

/-- 'G': how many package-level variables there are; the name of the g-th is g. -/
noncomputable def ev (G : Nat) (F : Tr V) (x : Operand) : V :=
  Operand.rec (motive := fun _ => Nat → Tr V → V) (fun t _ F => getF F t) (fun v _ _ => cv v) (fun g G _ => Bool.rec (motive := fun _ => V) .w (.p g 0) (Nat.ble (Nat.add g 1) G)) (fun f _ _ => .f (.func f) [] []) x G F

/-- The package-level variables' blocks. -/
def Glob (ρ : Ren) (G : Nat) : Prop := ∀ g, g < G → ∃ L, ρ g = some L ∧ L.blk = g ∧ L.base = 0

theorem Glob.mono {ρ ρ' : Ren} {G : Nat} (h : Glob ρ G) (hl : ρ.le ρ') : Glob ρ' G := fun g hg => let ⟨L, h1, h2⟩ := h g hg; ⟨L, hl g L h1, h2⟩

structure FRel (ρ : Ren) (F : Tr V) (n : Nat) (a : Act) : Prop where
  size : a.tmps.size = n
  at_ : ∀ t, R ρ (getF F t) (a.tmps.getD t undef)

theorem FRel.mono {ρ ρ' : Ren} {F : Tr V} {n : Nat} {a : Act} (h : FRel ρ F n a) (hl : ρ.le ρ') : FRel ρ' F n a := ⟨h.size, fun t => (h.at_ t).mono hl⟩

theorem FRel.eval {ρ : Ren} {F : Tr V} {n G : Nat} {a : Act} (h : FRel ρ F n a) (hg : Glob ρ G) (x : Operand) : R ρ (ev G F x) (a.eval x) := by
  cases x with
  | tmp t => exact h.at_ t
  | const v => exact cv_ok ρ v
  | global g =>
    show R ρ (Bool.rec (motive := fun _ => V) .w (.p g 0) (Nat.ble (g + 1) G)) (.pointer (some ⟨g, 0, none⟩))
    cases e : Nat.ble (g + 1) G
    · exact trivial
    · obtain ⟨L, h1, h2, h3⟩ := hg g (Nat.le_of_ble_eq_true e)
      exact ⟨L, h1, by rw [h2, h3]⟩
  | func f => exact ⟨[], [], rfl, rfl, rfl⟩

theorem getF_set (F : Tr V) (k j : Nat) (x : V) : getF (F.set k x) j = if j = k then x else getF F j := by
  unfold getF
  rw [Tr.get_set]
  by_cases e : j = k
  · rw [if_pos e, if_pos e]
  · rw [if_neg e, if_neg e]

theorem FRel.put {ρ : Ren} {F : Tr V} {n d : Nat} {a : Act} {x : V} {y : Value} (h : FRel ρ F n a) (hd : d < n) (hx : R ρ x y) : FRel ρ (F.set d x) n (a.put (some d) y) := by
  refine ⟨by simp [Act.put, h.size], fun t => ?_⟩
  rw [getF_set]
  have hsz : d < a.tmps.size := by rw [h.size]; exact hd
  by_cases e : t = d
  · subst e
    rw [if_pos rfl]
    have : (a.put (some t) y).tmps.getD t undef = y := by simp [Act.put, Array.getD, hsz]
    rw [this]; exact hx
  · rw [if_neg e]
    have : (a.put (some d) y).tmps.getD t undef = a.tmps.getD t undef := by
      simp only [Act.put, Array.getD_eq_getD_getElem?]
      rw [Array.getElem?_setIfInBounds_ne (fun h => e h.symm)]
    rw [this]; exact h.at_ t

/-- What an operation's result does to the frame. -/
noncomputable def putF (n : Nat) (F : Tr V) (dst : Option Tmp) (x : V) : Option (Tr V) :=
  Option.rec (motive := fun _ => Option (Tr V)) (some F) (fun d => Bool.rec (motive := fun _ => Option (Tr V)) none (some (F.set d x)) (Nat.ble (Nat.add d 1) n)) dst

theorem putF_ok {ρ : Ren} {F F' : Tr V} {n : Nat} {a : Act} {dst : Option Tmp} {x : V} {y : Value} (h : FRel ρ F n a) (hx : R ρ x y) (hp : putF n F dst x = some F') : FRel ρ F' n (a.put dst y) := by
  cases dst with
  | none => injection (show some F = some F' from hp) with hp; subst hp; exact h
  | some d =>
    have hp' : Bool.rec (motive := fun _ => Option (Tr V)) none (some (F.set d x)) (Nat.ble (d + 1) n) = some F' := hp
    cases e : Nat.ble (d + 1) n
    · rw [e] at hp'; exact nomatch hp'
    · rw [e] at hp'; injection hp' with hp'; subst hp'; exact h.put (Nat.le_of_ble_eq_true e) hx

/-! ### tables as tries -/

noncomputable def idxT {α : Type} (l : List α) : Nat → Tr α → Tr α :=
  List.rec (motive := fun _ => Nat → Tr α → Tr α) (fun _ T => T)
    (fun x _ ih i T => Tr.rec (motive := fun _ => Tr α) (ih (Nat.add i 1) (Tr.e.set i x)) (fun l v r _ _ => ih (Nat.add i 1) ((Tr.n l v r).set i x)) T) l
theorem idxT_cons {α : Type} (x : α) (l : List α) (i : Nat) (T : Tr α) : idxT (x :: l) i T = idxT l (i + 1) (T.set i x) := by cases T <;> rfl
theorem idxT_get {α : Type} : ∀ (l : List α) (i : Nat) (T : Tr α) (t : Nat) (y : α), (idxT l i T).get t = some y → (i ≤ t ∧ l[t - i]? = some y) ∨ T.get t = some y := by
  intro l
  induction l with
  | nil => intro i T t y h; exact .inr h
  | cons x l ih =>
    intro i T t y h
    rw [idxT_cons] at h
    rcases ih _ _ _ _ h with ⟨h1, h2⟩ | h
    · refine .inl ⟨by omega, ?_⟩
      have : t - i = (t - (i + 1)) + 1 := by omega
      rw [this, List.getElem?_cons_succ]; exact h2
    · rw [Tr.get_set] at h
      by_cases e : t = i
      · rw [if_pos e] at h; injection h with h; subst h; subst e; exact .inl ⟨Nat.le_refl _, by simp⟩
      · rw [if_neg e] at h; exact .inr h
noncomputable def idxA {α : Type} (a : Array α) : Tr α := idxT a.toList 0 .e
theorem idxA_get {α : Type} {a : Array α} {t : Nat} {y : α} (h : (idxA a).get t = some y) : a[t]? = some y := by
  rcases idxT_get _ _ _ _ _ h with ⟨_, h⟩ | h
  · simpa using h
  · exact nomatch (show (none : Option α) = some y from h)

noncomputable def tyT (P : Program) : Tr TypeInfo := idxA P.types
noncomputable def tI (P : Program) (t : TypeId) : Option TypeInfo := Option.rec (motive := fun _ => Option TypeInfo) (P.info? t) some ((tyT P).get t)
noncomputable def tU (P : Program) (t : TypeId) : Option TypeDesc :=
  match tI P t with
  | some { desc := .named _ u, .. } => (tI P u).map (·.desc)
  | some i => some i.desc
  | none => none

/-! ### the program's tables -/

theorem info_of {P : Program} {t : TypeId} {i : TypeInfo} (h : P.types[t]? = some i) : P.info? t = some i := by
  have hlt : t < P.types.size := (Array.getElem?_eq_some_iff.1 h).1
  unfold Tables.info?
  rw [if_pos hlt]; exact h
theorem tI_eq (P : Program) (t : TypeId) : tI P t = P.info? t := by
  unfold tI
  cases h : (tyT P).get t with
  | none => rfl
  | some i => exact (info_of (idxA_get h)).symm
theorem tU_eq (P : Program) (t : TypeId) : tU P t = P.underlying t := by
  unfold tU Program.underlying
  simp only [tI_eq]
  rfl

section
variable (P : Program)

noncomputable def tSize (t : TypeId) : Option Nat := match tI P t with | some i => some i.size | none => none
noncomputable def tBytes (t : TypeId) : Option Nat := match tI P t with | some i => some i.bytes | none => none
noncomputable def tAgg (t : TypeId) : Option Bool := match tU P t with | some (.struct _) => some true | some (.array _ _) => some true | some _ => some false | none => none
noncomputable def tZeroV (t : TypeId) : Option V := match tI P t with | some i => (match i.zero with | some z => some (cv z) | none => none) | none => none
noncomputable def tZero (t : TypeId) : Option (List V) := match tI P t with | some i => (match i.zero with | some z => some (mapL cv1 z.cells.toList) | none => none) | none => none
noncomputable def tSlice (t : TypeId) : Option TypeId := match tU P t with | some (.slice e) => some e | _ => none
noncomputable def tMap (t : TypeId) : Option (TypeId × TypeId) := match tU P t with | some (.map k e) => some (k, e) | _ => none
noncomputable def tArray (t : TypeId) : Option (Nat × TypeId) := match tU P t with | some (.array n e) => some (n, e) | _ => none
noncomputable def tFields (t : TypeId) : Option (List Field) := match tU P t with | some (.struct fs) => some fs.toList | _ => none
noncomputable def tIsStr (t : TypeId) : Bool := match tU P t with | some .string => true | _ => false
noncomputable def tIsBool (t : TypeId) : Bool := match tU P t with | some .bool => true | _ => false
noncomputable def tIsPtr (t : TypeId) : Bool := match tU P t with | some (.pointer _) => true | _ => false
noncomputable def tIsFunc (t : TypeId) : Bool := match tU P t with | some (.func _ _ _) => true | _ => false
noncomputable def tIsMap (t : TypeId) : Bool := match tU P t with | some (.map _ _) => true | _ => false
noncomputable def tIsSlice (t : TypeId) : Bool := match tU P t with | some (.slice _) => true | _ => false
noncomputable def tIsIface (t : TypeId) : Option Bool := match tU P t with | some (.interface _) => some true | some _ => some false | none => none
noncomputable def tInt (t : TypeId) : Option IntKind := match tU P t with | some (.int k) => some k | _ => none

variable {P}

theorem tSize_ok {t : TypeId} {n : Nat} (h : tSize P t = some n) (w : World) : (sizeOf t).run P w = .ok n w := by
  unfold tSize at h
  rw [tI_eq] at h
  split at h
  · rename_i i hi; injection h with h; subst h; simp [sizeOf, typeInfo, hi]
  · exact nomatch h
theorem tSize_info {t : TypeId} {n : Nat} (h : tSize P t = some n) : ∃ i, P.info? t = some i ∧ i.size = n := by
  unfold tSize at h
  rw [tI_eq] at h
  split at h
  · rename_i i hi; injection h with h; exact ⟨i, hi, h⟩
  · exact nomatch h
theorem tBytes_info {t : TypeId} {n : Nat} (h : tBytes P t = some n) : ∃ i, P.info? t = some i ∧ i.bytes = n := by
  unfold tBytes at h
  rw [tI_eq] at h
  split at h
  · rename_i i hi; injection h with h; exact ⟨i, hi, h⟩
  · exact nomatch h
theorem run_und {t : TypeId} {d : TypeDesc} (h : P.underlying t = some d) (w : World) : (underlying t).run P w = .ok d w := by
  simp [underlying, h]
theorem tAgg_ok {t : TypeId} {b : Bool} (h : tAgg P t = some b) (w : World) : (isAgg t).run P w = .ok b w := by
  unfold tAgg at h
  rw [tU_eq] at h
  split at h
  · rename_i hu; injection h with h; subst h; simp [isAgg, run_und hu]
  · rename_i hu; injection h with h; subst h; simp [isAgg, run_und hu]
  · rename_i d h1 h2 hu
    injection h with h; subst h
    simp only [isAgg, Sem.run_bind, run_und hu, Result.andThen_ok]
    rfl
  · exact nomatch h
theorem tZeroV_ok {t : TypeId} {z : V} (h : tZeroV P t = some z) (ρ : Ren) (w : World) : ∃ y, (zeroValue t).run P w = .ok y w ∧ R ρ z y := by
  unfold tZeroV at h
  rw [tI_eq] at h
  split at h
  · rename_i i hi
    split at h
    · rename_i y hy; injection h with h; subst h; exact ⟨y, by simp [zeroValue, typeInfo, hi, hy], cv_ok ρ y⟩
    · exact nomatch h
  · exact nomatch h
theorem tZero_ok {t : TypeId} {zs : List V} (h : tZero P t = some zs) (ρ : Ren) (w : World) : ∃ y, (zeroValue t).run P w = .ok y w ∧ RL ρ zs y.cells.toList := by
  unfold tZero at h
  rw [tI_eq] at h
  split at h
  · rename_i i hi
    split at h
    · rename_i y hy; injection h with h; subst h; exact ⟨y, by simp [zeroValue, typeInfo, hi, hy], mapL_cv1_ok ρ _⟩
    · exact nomatch h
  · exact nomatch h
theorem tSlice_und {t e : TypeId} (h : tSlice P t = some e) : P.underlying t = some (.slice e) := by
  unfold tSlice at h; rw [tU_eq] at h; split at h
  · injection h with h; subst h; assumption
  · exact nomatch h
theorem tMap_und {t k e : TypeId} (h : tMap P t = some (k, e)) : P.underlying t = some (.map k e) := by
  unfold tMap at h; rw [tU_eq] at h; split at h
  · injection h with h; injection h with h1 h2; subst h1; subst h2; assumption
  · exact nomatch h
theorem tArray_und {t e : TypeId} {n : Nat} (h : tArray P t = some (n, e)) : P.underlying t = some (.array n e) := by
  unfold tArray at h; rw [tU_eq] at h; split at h
  · injection h with h; injection h with h1 h2; subst h1; subst h2; assumption
  · exact nomatch h
theorem tFields_und {t : TypeId} {fs : List Field} (h : tFields P t = some fs) : P.underlying t = some (.struct fs.toArray) := by
  unfold tFields at h; rw [tU_eq] at h; split at h
  · injection h with h; subst h; simpa using ‹_›
  · exact nomatch h
theorem tInt_und {t : TypeId} {k : IntKind} (h : tInt P t = some k) : P.underlying t = some (.int k) := by
  unfold tInt at h; rw [tU_eq] at h; split at h
  · injection h with h; subst h; assumption
  · exact nomatch h
theorem tIsStr_und {t : TypeId} (h : tIsStr P t = true) : P.underlying t = some .string := by
  unfold tIsStr at h; rw [tU_eq] at h; split at h
  · assumption
  · exact nomatch h
theorem tIsBool_und {t : TypeId} (h : tIsBool P t = true) : P.underlying t = some .bool := by
  unfold tIsBool at h; rw [tU_eq] at h; split at h
  · assumption
  · exact nomatch h
theorem tIsPtr_und {t : TypeId} (h : tIsPtr P t = true) : ∃ e, P.underlying t = some (.pointer e) := by
  unfold tIsPtr at h; rw [tU_eq] at h; split at h
  · exact ⟨_, by assumption⟩
  · exact nomatch h
theorem tIsSlice_und {t : TypeId} (h : tIsSlice P t = true) : ∃ e, P.underlying t = some (.slice e) := by
  unfold tIsSlice at h; rw [tU_eq] at h; split at h
  · exact ⟨_, by assumption⟩
  · exact nomatch h
theorem tIsMap_und {t : TypeId} (h : tIsMap P t = true) : ∃ k e, P.underlying t = some (.map k e) := by
  unfold tIsMap at h; rw [tU_eq] at h; split at h
  · exact ⟨_, _, by assumption⟩
  · exact nomatch h
theorem tIsFunc_und {t : TypeId} (h : tIsFunc P t = true) : ∃ a b c, P.underlying t = some (.func a b c) := by
  unfold tIsFunc at h; rw [tU_eq] at h; split at h
  · exact ⟨_, _, _, by assumption⟩
  · exact nomatch h
end

/-! ### the cells of a value -/

noncomputable def V.cells (v : V) : Option (List V) :=
  @V.rec (fun _ => V → Option (List V)) (fun _ => PUnit) (fun _ v => some [v]) (fun _ _ v => some [v]) (fun _ v => some [v]) (fun v => some [v]) (fun _ _ v => some [v]) (fun v => some [v])
    (fun _ _ _ _ _ v => some [v]) (fun v => some [v]) (fun _ v => some [v]) (fun v => some [v]) (fun _ _ _ _ _ v => some [v]) (fun v => some [v]) (fun _ _ _ v => some [v])
    (fun cs _ _ => some cs) (fun _ _ _ => none) (fun v => some [v]) (fun _ => none) (fun _ v => some [v]) PUnit.unit (fun _ _ _ _ => PUnit.unit) v v

theorem V.cells_ok {ρ : Ren} {v : V} {y : Value} {cs : List V} (h : v.cells = some cs) (hr : R ρ v y) : RL ρ cs y.cells.toList := by
  have one : ∀ (d : V) (y : Value), R ρ d y → y.cells = #[y] → RL ρ [d] y.cells.toList := fun d y h1 h2 => by rw [h2]; exact ⟨y, [], rfl, h1, rfl⟩
  cases v
  case g ds =>
    injection (show some ds = some cs from h) with h; subst h
    obtain ⟨xs, rfl, h2⟩ := hr
    exact h2
  case t => exact nomatch (show (none : Option (List V)) = some cs from h)
  case w => exact nomatch (show (none : Option (List V)) = some cs from h)
  case u =>
    injection (show some [V.u] = some cs from h) with h; subst h
    exact one _ _ hr (by cases y <;> first | rfl | exact nomatch (show false = true from hr))
  case b => injection (show some _ = some cs from h) with h; subst h; exact one _ _ hr (by rw [show y = _ from hr]; rfl)
  case i => injection (show some _ = some cs from h) with h; subst h; exact one _ _ hr (by rw [show y = _ from hr]; rfl)
  case pn => injection (show some _ = some cs from h) with h; subst h; exact one _ _ hr (by rw [show y = _ from hr]; rfl)
  case ln => injection (show some _ = some cs from h) with h; subst h; exact one _ _ hr (by rw [show y = _ from hr]; rfl)
  case mn => injection (show some _ = some cs from h) with h; subst h; exact one _ _ hr (by rw [show y = _ from hr]; rfl)
  case fn0 => injection (show some _ = some cs from h) with h; subst h; exact one _ _ hr (by rw [show y = _ from hr]; rfl)
  case xn => injection (show some _ = some cs from h) with h; subst h; exact one _ _ hr (by rw [show y = _ from hr]; rfl)
  case s => injection (show some _ = some cs from h) with h; subst h; exact one _ _ hr (by obtain ⟨_, e, _⟩ := hr; rw [e]; rfl)
  case p => injection (show some _ = some cs from h) with h; subst h; exact one _ _ hr (by obtain ⟨_, _, e⟩ := hr; rw [e]; rfl)
  case l => injection (show some _ = some cs from h) with h; subst h; exact one _ _ hr (by obtain ⟨_, _, _, _, e, _⟩ := hr; rw [e]; rfl)
  case m => injection (show some _ = some cs from h) with h; subst h; exact one _ _ hr (by obtain ⟨_, _, e⟩ := hr; rw [e]; rfl)
  case f => injection (show some _ = some cs from h) with h; subst h; exact one _ _ hr (by obtain ⟨_, _, e, _⟩ := hr; rw [e]; rfl)
  case x => injection (show some _ = some cs from h) with h; subst h; exact one _ _ hr (by obtain ⟨_, e, _⟩ := hr; rw [e]; rfl)
  case os => injection (show some _ = some cs from h) with h; subst h; exact one _ _ hr (by obtain ⟨_, e, _⟩ := hr; rw [e]; rfl)

/-- One cell it is, whatever it stands for. -/
noncomputable def V.one (v : V) : Bool :=
  @V.rec (fun _ => Bool) (fun _ => PUnit) (fun _ => true) (fun _ _ => true) (fun _ => true) true (fun _ _ => true) true
    (fun _ _ _ _ _ => true) true (fun _ => true) true (fun _ _ _ _ _ => true) true (fun _ _ _ => true)
    (fun _ _ => false) (fun _ _ => false) true false (fun _ => true) PUnit.unit (fun _ _ _ _ => PUnit.unit) v
theorem V.one_ok {ρ : Ren} {v : V} {y : Value} (h : v.one = true) (hr : R ρ v y) : y.oneCell' = true := by
  cases v
  case g => exact nomatch (show false = true from h)
  case t => exact nomatch (show false = true from h)
  case w => exact nomatch (show false = true from h)
  case u => exact hr
  case b => rw [show y = _ from hr]; rfl
  case i => rw [show y = _ from hr]; rfl
  case pn => rw [show y = _ from hr]; rfl
  case ln => rw [show y = _ from hr]; rfl
  case mn => rw [show y = _ from hr]; rfl
  case fn0 => rw [show y = _ from hr]; rfl
  case xn => rw [show y = _ from hr]; rfl
  case s => obtain ⟨_, e, _⟩ := hr; rw [e]; rfl
  case p => obtain ⟨_, _, e⟩ := hr; rw [e]; rfl
  case l => obtain ⟨_, _, _, _, e, _⟩ := hr; rw [e]; rfl
  case m => obtain ⟨_, _, e⟩ := hr; rw [e]; rfl
  case f => obtain ⟨_, _, e, _⟩ := hr; rw [e]; rfl
  case x => obtain ⟨_, e, _⟩ := hr; rw [e]; rfl
  case os => obtain ⟨_, e, _⟩ := hr; rw [e]; rfl
noncomputable def allOne (l : List V) : Bool := List.rec (motive := fun _ => Bool) true (fun v _ ih => Bool.rec (motive := fun _ => Bool) false ih v.one) l
theorem allOne_ok {ρ : Ren} : ∀ {l : List V} {ys : List Value}, allOne l = true → RL ρ l ys → ∀ y ∈ ys, y.oneCell' = true
  | [], ys, _, hr, y, hy => by rw [show ys = [] from hr] at hy; exact nomatch hy
  | v :: l, ys, h, hr, y, hy => by
    obtain ⟨z, zs, rfl, h1, h2⟩ := hr
    have h' : Bool.rec (motive := fun _ => Bool) false (allOne l) v.one = true := h
    cases e : v.one
    · rw [e] at h'; exact nomatch h'
    · rw [e] at h'
      cases hy with
      | head => exact V.one_ok e h1
      | tail _ hy => exact allOne_ok h' h2 y hy

end Go.Proofs.YtdnlfkmfofckfaaGreatDoor.Ev
