/- All operations of a region that are no calls of Go functions, and calls; a region in the order of its text. -/
import Derived.Test.YtdnlfkmfofckfaaGreatDoorEvSa
namespace Go.Proofs.YtdnlfkmfofckfaaGreatDoor.Ev
variable {P : Program}

/-! ### loads -/

noncomputable def lLoad (t : TypeId) (a : Operand) (P : Program) (G : Nat) (h : Tr Blk) (F : Tr V) : Option V := hLoad P h t (ev G F a)
noncomputable def lLookup (t : TypeId) (x i : Operand) (ok : Bool) (P : Program) (G : Nat) (h : Tr Blk) (F : Tr V) : Option V := hLookup P h t (ev G F x) (ev G F i) ok
noncomputable def lConv (s d : TypeId) (x : Operand) (P : Program) (G : Nat) (h : Tr Blk) (F : Tr V) : Option V := pB2S P h s d (ev G F x)
noncomputable def lBin (op : BinOp) (t : TypeId) (x y : Operand) (_ : TypeId) (P : Program) (G : Nat) (h : Tr Blk) (F : Tr V) : Option V := hPtrEq P h op t (ev G F x) (ev G F y)
noncomputable def lEntry (x : Operand) (_ : Program) (G : Nat) (h : Tr Blk) (F : Tr V) : Option V := hEntry h (ev G F x)
noncomputable def isLen (b : Builtin) : Bool := match b with | .len => true | _ => false
noncomputable def lCall (c : Call) (P : Program) (G : Nat) (h : Tr Blk) (F : Tr V) : Option V :=
  match c.callee with | .builtin b => ifB (isLen b) (hLen P h c.argTypes.toList (mapL (ev G F) c.args.toList)) | _ => none
/-- An operation that reads memory and leaves it as it is. -/
noncomputable def lOp (P : Program) (G : Nat) (h : Tr Blk) (F : Tr V) (op : Op) : Option V :=
  Op.rec (motive := fun _ => Program → Nat → Tr Blk → Tr V → Option V) (fun _ _ _ _ _ => none) (fun _ _ _ _ _ => none) (fun _ _ _ _ _ _ _ => none) (fun _ _ _ _ _ => none) (fun _ _ _ _ _ _ => none) (fun _ _ _ _ _ _ => none) (fun _ _ _ _ _ _ _ => none) (fun _ _ _ _ _ _ _ _ => none) lLoad (fun _ _ _ _ _ _ _ => none) (fun _ _ _ _ _ => none) (fun _ _ _ _ _ => none) (fun _ _ _ _ _ => none) lBin (fun _ _ _ _ _ _ _ => none) lConv (fun _ _ _ _ _ _ => none) (fun _ _ _ _ _ _ => none) (fun _ _ _ _ _ _ _ => none) (fun _ _ _ _ _ _ => none) (fun _ _ _ _ _ _ => none) (fun _ _ _ _ _ _ _ => none) (fun _ _ _ _ _ _ _ _ _ => none) (fun _ _ _ _ _ _ _ => none) (fun _ _ _ _ _ _ _ => none) (fun _ _ _ _ _ _ _ => none) (fun _ _ _ _ _ _ _ => none) lLookup (fun _ _ _ _ _ _ _ _ => none) (fun _ _ _ _ _ _ _ => none) (fun _ _ _ _ _ _ _ _ => none) (fun _ _ _ _ _ _ => none) (fun _ _ _ _ _ _ => none) lEntry (fun _ _ _ _ _ _ _ _ => none) (fun _ _ _ _ _ _ => none) lCall (fun _ _ _ _ _ => none) (fun _ _ _ _ _ => none) (fun _ _ _ _ _ => none) (fun _ _ _ _ _ _ => none) (fun _ _ _ _ _ _ _ => none) (fun _ _ _ _ _ _ => none) op P G h F

theorem lOp_ok {ρ : Ren} {G : Nat} {h : Tr Blk} {F : Tr V} {e : Operand → Value} (he : ∀ x, R ρ (ev G F x) (e x)) {o : Oper} {v : V} {w : World} (hr : HRel ρ h.get w) (hh : lOp P G h F o.op = some v) :
    ∃ y, (execOp e o).run P w = .ok (.value y) w ∧ R ρ v y := by
  cases ho : o.op <;> rw [ho] at hh
  case load t a =>
    obtain ⟨y, hy, hv⟩ := hLoad_ok (show hLoad P h t (ev G F a) = some v from hh) hr (he a)
    exact ⟨y, by simp only [execOp, ho, Sem.run_bind, hy, Result.andThen_ok, Sem.run_pure], hv⟩
  case lookup t x i ok =>
    obtain ⟨y, hy, hv⟩ := hLookup_ok (show hLookup P h t (ev G F x) (ev G F i) ok = some v from hh) hr (he x) (he i)
    exact ⟨y, by simp only [execOp, ho, Sem.run_bind, hy, Result.andThen_ok, Sem.run_pure], hv⟩
  case convert s d x =>
    obtain ⟨y, hy, hv⟩ := pB2S_ok (show pB2S P h s d (ev G F x) = some v from hh) hr (he x)
    exact ⟨y, by simp only [execOp, ho, Sem.run_bind, hy, Result.andThen_ok, Sem.run_pure], hv⟩
  case binOp op t x y ct =>
    obtain ⟨r, hr', hv⟩ := hPtrEq_ok (xo := x) (yo := y) hr (show hPtrEq P h op t (ev G F x) (ev G F y) = some v from hh) (he x) (he y)
    exact ⟨r, by simp only [execOp, ho]; rw [Sem.run_bind, hr']; rfl, hv⟩
  case entry x =>
    obtain ⟨y, hy, hv⟩ := hEntry_ok (P := P) (show hEntry h (ev G F x) = some v from hh) hr (he x)
    exact ⟨y, by simp only [execOp, ho, Sem.run_bind, hy, Result.andThen_ok, Sem.run_pure], hv⟩
  case call c =>
    obtain ⟨callee, args, ats⟩ := c
    cases callee
    case builtin b =>
      obtain ⟨hb, h1⟩ := ifB_inv (show ifB (isLen b) (hLen P h ats.toList (mapL (ev G F) args.toList)) = some v from hh)
      have hbl : b = .len := by unfold isLen at hb; split at hb; rfl; exact nomatch hb
      subst hbl
      obtain ⟨y, hy, hv⟩ := hLen_ok o.type h1 hr (evs_ok he args.toList)
      refine ⟨y, ?_, hv⟩
      have ha : (args.toList.map e).toArray = args.map e := by apply Array.ext'; simp
      rw [ha, Array.toArray_toList] at hy
      simp only [execOp, ho, resolve, Sem.run_bind, Sem.run_pure, Result.andThen_ok, invoke, builtin, hy]
    all_goals exact nomatch (show (none : Option V) = some v from hh)
  all_goals exact nomatch (show (none : Option V) = some v from hh)

/-! ### new blocks: the value, and the block that goes under the name 'n' -/

noncomputable def aAlloc (t : TypeId) (P : Program) (_ : Nat) (H : Heap) (_ : Tr V) : Option (V × Heap) := hAlloc P H t
noncomputable def aBox (_ : TypeId) (x : Operand) (_ : Program) (G : Nat) (H : Heap) (F : Tr V) : Option (V × Heap) := hBox H (ev G F x)
noncomputable def aBuildSlice (t : TypeId) (len : Nat) (parts : Array (Nat × Operand)) (P : Program) (G : Nat) (H : Heap) (F : Tr V) : Option (V × Heap) := hBuildSlice P H t len (mapL (fun p => (p.1, ev G F p.2)) parts.toList)
noncomputable def aMakeMap (t : TypeId) (r : Option Operand) (P : Program) (G : Nat) (H : Heap) (F : Tr V) : Option (V × Heap) := hMakeMap P H t (evO G F r)
noncomputable def aMakeSlice (t : TypeId) (l c : Operand) (P : Program) (G : Nat) (H : Heap) (F : Tr V) : Option (V × Heap) := hMakeSlice P H t (ev G F l) (ev G F c)
noncomputable def aConv (s d : TypeId) (x : Operand) (P : Program) (G : Nat) (H : Heap) (F : Tr V) : Option (V × Heap) := hS2B P H s d (ev G F x)
/-- An operation that makes one new block and looks at values alone. -/
noncomputable def aOp (P : Program) (G : Nat) (H : Heap) (F : Tr V) (op : Op) : Option (V × Heap) :=
  Op.rec (motive := fun _ => Program → Nat → Heap → Tr V → Option (V × Heap)) (fun _ _ _ _ _ => none) (fun _ _ _ _ _ => none) (fun _ _ _ _ _ _ _ => none) aAlloc aBox (fun _ _ _ _ _ _ => none) aBuildSlice (fun _ _ _ _ _ _ _ _ => none) (fun _ _ _ _ _ _ => none) (fun _ _ _ _ _ _ _ => none) (fun _ _ _ _ _ => none) (fun _ _ _ _ _ => none) (fun _ _ _ _ _ => none) (fun _ _ _ _ _ _ _ _ _ => none) (fun _ _ _ _ _ _ _ => none) aConv (fun _ _ _ _ _ _ => none) (fun _ _ _ _ _ _ => none) (fun _ _ _ _ _ _ _ => none) aMakeMap (fun _ _ _ _ _ _ => none) aMakeSlice (fun _ _ _ _ _ _ _ _ _ => none) (fun _ _ _ _ _ _ _ => none) (fun _ _ _ _ _ _ _ => none) (fun _ _ _ _ _ _ _ => none) (fun _ _ _ _ _ _ _ => none) (fun _ _ _ _ _ _ _ _ => none) (fun _ _ _ _ _ _ _ _ => none) (fun _ _ _ _ _ _ _ => none) (fun _ _ _ _ _ _ _ _ => none) (fun _ _ _ _ _ _ => none) (fun _ _ _ _ _ _ => none) (fun _ _ _ _ _ => none) (fun _ _ _ _ _ _ _ _ => none) (fun _ _ _ _ _ _ => none) (fun _ _ _ _ _ => none) (fun _ _ _ _ _ => none) (fun _ _ _ _ _ => none) (fun _ _ _ _ _ => none) (fun _ _ _ _ _ _ => none) (fun _ _ _ _ _ _ _ => none) (fun _ _ _ _ _ _ => none) op P G H F

theorem aOp_ok {ρ : Ren} {G : Nat} {H H' : Heap} {F : Tr V} {e : Operand → Value} (he : ∀ x, R ρ (ev G F x) (e x)) {o : Oper} {v : V} {w : World} (hr : HRel ρ H.t.get w) (hf : ρ H.nx = none) (hh : aOp P G H F o.op = some (v, H')) :
    ∃ y w' ρ', (execOp e o).run P w = .ok (.value y) w' ∧ R ρ' v y ∧ Step ρ ρ' H.t.get H'.t.get H.nx H'.nx w w' := by
  cases ho : o.op <;> rw [ho] at hh
  case alloc t =>
    obtain ⟨y, w', ρ', hy, hv⟩ := hAlloc_ok (show hAlloc P H t = some (v, H') from hh) hr hf
    exact ⟨y, w', ρ', by simp only [execOp, ho, Sem.run_bind, hy, Result.andThen_ok, Sem.run_pure], hv⟩
  case box t x =>
    obtain ⟨y, w', ρ', hy, hv⟩ := hBox_ok (P := P) t (show hBox H (ev G F x) = some (v, H') from hh) hr hf (he x)
    exact ⟨y, w', ρ', by simp only [execOp, ho, Sem.run_bind, hy, Result.andThen_ok, Sem.run_pure], hv⟩
  case buildSlice t len parts =>
    obtain ⟨y, w', ρ', hy, hv⟩ := hBuildSlice_ok (show hBuildSlice P H t len (mapL (fun p => (p.1, ev G F p.2)) parts.toList) = some (v, H') from hh) hr hf (parts_ok he parts.toList)
    have : (parts.map fun (i, x) => (i, e x)) = (parts.toList.map fun p => (p.1, e p.2)).toArray := by
      apply Array.ext'; simp
    exact ⟨y, w', ρ', by simp only [execOp, ho, this, Sem.run_bind, hy, Result.andThen_ok, Sem.run_pure], hv⟩
  case makeMap t r =>
    obtain ⟨y, w', ρ', hy, hv⟩ := hMakeMap_ok (show hMakeMap P H t (evO G F r) = some (v, H') from hh) hr hf (evO_ok he r)
    exact ⟨y, w', ρ', by simp only [execOp, ho, Sem.run_bind, hy, Result.andThen_ok, Sem.run_pure], hv⟩
  case makeSlice t l c =>
    obtain ⟨y, w', ρ', hy, hv⟩ := hMakeSlice_ok (show hMakeSlice P H t (ev G F l) (ev G F c) = some (v, H') from hh) hr hf (he l) (he c)
    exact ⟨y, w', ρ', by simp only [execOp, ho, Sem.run_bind, hy, Result.andThen_ok, Sem.run_pure], hv⟩
  case convert s d x =>
    obtain ⟨y, w', ρ', hy, hv⟩ := hS2B_ok (show hS2B P H s d (ev G F x) = some (v, H') from hh) hr hf (he x)
    exact ⟨y, w', ρ', by simp only [execOp, ho, Sem.run_bind, hy, Result.andThen_ok, Sem.run_pure], hv⟩
  all_goals exact nomatch (show (none : Option (V × Heap)) = some (v, H') from hh)

/-! ### operations that change what there is -/

noncomputable def one1 (H : Option Heap) : Option (List (V × Heap)) := onO H fun H => some [(.t [], H)]
noncomputable def one2 (p : Option (V × Heap)) : Option (List (V × Heap)) := onO p fun p => some [p]
noncomputable def eStore (t : TypeId) (a x : Operand) (P : Program) (G : Nat) (H : Heap) (F : Tr V) : Option (List (V × Heap)) := one1 (hStore P H t (ev G F a) (ev G F x))
noncomputable def eSet (t : TypeId) (m k x : Operand) (P : Program) (G : Nat) (H : Heap) (F : Tr V) : Option (List (V × Heap)) := one1 (hMapSet P H t (ev G F m) (ev G F k) (ev G F x))
noncomputable def eRange (t : TypeId) (x : Operand) (P : Program) (G : Nat) (H : Heap) (F : Tr V) : Option (List (V × Heap)) := one2 (hRange P H t (ev G F x))
noncomputable def eNext (x : Operand) (s : Bool) (_ : Program) (G : Nat) (H : Heap) (F : Tr V) : Option (List (V × Heap)) := hNext H (ev G F x) s
noncomputable def two {β : Type} (l : List V) (f : V → V → Option β) : Option β := List.rec (motive := fun _ => Option β) none (fun x t _ => List.rec (motive := fun _ => Option β) none (fun y t' _ => List.rec (motive := fun _ => Option β) (f x y) (fun _ _ _ => none) t') t) l
theorem two_inv {β : Type} {l : List V} {f : V → V → Option β} {r : β} (h : two l f = some r) : ∃ x y, l = [x, y] ∧ f x y = some r := by
  match l, h with
  | [x, y], h => exact ⟨x, y, rfl, h⟩
  | [], h => exact nomatch (show (none : Option β) = some r from h)
  | [_], h => exact nomatch (show (none : Option β) = some r from h)
  | _ :: _ :: _ :: _, h => exact nomatch (show (none : Option β) = some r from h)
noncomputable def eBuiltin (P : Program) (b : Builtin) (ts : List TypeId) (H : Heap) (vs : List V) : Option (List (V × Heap)) :=
  match b with
  | .append => two vs fun s x => one2 (hAppend P H ts s x)
  | .copy => two vs fun s x => one2 (hCopy P H ts s x)
  | .delete => two vs fun m k => one1 (hMapDel P H ts m k)
  | _ => none
noncomputable def eCall (c : Call) (P : Program) (G : Nat) (H : Heap) (F : Tr V) : Option (List (V × Heap)) :=
  match c.callee with | .builtin b => eBuiltin P b c.argTypes.toList H (mapL (ev G F) c.args.toList) | _ => none
/-- An operation that writes. -/
noncomputable def eOp (P : Program) (G : Nat) (H : Heap) (F : Tr V) (op : Op) : Option (List (V × Heap)) :=
  Op.rec (motive := fun _ => Program → Nat → Heap → Tr V → Option (List (V × Heap))) (fun _ _ _ _ _ => none) (fun _ _ _ _ _ => none) (fun _ _ _ _ _ _ _ => none) (fun _ _ _ _ _ => none) (fun _ _ _ _ _ _ => none) (fun _ _ _ _ _ _ => none) (fun _ _ _ _ _ _ _ => none) eSet (fun _ _ _ _ _ _ => none) eStore (fun _ _ _ _ _ => none) (fun _ _ _ _ _ => none) (fun _ _ _ _ _ => none) (fun _ _ _ _ _ _ _ _ _ => none) (fun _ _ _ _ _ _ _ => none) (fun _ _ _ _ _ _ _ => none) (fun _ _ _ _ _ _ => none) (fun _ _ _ _ _ _ => none) (fun _ _ _ _ _ _ _ => none) (fun _ _ _ _ _ _ => none) (fun _ _ _ _ _ _ => none) (fun _ _ _ _ _ _ _ => none) (fun _ _ _ _ _ _ _ _ _ => none) (fun _ _ _ _ _ _ _ => none) (fun _ _ _ _ _ _ _ => none) (fun _ _ _ _ _ _ _ => none) (fun _ _ _ _ _ _ _ => none) (fun _ _ _ _ _ _ _ _ => none) eSet (fun _ _ _ _ _ _ _ => none) (fun _ _ _ _ _ _ _ _ => none) eRange eNext (fun _ _ _ _ _ => none) (fun _ _ _ _ _ _ _ _ => none) (fun _ _ _ _ _ _ => none) eCall (fun _ _ _ _ _ => none) (fun _ _ _ _ _ => none) (fun _ _ _ _ _ => none) (fun _ _ _ _ _ _ => none) (fun _ _ _ _ _ _ _ => none) (fun _ _ _ _ _ _ => none) op P G H F

/-- What an operation has come to: a value, or nothing. -/
def Comes1 (r : Next) (y : Value) : Prop := r = .value y ∨ (r = .skip ∧ y = undef)

theorem eOp_ok {ρ : Ren} {G : Nat} {H : Heap} {F : Tr V} {e : Operand → Value} (he : ∀ x, R ρ (ev G F x) (e x)) {o : Oper} {outs : List (V × Heap)} {w : World} (hr : HRel ρ H.t.get w) (hf : ρ H.nx = none) (hh : eOp P G H F o.op = some outs) :
    ∃ p ∈ outs, ∃ r y w' ρ', (execOp e o).run P w = .ok r w' ∧ Comes1 r y ∧ R ρ' p.1 y ∧ Step ρ ρ' H.t.get p.2.t.get H.nx p.2.nx w w' := by
  have undef_ok : ∀ ρ : Ren, R ρ (.t []) undef := fun ρ => ⟨[], rfl, rfl⟩
  cases ho : o.op <;> rw [ho] at hh
  case store t a x =>
    obtain ⟨H', h1, h2⟩ := onO_inv (show one1 (hStore P H t (ev G F a) (ev G F x)) = some outs from hh)
    injection h2 with h2; subst h2
    obtain ⟨w', hy, hs⟩ := hStore_ok h1 hr (he a) (he x)
    exact ⟨_, List.mem_singleton.2 rfl, .skip, undef, w', ρ, by simp only [execOp, ho, Sem.run_bind, hy, Result.andThen_ok, Sem.run_pure], .inr ⟨rfl, rfl⟩, undef_ok ρ, hs⟩
  case mapUpdate t m k x =>
    obtain ⟨H', h1, h2⟩ := onO_inv (show one1 (hMapSet P H t (ev G F m) (ev G F k) (ev G F x)) = some outs from hh)
    injection h2 with h2; subst h2
    obtain ⟨w', hy, hs⟩ := hMapSet_ok h1 hr (he m) (he k) (he x)
    exact ⟨_, List.mem_singleton.2 rfl, .skip, undef, w', ρ, by simp only [execOp, ho, Sem.run_bind, hy, Result.andThen_ok, Sem.run_pure], .inr ⟨rfl, rfl⟩, undef_ok ρ, hs⟩
  case insert t m k x =>
    obtain ⟨H', h1, h2⟩ := onO_inv (show one1 (hMapSet P H t (ev G F m) (ev G F k) (ev G F x)) = some outs from hh)
    injection h2 with h2; subst h2
    obtain ⟨w', hy, hs⟩ := hMapSet_ok h1 hr (he m) (he k) (he x)
    exact ⟨_, List.mem_singleton.2 rfl, .skip, undef, w', ρ, by simp only [execOp, ho, Sem.run_bind, hy, Result.andThen_ok, Sem.run_pure], .inr ⟨rfl, rfl⟩, undef_ok ρ, hs⟩
  case range t x =>
    obtain ⟨p, h1, h2⟩ := onO_inv (show one2 (hRange P H t (ev G F x)) = some outs from hh)
    injection h2 with h2; subst h2
    obtain ⟨y, w', ρ', hy, hv, hs⟩ := hRange_ok h1 hr hf (he x)
    exact ⟨p, List.mem_singleton.2 rfl, .value y, y, w', ρ', by simp only [execOp, ho, Sem.run_bind, hy, Result.andThen_ok, Sem.run_pure], .inl rfl, hv, hs⟩
  case next x s =>
    obtain ⟨p, hp, y, w', hy, hv, hs⟩ := hNext_ok (P := P) o.type (show hNext H (ev G F x) s = some outs from hh) hr (he x)
    exact ⟨p, hp, .value y, y, w', ρ, by simp only [execOp, ho, Sem.run_bind, hy, Result.andThen_ok, Sem.run_pure], .inl rfl, hv, hs⟩
  case call c =>
    obtain ⟨callee, args, ats⟩ := c
    cases callee
    case builtin b =>
      have ha : (args.toList.map e).toArray = args.map e := by apply Array.ext'; simp
      have hargs := evs_ok he args.toList
      have hh : eBuiltin P b ats.toList H (mapL (ev G F) args.toList) = some outs := hh
      have run : ∀ {y : Value} {w' : World}, (builtin b ats o.type (args.map fun | .const _ => true | _ => false) (args.map e)).run P w = .ok (.value y) w' → (execOp e o).run P w = .ok (.value y) w' := by
        intro y w' h
        simp only [execOp, ho, resolve, Sem.run_bind, Sem.run_pure, Result.andThen_ok, invoke]
        exact h
      unfold eBuiltin at hh
      split at hh
      · obtain ⟨s, x, hl, h1⟩ := two_inv hh
        obtain ⟨p, h2, h3⟩ := onO_inv h1
        injection h3 with h3; subst h3
        rw [hl] at hargs
        obtain ⟨su, us, hus, hsu, xu, us', hus', hxu, hnil⟩ := hargs
        have hnil : us' = [] := hnil
        subst hnil; subst hus'
        obtain ⟨y, w', ρ', hy, hv, hs⟩ := hAppend_ok o.type h2 hr hf hsu hxu
        rw [Array.toArray_toList] at hy
        have he2 : args.map e = #[su, xu] := by rw [← ha, hus]
        refine ⟨p, List.mem_singleton.2 rfl, .value y, y, w', ρ', run ?_, .inl rfl, hv, hs⟩
        rw [he2]
        simp only [builtin, Sem.run_bind, hy, Result.andThen_ok, Sem.run_pure]
      · obtain ⟨s, x, hl, h1⟩ := two_inv hh
        obtain ⟨p, h2, h3⟩ := onO_inv h1
        injection h3 with h3; subst h3
        rw [hl] at hargs
        obtain ⟨su, us, hus, hsu, xu, us', hus', hxu, hnil⟩ := hargs
        have hnil : us' = [] := hnil
        subst hnil; subst hus'
        obtain ⟨y, w', hy, hv, hs⟩ := hCopy_ok o.type h2 hr hsu hxu
        rw [Array.toArray_toList] at hy
        have he2 : args.map e = #[su, xu] := by rw [← ha, hus]
        refine ⟨p, List.mem_singleton.2 rfl, .value y, y, w', ρ, run ?_, .inl rfl, hv, hs⟩
        rw [he2]
        simp only [builtin, Sem.run_bind, hy, Result.andThen_ok, Sem.run_pure]
      · obtain ⟨s, x, hl, h1⟩ := two_inv hh
        obtain ⟨H', h2, h3⟩ := onO_inv h1
        injection h3 with h3; subst h3
        rw [hl] at hargs
        obtain ⟨su, us, hus, hsu, xu, us', hus', hxu, hnil⟩ := hargs
        have hnil : us' = [] := hnil
        subst hnil; subst hus'
        obtain ⟨w', hy, hs⟩ := hMapDel_ok o.type h2 hr hsu hxu
        rw [Array.toArray_toList] at hy
        have he2 : args.map e = #[su, xu] := by rw [← ha, hus]
        refine ⟨_, List.mem_singleton.2 rfl, .value (.tuple #[]), .tuple #[], w', ρ, run ?_, .inl rfl, undef_ok ρ, hs⟩
        rw [he2]
        simp only [builtin, Sem.run_bind, hy, Result.andThen_ok, Sem.run_pure]
      · exact nomatch hh
    all_goals exact nomatch (show (none : Option (List (V × Heap))) = some outs from hh)
  all_goals exact nomatch (show (none : Option (List (V × Heap))) = some outs from hh)

end Go.Proofs.YtdnlfkmfofckfaaGreatDoor.Ev
