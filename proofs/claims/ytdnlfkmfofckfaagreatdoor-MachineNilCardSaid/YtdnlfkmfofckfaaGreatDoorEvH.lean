/- The rest of the operations on values alone, and all of them under one name. -/
import Derived.Test.YtdnlfkmfofckfaaGreatDoorEvG
namespace Go.Proofs.YtdnlfkmfofckfaaGreatDoor.Ev
variable {P : Program}

/-! ### == and its kin, and all binary operations -/

noncomputable def V.bway {β : Type} (v : V) : (IntKind → Int → Option β) → (List Nat → Option β) → (List (List Nat) → Option β) → Option β → Option β :=
  @V.rec (fun _ => (IntKind → Int → Option β) → (List Nat → Option β) → (List (List Nat) → Option β) → Option β → Option β) (fun _ => PUnit) (fun _ _ _ _ d => d) (fun k n f _ _ _ => f k n) (fun bs _ f _ _ => f bs)
    (fun _ _ _ d => d) (fun _ _ _ _ _ d => d) (fun _ _ _ d => d) (fun _ _ _ _ _ _ _ _ d => d) (fun _ _ _ d => d) (fun _ _ _ _ d => d) (fun _ _ _ d => d) (fun _ _ _ _ _ _ _ _ d => d) (fun _ _ _ d => d) (fun _ _ _ _ _ _ d => d)
    (fun _ _ _ _ _ d => d) (fun _ _ _ _ _ d => d) (fun _ _ _ d => d) (fun _ _ _ d => d) (fun no _ _ f _ => f no) PUnit.unit (fun _ _ _ _ => PUnit.unit) v

noncomputable def isC (x : Operand) : Bool := Operand.rec (motive := fun _ => Bool) (fun _ => false) (fun _ => true) (fun _ => false) (fun _ => false) x
theorem isC_ok {x : Operand} (h : isC x = true) : (x matches .const _) = true := by cases x <;> first | rfl | exact nomatch (show false = true from h)

/-- Two nil interface values: one operand is the literal. -/
noncomputable def gOk (xo yo : Operand) (x : V) : Bool := match x with | .xn => orB (isC xo) (isC yo) | .g _ => false | _ => true

noncomputable def isEq (op : BinOp) : Option Bool := match op with | .eql => some true | .neq => some false | _ => none

noncomputable def pEq (P : Program) (op : BinOp) (t : TypeId) (xo yo : Operand) (x y : V) : Option V :=
  onO (isEq op) fun pos => ifB (gOk xo yo x) (onO (eqV P t x y) fun r => some (.b (ite2 pos r (notB r))))

noncomputable def osEq (op : BinOp) (no : List (List Nat)) (l : List Nat) : Option V :=
  onO (isEq op) fun pos => ifB (memL l no) (some (.b (notB pos)))

noncomputable def pBin (P : Program) (op : BinOp) (t : TypeId) (xo yo : Operand) (x y : V) : Option V :=
  x.bway (fun k a => y.onI fun k' b => ite2 (isShift op) (shI op k a b) (ifB (Nat.beq (kn k) (kn k')) (binI op k a b)))
    (fun l => y.bway (fun _ _ => none) (fun l' => binS op l l') (fun no => osEq op no l) none)
    (fun no => y.onS fun l => osEq op no l)
    (pEq P op t xo yo x y)

theorem guard_skip {op : BinOp} {t : TypeId} {xo yo : Operand} {u v : Value} (w : World) (h1 : ∀ (_ : u = .nilIface) (_ : v = .nilIface), isC xo = true ∨ isC yo = true) (h2 : ∀ cs, u ≠ .agg cs) :
    (eqGuard op t xo yo u v).run P w = .ok () w := by
  cases u
  case agg cs => exact absurd rfl (h2 cs)
  case nilIface =>
    cases v
    case nilIface =>
      rcases h1 rfl rfl with h | h
      · cases xo
        case const => cases op <;> rfl
        all_goals exact nomatch (show false = true from h)
      · cases yo
        case const => cases xo <;> cases op <;> rfl
        all_goals exact nomatch (show false = true from h)
    all_goals (cases op <;> rfl)
  all_goals (cases op <;> rfl)

theorem isEq_ok {op : BinOp} {pos : Bool} (h : isEq op = some pos) : (op = .eql ∧ pos = true) ∨ (op = .neq ∧ pos = false) := by
  unfold isEq at h
  split at h
  · injection h with h; exact .inl ⟨rfl, h.symm⟩
  · injection h with h; exact .inr ⟨rfl, h.symm⟩
  · exact nomatch h

theorem osEq_ok {ρ : Ren} {op : BinOp} {no : List (List Nat)} {l : List Nat} {v : V} {x y : ByteArray} (t : TypeId) (w : World) (h : osEq op no l = some v) (hx : (bytesOf x = l ∧ ∀ l ∈ no, bytesOf y ≠ l) ∨ (bytesOf y = l ∧ ∀ l ∈ no, bytesOf x ≠ l)) :
    ∃ z, (binOp op t (.string x) (.string y)).run P w = .ok z w ∧ R ρ v z := by
  obtain ⟨pos, hpos, h1⟩ := onO_inv h
  obtain ⟨hm, h2⟩ := ifB_inv h1
  injection h2 with h2; subst h2
  have hne : bytesOf x ≠ bytesOf y := by
    rcases hx with ⟨e, hn⟩ | ⟨e, hn⟩
    · intro he; exact hn l (memL_mem hm) (by rw [← he, e])
    · intro he; exact hn l (memL_mem hm) (by rw [he, e])
  have hf : (x.toList == y.toList) = false := by rw [bytesOf_inj]; simp [hne]
  rcases isEq_ok hpos with ⟨rfl, rfl⟩ | ⟨rfl, rfl⟩
  · exact ⟨.bool false, by simp [binOp, Op.stringOp, hf], rfl⟩
  · exact ⟨.bool true, by simp [binOp, Op.stringOp, hf], rfl⟩

theorem binOp_eql (t : TypeId) (u v : Value) (w : World) (hu : ∀ k n, u ≠ .int k n) (hf : ∀ k n, u ≠ .float k n) (hc : ∀ k n m, u ≠ .complex k n m) (hs : ∀ s, u ≠ .string s) (hp : ∀ r, (Op.equal t u v).run P w = .ok r w → True) :
    (binOp .eql t u v).run P w = ((Op.equal t u v).run P w).andThen fun r w => .ok (.bool r) w := by
  cases u <;> first | exact absurd rfl (hu _ _) | exact absurd rfl (hf _ _) | exact absurd rfl (hc _ _ _) | exact absurd rfl (hs _) | simp [binOp]
theorem binOp_neq (t : TypeId) (u v : Value) (w : World) (hu : ∀ k n, u ≠ .int k n) (hf : ∀ k n, u ≠ .float k n) (hc : ∀ k n m, u ≠ .complex k n m) (hs : ∀ s, u ≠ .string s) :
    (binOp .neq t u v).run P w = ((Op.equal t u v).run P w).andThen fun r w => .ok (.bool (!r)) w := by
  cases u <;> first | exact absurd rfl (hu _ _) | exact absurd rfl (hf _ _) | exact absurd rfl (hc _ _ _) | exact absurd rfl (hs _) | simp [binOp]

/-- A value that eqV looks at is none of the kinds that have an equality of their own. -/
theorem eqV_kind {ρ : Ren} {t : TypeId} {x y : V} {r : Bool} {u v : Value} (h : eqV P t x y = some r) (hx : R ρ x u) (hy : R ρ y v) :
    (∀ k n, u ≠ .int k n) ∧ (∀ k n, u ≠ .float k n) ∧ (∀ k n m, u ≠ .complex k n m) ∧ (∀ s, u ≠ .string s) ∧ (∀ cs, u ≠ .agg cs) ∧ (u = .nilIface → x = .xn) := by
  have key : ∀ u : Value, ((∃ b, u = .bool b) ∨ (∃ a, u = .pointer a) ∨ (∃ a n c, u = .slice a n c) ∨ (∃ a, u = .map a) ∨ u = .nilFunc ∨ (∃ a b c, u = .func a b c) ∨ (∃ t v, u = .iface t v)) →
      (∀ k n, u ≠ .int k n) ∧ (∀ k n, u ≠ .float k n) ∧ (∀ k n m, u ≠ .complex k n m) ∧ (∀ s, u ≠ .string s) ∧ (∀ cs, u ≠ .agg cs) ∧ (u = .nilIface → x = .xn) := by
    intro u hu
    rcases hu with ⟨b, rfl⟩ | ⟨a, rfl⟩ | ⟨a, n, c, rfl⟩ | ⟨a, rfl⟩ | rfl | ⟨a, b, c, rfl⟩ | ⟨t, v, rfl⟩ <;> refine ⟨?_, ?_, ?_, ?_, ?_, fun hh => nomatch hh⟩ <;> intros <;> intro hh <;> exact nomatch hh
  unfold eqV at h
  split at h
  case h_1 => exact key _ (.inl ⟨_, hx⟩)
  case h_2 => exact key _ (.inr (.inl ⟨_, hx⟩))
  case h_3 => exact key _ (.inr (.inl ⟨_, hx⟩))
  case h_4 => obtain ⟨L, _, hx⟩ := hx; exact key _ (.inr (.inl ⟨_, hx⟩))
  case h_5 => exact key _ (.inr (.inr (.inl ⟨_, _, _, hx⟩)))
  case h_6 => exact key _ (.inr (.inr (.inl ⟨_, _, _, hx⟩)))
  case h_7 => obtain ⟨L, off, cap, _, hx, _⟩ := hx; exact key _ (.inr (.inr (.inl ⟨_, _, _, hx⟩)))
  case h_8 => exact key _ (.inr (.inr (.inr (.inl ⟨_, hx⟩))))
  case h_9 => exact key _ (.inr (.inr (.inr (.inl ⟨_, hx⟩))))
  case h_10 => obtain ⟨L, _, hx⟩ := hx; exact key _ (.inr (.inr (.inr (.inl ⟨_, hx⟩))))
  case h_11 => exact key _ (.inr (.inr (.inr (.inr (.inl hx)))))
  case h_12 => exact key _ (.inr (.inr (.inr (.inr (.inl hx)))))
  case h_13 => obtain ⟨xs, ys, hx, _⟩ := hx; exact key _ (.inr (.inr (.inr (.inr (.inr (.inl ⟨_, _, _, hx⟩))))))
  case h_14 =>
    rw [show u = _ from hx]
    refine ⟨?_, ?_, ?_, ?_, ?_, fun _ => rfl⟩ <;> intros <;> intro hh <;> exact nomatch hh
  case h_15 =>
    rw [show u = _ from hx]
    refine ⟨?_, ?_, ?_, ?_, ?_, fun _ => rfl⟩ <;> intros <;> intro hh <;> exact nomatch hh
  case h_16 => obtain ⟨z, hx, _⟩ := hx; exact key _ (.inr (.inr (.inr (.inr (.inr (.inr ⟨_, _, hx⟩))))))
  case h_17 => exact nomatch h

theorem guard_eq {ρ : Ren} {op : BinOp} {t : TypeId} {xo yo : Operand} {x y : V} {r : Bool} {u v : Value} (w : World) (h : eqV P t x y = some r) (hx : R ρ x u) (hy : R ρ y v) (hg : gOk xo yo x = true) :
    (eqGuard op t xo yo u v).run P w = .ok () w := by
  obtain ⟨_, _, _, _, h5, h6⟩ := eqV_kind h hx hy
  refine guard_skip w (fun e _ => ?_) h5
  have hxn := h6 e
  subst hxn
  have hg' : orB (isC xo) (isC yo) = true := hg
  rw [orB_eq, Bool.or_eq_true] at hg'
  exact hg'

theorem pBin_ok {ρ : Ren} {op : BinOp} {t : TypeId} {xo yo : Operand} {x y v : V} {u z : Value} (w : World) (h : pBin P op t xo yo x y = some v) (hx : R ρ x u) (hy : R ρ y z) :
    ∃ r, (do eqGuard op t xo yo u z; binOp op t u z : Sem Value).run P w = .ok r w ∧ R ρ v r := by
  have noS : ∀ (s : ByteArray), (eqGuard op t xo yo (.string s) z).run P w = .ok () w := fun s => guard_skip w (fun e => nomatch e) (fun cs e => nomatch e)
  have eqCase : pEq P op t xo yo x y = some v → ∃ r, (do eqGuard op t xo yo u z; binOp op t u z : Sem Value).run P w = .ok r w ∧ R ρ v r := by
    intro h
    obtain ⟨pos, hpos, h1⟩ := onO_inv h
    obtain ⟨hg, h2⟩ := ifB_inv h1
    obtain ⟨r, hr, h3⟩ := onO_inv h2
    injection h3 with h3; subst h3
    obtain ⟨k1, k2, k3, k4, k5, k6⟩ := eqV_kind hr hx hy
    have hgd := guard_eq (op := op) w hr hx hy hg
    have he := eqV_ok w hr hx hy
    rcases isEq_ok hpos with ⟨rfl, rfl⟩ | ⟨rfl, rfl⟩
    · refine ⟨.bool r, ?_, rfl⟩
      simp only [Sem.run_bind, hgd, Result.andThen_ok]
      rw [binOp_eql t u z w k1 k2 k3 k4 (fun _ _ => trivial), he, Result.andThen_ok]
    · refine ⟨.bool (!r), ?_, by show _ = _; rw [ite2_false, notB_eq]⟩
      simp only [Sem.run_bind, hgd, Result.andThen_ok]
      rw [binOp_neq t u z w k1 k2 k3 k4, he, Result.andThen_ok]
  cases x
  case i k a =>
    obtain ⟨k', b, rfl, h1⟩ := V.onI_inv (show y.onI (fun k' b => ite2 (isShift op) (shI op k a b) (ifB (Nat.beq (kn k) (kn k')) (binI op k a b))) = some v from h)
    rw [show u = _ from hx, show z = _ from hy]
    have hgd : (eqGuard op t xo yo (.int k a) (.int k' b)).run P w = .ok () w := guard_skip w (fun e => nomatch e) (fun cs e => nomatch e)
    simp only [Sem.run_bind, hgd, Result.andThen_ok]
    cases hs : isShift op
    · rw [hs, ite2_false] at h1
      obtain ⟨h2, h3⟩ := ifB_inv h1
      have := kn_inj h2
      subst this
      exact binI_ok P t w ρ h3
    · rw [hs, ite2_true] at h1
      exact shI_ok P t w ρ h1
  case s l =>
    obtain ⟨sx, rfl, hl⟩ := hx
    simp only [Sem.run_bind, noS, Result.andThen_ok]
    cases y
    case s l' =>
      obtain ⟨sy, rfl, hl'⟩ := hy
      have h' : binS op l l' = some v := h
      rw [← hl, ← hl'] at h'
      exact binS_ok P t w ρ h'
    case os no =>
      obtain ⟨sy, rfl, hn⟩ := hy
      exact osEq_ok t w (show osEq op no l = some v from h) (.inl ⟨hl, hn⟩)
    all_goals exact nomatch (show (none : Option V) = some v from h)
  case os no =>
    obtain ⟨l, rfl, h1⟩ := V.onS_inv (show y.onS (fun l => osEq op no l) = some v from h)
    obtain ⟨sx, rfl, hn⟩ := hx
    obtain ⟨sy, rfl, hl⟩ := hy
    simp only [Sem.run_bind, noS, Result.andThen_ok]
    exact osEq_ok t w h1 (.inr ⟨hl, hn⟩)
  all_goals exact eqCase h

end Go.Proofs.YtdnlfkmfofckfaaGreatDoor.Ev
