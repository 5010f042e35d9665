/- Operations that look at values alone: what the evaluator makes of them, and that it is what the model makes. -/
import Derived.Test.YtdnlfkmfofckfaaGreatDoorEvD
import Derived.Laws.Strings
namespace Go.Proofs.YtdnlfkmfofckfaaGreatDoor.Ev

noncomputable def notB (b : Bool) : Bool := Bool.rec (motive := fun _ => Bool) true false b
theorem notB_eq (b : Bool) : notB b = !b := by cases b <;> rfl
noncomputable def orB (a b : Bool) : Bool := Bool.rec (motive := fun _ => Bool) b true a
theorem orB_eq (a b : Bool) : orB a b = (a || b) := by cases a <;> rfl

/-! ### integers -/

noncomputable def shAmt (k : IntKind) (n : Nat) : Nat := ite2 (Nat.ble n (bitsN k)) n (bitsN k)
  where bitsN (k : IntKind) : Nat := IntKind.rec (motive := fun _ => Nat) 8 16 32 64 8 16 32 64 k

theorem shAmt_eq (k : IntKind) (n : Nat) : shAmt k n = min n k.bits := by
  have hb : shAmt.bitsN k = k.bits := by cases k <;> rfl
  unfold shAmt
  rw [hb]
  cases h : Nat.ble n k.bits
  · have : ¬ n ≤ k.bits := fun hle => by rw [Nat.ble_eq_true_of_le hle] at h; exact nomatch h
    rw [ite2_false]; omega
  · have := Nat.le_of_ble_eq_true h
    rw [ite2_true]; omega

noncomputable def bAdd (k : IntKind) (a b : Int) : Option V := some (.i k (wrapV k (Int.add a b)))
noncomputable def bSub (k : IntKind) (a b : Int) : Option V := some (.i k (wrapV k (Int.sub a b)))
noncomputable def bMul (k : IntKind) (a b : Int) : Option V := some (.i k (wrapV k (Int.mul a b)))
noncomputable def bQuo (k : IntKind) (a b : Int) : Option V := ifB (notB (eqI b 0)) (some (.i k (wrapV k (Int.tdiv a b))))
noncomputable def bRem (k : IntKind) (a b : Int) : Option V := ifB (notB (eqI b 0)) (some (.i k (Int.tmod a b)))
noncomputable def bAnd (k : IntKind) (a b : Int) : Option V := natI a fun m => natI b fun n => ifB (inR k a) (ifB (inR k b) (some (.i k (wrapV k (Int.ofNat (Nat.land m n))))))
noncomputable def bOr (k : IntKind) (a b : Int) : Option V := natI a fun m => natI b fun n => ifB (inR k a) (ifB (inR k b) (some (.i k (wrapV k (Int.ofNat (Nat.lor m n))))))
noncomputable def bXor (k : IntKind) (a b : Int) : Option V := natI a fun m => natI b fun n => ifB (inR k a) (ifB (inR k b) (some (.i k (wrapV k (Int.ofNat (Nat.xor m n))))))
noncomputable def bNo (_ : IntKind) (_ _ : Int) : Option V := none
noncomputable def bEql (_ : IntKind) (a b : Int) : Option V := some (.b (eqI a b))
noncomputable def bNeq (_ : IntKind) (a b : Int) : Option V := some (.b (notB (eqI a b)))
noncomputable def bLss (_ : IntKind) (a b : Int) : Option V := some (.b (ltI a b))
noncomputable def bLeq (_ : IntKind) (a b : Int) : Option V := some (.b (notB (ltI b a)))
noncomputable def bGtr (_ : IntKind) (a b : Int) : Option V := some (.b (ltI b a))
noncomputable def bGeq (_ : IntKind) (a b : Int) : Option V := some (.b (notB (ltI a b)))

/-- Operations on two integers of one kind (not the shifts). -/
noncomputable def binI (op : BinOp) : IntKind → Int → Int → Option V :=
  BinOp.rec (motive := fun _ => IntKind → Int → Int → Option V) bAdd bSub bMul bQuo bRem bAnd bOr bXor bNo bNo bNo bEql bNeq bLss bLeq bGtr bGeq op

noncomputable def sShl (k : IntKind) (a : Int) (n : Nat) : Option V := some (.i k (wrapV k (Int.mul a (Int.ofNat (Nat.pow 2 (shAmt k n))))))
noncomputable def sShr (k : IntKind) (a : Int) (n : Nat) : Option V := natI a fun m => some (.i k (Int.ofNat (Nat.div m (Nat.pow 2 (shAmt k n)))))
noncomputable def isShift (op : BinOp) : Bool := BinOp.rec (motive := fun _ => Bool) false false false false false false false false true true false false false false false false false op
noncomputable def shI (op : BinOp) (k : IntKind) (a b : Int) : Option V :=
  natI b fun n => BinOp.rec (motive := fun _ => IntKind → Int → Nat → Option V) (fun _ _ _ => none) (fun _ _ _ => none) (fun _ _ _ => none) (fun _ _ _ => none) (fun _ _ _ => none) (fun _ _ _ => none) (fun _ _ _ => none) (fun _ _ _ => none)
    sShl sShr (fun _ _ _ => none) (fun _ _ _ => none) (fun _ _ _ => none) (fun _ _ _ => none) (fun _ _ _ => none) (fun _ _ _ => none) (fun _ _ _ => none) op k a n

theorem inR_nat {k : IntKind} {m : Nat} (h : inR k (m : Int) = true) : m % 2 ^ k.bits = m := by
  have h := (inR_has h).2
  have : m ≤ maxN k := by omega
  refine Nat.mod_eq_of_lt ?_
  cases k <;> simp only [maxN, IntKind.bits] at this ⊢ <;> omega

theorem binI_ok {op : BinOp} {k : IntKind} {a b : Int} {v : V} (P : Program) (t : TypeId) (w : World) (ρ : Ren) (h : binI op k a b = some v) :
    ∃ y, (binOp op t (.int k a) (.int k b)).run P w = .ok y w ∧ R ρ v y := by
  cases op
  case add => injection h with h; subst h; exact ⟨.int k (k.wrap (a + b)), by simp [binOp, Op.intArith], by show _ = _; rw [wrapV_eq]; rfl⟩
  case sub => injection h with h; subst h; exact ⟨.int k (k.wrap (a - b)), by simp [binOp, Op.intArith], by show _ = _; rw [wrapV_eq]; rfl⟩
  case mul => injection h with h; subst h; exact ⟨.int k (k.wrap (a * b)), by simp [binOp, Op.intArith], by show _ = _; rw [wrapV_eq]; rfl⟩
  case quo =>
    obtain ⟨h1, h2⟩ := ifB_inv h
    have hb : b ≠ 0 := by intro e; subst e; rw [notB_eq, eqI_eq] at h1; simp at h1
    injection h2 with h2; subst h2
    exact ⟨.int k (k.wrap (a.tdiv b)), by simp [binOp, Op.intDiv, hb], by show _ = _; rw [wrapV_eq]⟩
  case rem =>
    obtain ⟨h1, h2⟩ := ifB_inv h
    have hb : b ≠ 0 := by intro e; subst e; rw [notB_eq, eqI_eq] at h1; simp at h1
    injection h2 with h2; subst h2
    exact ⟨.int k (a.tmod b), by simp [binOp, Op.intDiv, hb], rfl⟩
  case and =>
    obtain ⟨m, rfl, h⟩ := natI_inv h; obtain ⟨n, rfl, h⟩ := natI_inv h
    obtain ⟨h1, h⟩ := ifB_inv h; obtain ⟨h2, h⟩ := ifB_inv h
    injection h with h; subst h
    refine ⟨.int k (k.wrap ((m &&& n : Nat) : Int)), ?_, by show _ = _; rw [wrapV_eq]; rfl⟩
    simp [binOp, Op.intBits, inR_nat h1, inR_nat h2]
  case or =>
    obtain ⟨m, rfl, h⟩ := natI_inv h; obtain ⟨n, rfl, h⟩ := natI_inv h
    obtain ⟨h1, h⟩ := ifB_inv h; obtain ⟨h2, h⟩ := ifB_inv h
    injection h with h; subst h
    refine ⟨.int k (k.wrap ((m ||| n : Nat) : Int)), ?_, by show _ = _; rw [wrapV_eq]; rfl⟩
    simp [binOp, Op.intBits, inR_nat h1, inR_nat h2]
  case xor =>
    obtain ⟨m, rfl, h⟩ := natI_inv h; obtain ⟨n, rfl, h⟩ := natI_inv h
    obtain ⟨h1, h⟩ := ifB_inv h; obtain ⟨h2, h⟩ := ifB_inv h
    injection h with h; subst h
    refine ⟨.int k (k.wrap ((m ^^^ n : Nat) : Int)), ?_, by show _ = _; rw [wrapV_eq]; rfl⟩
    simp [binOp, Op.intBits, inR_nat h1, inR_nat h2]
  case shl => exact nomatch h
  case shr => exact nomatch h
  case andNot => exact nomatch h
  case eql => injection h with h; subst h; exact ⟨.bool (a == b), by simp [binOp, Op.intCmp], by show _ = _; rw [eqI_eq]; congr 1⟩
  case neq => injection h with h; subst h; exact ⟨.bool (a != b), by simp [binOp, Op.intCmp], by show _ = _; rw [notB_eq, eqI_eq]; congr 1⟩
  case lss => injection h with h; subst h; exact ⟨.bool (a < b), by simp [binOp, Op.intCmp], by show _ = _; rw [ltI_eq]⟩
  case leq => injection h with h; subst h; exact ⟨.bool (a ≤ b), by simp [binOp, Op.intCmp], by show _ = _; rw [notB_eq, ltI_eq]; congr 1; rw [Bool.eq_iff_iff]; simp⟩
  case gtr => injection h with h; subst h; exact ⟨.bool (a > b), by simp [binOp, Op.intCmp], by show _ = _; rw [ltI_eq]⟩
  case geq => injection h with h; subst h; exact ⟨.bool (a ≥ b), by simp [binOp, Op.intCmp], by show _ = _; rw [notB_eq, ltI_eq]; congr 1; rw [Bool.eq_iff_iff]; simp⟩

theorem shI_ok {op : BinOp} {k k' : IntKind} {a b : Int} {v : V} (P : Program) (t : TypeId) (w : World) (ρ : Ren) (h : shI op k a b = some v) :
    ∃ y, (binOp op t (.int k a) (.int k' b)).run P w = .ok y w ∧ R ρ v y := by
  obtain ⟨n, rfl, h⟩ := natI_inv h
  have hn : ¬ ((n : Int) < 0) := by omega
  cases op <;> first | (change (none : Option V) = some v at h; cases h; done) | skip
  case shl =>
    injection (show some _ = some v from h) with h; subst h
    refine ⟨.int k (k.wrap (a * 2 ^ (min n k.bits))), by simp [binOp, Op.shift, hn], ?_⟩
    show _ = _
    rw [wrapV_eq, shAmt_eq]
    congr 2
  case shr =>
    obtain ⟨m, rfl, h⟩ := natI_inv (show sShr k a n = some v from h)
    injection h with h; subst h
    refine ⟨.int k (Int.fdiv (m : Int) (2 ^ (min n k.bits))), by simp [binOp, Op.shift, hn], ?_⟩
    show _ = _
    rw [shAmt_eq]
    congr 1
    have : ((2 : Int) ^ (min n k.bits)) = ((2 ^ (min n k.bits) : Nat) : Int) := by simp
    rw [this]
    exact (Int.ofNat_fdiv _ _).symm

/-! ### strings -/

noncomputable def cAdd (a b : List Nat) : Option V := ifB (Nat.ble (Nat.add (lenL a) (lenL b)) 4611686018427387904) (some (.s (appL a b)))
noncomputable def cEql (a b : List Nat) : Option V := some (.b (eqL a b))
noncomputable def cNeq (a b : List Nat) : Option V := some (.b (notB (eqL a b)))
noncomputable def cLss (a b : List Nat) : Option V := some (.b (ltL a b))
noncomputable def cLeq (a b : List Nat) : Option V := some (.b (orB (ltL a b) (eqL a b)))
noncomputable def cGtr (a b : List Nat) : Option V := some (.b (notB (orB (ltL a b) (eqL a b))))
noncomputable def cGeq (a b : List Nat) : Option V := some (.b (notB (ltL a b)))
noncomputable def cNo (_ _ : List Nat) : Option V := none
noncomputable def binS (op : BinOp) : List Nat → List Nat → Option V :=
  BinOp.rec (motive := fun _ => List Nat → List Nat → Option V) cAdd cNo cNo cNo cNo cNo cNo cNo cNo cNo cNo cEql cNeq cLss cLeq cGtr cGeq op

theorem bytesOf_inj {x y : ByteArray} : (x.toList == y.toList) = decide (bytesOf x = bytesOf y) := by
  rw [ByteArray.toList_eq, ByteArray.toList_eq, Bool.eq_iff_iff, beq_iff_eq, decide_eq_true_iff]
  unfold bytesOf
  constructor
  · intro h; rw [h]
  · intro h
    exact (List.map_inj_right fun a b e => UInt8.toNat_inj.1 e).1 h

theorem bytesOf_append (x y : ByteArray) : bytesOf (x ++ y) = bytesOf x ++ bytesOf y := by
  unfold bytesOf
  rw [ByteArray.data_append, Array.toList_append, List.map_append]
theorem bytesOf_length (x : ByteArray) : (bytesOf x).length = x.size := by
  show (List.map _ _).length = x.data.size
  rw [List.length_map, Array.length_toList]

theorem max64 : IntKind.i64.max = 9223372036854775807 := by
  unfold IntKind.max IntKind.signed IntKind.bits
  rfl

theorem binS_ok {op : BinOp} {x y : ByteArray} {v : V} (P : Program) (t : TypeId) (w : World) (ρ : Ren) (h : binS op (bytesOf x) (bytesOf y) = some v) :
    ∃ z, (binOp op t (.string x) (.string y)).run P w = .ok z w ∧ R ρ v z := by
  have hlt : ∀ x y : ByteArray, ltL (bytesOf x) (bytesOf y) = Op.bytesLess x.toList y.toList := fun x y => by
    rw [ByteArray.toList_eq, ByteArray.toList_eq]; exact ltL_eq _ _
  cases op <;> first | (change (none : Option V) = some v at h; cases h; done) | skip
  case add =>
    obtain ⟨h1, h2⟩ := ifB_inv h
    injection h2 with h2; subst h2
    have h1 := Nat.le_of_ble_eq_true h1
    rw [lenL_eq, lenL_eq, bytesOf_length, bytesOf_length] at h1
    refine ⟨.string (x ++ y), ?_, x ++ y, rfl, by rw [bytesOf_append, appL_eq]⟩
    have hh : ¬ (((x.size + y.size : Nat) : Int) > IntKind.i64.max) := by
      have h1 : x.size + y.size ≤ 4611686018427387904 := h1
      rw [max64]; omega
    show (Op.stringOp .add x y).run P w = _
    unfold Op.stringOp
    simp only [if_neg hh]
    rfl
  case eql => injection h with h; subst h; exact ⟨.bool (x.toList == y.toList), by simp [binOp, Op.stringOp], by show _ = _; rw [eqL_eq, bytesOf_inj]⟩
  case neq => injection h with h; subst h; exact ⟨.bool (!(x.toList == y.toList)), by simp [binOp, Op.stringOp], by show _ = _; rw [notB_eq, eqL_eq, bytesOf_inj]⟩
  case lss => injection h with h; subst h; exact ⟨.bool (Op.bytesLess x.toList y.toList), by simp [binOp, Op.stringOp], by show _ = _; rw [hlt]⟩
  case leq => injection h with h; subst h; exact ⟨.bool (Op.bytesLess x.toList y.toList || x.toList == y.toList), by simp [binOp, Op.stringOp], by show _ = _; rw [orB_eq, hlt, eqL_eq, bytesOf_inj]⟩
  case gtr => injection h with h; subst h; exact ⟨.bool (!(Op.bytesLess x.toList y.toList || x.toList == y.toList)), by simp [binOp, Op.stringOp], by show _ = _; rw [notB_eq, orB_eq, hlt, eqL_eq, bytesOf_inj]⟩
  case geq => injection h with h; subst h; exact ⟨.bool (!(Op.bytesLess x.toList y.toList)), by simp [binOp, Op.stringOp], by show _ = _; rw [notB_eq, hlt]⟩

/-! ### equality of other values -/

noncomputable def memL (l : List Nat) (no : List (List Nat)) : Bool := List.rec (motive := fun _ => Bool) false (fun x _ ih => Bool.rec (motive := fun _ => Bool) ih true (eqL x l)) no
theorem memL_mem {l : List Nat} : ∀ {no : List (List Nat)}, memL l no = true → l ∈ no
  | [], h => nomatch (show false = true from h)
  | x :: no, h => by
    have h' : Bool.rec (motive := fun _ => Bool) (memL l no) true (eqL x l) = true := h
    cases e : eqL x l
    · rw [e] at h'; exact List.mem_cons_of_mem _ (memL_mem h')
    · rw [eqL_eq] at e; rw [of_decide_eq_true e]; exact List.mem_cons_self

/-- x == y, where it can be said. -/
noncomputable def eqV (P : Program) (t : TypeId) (x y : V) : Option Bool :=
  match x, y with
  | .b a, .b b => ifB (tIsBool P t) (some (a == b))
  | .pn, .pn => ifB (tIsPtr P t) (some true)
  | .pn, .p _ _ => ifB (tIsPtr P t) (some false)
  | .p _ _, .pn => ifB (tIsPtr P t) (some false)
  | .ln, .ln => ifB (tIsSlice P t) (some true)
  | .ln, .l _ _ _ _ _ => ifB (tIsSlice P t) (some false)
  | .l _ _ _ _ _, .ln => ifB (tIsSlice P t) (some false)
  | .mn, .mn => ifB (tIsMap P t) (some true)
  | .mn, .m _ => ifB (tIsMap P t) (some false)
  | .m _, .mn => ifB (tIsMap P t) (some false)
  | .fn0, .fn0 => ifB (tIsFunc P t) (some true)
  | .fn0, .f _ _ _ => ifB (tIsFunc P t) (some false)
  | .f _ _ _, .fn0 => ifB (tIsFunc P t) (some false)
  | .xn, .xn => onO (tIsIface P t) fun b => ifB b (some true)
  | .xn, .x _ _ => onO (tIsIface P t) fun b => ifB b (some false)
  | .x _ _, .xn => onO (tIsIface P t) fun b => ifB b (some false)
  | _, _ => none

theorem tIsIface_und {P : Program} {t : TypeId} (h : tIsIface P t = some true) : ∃ ms, P.underlying t = some (.interface ms) := by
  unfold tIsIface at h; rw [tU_eq] at h; split at h
  · exact ⟨_, by assumption⟩
  · exact nomatch h
  · exact nomatch h

theorem eqV_okD (dp : Nat) {P : Program} {ρ : Ren} {t : TypeId} {x y : V} {u v : Value} {r : Bool} (w : World) (h : eqV P t x y = some r) (hx : R ρ x u) (hy : R ρ y v) :
    (Op.equalIn (dp + 1) t u v).run P w = .ok r w := by
  unfold eqV at h
  split at h
  case h_1 a b =>
    obtain ⟨h1, h2⟩ := ifB_inv h; injection h2 with h2; subst h2
    rw [show u = _ from hx, show v = _ from hy]
    simp [Op.equalIn, run_und (tIsBool_und h1)]
  case h_2 =>
    obtain ⟨h1, h2⟩ := ifB_inv h; injection h2 with h2; subst h2; obtain ⟨e, he⟩ := tIsPtr_und h1
    rw [show u = _ from hx, show v = _ from hy]; simp [Op.equalIn, run_und he]
  case h_3 =>
    obtain ⟨h1, h2⟩ := ifB_inv h; injection h2 with h2; subst h2; obtain ⟨e, he⟩ := tIsPtr_und h1
    obtain ⟨L, _, hy⟩ := hy
    rw [show u = _ from hx, hy]; simp [Op.equalIn, run_und he]
  case h_4 =>
    obtain ⟨h1, h2⟩ := ifB_inv h; injection h2 with h2; subst h2; obtain ⟨e, he⟩ := tIsPtr_und h1
    obtain ⟨L, _, hx⟩ := hx
    rw [hx, show v = _ from hy]; simp [Op.equalIn, run_und he]
  case h_5 =>
    obtain ⟨h1, h2⟩ := ifB_inv h; injection h2 with h2; subst h2; obtain ⟨e, he⟩ := tIsSlice_und h1
    rw [show u = _ from hx, show v = _ from hy]; simp [Op.equalIn, run_und he]
  case h_6 =>
    obtain ⟨h1, h2⟩ := ifB_inv h; injection h2 with h2; subst h2; obtain ⟨e, he⟩ := tIsSlice_und h1
    obtain ⟨L, off, cap, _, hy, _⟩ := hy
    rw [show u = _ from hx, hy]; simp [Op.equalIn, run_und he]
  case h_7 =>
    obtain ⟨h1, h2⟩ := ifB_inv h; injection h2 with h2; subst h2; obtain ⟨e, he⟩ := tIsSlice_und h1
    obtain ⟨L, off, cap, _, hx, _⟩ := hx
    rw [hx, show v = _ from hy]; simp [Op.equalIn, run_und he]
  case h_8 =>
    obtain ⟨h1, h2⟩ := ifB_inv h; injection h2 with h2; subst h2; obtain ⟨k, e, he⟩ := tIsMap_und h1
    rw [show u = _ from hx, show v = _ from hy]; simp [Op.equalIn, run_und he]
  case h_9 =>
    obtain ⟨h1, h2⟩ := ifB_inv h; injection h2 with h2; subst h2; obtain ⟨k, e, he⟩ := tIsMap_und h1
    obtain ⟨L, _, hy⟩ := hy
    rw [show u = _ from hx, hy]; simp [Op.equalIn, run_und he]
  case h_10 =>
    obtain ⟨h1, h2⟩ := ifB_inv h; injection h2 with h2; subst h2; obtain ⟨k, e, he⟩ := tIsMap_und h1
    obtain ⟨L, _, hx⟩ := hx
    rw [hx, show v = _ from hy]; simp [Op.equalIn, run_und he]
  case h_11 =>
    obtain ⟨h1, h2⟩ := ifB_inv h; injection h2 with h2; subst h2; obtain ⟨a, b, c, he⟩ := tIsFunc_und h1
    rw [show u = _ from hx, show v = _ from hy]; simp [Op.equalIn, run_und he]
  case h_12 =>
    obtain ⟨h1, h2⟩ := ifB_inv h; injection h2 with h2; subst h2; obtain ⟨a, b, c, he⟩ := tIsFunc_und h1
    obtain ⟨xs, ys, hy, _⟩ := hy
    rw [show u = _ from hx, hy]; simp [Op.equalIn, run_und he]
  case h_13 =>
    obtain ⟨h1, h2⟩ := ifB_inv h; injection h2 with h2; subst h2; obtain ⟨a, b, c, he⟩ := tIsFunc_und h1
    obtain ⟨xs, ys, hx, _⟩ := hx
    rw [hx, show v = _ from hy]; simp [Op.equalIn, run_und he]
  case h_14 =>
    obtain ⟨b, h0, h⟩ := onO_inv h; obtain ⟨h1, h2⟩ := ifB_inv h; injection h2 with h2; subst h2; subst h1; obtain ⟨ms, he⟩ := tIsIface_und h0
    rw [show u = _ from hx, show v = _ from hy]; simp [Op.equalIn, run_und he]
  case h_15 =>
    obtain ⟨b, h0, h⟩ := onO_inv h; obtain ⟨h1, h2⟩ := ifB_inv h; injection h2 with h2; subst h2; subst h1; obtain ⟨ms, he⟩ := tIsIface_und h0
    obtain ⟨z, hy, _⟩ := hy
    rw [show u = _ from hx, hy]; simp [Op.equalIn, run_und he]
  case h_16 =>
    obtain ⟨b, h0, h⟩ := onO_inv h; obtain ⟨h1, h2⟩ := ifB_inv h; injection h2 with h2; subst h2; subst h1; obtain ⟨ms, he⟩ := tIsIface_und h0
    obtain ⟨z, hx, _⟩ := hx
    rw [hx, show v = _ from hy]; simp [Op.equalIn, run_und he]
  case h_17 => exact nomatch h

theorem eqV_ok {P : Program} {ρ : Ren} {t : TypeId} {x y : V} {u v : Value} {r : Bool} (w : World) (h : eqV P t x y = some r) (hx : R ρ x u) (hy : R ρ y v) :
    (Op.equal t u v).run P w = .ok r w := eqV_okD 9999 w h hx hy

end Go.Proofs.YtdnlfkmfofckfaaGreatDoor.Ev
