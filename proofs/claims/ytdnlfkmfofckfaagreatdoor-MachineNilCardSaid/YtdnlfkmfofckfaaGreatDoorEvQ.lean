/- Keys of maps: equality, and what the model's search in a map's entries finds. -/
import Derived.Test.YtdnlfkmfofckfaaGreatDoorEvO
import Derived.Laws.StructEq
import Derived.MapKept
namespace Go.Proofs.YtdnlfkmfofckfaaGreatDoor.Ev
variable {P : Program}

noncomputable def kaEq (x : KA) : KA → Bool :=
  KA.rec (motive := fun _ => KA → Bool)
    (fun k n y => KA.rec (motive := fun _ => Bool) (fun k' m => Bool.rec (motive := fun _ => Bool) false (eqI n m) (Nat.beq (kn k) (kn k'))) (fun _ => false) (fun _ => false) y)
    (fun l y => KA.rec (motive := fun _ => Bool) (fun _ _ => false) (fun l' => eqL l l') (fun _ => false) y)
    (fun b y => KA.rec (motive := fun _ => Bool) (fun _ _ => false) (fun _ => false) (fun c => Bool.rec (motive := fun _ => Bool) (notB c) c b) y) x

theorem kaEq_eq (x y : KA) : kaEq x y = true ↔ x = y := by
  cases x with
  | i k n => cases y with
    | i k' m =>
      show Bool.rec (motive := fun _ => Bool) false (eqI n m) (Nat.beq (kn k) (kn k')) = true ↔ _
      constructor
      · intro h
        cases e : Nat.beq (kn k) (kn k')
        · rw [e] at h; exact nomatch h
        · rw [e] at h
          have h : eqI n m = true := h
          rw [eqI_eq] at h
          rw [kn_inj e, of_decide_eq_true h]
      · intro h; cases h
        rw [Nat.beq_refl]
        show eqI n n = true
        rw [eqI_eq]; simp
    | s => exact ⟨fun h => (nomatch (show false = true from h)), fun h => (nomatch h)⟩
    | b => exact ⟨fun h => (nomatch (show false = true from h)), fun h => (nomatch h)⟩
  | s l => cases y with
    | s l' =>
      show eqL l l' = true ↔ _
      rw [eqL_eq]; simp
    | i => exact ⟨fun h => (nomatch (show false = true from h)), fun h => (nomatch h)⟩
    | b => exact ⟨fun h => (nomatch (show false = true from h)), fun h => (nomatch h)⟩
  | b x => cases y with
    | b y => cases x <;> cases y <;> simp [kaEq, notB]
    | i => exact ⟨fun h => (nomatch (show false = true from h)), fun h => (nomatch h)⟩
    | s => exact ⟨fun h => (nomatch (show false = true from h)), fun h => (nomatch h)⟩

noncomputable def kalEq (xs : List KA) : List KA → Bool :=
  List.rec (motive := fun _ => List KA → Bool) (fun ys => List.rec (motive := fun _ => Bool) true (fun _ _ _ => false) ys)
    (fun x _ ih ys => List.rec (motive := fun _ => Bool) false (fun y ys _ => Bool.rec (motive := fun _ => Bool) false (ih ys) (kaEq x y)) ys) xs
theorem kalEq_cons (x : KA) (xs : List KA) (y : KA) (ys : List KA) : kalEq (x :: xs) (y :: ys) = (kaEq x y && kalEq xs ys) := by
  show Bool.rec (motive := fun _ => Bool) false (kalEq xs ys) (kaEq x y) = _
  cases kaEq x y <;> rfl
theorem kalEq_eq : ∀ xs ys : List KA, kalEq xs ys = true ↔ xs = ys
  | [], [] => ⟨fun _ => rfl, fun _ => rfl⟩
  | [], y :: ys => ⟨fun h => (nomatch (show false = true from h)), fun h => (nomatch h)⟩
  | x :: xs, [] => ⟨fun h => (nomatch (show false = true from h)), fun h => (nomatch h)⟩
  | x :: xs, y :: ys => by
    rw [kalEq_cons, Bool.and_eq_true, kaEq_eq, kalEq_eq xs ys]
    constructor
    · rintro ⟨rfl, rfl⟩; rfl
    · intro h; cases h; exact ⟨rfl, rfl⟩

noncomputable def kEq (x : K) : K → Bool :=
  K.rec (motive := fun _ => K → Bool) (fun x y => K.rec (motive := fun _ => Bool) (fun y => kaEq x y) (fun _ => false) y) (fun xs y => K.rec (motive := fun _ => Bool) (fun _ => false) (fun ys => kalEq xs ys) y) x
theorem kEq_eq (x y : K) : kEq x y = true ↔ x = y := by
  cases x with
  | a x => cases y with
    | a y => show kaEq x y = true ↔ _; rw [kaEq_eq]; exact ⟨fun h => by rw [h], fun h => by injection h⟩
    | g ys => exact ⟨fun h => (nomatch (show false = true from h)), fun h => (nomatch h)⟩
  | g xs => cases y with
    | a y => exact ⟨fun h => (nomatch (show false = true from h)), fun h => (nomatch h)⟩
    | g ys => show kalEq xs ys = true ↔ _; rw [kalEq_eq]; exact ⟨fun h => by rw [h], fun h => by injection h⟩

noncomputable def atomFits (P : Program) (t : TypeId) (x : KA) : Bool :=
  KA.rec (motive := fun _ => Program → TypeId → Bool) (fun k _ P t => Option.rec (motive := fun _ => Bool) false (fun k' => Nat.beq (kn k) (kn k')) (tInt P t)) (fun _ P t => tIsStr P t) (fun _ P t => tIsBool P t) x P t

noncomputable def fieldsFit (P : Program) (fs : List Field) : Nat → List KA → Bool :=
  List.rec (motive := fun _ => Nat → List KA → Bool) (fun _ xs => List.rec (motive := fun _ => Bool) true (fun _ _ _ => false) xs)
    (fun f _ ih j xs => List.rec (motive := fun _ => Bool) false (fun x xs _ => Bool.rec (motive := fun _ => Bool) false (Bool.rec (motive := fun _ => Bool) false (Bool.rec (motive := fun _ => Bool) false (ih (Nat.add j 1) xs) (decide (f.name ≠ "_"))) (atomFits P f.type x)) (Nat.beq f.offset j)) xs) fs
theorem fieldsFit_cons {f : Field} {fs : List Field} {j : Nat} {x : KA} {xs : List KA} (h : fieldsFit P (f :: fs) j (x :: xs) = true) : f.offset = j ∧ atomFits P f.type x = true ∧ f.name ≠ "_" ∧ fieldsFit P fs (j + 1) xs = true := by
  have h' : Bool.rec (motive := fun _ => Bool) false (Bool.rec (motive := fun _ => Bool) false (Bool.rec (motive := fun _ => Bool) false (fieldsFit P fs (j + 1) xs) (decide (f.name ≠ "_"))) (atomFits P f.type x)) (Nat.beq f.offset j) = true := h
  cases e1 : Nat.beq f.offset j
  · rw [e1] at h'; exact nomatch h'
  · cases e2 : atomFits P f.type x
    · rw [e1, e2] at h'; exact nomatch h'
    · cases e3 : decide (f.name ≠ "_")
      · rw [e1, e2, e3] at h'; exact nomatch h'
      · rw [e1, e2, e3] at h'; exact ⟨Nat.eq_of_beq_eq_true e1, rfl, of_decide_eq_true e3, h'⟩

/-- A key is of the map's key type. -/
noncomputable def keyFits (P : Program) (t : TypeId) (k : K) : Bool :=
  K.rec (motive := fun _ => Program → TypeId → Bool) (fun x P t => atomFits P t x)
    (fun xs P t => Option.rec (motive := fun _ => Bool) false (fun fs => Bool.rec (motive := fun _ => Bool) (fieldsFit P fs 0 xs) false (P.stoodInHeld t)) (tFields P t)) k P t

theorem atom_und {t : TypeId} {x : KA} {u : Value} (h : atomFits P t x = true) (hx : RKA x u) :
    (∃ k n, x = .i k n ∧ u = .int k n ∧ P.underlying t = some (.int k)) ∨ (∃ l s, x = .s l ∧ u = .string s ∧ bytesOf s = l ∧ P.underlying t = some .string) ∨ (∃ b, x = .b b ∧ u = .bool b ∧ P.underlying t = some .bool) := by
  cases x with
  | i k n =>
    have h' : Option.rec (motive := fun _ => Bool) false (fun k' => Nat.beq (kn k) (kn k')) (tInt P t) = true := h
    cases e : tInt P t with
    | none => rw [e] at h'; exact nomatch h'
    | some k' => rw [e] at h'; have := kn_inj h'; subst this; exact .inl ⟨k, n, rfl, hx, tInt_und e⟩
  | s l => obtain ⟨s, h1, h2⟩ := hx; exact .inr (.inl ⟨l, s, rfl, h1, h2, tIsStr_und h⟩)
  | b b => exact .inr (.inr ⟨b, rfl, hx, tIsBool_und h⟩)

theorem sEq {s s' : ByteArray} : (s.toList == s'.toList) = eqL (bytesOf s) (bytesOf s') := by rw [eqL_eq, bytesOf_inj]

theorem atom_equal {t : TypeId} {x y : KA} {u v : Value} (d : Nat) (w : World) (hx : atomFits P t x = true) (hy : atomFits P t y = true) (hu : RKA x u) (hv : RKA y v) : (Op.equalIn (d + 1) t u v).run P w = .ok (kaEq x y) w := by
  rcases atom_und hx hu with ⟨k, n, rfl, rfl, h1⟩ | ⟨l, s, rfl, rfl, h2, h1⟩ | ⟨b, rfl, rfl, h1⟩ <;> rcases atom_und hy hv with ⟨k', n', rfl, rfl, g1⟩ | ⟨l', s', rfl, rfl, g2, g1⟩ | ⟨b', rfl, rfl, g1⟩ <;> rw [h1] at g1 <;> first | (cases g1; done) | skip
  · injection g1 with g1; injection g1 with g1; subst g1
    rw [run_equalIn_int w d t k k n n' h1]
    congr 1
    show _ = Bool.rec (motive := fun _ => Bool) false (eqI n n') (Nat.beq (kn k) (kn k))
    rw [Nat.beq_refl, eqI_eq]; rfl
  · rw [run_equalIn_string w d t s s' h1, sEq, h2, g2]; rfl
  · rw [run_equalIn_bool' w d t b b' h1]
    congr 1
    cases b <;> cases b' <;> rfl

theorem atom_agg {t : TypeId} {x : KA} {u : Value} (h : atomFits P t x = true) (hx : RKA x u) (w : World) : (isAgg t).run P w = .ok false w := by
  rcases atom_und h hx with ⟨k, n, rfl, rfl, h1⟩ | ⟨l, s, rfl, rfl, h2, h1⟩ | ⟨b, rfl, rfl, h1⟩ <;> simp [isAgg, run_und h1]

theorem RKAL.length : ∀ {xs : List KA} {us : List Value}, RKAL xs us → us.length = xs.length
  | [], _, h => by rw [show _ = _ from h]; rfl
  | x :: xs, us, h => by obtain ⟨y, ys, rfl, _, h2⟩ := h; simp [RKAL.length h2]

theorem RKAL.get : ∀ {xs : List KA} {us : List Value}, RKAL xs us → ∀ {i : Nat} {x : KA}, xs[i]? = some x → ∃ u, us[i]? = some u ∧ RKA x u
  | [], _, _, i, x, h => by simp at h
  | y :: xs, us, h, i, x, hx => by
    obtain ⟨u, us', rfl, h1, h2⟩ := h
    cases i with
    | zero => simp at hx; subst hx; exact ⟨u, rfl, h1⟩
    | succ i => simp at hx; obtain ⟨v, g1, g2⟩ := RKAL.get h2 hx; exact ⟨v, by simpa using g1, g2⟩

theorem part_atom {t : TypeId} {x : KA} {us : List Value} {u : Value} {j : Nat} (w : World) (h : atomFits P t x = true) (hu : RKA x u) (hj : us[j]? = some u) : (part t us.toArray j).run P w = .ok u w := by
  simp only [part, Sem.run_bind, atom_agg h hu, Result.andThen_ok]
  simp [hj]

theorem eqFields_ok (d : Nat) (w : World) : ∀ {fs : List Field} {j : Nat} {xs ys : List KA} {us vs : List Value}, fieldsFit P fs j xs = true → fieldsFit P fs j ys = true → (∀ i x, xs[i]? = some x → ∃ u, us[j + i]? = some u ∧ RKA x u) →
    (∀ i y, ys[i]? = some y → ∃ v, vs[j + i]? = some v ∧ RKA y v) → (Op.eqFields (d + 1) us.toArray vs.toArray fs).run P w = .ok (kalEq xs ys) w
  | [], j, [], [], us, vs, _, _, _, _ => rfl
  | [], j, x :: xs, ys, us, vs, h, _, _, _ => nomatch (show false = true from h)
  | [], j, [], y :: ys, us, vs, _, h, _, _ => nomatch (show false = true from h)
  | f :: fs, j, [], ys, us, vs, h, _, _, _ => nomatch (show false = true from h)
  | f :: fs, j, x :: xs, [], us, vs, _, h, _, _ => nomatch (show false = true from h)
  | f :: fs, j, x :: xs, y :: ys, us, vs, h1, h2, hu, hv => by
    obtain ⟨a1, a2, a3, a4⟩ := fieldsFit_cons h1
    obtain ⟨_, b2, _, b4⟩ := fieldsFit_cons h2
    obtain ⟨u, e1, e2⟩ := hu 0 x rfl
    obtain ⟨v, g1, g2⟩ := hv 0 y rfl
    have ih := eqFields_ok d w (us := us) (vs := vs) a4 b4 (fun i x hx => by
      obtain ⟨u, q1, q2⟩ := hu (i + 1) x (by simpa using hx)
      exact ⟨u, by rw [← q1]; congr 1; omega, q2⟩) (fun i y hy => by
      obtain ⟨v, q1, q2⟩ := hv (i + 1) y (by simpa using hy)
      exact ⟨v, by rw [← q1]; congr 1; omega, q2⟩)
    unfold Op.eqFields
    rw [if_pos a3, a1]
    simp only [Sem.run_bind, part_atom w a2 e2 (by simpa using e1), part_atom w b2 g2 (by simpa using g1), Result.andThen_ok, atom_equal d w a2 b2 e2 g2]
    rw [kalEq_cons]
    cases kaEq x y
    · simp
    · simpa using ih

theorem key_equal {t : TypeId} {x y : K} {u v : Value} (w : World) (hx : keyFits P t x = true) (hy : keyFits P t y = true) (hu : RK x u) (hv : RK y v) : (Op.equal t u v).run P w = .ok (kEq x y) w := by
  unfold Op.equal Op.maxDepth
  cases x with
  | a x => cases y with
    | a y => exact atom_equal 9999 w hx hy hu hv
    | g ys =>
      exfalso
      have hy' : Option.rec (motive := fun _ => Bool) false (fun fs => Bool.rec (motive := fun _ => Bool) (fieldsFit P fs 0 ys) false (P.stoodInHeld t)) (tFields P t) = true := hy
      cases e : tFields P t with
      | none => rw [e] at hy'; exact nomatch hy'
      | some fs =>
        have := tFields_und e
        rcases atom_und hx hu with ⟨k, n, rfl, rfl, h1⟩ | ⟨l, s, rfl, rfl, h2, h1⟩ | ⟨b, rfl, rfl, h1⟩ <;> rw [h1] at this <;> exact nomatch this
  | g xs =>
    have hx' : Option.rec (motive := fun _ => Bool) false (fun fs => Bool.rec (motive := fun _ => Bool) (fieldsFit P fs 0 xs) false (P.stoodInHeld t)) (tFields P t) = true := hx
    cases e : tFields P t with
    | none => rw [e] at hx'; exact nomatch hx'
    | some fs =>
      rw [e] at hx'
      have hx' : Bool.rec (motive := fun _ => Bool) (fieldsFit P fs 0 xs) false (P.stoodInHeld t) = true := hx'
      have hund := tFields_und e
      cases hst : P.stoodInHeld t
      · rw [hst] at hx'
        cases y with
        | a y =>
          exfalso
          rcases atom_und hy hv with ⟨k, n, rfl, rfl, h1⟩ | ⟨l, s, rfl, rfl, h2, h1⟩ | ⟨b, rfl, rfl, h1⟩ <;> rw [h1] at hund <;> exact nomatch hund
        | g ys =>
          have hy' : Option.rec (motive := fun _ => Bool) false (fun fs => Bool.rec (motive := fun _ => Bool) (fieldsFit P fs 0 ys) false (P.stoodInHeld t)) (tFields P t) = true := hy
          rw [e, hst] at hy'
          obtain ⟨us, rfl, hus⟩ := hu
          obtain ⟨vs, rfl, hvs⟩ := hv
          have hf : P.fieldsOf t = fs.toArray := by unfold Program.fieldsOf; rw [hund]
          rw [show (10000 : Nat) = 9999 + 1 from rfl, run_equalIn_struct w 9999 t _ _ (by rw [hf]; exact hund) hst, hf]
          exact eqFields_ok 9998 w hx' hy' (fun i x hx => by rw [Nat.zero_add]; exact hus.get hx) (fun i y hy => by rw [Nat.zero_add]; exact hvs.get hy)
      · rw [hst] at hx'; exact nomatch hx'

/-! ### the search -/

/-- One key against all entries: nothing (some key is of another type), none there, or its value. -/
noncomputable def findK (P : Program) (t : TypeId) (k : K) (es : List (K × V)) : Option (Option V) :=
  List.rec (motive := fun _ => Option (Option V)) (some none) (fun e _ ih => ifB (keyFits P t e.1) (onO ih fun r => some (ite2 (kEq k e.1) (some e.2) r))) es

theorem findK_cons {t : TypeId} {k : K} {e : K × V} {es : List (K × V)} {r : Option V} (h : findK P t k (e :: es) = some r) : keyFits P t e.1 = true ∧ ∃ r', findK P t k es = some r' ∧ r = ite2 (kEq k e.1) (some e.2) r' := by
  obtain ⟨h1, h2⟩ := ifB_inv (show ifB (keyFits P t e.1) (onO (findK P t k es) fun r => some (ite2 (kEq k e.1) (some e.2) r)) = some r from h)
  obtain ⟨r', h3, h4⟩ := onO_inv h2
  injection h4 with h4
  exact ⟨h1, r', h3, h4.symm⟩

theorem findK_fits {t : TypeId} {k : K} : ∀ {es : List (K × V)} {r : Option V}, findK P t k es = some r → ∀ e ∈ es, keyFits P t e.1 = true
  | [], _, _, e, he => nomatch he
  | x :: es, r, h, e, he => by
    obtain ⟨h1, r', h2, _⟩ := findK_cons h
    cases he with
    | head => exact h1
    | tail _ he => exact findK_fits h2 e he

theorem findK_none {t : TypeId} {k : K} : ∀ {es : List (K × V)}, findK P t k es = some none → ∀ e ∈ es, e.1 ≠ k
  | [], _, e, he => nomatch he
  | x :: es, h, e, he => by
    obtain ⟨_, r', h2, h3⟩ := findK_cons h
    cases hk : kEq k x.1
    · rw [hk, ite2_false] at h3
      subst h3
      cases he with
      | head => intro q; rw [q] at hk; rw [(kEq_eq k k).2 rfl] at hk; exact nomatch hk
      | tail _ he => exact findK_none h2 e he
    · rw [hk, ite2_true] at h3; exact nomatch h3

theorem findK_some {t : TypeId} {k : K} {v : V} : ∀ {es : List (K × V)}, findK P t k es = some (some v) → (k, v) ∈ es
  | [], h => nomatch (show some none = some (some v) from h)
  | x :: es, h => by
    obtain ⟨_, r', h2, h3⟩ := findK_cons h
    cases hk : kEq k x.1
    · rw [hk, ite2_false] at h3
      subst h3
      exact List.mem_cons_of_mem _ (findK_some h2)
    · rw [hk, ite2_true] at h3
      injection h3 with h3
      rw [(kEq_eq _ _).1 hk, h3]
      exact List.mem_cons_self

/-- Where a key stands in the entries, from place j on. -/
noncomputable def atKey (k : K) (xs : List MapEntry) : List (K × V) → Nat → Option (Nat × Value)
  | [], _ => none
  | e :: es, j => if kEq k e.1 = true then (xs[j]?).map fun x => (j, x.val) else atKey k xs es (j + 1)

theorem atom_now {t : TypeId} {d : TypeDesc} {x y : KA} {u v : Value} (hd : P.underlying t = some d) (hx : atomFits P t x = true) (hy : atomFits P t y = true) (hu : RKA x u) (hv : RKA y v) : Instr.sameNow d u v = some (kaEq x y) := by
  rcases atom_und hx hu with ⟨k, n, rfl, rfl, h1⟩ | ⟨l, s, rfl, rfl, h2, h1⟩ | ⟨b, rfl, rfl, h1⟩ <;> rcases atom_und hy hv with ⟨k', n', rfl, rfl, g1⟩ | ⟨l', s', rfl, rfl, g2, g1⟩ | ⟨b', rfl, rfl, g1⟩ <;> rw [h1] at g1 hd <;> first | (cases g1; done) | skip
  · injection g1 with g1; injection g1 with g1; subst g1
    injection hd with hd; subst hd
    simp only [Instr.sameNow, if_true]
    congr 1
    show _ = Bool.rec (motive := fun _ => Bool) false (eqI n n') (Nat.beq (kn k) (kn k))
    rw [Nat.beq_refl, eqI_eq]; rfl
  · injection hd with hd; subst hd
    simp only [Instr.sameNow]
    rw [beq_toListBytes, sEq, h2, g2]; rfl
  · injection hd with hd; subst hd
    simp only [Instr.sameNow]
    congr 1
    cases b <;> cases b' <;> rfl

theorem findNow_ok {t : TypeId} {d : TypeDesc} {x : KA} {u : Value} (hd : P.underlying t = some d) (hx : atomFits P t x = true) (hu : RKA x u) (all : List MapEntry) :
    ∀ (ys : List (K × V)) (xs : List MapEntry) (j : Nat), ys.length = xs.length → (∀ i, xs[i]? = all[j + i]?) → (∀ (i : Nat) (k : K) (v : V) (e : MapEntry), ys[i]? = some (k, v) → xs[i]? = some e → keyFits P t k = true ∧ RK k e.key) →
      Instr.findNow d u xs j = some (atKey (.a x) all ys j)
  | [], [], j, _, _, _ => rfl
  | [], _ :: _, _, h, _, _ => by simp at h
  | _ :: _, [], _, h, _, _ => by simp at h
  | (k, v) :: ys, e :: xs, j, hl, ha, h => by
    obtain ⟨h1, h2⟩ := h 0 k v e rfl rfl
    have ih := findNow_ok hd hx hu all ys xs (j + 1) (by simpa using hl) (fun i => by have := ha (i + 1); simp only [List.getElem?_cons_succ] at this; rw [this]; congr 1; omega) (fun i k v e e1 e2 => h (i + 1) k v e (by simpa using e1) (by simpa using e2))
    cases k with
    | g ks =>
      exfalso
      have h1' : Option.rec (motive := fun _ => Bool) false (fun fs => Bool.rec (motive := fun _ => Bool) (fieldsFit P fs 0 ks) false (P.stoodInHeld t)) (tFields P t) = true := h1
      cases e : tFields P t with
      | none => rw [e] at h1'; exact nomatch h1'
      | some fs =>
        have := tFields_und e
        rcases atom_und hx hu with ⟨k, n, rfl, rfl, h1⟩ | ⟨l, s, rfl, rfl, h2, h1⟩ | ⟨b, rfl, rfl, h1⟩ <;> rw [h1] at this <;> exact nomatch this
    | a y =>
      have hs := atom_now hd hx h1 hu h2
      unfold Instr.findNow atKey
      rw [hs]
      have hk : kEq (.a x) (.a y) = kaEq x y := rfl
      rw [hk]
      cases hxy : kaEq x y
      · simp only [Bool.false_eq_true, if_false]; exact ih
      · simp only [if_true]
        have := ha 0
        simp only [List.getElem?_cons_zero, Nat.add_zero] at this
        rw [← this]; rfl

theorem findAsking_ok {t : TypeId} {k : K} {u : Value} (w : World) (hx : keyFits P t k = true) (hu : RK k u) (all : List MapEntry) :
    ∀ (ys : List (K × V)) (xs : List MapEntry) (j : Nat), ys.length = xs.length → (∀ i, xs[i]? = all[j + i]?) → (∀ (i : Nat) (k : K) (v : V) (e : MapEntry), ys[i]? = some (k, v) → xs[i]? = some e → keyFits P t k = true ∧ RK k e.key) →
      (Instr.findAsking t u xs j).run P w = .ok (atKey k all ys j) w
  | [], [], j, _, _, _ => rfl
  | [], _ :: _, _, h, _, _ => by simp at h
  | _ :: _, [], _, h, _, _ => by simp at h
  | (k', v) :: ys, e :: xs, j, hl, ha, h => by
    obtain ⟨h1, h2⟩ := h 0 k' v e rfl rfl
    have ih := findAsking_ok w hx hu all ys xs (j + 1) (by simpa using hl) (fun i => by have := ha (i + 1); simp only [List.getElem?_cons_succ] at this; rw [this]; congr 1; omega) (fun i k v e e1 e2 => h (i + 1) k v e (by simpa using e1) (by simpa using e2))
    have he := key_equal w hx h1 hu h2
    unfold Instr.findAsking atKey
    simp only [Sem.run_bind, he, Result.andThen_ok]
    cases hxy : kEq k k'
    · simp only [Bool.false_eq_true, if_false]; exact ih
    · simp only [if_true]
      have := ha 0
      simp only [List.getElem?_cons_zero, Nat.add_zero] at this
      rw [← this]; rfl

theorem findKey_ok {t : TypeId} {d : TypeDesc} {k : K} {u : Value} (w : World) (hd : P.underlying t = some d) (hx : keyFits P t k = true) (hu : RK k u) (ys : List (K × V)) (xs : List MapEntry) (hl : ys.length = xs.length)
    (h : ∀ (i : Nat) (k : K) (v : V) (e : MapEntry), ys[i]? = some (k, v) → xs[i]? = some e → keyFits P t k = true ∧ RK k e.key) : (Instr.findKey t u xs).run P w = .ok (atKey k xs ys 0) w := by
  unfold Instr.findKey
  simp only [Sem.run_bind, run_und hd, Result.andThen_ok]
  cases k with
  | a x =>
    rw [findNow_ok hd hx hu xs ys xs 0 hl (fun i => by rw [Nat.zero_add]) h]
    rfl
  | g ks =>
    -- a struct: nothing is decided at once
    cases hfn : Instr.findNow d u xs 0 with
    | none => exact findAsking_ok w hx hu xs ys xs 0 hl (fun i => by rw [Nat.zero_add]) h
    | some r =>
      obtain ⟨us, rfl, hus⟩ := hu
      cases xs with
      | nil =>
        cases ys with
        | nil => injection (show some none = some r from hfn) with hfn; subst hfn; rfl
        | cons => simp at hl
      | cons e xs =>
        exfalso
        unfold Instr.findNow at hfn
        have : Instr.sameNow d (.agg us.toArray) e.key = none := by
          generalize e.key = q
          cases d <;> cases q <;> rfl
        rw [this] at hfn
        exact nomatch hfn

end Go.Proofs.YtdnlfkmfofckfaaGreatDoor.Ev
