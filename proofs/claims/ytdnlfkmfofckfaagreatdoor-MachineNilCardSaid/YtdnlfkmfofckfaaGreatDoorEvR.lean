/- Maps: make, lookup, update, delete, len. -/
import Derived.Test.YtdnlfkmfofckfaaGreatDoorEvQ
namespace Go.Proofs.YtdnlfkmfofckfaaGreatDoor.Ev
variable {P : Program}

/-! ### keys out of values -/

noncomputable def toKA (v : V) : Option KA := v.bway (fun k n => some (.i k n)) (fun l => some (.s l)) (fun _ => none) (v.onB fun b => some (.b b))
noncomputable def toK (v : V) : Option K := match v with | .g cs => onO (mapO toKA cs) fun xs => some (.g xs) | v => onO (toKA v) fun x => some (.a x)

theorem toKA_ok {ρ : Ren} {v : V} {x : KA} {u : Value} (h : toKA v = some x) (hr : R ρ v u) : RKA x u := by
  cases v
  case i k n => injection (show some (KA.i k n) = some x from h) with h; subst h; exact hr
  case s l => injection (show some (KA.s l) = some x from h) with h; subst h; exact hr
  case b b => injection (show some (KA.b b) = some x from h) with h; subst h; exact hr
  all_goals exact nomatch (show (none : Option KA) = some x from h)

theorem toKAs_ok {ρ : Ren} : ∀ {vs : List V} {xs : List KA} {us : List Value}, mapO toKA vs = some xs → RL ρ vs us → RKAL xs us
  | [], xs, us, h, hr => by injection (show some [] = some xs from h) with h; subst h; exact hr
  | v :: vs, xs, us, h, hr => by
    obtain ⟨y, ys, h1, h2, rfl⟩ := mapO_cons h
    obtain ⟨u, us', rfl, g1, g2⟩ := hr
    exact ⟨u, us', rfl, toKA_ok h1 g1, toKAs_ok h2 g2⟩

theorem toK_ok {ρ : Ren} {v : V} {k : K} {u : Value} (h : toK v = some k) (hr : R ρ v u) : RK k u := by
  unfold toK at h
  split at h
  · obtain ⟨xs, h1, h2⟩ := onO_inv h
    injection h2 with h2; subst h2
    obtain ⟨us, rfl, hu⟩ := hr
    exact ⟨us, rfl, toKAs_ok h1 hu⟩
  · obtain ⟨x, h1, h2⟩ := onO_inv h
    injection h2 with h2; subst h2
    exact toKA_ok h1 hr

theorem bytesOf_eq {s s' : ByteArray} (h : bytesOf s = bytesOf s') : s = s' := by
  obtain ⟨⟨a⟩⟩ := s
  obtain ⟨⟨b⟩⟩ := s'
  have : a = b := (List.map_inj_right fun a b e => UInt8.toNat_inj.1 e).1 h
  rw [this]

theorem RKA_inj {x : KA} {u v : Value} (h : RKA x u) (h' : RKA x v) : u = v := by
  cases x with
  | i => rw [show u = _ from h, show v = _ from h']
  | s => obtain ⟨s, rfl, h1⟩ := h; obtain ⟨s', rfl, h2⟩ := h'; rw [bytesOf_eq (h1.trans h2.symm)]
  | b => rw [show u = _ from h, show v = _ from h']
theorem RKAL_inj : ∀ {xs : List KA} {us vs : List Value}, RKAL xs us → RKAL xs vs → us = vs
  | [], _, _, h, h' => by rw [show _ = _ from h, show _ = _ from h']
  | x :: xs, us, vs, h, h' => by
    obtain ⟨u, us', rfl, h1, h2⟩ := h
    obtain ⟨v, vs', rfl, g1, g2⟩ := h'
    rw [RKA_inj h1 g1, RKAL_inj h2 g2]
theorem RK_inj {k : K} {u v : Value} (h : RK k u) (h' : RK k v) : u = v := by
  cases k with
  | a x => exact RKA_inj h h'
  | g xs => obtain ⟨us, rfl, h1⟩ := h; obtain ⟨vs, rfl, h2⟩ := h'; rw [RKAL_inj h1 h2]

theorem sameBits_atom {x : KA} {u : Value} (n : Nat) (h : RKA x u) : Instr.sameBits n u u = true := by
  cases x with
  | i => rw [show u = _ from h]; simp [Instr.sameBits]
  | s => obtain ⟨s, rfl, _⟩ := h; cases n <;> (unfold Instr.sameBits; rw [beq_toListBytes]; simp)
  | b => rw [show u = _ from h]; simp [Instr.sameBits]

theorem sameBits_key {k : K} {u : Value} (n : Nat) (h : RK k u) : Instr.sameBits (n + 1) u u = true := by
  cases k with
  | a x => exact sameBits_atom _ h
  | g xs =>
    obtain ⟨us, rfl, hu⟩ := h
    have key : ∀ (xs : List KA) (us : List Value), RKAL xs us → ((us.zip us).all fun p => Instr.sameBits n p.1 p.2) = true := by
      intro xs
      induction xs with
      | nil => intro us h; rw [show us = [] from h]; rfl
      | cons x xs ih =>
        intro us h
        obtain ⟨u, us', rfl, h1, h2⟩ := h
        rw [List.zip_cons_cons, List.all_cons, ih us' h2, sameBits_atom n h1]; rfl
    unfold Instr.sameBits
    simpa using key xs us hu

/-! ### checkKey -/

theorem check_atom {t : TypeId} {x : KA} {u : Value} (em : Bool) (n : Nat) (w : World) (h : atomFits P t x = true) (hu : RKA x u) : (Instr.checkKey em (n + 1) t u).run P w = .ok () w := by
  rcases atom_und h hu with ⟨k, m, rfl, rfl, h1⟩ | ⟨l, s, rfl, rfl, h2, h1⟩ | ⟨b, rfl, rfl, h1⟩ <;> simp [Instr.checkKey, run_und h1]

theorem check_fields {us : List Value} (em : Bool) (n : Nat) (w : World) : ∀ {fs : List Field} {j : Nat} {xs : List KA}, fieldsFit P fs j xs = true → (∀ i x, xs[i]? = some x → ∃ u, us[j + i]? = some u ∧ RKA x u) →
    (forIn fs PUnit.unit (fun f _ => do
      if f.name ≠ "_" then
        let v ← part f.type us.toArray f.offset
        Instr.checkKey em (n + 1) f.type v
        pure (ForInStep.yield PUnit.unit)
      else pure (ForInStep.yield PUnit.unit)) : Sem PUnit).run P w = .ok PUnit.unit w
  | [], j, xs, _, _ => rfl
  | f :: fs, j, [], h, _ => nomatch (show false = true from h)
  | f :: fs, j, x :: xs, h, hu => by
    obtain ⟨a1, a2, a3, a4⟩ := fieldsFit_cons h
    obtain ⟨u, e1, e2⟩ := hu 0 x rfl
    have ih := check_fields em n w a4 (fun i x hx => by
      obtain ⟨u, q1, q2⟩ := hu (i + 1) x (by simpa using hx)
      exact ⟨u, by rw [← q1]; congr 1; omega, q2⟩)
    rw [List.forIn_cons]
    simp only [Sem.run_bind]
    rw [if_pos a3, a1]
    simp only [Sem.run_bind, part_atom w a2 e2 (by simpa using e1), Result.andThen_ok, check_atom em n w a2 e2, Sem.run_pure]
    exact ih

theorem checkKey_ok {t : TypeId} {k : K} {u : Value} (em : Bool) (w : World) (h : keyFits P t k = true) (hu : RK k u) : (Instr.checkKey em 10000 t u).run P w = .ok () w := by
  cases k with
  | a x => exact check_atom em 9999 w h hu
  | g xs =>
    have hx' : Option.rec (motive := fun _ => Bool) false (fun fs => Bool.rec (motive := fun _ => Bool) (fieldsFit P fs 0 xs) false (P.stoodInHeld t)) (tFields P t) = true := h
    cases e : tFields P t with
    | none => rw [e] at hx'; exact nomatch hx'
    | some fs =>
      rw [e] at hx'
      have hx' : Bool.rec (motive := fun _ => Bool) (fieldsFit P fs 0 xs) false (P.stoodInHeld t) = true := hx'
      cases hst : P.stoodInHeld t
      · rw [hst] at hx'
        obtain ⟨us, rfl, hus⟩ := hu
        have hf := check_fields (P := P) (us := us) em 9998 w hx' (fun i x hx => by rw [Nat.zero_add]; exact hus.get hx)
        show (Instr.checkKey em (9999 + 1) t (.agg us.toArray)).run P w = _
        unfold Instr.checkKey
        simp only [Sem.run_bind, run_und (tFields_und e), Result.andThen_ok]
        rw [← Array.forIn_toList]
        exact congrArg (fun r => Result.andThen r fun _ w' => Sem.run P (pure ()) w') hf
      · rw [hst] at hx'; exact nomatch hx'

/-! ### lookup -/

noncomputable def Blk.onM {β : Type} (b : Blk) : (Nat → List (K × V) → Option β) → Option β :=
  Blk.rec (motive := fun _ => (Nat → List (K × V) → Option β) → Option β) (fun _ _ _ => none) (fun v es f => f v es) (fun _ _ _ _ => none) (fun _ => none) (fun _ _ _ => none) b
theorem Blk.onM_inv {β : Type} {b : Blk} {f : Nat → List (K × V) → Option β} {r : β} (h : b.onM f = some r) : ∃ v es, b = .m v es ∧ f v es = some r := by
  cases b <;> first | exact ⟨_, _, rfl, h⟩ | exact nomatch (show (none : Option β) = some r from h)

/-- What the search in a map's entries comes to. -/
theorem search_ok {ρ : Ren} {t : TypeId} {d : TypeDesc} {k : K} {u : Value} {es : List (K × V)} {xs : List MapEntry} {r : Option V} (w : World) (hd : P.underlying t = some d) (hx : keyFits P t k = true) (hu : RK k u) (hre : RE ρ es xs) (hf : findK P t k es = some r) :
    ∃ ys : List (K × V), ys.Perm es ∧ (ys.map (·.1)).Nodup ∧ ys.length = xs.length ∧ (∀ (i : Nat) (k : K) (v : V) (e : MapEntry), ys[i]? = some (k, v) → xs[i]? = some e → RK k e.key ∧ R ρ v e.val) ∧
      ((r = none ∧ (Instr.findKey t u xs).run P w = .ok none w ∧ ∀ e ∈ es, e.1 ≠ k) ∨ ∃ v i e, r = some v ∧ (Instr.findKey t u xs).run P w = .ok (some (i, e.val)) w ∧ R ρ v e.val ∧ ys[i]? = some (k, v) ∧ xs[i]? = some e) := by
  obtain ⟨ys, h1, h2, h3, h4⟩ := hre
  refine ⟨ys, h1, h2, h3, h4, ?_⟩
  have hfk := findKey_ok w hd hx hu ys xs h3 (fun i k v e e1 e2 => ⟨findK_fits hf _ (h1.mem_iff.1 (List.mem_of_getElem? e1)), (h4 i k v e e1 e2).1⟩)
  have no : ∀ (zs : List (K × V)) (j : Nat), (∀ e ∈ zs, e.1 ≠ k) → atKey k xs zs j = none := by
    intro zs
    induction zs with
    | nil => intro j _; rfl
    | cons e zs ih =>
      intro j h
      unfold atKey
      rw [if_neg (by intro q; exact h e List.mem_cons_self ((kEq_eq _ _).1 q).symm)]
      exact ih (j + 1) (fun e he => h e (List.mem_cons_of_mem _ he))
  cases r with
  | none =>
    have hn := findK_none hf
    exact .inl ⟨rfl, by rw [hfk, no ys 0 (fun e he => hn e (h1.mem_iff.1 he))], hn⟩
  | some v =>
    right
    have hmem := h1.mem_iff.2 (findK_some hf)
    have yes : ∀ (zs : List (K × V)) (j : Nat), (∀ i, zs[i]? = ys[j + i]?) → (k, v) ∈ zs → (zs.map (·.1)).Nodup → ∃ i e, atKey k xs zs j = some (i, e.val) ∧ ys[i]? = some (k, v) ∧ xs[i]? = some e := by
      intro zs
      induction zs with
      | nil => intro j _ h; exact nomatch h
      | cons e zs ih =>
        intro j hj h hnd
        unfold atKey
        by_cases hk : kEq k e.1 = true
        · rw [if_pos hk]
          have hke := (kEq_eq _ _).1 hk
          have he : e = (k, v) := by
            rcases List.mem_cons.1 h with h | h
            · exact h.symm
            · exfalso
              rw [List.map_cons, List.nodup_cons] at hnd
              exact hnd.1 (List.mem_map.2 ⟨(k, v), h, hke⟩)
          subst he
          have h0 := hj 0
          simp only [List.getElem?_cons_zero, Nat.add_zero] at h0
          have hlt : j < ys.length := by
            rcases Nat.lt_or_ge j ys.length with h | h
            · exact h
            · rw [List.getElem?_eq_none h] at h0; exact nomatch h0
          rw [h3] at hlt
          exact ⟨j, xs[j], by rw [List.getElem?_eq_getElem hlt]; rfl, h0.symm, List.getElem?_eq_getElem hlt⟩
        · rw [if_neg hk]
          rcases List.mem_cons.1 h with h | h
          · rw [← h] at hk; exact absurd ((kEq_eq _ _).2 rfl) hk
          · rw [List.map_cons, List.nodup_cons] at hnd
            exact ih (j + 1) (fun i => by have := hj (i + 1); simp only [List.getElem?_cons_succ] at this; rw [this]; congr 1; omega) h hnd.2
    obtain ⟨i, e, g1, g2, g3⟩ := yes ys 0 (fun i => by rw [Nat.zero_add]) hmem h2
    exact ⟨v, i, e, rfl, by rw [hfk, g1], (h4 i k v e g2 g3).2, g2, g3⟩

noncomputable def hLookup (P : Program) (h : Tr Blk) (t : TypeId) (x ix : V) (ok : Bool) : Option V :=
  onO (tMap P t) fun q => onO (toK ix) fun k => ifB (keyFits P q.1 k) (ifB (tHas P q.1) (onO (tZeroV P q.2) fun z =>
    (fun (r : Option (Option V)) => onO r fun r => some (ite2 ok (.t [Option.rec (motive := fun _ => V) z (fun v => v) r, .b r.isSome]) (Option.rec (motive := fun _ => V) z (fun v => v) r)))
      (match x with | .mn => some none | .m a => onO (h.get a) fun b => b.onM fun _ es => findK P q.1 k es | _ => none)))

theorem hLookup_ok {ρ : Ren} {h : Tr Blk} {t : TypeId} {x ix v : V} {ok : Bool} {u iu : Value} {w : World} (hh : hLookup P h t x ix ok = some v) (hr : HRel ρ h.get w) (hx : R ρ x u) (hi : R ρ ix iu) :
    ∃ y, (Instr.lookup t u iu ok).run P w = .ok y w ∧ R ρ v y := by
  obtain ⟨⟨kt, et⟩, hq, h1⟩ := onO_inv hh
  obtain ⟨k, hk, h2⟩ := onO_inv h1
  obtain ⟨hfit, h3⟩ := ifB_inv h2
  obtain ⟨hhas, h4⟩ := ifB_inv h3
  obtain ⟨z, hz, h5⟩ := onO_inv h4
  obtain ⟨r, hr0, h6⟩ := onO_inv h5
  injection h6 with h6
  have hrk := toK_ok hk hi
  obtain ⟨zy, hzy, hzr⟩ := tZeroV_ok hz ρ w
  obtain ⟨d, hd⟩ : ∃ d, P.underlying kt = some d := by
    unfold tHas at hhas; rw [tU_eq] at hhas; split at hhas
    · exact ⟨_, by assumption⟩
    · exact nomatch hhas
  -- the answer, from what the search comes to
  have fin : ∀ (found : Bool) (val : Value), ((r = none ∧ found = false ∧ val = zy) ∨ ∃ v', r = some v' ∧ found = true ∧ R ρ v' val) → R ρ v (if ok = true then .tuple #[val, .bool found] else val) := by
    intro found val hc
    rcases hc with ⟨rfl, rfl, rfl⟩ | ⟨v', rfl, rfl, hvp⟩
    · subst h6
      cases ok
      · exact hzr
      · exact ⟨[val, .bool false], rfl, val, [.bool false], rfl, hzr, .bool false, [], rfl, rfl, rfl⟩
    · subst h6
      cases ok
      · exact hvp
      · exact ⟨[val, .bool true], rfl, val, [.bool true], rfl, hvp, .bool true, [], rfl, rfl, rfl⟩
  have hck : ∀ em, (Instr.checkKey em 10000 kt iu).run P w = .ok () w := fun em => checkKey_ok em w hfit hrk
  cases x
  case mn =>
    injection (show some none = some r from hr0) with hr0; subst hr0
    rw [show u = _ from hx]
    have hfind : (Instr.findKey kt iu []).run P w = .ok none w := by simp [Instr.findKey, run_und hd, Instr.findNow]
    refine ⟨_, ?_, fin false zy (.inl ⟨rfl, rfl, rfl⟩)⟩
    simp [Instr.lookup, run_und (tMap_und hq), hck, hfind, hzy]
  case m a =>
    obtain ⟨b, hb, h7⟩ := onO_inv (show (onO (h.get a) fun b => b.onM fun _ es => findK P kt k es) = some r from hr0)
    obtain ⟨ver, es, rfl, h8⟩ := Blk.onM_inv h7
    obtain ⟨L, hL, rfl⟩ := hx
    obtain ⟨L', hL', hbr⟩ := hr.at_ a _ hb
    rw [hL] at hL'; cases hL'
    obtain ⟨xs, clock, g1, g2, g3, g4⟩ := hbr
    obtain ⟨ys, _, _, _, _, hc⟩ := search_ok w hd hfit hrk g2 h8
    have hgo : (getObj L.blk).run P w = .ok (.map xs clock) w := by simp [getObj, Sem.run, g1]
    rcases hc with ⟨e1, e2, _⟩ | ⟨v', i, e, e1, e2, e3, _, _⟩
    · refine ⟨_, ?_, fin false zy (.inl ⟨e1, rfl, rfl⟩)⟩
      simp [Instr.lookup, run_und (tMap_und hq), hgo, hck, e2, hzy]
    · refine ⟨_, ?_, fin true e.val (.inr ⟨v', e1, rfl, e3⟩)⟩
      simp [Instr.lookup, run_und (tMap_und hq), hgo, hck, e2]
  all_goals exact nomatch (show (none : Option (Option V)) = some r from hr0)

/-! ### len of a map, make -/

noncomputable def hLen (P : Program) (h : Tr Blk) (ts : List TypeId) (vs : List V) : Option V :=
  pArg1 vs ts fun t x => ifB (tIsMap P t) (match x with | .mn => some (.i .i64 (Int.ofNat 0)) | .m a => onO (h.get a) fun b => b.onM fun _ es => some (.i .i64 (Int.ofNat (lenL es))) | _ => none)

theorem hLen_ok {ρ : Ren} {h : Tr Blk} {ts : List TypeId} {vs : List V} {us : List Value} {v : V} {w : World} (ty : TypeId) (hh : hLen P h ts vs = some v) (hr : HRel ρ h.get w) (hu : RL ρ vs us) :
    ∃ y, (Builtin.len_ ts.toArray ty us.toArray).run P w = .ok y w ∧ R ρ v y := by
  obtain ⟨x, hx, h1⟩ := onO_inv hh
  obtain ⟨t, ht, h2⟩ := onO_inv h1
  obtain ⟨hm, h3⟩ := ifB_inv h2
  rw [nthL_eq] at hx ht
  obtain ⟨u, hu0, hxu⟩ := hu.get hx
  obtain ⟨k, e, hund⟩ := tIsMap_und hm
  have ht' : (ts.toArray)[0]? = some t := by simpa using ht
  have hu' : (us.toArray)[0]? = some u := by simpa using hu0
  split at h3
  · injection h3 with h3; subst h3
    rw [show u = _ from hxu] at hu'
    exact ⟨goInt 0, by simp [Builtin.len_, ht', hu', run_und hund], rfl⟩
  · rename_i a
    obtain ⟨b, hb, h4⟩ := onO_inv h3
    obtain ⟨ver, es, rfl, h5⟩ := Blk.onM_inv h4
    injection h5 with h5; subst h5
    obtain ⟨L, hL, rfl⟩ := hxu
    obtain ⟨L', hL', hbr⟩ := hr.at_ a _ hb
    rw [hL] at hL'; cases hL'
    obtain ⟨xs, clock, g1, ⟨ys, p1, p2, p3, p4⟩, g3, g4⟩ := hbr
    refine ⟨goInt xs.size, ?_, ?_⟩
    · simp only [Builtin.len_, ht', hu', Sem.run_bind, run_und hund, Result.andThen_ok]
      simp [getObj, Sem.run, g1]
    · show _ = _
      rw [lenL_eq, ← p1.length_eq, p3, Array.length_toList]; rfl
  · exact nomatch h3

noncomputable def hMakeMap (P : Program) (H : Heap) (t : TypeId) (r : Option V) : Option (V × Heap) :=
  Option.rec (motive := fun _ => Option (V × Heap)) (some (.m H.nx, ⟨Nat.add H.nx 1, H.t.set H.nx (.m 0 [])⟩)) (fun r => ifB (tIsMap P t) (r.onI fun _ _ => some (.m H.nx, ⟨Nat.add H.nx 1, H.t.set H.nx (.m 0 [])⟩))) r

theorem hMakeMap_ok {ρ : Ren} {H H' : Heap} {t : TypeId} {r : Option V} {ru : Option Value} {v : V} {w : World} (h : hMakeMap P H t r = some (v, H')) (hr : HRel ρ H.t.get w) (hf : ρ H.nx = none) (hru : ROpt ρ r ru) :
    ∃ y w' ρ', (Instr.makeMap t ru).run P w = .ok y w' ∧ R ρ' v y ∧ Step ρ ρ' H.t.get H'.t.get H.nx H'.nx w w' := by
  have fin : some (V.m H.nx, (⟨Nat.add H.nx 1, H.t.set H.nx (.m 0 [])⟩ : Heap)) = some (v, H') → (Instr.makeMap t ru).run P w = .ok (.map (some w.heap.size)) { w with heap := w.heap.push (.map #[] 0) } →
      ∃ y w' ρ', (Instr.makeMap t ru).run P w = .ok y w' ∧ R ρ' v y ∧ Step ρ ρ' H.t.get H'.t.get H.nx H'.nx w w' := by
    intro h hrun
    injection h with h; injection h with h h2; subst h; subst h2
    have hs : Step ρ (updR ρ H.nx ⟨w.heap.size, 0, 0⟩) H.t.get (upd H.t.get H.nx (some (.m 0 []))) H.nx (H.nx + 1) w { w with heap := w.heap.push (.map #[] 0) } :=
      Step.push 0 hr hf ⟨#[], 0, by show (w.heap.push _)[w.heap.size]? = _; simp, ⟨[], List.Perm.refl _, List.nodup_nil, rfl, fun i k v e h => by simp at h⟩, by simp, by simp⟩ (fun _ _ _ => by
        cases e : H.t.get H.nx with
        | none => rfl
        | some b0 => obtain ⟨L, h1, _⟩ := hr.at_ _ b0 e; rw [hf] at h1; exact nomatch h1)
    refine ⟨_, _, updR ρ H.nx ⟨w.heap.size, 0, 0⟩, hrun, ⟨⟨w.heap.size, 0, 0⟩, by unfold updR; rw [if_pos rfl], rfl⟩, ?_⟩
    show Step _ _ _ (H.t.set H.nx (.m 0 [])).get _ _ _ _
    rw [get_set_upd]; exact hs
  cases r with
  | none =>
    rw [show ru = none from hru] at fin ⊢
    exact fin h (by simp [Instr.makeMap])
  | some r =>
    obtain ⟨u, rfl, hu⟩ := hru
    obtain ⟨hm, h2⟩ := ifB_inv (show ifB (tIsMap P t) (r.onI fun _ _ => some (V.m H.nx, (⟨Nat.add H.nx 1, H.t.set H.nx (.m 0 [])⟩ : Heap))) = some (v, H') from h)
    obtain ⟨k, e, hund⟩ := tIsMap_und hm
    obtain ⟨kk, n, rfl, h3⟩ := V.onI_inv h2
    refine fin h3 ?_
    rw [show u = _ from hu]
    simp [Instr.makeMap, run_und hund, asInt, asIntOf]


/-! ### update and delete -/

noncomputable def setK (k : K) (v : V) (es : List (K × V)) : List (K × V) := mapL (fun e => ite2 (kEq k e.1) (e.1, v) e) es
noncomputable def delK (k : K) (es : List (K × V)) : List (K × V) := List.rec (motive := fun _ => List (K × V)) [] (fun e _ ih => ite2 (kEq k e.1) ih (e :: ih)) es
theorem delK_eq (k : K) : ∀ es : List (K × V), delK k es = es.filter fun e => !kEq k e.1
  | [] => rfl
  | e :: es => by
    have : delK k (e :: es) = ite2 (kEq k e.1) (delK k es) (e :: delK k es) := rfl
    rw [this, delK_eq k es, List.filter_cons]
    cases kEq k e.1 <;> rfl

/-! entries in the order of their keys, as far as there is one -/
noncomputable def sLt (l : List Nat) : List Nat → Bool := List.rec (motive := fun _ => List Nat → Bool) (fun m => List.rec (motive := fun _ => Bool) false (fun _ _ _ => true) m)
  (fun x _ ih m => List.rec (motive := fun _ => Bool) false (fun y m' _ => ite2 (Nat.blt x y) true (ite2 (Nat.beq x y) (ih m') false)) m) l
noncomputable def iLt (x y : Int) : Bool := Int.rec (motive := fun _ => Bool) (fun a => Int.rec (motive := fun _ => Bool) (fun b => Nat.blt a b) (fun _ => false) y) (fun a => Int.rec (motive := fun _ => Bool) (fun _ => true) (fun b => Nat.blt b a) y) x
noncomputable def kaLt (x y : KA) : Bool := KA.rec (motive := fun _ => Bool) (fun _ a => KA.rec (motive := fun _ => Bool) (fun _ b => iLt a b) (fun _ => false) (fun _ => false) y) (fun a => KA.rec (motive := fun _ => Bool) (fun _ _ => false) (fun b => sLt a b) (fun _ => false) y) (fun _ => false) x
noncomputable def kLt (x y : K) : Bool := K.rec (motive := fun _ => Bool) (fun a => K.rec (motive := fun _ => Bool) (fun b => kaLt a b) (fun _ => false) y) (fun _ => false) x
noncomputable def insK (k : K) (v : V) (es : List (K × V)) : List (K × V) := List.rec (motive := fun _ => List (K × V)) [(k, v)] (fun e t ih => ite2 (kLt k e.1) ((k, v) :: e :: t) (e :: ih)) es
theorem insK_perm (k : K) (v : V) : ∀ es : List (K × V), (es ++ [(k, v)]).Perm (insK k v es)
  | [] => .refl _
  | e :: es => by
    have : insK k v (e :: es) = ite2 (kLt k e.1) ((k, v) :: e :: es) (e :: insK k v es) := rfl
    rw [this]
    cases kLt k e.1
    · exact (insK_perm k v es).cons e
    · exact List.perm_append_singleton _ _

noncomputable def hMapSet (P : Program) (H : Heap) (t : TypeId) (m ix v : V) : Option Heap :=
  onO (tMap P t) fun q => onO (toK ix) fun k => ifB (keyFits P q.1 k) (ifB (tHas P q.1)
    (match m with | .m a => onO (H.t.get a) fun b => b.onM fun ver es => onO (findK P q.1 k es) fun r => some ⟨H.nx, H.t.set a (.m (Nat.add ver 1) (ite2 r.isSome (setK k v es) (insK k v es)))⟩ | _ => none))

theorem hMapSet_ok {ρ : Ren} {H H' : Heap} {t : TypeId} {m ix v : V} {mu iu vu : Value} {w : World} (h : hMapSet P H t m ix v = some H') (hr : HRel ρ H.t.get w) (hm : R ρ m mu) (hi : R ρ ix iu) (hv : R ρ v vu) :
    ∃ w', (Instr.mapUpdate t mu iu vu).run P w = .ok () w' ∧ Step ρ ρ H.t.get H'.t.get H.nx H'.nx w w' := by
  obtain ⟨⟨kt, et⟩, hq, h1⟩ := onO_inv h
  obtain ⟨k, hk, h2⟩ := onO_inv h1
  obtain ⟨hfit, h3⟩ := ifB_inv h2
  obtain ⟨hhas, h4⟩ := ifB_inv h3
  have hrk := toK_ok hk hi
  obtain ⟨d, hd⟩ : ∃ d, P.underlying kt = some d := by
    unfold tHas at hhas; rw [tU_eq] at hhas; split at hhas
    · exact ⟨_, by assumption⟩
    · exact nomatch hhas
  cases m
  case m a =>
    obtain ⟨b, hb, h5⟩ := onO_inv (show (onO (H.t.get a) fun b => b.onM fun ver es => onO (findK P kt k es) fun r => some (⟨H.nx, H.t.set a (.m (Nat.add ver 1) (ite2 r.isSome (setK k v es) (insK k v es)))⟩ : Heap)) = some H' from h4)
    obtain ⟨ver, es, rfl, h6⟩ := Blk.onM_inv h5
    obtain ⟨r, hfk, h7⟩ := onO_inv h6
    injection h7 with h7; subst h7
    obtain ⟨L, hL, rfl⟩ := hm
    obtain ⟨L', hL', hbr⟩ := hr.at_ a _ hb
    rw [hL] at hL'; cases hL'
    obtain ⟨xs, clock, g1, g2, g3, g4⟩ := hbr
    obtain ⟨ys, p1, p2, p3, p4, hc⟩ := search_ok w hd hfit hrk g2 hfk
    have hlt : L.blk < w.heap.size := (Array.getElem?_eq_some_iff.1 g1).1
    have hgo : (getObj L.blk).run P w = .ok (.map xs clock) w := by simp [getObj, Sem.run, g1]
    have hso : ∀ o, (setObj L.blk o).run P w = .ok () { w with heap := w.heap.setIfInBounds L.blk o } := by intro o; simp [setObj, Sem.run, g1]
    have hck : (Instr.checkKey false 10000 kt iu).run P w = .ok () w := checkKey_ok false w hfit hrk
    have step : ∀ (es' : List (K × V)) (xs' : Array MapEntry) (clock' : Nat), RE ρ es' xs'.toList → (xs'.toList.map (·.born)).Nodup → (∀ e ∈ xs'.toList, e.born < clock') →
        Step ρ ρ H.t.get (H.t.set a (.m (ver + 1) es')).get H.nx H.nx w { w with heap := w.heap.setIfInBounds L.blk (.map xs' clock') } := by
      intro es' xs' clock' q1 q2 q3
      rw [get_set_upd]
      exact Step.write H.nx hr hb hL rfl ⟨xs', clock', set_get_same hlt, q1, q2, q3⟩ (fun v' es0 e => by injection e with e1 _; exact ⟨ver, es, rfl, by omega⟩)
    rcases hc with ⟨rfl, e2, e3⟩ | ⟨v', i, e, rfl, e2, e3, e4, e5⟩
    · -- a new key
      refine ⟨{ w with heap := w.heap.setIfInBounds L.blk (.map (xs.push { key := iu, val := vu, born := clock }) (clock + 1)) }, by simp [Instr.mapUpdate, run_und (tMap_und hq), hgo, hck, e2, hso], ?_⟩
      refine step (insK k v es) _ _ ⟨ys ++ [(k, v)], (p1.append_right _).trans (insK_perm k v es), ?_, by simp [p3], ?_⟩ ?_ ?_
      · rw [List.map_append, List.nodup_append]
        refine ⟨p2, by simp, ?_⟩
        intro x hx y hy
        simp only [List.map_cons, List.map_nil, List.mem_singleton] at hy
        subst hy
        obtain ⟨q, hq1, rfl⟩ := List.mem_map.1 hx
        exact e3 q (p1.mem_iff.1 hq1)
      · intro j k' v'' e' he1 he2
        rw [Array.toList_push] at he2
        rcases Nat.lt_or_ge j ys.length with hj | hj
        · rw [List.getElem?_append_left hj] at he1
          rw [List.getElem?_append_left (by omega)] at he2
          exact p4 j k' v'' e' he1 he2
        · rw [List.getElem?_append_right hj] at he1
          rw [List.getElem?_append_right (by omega)] at he2
          have hj0 : j - ys.length = 0 := by
            rcases Nat.eq_zero_or_pos (j - ys.length) with h | h
            · exact h
            · rw [List.getElem?_eq_none (by simp; omega)] at he1; exact nomatch he1
          rw [hj0] at he1
          rw [← p3, hj0] at he2
          simp at he1 he2
          obtain ⟨rfl, rfl⟩ := he1
          subst he2
          exact ⟨hrk, hv⟩
      · rw [Array.toList_push, List.map_append, List.nodup_append]
        refine ⟨g3, by simp, ?_⟩
        intro x hx y hy
        simp only [List.map_cons, List.map_nil, List.mem_singleton] at hy
        subst hy
        obtain ⟨q, hq1, rfl⟩ := List.mem_map.1 hx
        have := g4 q hq1
        omega
      · intro e' he'
        rw [Array.toList_push, List.mem_append] at he'
        rcases he' with h | h
        · have := g4 e' h; omega
        · simp only [List.mem_singleton] at h; subst h; show clock < clock + 1; omega
    · -- a key that is there
      have hold : e.key = iu := RK_inj (p4 i k v' e e4 e5).1 hrk
      have hsame : Instr.sameBits 10000 iu iu = true := sameBits_key 9999 hrk
      have hxi : xs[i]? = some e := by rw [← Array.getElem?_toList]; exact e5
      have hks : (Instr.keyThatStays (((xs[i]?).map (·.key)).getD iu) iu).run P w = .ok iu w := by
        rw [hxi]
        simp only [Option.map_some, Option.getD_some, hold, Instr.keyThatStays]
        rw [if_pos hsame]; rfl
      refine ⟨{ w with heap := w.heap.setIfInBounds L.blk (.map (xs.modify i fun e => { e with key := iu, val := vu }) clock) }, by simp [Instr.mapUpdate, run_und (tMap_und hq), hgo, hck, e2, hks, hso], ?_⟩
      have hmod : ∀ j : Nat, (xs.modify i fun e => { e with key := iu, val := vu }).toList[j]? = if i = j then (xs.toList[j]?).map (fun e => { e with key := iu, val := vu }) else xs.toList[j]? := by
        intro j
        rw [Array.getElem?_toList, Array.getElem?_modify, Array.getElem?_toList]
      have hborn : ((xs.modify i fun e => { e with key := iu, val := vu }).toList.map (·.born)) = xs.toList.map (·.born) := by
        apply List.ext_getElem?
        intro j
        rw [List.getElem?_map, List.getElem?_map, hmod j]
        by_cases hij : i = j
        · rw [if_pos hij]; cases xs.toList[j]? <;> rfl
        · rw [if_neg hij]
      refine step (setK k v es) _ _ ⟨mapL (fun e => ite2 (kEq k e.1) (e.1, v) e) ys, ?_, ?_, ?_, ?_⟩ (by rw [hborn]; exact g3) ?_
      · unfold setK; rw [mapL_eq, mapL_eq]; exact p1.map _
      · rw [mapL_eq, List.map_map]
        have : (fun e : K × V => (ite2 (kEq k e.1) (e.1, v) e).1) = fun e => e.1 := by
          funext e; cases kEq k e.1 <;> rfl
        show (ys.map fun e : K × V => (ite2 (kEq k e.1) (e.1, v) e).1).Nodup
        rw [this]; exact p2
      · rw [mapL_eq, List.length_map]; simp [p3]
      · intro j k' v'' e' he1 he2
        rw [mapL_eq, List.getElem?_map] at he1
        rw [hmod j] at he2
        cases hyj : ys[j]? with
        | none => rw [hyj] at he1; exact nomatch he1
        | some p =>
          rw [hyj] at he1
          injection he1 with he1
          by_cases hij : i = j
          · subst hij
            rw [e4] at hyj
            injection hyj with hyj; subst hyj
            have he1 : ite2 (kEq k k) (k, v) (k, v') = (k', v'') := he1
            rw [(kEq_eq k k).2 rfl, ite2_true] at he1
            injection he1 with he1 he1'; subst he1; subst he1'
            rw [if_pos rfl, e5] at he2
            injection he2 with he2; subst he2
            exact ⟨hrk, hv⟩
          · rw [if_neg hij] at he2
            have hpk : kEq k p.1 = false := by
              cases hh : kEq k p.1
              · rfl
              · exfalso
                have hpk := (kEq_eq _ _).1 hh
                have n1 : (ys.map (·.1))[i]? = some k := by rw [List.getElem?_map, e4]; rfl
                have n2 : (ys.map (·.1))[j]? = some k := by rw [List.getElem?_map, hyj, hpk]; rfl
                have hil : i < (ys.map (·.1)).length := by
                  rcases Nat.lt_or_ge i (ys.map (·.1)).length with h | h
                  · exact h
                  · rw [List.getElem?_eq_none h] at n1; exact nomatch n1
                exact hij ((List.getElem?_inj hil p2).1 (n1.trans n2.symm))
            have he1 : ite2 (kEq k p.1) (p.1, v) p = (k', v'') := he1
            rw [hpk, ite2_false] at he1
            subst he1
            exact p4 j k' v'' e' hyj he2
      · intro e' he'
        have : e'.born ∈ (xs.modify i fun e => { e with key := iu, val := vu }).toList.map (·.born) := List.mem_map.2 ⟨e', he', rfl⟩
        rw [hborn] at this
        obtain ⟨q, hq1, hq2⟩ := List.mem_map.1 this
        rw [← hq2]; exact g4 q hq1
  all_goals exact nomatch (show (none : Option Heap) = some H' from h4)


noncomputable def hMapDel (P : Program) (H : Heap) (ts : List TypeId) (m ix : V) : Option Heap :=
  onO (nthL ts 0) fun t => onO (tMap P t) fun q => onO (toK ix) fun k => ifB (keyFits P q.1 k) (ifB (tHas P q.1)
    (match m with | .m a => onO (H.t.get a) fun b => b.onM fun ver es => onO (findK P q.1 k es) fun r => some ⟨H.nx, H.t.set a (.m (Nat.add ver 1) (ite2 r.isSome (delK k es) es))⟩ | .mn => some H | _ => none))

theorem hMapDel_ok {ρ : Ren} {H H' : Heap} {ts : List TypeId} {m ix : V} {mu iu : Value} {w : World} (ty : TypeId) (h : hMapDel P H ts m ix = some H') (hr : HRel ρ H.t.get w) (hm : R ρ m mu) (hi : R ρ ix iu) :
    ∃ w', (Builtin.delete_ ts.toArray ty #[mu, iu]).run P w = .ok (.tuple #[]) w' ∧ Step ρ ρ H.t.get H'.t.get H.nx H'.nx w w' := by
  obtain ⟨t, ht, h0⟩ := onO_inv h
  obtain ⟨⟨kt, et⟩, hq, h1⟩ := onO_inv h0
  obtain ⟨k, hk, h2⟩ := onO_inv h1
  obtain ⟨hfit, h3⟩ := ifB_inv h2
  obtain ⟨hhas, h4⟩ := ifB_inv h3
  have hrk := toK_ok hk hi
  rw [nthL_eq] at ht
  have ht' : (ts.toArray)[0]? = some t := by simpa using ht
  obtain ⟨d, hd⟩ : ∃ d, P.underlying kt = some d := by
    unfold tHas at hhas; rw [tU_eq] at hhas; split at hhas
    · exact ⟨_, by assumption⟩
    · exact nomatch hhas
  have hck : ∀ em, (Instr.checkKey em 10000 kt iu).run P w = .ok () w := fun em => checkKey_ok em w hfit hrk
  cases m
  case mn =>
    injection (show some H = some H' from h4) with h4; subst h4
    rw [show mu = _ from hm]
    exact ⟨w, by simp [Builtin.delete_, ht, run_und (tMap_und hq), hck], Step.refl _ hr⟩
  case m a =>
    obtain ⟨b, hb, h5⟩ := onO_inv (show (onO (H.t.get a) fun b => b.onM fun ver es => onO (findK P kt k es) fun r => some (⟨H.nx, H.t.set a (.m (Nat.add ver 1) (ite2 r.isSome (delK k es) es))⟩ : Heap)) = some H' from h4)
    obtain ⟨ver, es, rfl, h6⟩ := Blk.onM_inv h5
    obtain ⟨r, hfk, h7⟩ := onO_inv h6
    injection h7 with h7; subst h7
    obtain ⟨L, hL, rfl⟩ := hm
    obtain ⟨L', hL', hbr⟩ := hr.at_ a _ hb
    rw [hL] at hL'; cases hL'
    obtain ⟨xs, clock, g1, g2, g3, g4⟩ := hbr
    obtain ⟨ys, p1, p2, p3, p4, hc⟩ := search_ok w hd hfit hrk g2 hfk
    have hlt : L.blk < w.heap.size := (Array.getElem?_eq_some_iff.1 g1).1
    have hgo : (getObj L.blk).run P w = .ok (.map xs clock) w := by simp [getObj, Sem.run, g1]
    have hso : ∀ o, (setObj L.blk o).run P w = .ok () { w with heap := w.heap.setIfInBounds L.blk o } := by intro o; simp [setObj, Sem.run, g1]
    have step : ∀ (es' : List (K × V)) (xs' : Array MapEntry), RE ρ es' xs'.toList → (xs'.toList.map (·.born)).Nodup → (∀ e ∈ xs'.toList, e.born < clock) →
        Step ρ ρ H.t.get (H.t.set a (.m (ver + 1) es')).get H.nx H.nx w { w with heap := w.heap.setIfInBounds L.blk (.map xs' clock) } := by
      intro es' xs' q1 q2 q3
      rw [get_set_upd]
      exact Step.write H.nx hr hb hL rfl ⟨xs', clock, set_get_same hlt, q1, q2, q3⟩ (fun v' es0 e => by injection e with e1 _; exact ⟨ver, es, rfl, by omega⟩)
    rcases hc with ⟨rfl, e2, e3⟩ | ⟨v', i, e, rfl, e2, e3, e4, e5⟩
    · exact ⟨{ w with heap := w.heap.setIfInBounds L.blk (.map xs clock) }, by simp [Builtin.delete_, ht, run_und (tMap_und hq), hgo, hck, e2, hso], step es xs g2 g3 g4⟩
    · have hil : i < ys.length := by
        rcases Nat.lt_or_ge i ys.length with h | h
        · exact h
        · rw [List.getElem?_eq_none h] at e4; exact nomatch e4
      have hix : i < xs.size := by rw [p3, Array.length_toList] at hil; exact hil
      refine ⟨{ w with heap := w.heap.setIfInBounds L.blk (.map (xs.eraseIdxIfInBounds i) clock) }, by simp [Builtin.delete_, ht, run_und (tMap_und hq), hgo, hck, e2, hso], ?_⟩
      have hel : (xs.eraseIdxIfInBounds i).toList = xs.toList.eraseIdx i := by
        unfold Array.eraseIdxIfInBounds
        rw [dif_pos hix, Array.toList_eraseIdx]
      have hfilter : ys.filter (fun e => !kEq k e.1) = ys.eraseIdx i := by
        have : ∀ (zs : List (K × V)) (i : Nat), zs[i]? = some (k, v') → (zs.map (·.1)).Nodup → zs.filter (fun e => !kEq k e.1) = zs.eraseIdx i := by
          intro zs
          induction zs with
          | nil => intro i h; simp at h
          | cons z zs ih =>
            intro i h hnd
            rw [List.map_cons, List.nodup_cons] at hnd
            cases i with
            | zero =>
              simp at h
              subst h
              rw [List.filter_cons, (kEq_eq k k).2 rfl]
              simp only [Bool.not_true, Bool.false_eq_true, if_false, List.eraseIdx_cons_zero]
              rw [List.filter_eq_self]
              intro e he
              cases hh : kEq k e.1
              · rfl
              · exfalso
                have := (kEq_eq _ _).1 hh
                exact hnd.1 (List.mem_map.2 ⟨e, he, this.symm⟩)
            | succ i =>
              simp only [List.getElem?_cons_succ] at h
              have hz : kEq k z.1 = false := by
                cases hh : kEq k z.1
                · rfl
                · exfalso
                  have := (kEq_eq _ _).1 hh
                  exact hnd.1 (List.mem_map.2 ⟨(k, v'), List.mem_of_getElem? h, this⟩)
              rw [List.filter_cons, hz]
              simp only [Bool.not_false, if_true, List.eraseIdx_cons_succ]
              rw [ih i h hnd.2]
        exact this ys i e4 p2
      refine step (delK k es) _ ⟨ys.eraseIdx i, ?_, ?_, ?_, ?_⟩ ?_ ?_
      · rw [← hfilter, delK_eq]; exact p1.filter _
      · exact p2.sublist ((List.eraseIdx_sublist ys i).map _)
      · rw [hel, List.length_eraseIdx, List.length_eraseIdx, p3]
      · intro j k' v'' e' he1 he2
        rw [hel] at he2
        rw [List.getElem?_eraseIdx] at he1 he2
        by_cases hj : j < i
        · rw [if_pos hj] at he1 he2; exact p4 j k' v'' e' he1 he2
        · rw [if_neg hj] at he1 he2; exact p4 (j + 1) k' v'' e' he1 he2
      · rw [hel]; exact g3.sublist ((List.eraseIdx_sublist xs.toList i).map _)
      · intro e' he'
        rw [hel] at he'
        exact g4 e' ((List.eraseIdx_sublist xs.toList i).subset he')
  all_goals exact nomatch (show (none : Option Heap) = some H' from h4)

end Go.Proofs.YtdnlfkmfofckfaaGreatDoor.Ev
