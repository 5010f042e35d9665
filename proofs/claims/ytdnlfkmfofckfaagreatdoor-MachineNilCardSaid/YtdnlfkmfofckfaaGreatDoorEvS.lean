/- Iterators over maps: range, next, entry. -/
import Derived.Test.YtdnlfkmfofckfaaGreatDoorEvR
namespace Go.Proofs.YtdnlfkmfofckfaaGreatDoor.Ev
variable {P : Program}

noncomputable def KA.toV (x : KA) : V := KA.rec (motive := fun _ => V) (fun k n => .i k n) (fun l => .s l) (fun b => .b b) x
noncomputable def K.toV (k : K) : V := K.rec (motive := fun _ => V) (fun x => x.toV) (fun xs => .g (mapL KA.toV xs)) k

theorem KA.toV_ok {x : KA} {u : Value} (ρ : Ren) (h : RKA x u) : R ρ x.toV u := by cases x <;> exact h
theorem KA.toVs_ok (ρ : Ren) : ∀ {xs : List KA} {us : List Value}, RKAL xs us → RL ρ (mapL KA.toV xs) us
  | [], _, h => h
  | _ :: _, _, ⟨u, us, e, h1, h2⟩ => ⟨u, us, e, KA.toV_ok ρ h1, KA.toVs_ok ρ h2⟩
theorem K.toV_ok {k : K} {u : Value} (ρ : Ren) (h : RK k u) : R ρ k.toV u := by
  cases k with
  | a x => exact KA.toV_ok ρ h
  | g xs => obtain ⟨us, rfl, hu⟩ := h; exact ⟨us, rfl, KA.toVs_ok ρ hu⟩

noncomputable def Blk.onIt {β : Type} (b : Blk) : (Nat → Nat → List K → Option β) → Option β → Option β :=
  Blk.rec (motive := fun _ => (Nat → Nat → List K → Option β) → Option β → Option β) (fun _ _ _ _ => none) (fun _ _ _ _ => none) (fun m v s f _ => f m v s) (fun _ d => d) (fun _ _ _ _ => none) b

/-! ### range -/

noncomputable def hRange (P : Program) (H : Heap) (t : TypeId) (x : V) : Option (V × Heap) :=
  ifB (tIsMap P t) (match x with
    | .mn => some (.p H.nx 0, ⟨Nat.add H.nx 1, H.t.set H.nx .it0⟩)
    | .m a => onO (H.t.get a) fun b => b.onM fun ver _ => some (.p H.nx 0, ⟨Nat.add H.nx 1, H.t.set H.nx (.it a ver [])⟩)
    | _ => none)

theorem hRange_ok {ρ : Ren} {H H' : Heap} {t : TypeId} {x v : V} {u : Value} {w : World} (h : hRange P H t x = some (v, H')) (hr : HRel ρ H.t.get w) (hf : ρ H.nx = none) (hx : R ρ x u) :
    ∃ y w' ρ', (Instr.range t u).run P w = .ok y w' ∧ R ρ' v y ∧ Step ρ ρ' H.t.get H'.t.get H.nx H'.nx w w' := by
  obtain ⟨hm, h1⟩ := ifB_inv h
  obtain ⟨kt, et, hund⟩ := tIsMap_und hm
  have nofree : ∀ v es, (∃ b, b = Blk.m v es) → H.t.get H.nx = none := fun _ _ _ => by
    cases e : H.t.get H.nx with
    | none => rfl
    | some b0 => obtain ⟨L, h1, _⟩ := hr.at_ _ b0 e; rw [hf] at h1; exact nomatch h1
  cases x
  case mn =>
    injection (show some (V.p H.nx 0, (⟨Nat.add H.nx 1, H.t.set H.nx .it0⟩ : Heap)) = some (v, H') from h1) with h1; injection h1 with h1 h2; subst h1; subst h2
    rw [show u = _ from hx]
    have hs : Step ρ (updR ρ H.nx ⟨w.heap.size, 0, 0⟩) H.t.get (upd H.t.get H.nx (some .it0)) H.nx (H.nx + 1) w { w with heap := w.heap.push (.mapIter none 0 #[] 0) } :=
      Step.push 0 hr hf ⟨rfl, 0, #[], 0, by show (w.heap.push _)[w.heap.size]? = _; simp⟩ (fun _ _ e => nomatch e)
    refine ⟨.pointer (some ⟨w.heap.size, 0, none⟩), _, updR ρ H.nx ⟨w.heap.size, 0, 0⟩, by simp [Instr.range, run_und hund]; rfl, ⟨⟨w.heap.size, 0, 0⟩, by unfold updR; rw [if_pos rfl], rfl⟩, ?_⟩
    show Step _ _ _ (H.t.set H.nx .it0).get _ _ _ _
    rw [get_set_upd]; exact hs
  case m a =>
    obtain ⟨b, hb, h2⟩ := onO_inv (show (onO (H.t.get a) fun b => b.onM fun ver _ => some (V.p H.nx 0, (⟨Nat.add H.nx 1, H.t.set H.nx (.it a ver [])⟩ : Heap))) = some (v, H') from h1)
    obtain ⟨ver, es, rfl, h3⟩ := Blk.onM_inv h2
    injection h3 with h3; injection h3 with h3 h4; subst h3; subst h4
    obtain ⟨L, hL, rfl⟩ := hx
    obtain ⟨L', hL', hbr⟩ := hr.at_ a _ hb
    rw [hL] at hL'; cases hL'
    obtain ⟨xs, clock, g1, g2, g3, g4⟩ := hbr
    have hlt : L.blk < w.heap.size := (Array.getElem?_eq_some_iff.1 g1).1
    have hgo : (getObj L.blk).run P w = .ok (.map xs clock) w := by simp [getObj, Sem.run, g1]
    have hne : a ≠ H.nx := fun e => by rw [e, hf] at hL; exact nomatch hL
    have hs : Step ρ (updR ρ H.nx ⟨w.heap.size, 0, 0⟩) H.t.get (upd H.t.get H.nx (some (.it a ver []))) H.nx (H.nx + 1) w { w with heap := w.heap.push (.mapIter (some L.blk) clock #[] clock) } := by
      refine Step.push 0 hr hf ⟨rfl, L, clock, #[], clock, updR_le _ hf a L hL, by show (w.heap.push _)[w.heap.size]? = _; simp, fun v' es' e => ?_, fun es' e => ?_⟩ (fun _ _ e => nomatch e)
      · unfold upd at e
        rw [if_neg hne, hb] at e
        injection e with e; injection e with e1 e2; omega
      · unfold upd at e
        rw [if_neg hne, hb] at e
        injection e with e; injection e with e1 e2; subst e2
        refine ⟨xs, by rw [push_get hlt]; exact g1, .inr rfl, rfl, fun e' _ k _ _ => ⟨by simp, fun hh => nomatch hh⟩⟩
    refine ⟨.pointer (some ⟨w.heap.size, 0, none⟩), _, updR ρ H.nx ⟨w.heap.size, 0, 0⟩, by simp [Instr.range, run_und hund, hgo]; rfl, ⟨⟨w.heap.size, 0, 0⟩, by unfold updR; rw [if_pos rfl], rfl⟩, ?_⟩
    show Step _ _ _ (H.t.set H.nx (.it a ver [])).get _ _ _ _
    rw [get_set_upd]; exact hs
  all_goals exact nomatch (show (none : Option (V × Heap)) = some (v, H') from h1)

/-! ### next -/

noncomputable def memK (k : K) (l : List K) : Bool := List.rec (motive := fun _ => Bool) false (fun x _ ih => Bool.rec (motive := fun _ => Bool) ih true (kEq k x)) l
theorem memK_eq (k : K) : ∀ l : List K, memK k l = true ↔ k ∈ l
  | [] => ⟨fun h => (nomatch (show false = true from h)), fun h => (nomatch h)⟩
  | x :: l => by
    show Bool.rec (motive := fun _ => Bool) (memK k l) true (kEq k x) = true ↔ _
    cases hk : kEq k x
    · rw [List.mem_cons]
      constructor
      · intro h; exact .inr ((memK_eq k l).1 h)
      · rintro (rfl | h)
        · rw [(kEq_eq k k).2 rfl] at hk; exact nomatch hk
        · exact (memK_eq k l).2 h
    · exact ⟨fun _ => by rw [(kEq_eq _ _).1 hk]; exact List.mem_cons_self, fun _ => rfl⟩

/-- The entries that have not come yet. -/
noncomputable def leftK (seen : List K) (es : List (K × V)) : List (K × V) := List.rec (motive := fun _ => List (K × V)) [] (fun e _ ih => ite2 (memK e.1 seen) ih (e :: ih)) es
theorem leftK_mem (seen : List K) : ∀ (es : List (K × V)) (e : K × V), e ∈ leftK seen es ↔ e ∈ es ∧ e.1 ∉ seen
  | [], e => by simp [leftK]
  | x :: es, e => by
    have hd : leftK seen (x :: es) = ite2 (memK x.1 seen) (leftK seen es) (x :: leftK seen es) := rfl
    rw [hd]
    cases hm : memK x.1 seen
    · have hn : x.1 ∉ seen := fun h => by rw [(memK_eq _ _).2 h] at hm; exact nomatch hm
      rw [ite2_false, List.mem_cons, leftK_mem seen es e, List.mem_cons]
      constructor
      · rintro (rfl | ⟨h1, h2⟩)
        · exact ⟨.inl rfl, hn⟩
        · exact ⟨.inr h1, h2⟩
      · rintro ⟨rfl | h1, h2⟩
        · exact .inl rfl
        · exact .inr ⟨h1, h2⟩
    · have hn := (memK_eq _ _).1 hm
      rw [ite2_true, leftK_mem seen es e, List.mem_cons]
      constructor
      · rintro ⟨h1, h2⟩; exact ⟨.inr h1, h2⟩
      · rintro ⟨rfl | h1, h2⟩
        · exact absurd hn h2
        · exact ⟨h1, h2⟩

/-- All that 'next' may answer. -/
noncomputable def hNext (H : Heap) (x : V) (str : Bool) : Option (List (V × Heap)) :=
  ifB (notB str) (x.onP fun a o => ifB (Nat.beq o 0) (onO (H.t.get a) fun b => b.onIt
    (fun m ver seen => onO (H.t.get m) fun mb => mb.onM fun ver' es => ifB (Nat.beq ver ver')
      ((fun l => List.rec (motive := fun _ => Option (List (V × Heap))) (some [(.t [.b false], H)]) (fun _ _ _ => some (mapL (fun e => (.t [.b true, e.1.toV, e.2], (⟨H.nx, H.t.set a (.it m ver (e.1 :: seen))⟩ : Heap))) l)) l) (leftK seen es)))
    (some [(.t [.b false], H)])))

theorem hNext_ok {ρ : Ren} {H : Heap} {x : V} {str : Bool} {outs : List (V × Heap)} {u : Value} {w : World} (ty : TypeId) (h : hNext H x str = some outs) (hr : HRel ρ H.t.get w) (hx : R ρ x u) :
    ∃ p ∈ outs, ∃ y w', (Instr.next u str ty).run P w = .ok y w' ∧ R ρ p.1 y ∧ Step ρ ρ H.t.get p.2.t.get H.nx p.2.nx w w' := by
  obtain ⟨hstr, h1⟩ := ifB_inv h
  have hsf : str = false := by cases str; rfl; exact nomatch hstr
  subst hsf
  obtain ⟨a, o, rfl, h2⟩ := V.onP_inv h1
  obtain ⟨ho, h3⟩ := ifB_inv h2
  have ho := Nat.eq_of_beq_eq_true ho
  subst ho
  obtain ⟨b, hb, h4⟩ := onO_inv h3
  obtain ⟨L, hL, rfl⟩ := hx
  obtain ⟨L', hL', hbr⟩ := hr.at_ a _ hb
  rw [hL] at hL'; cases hL'
  cases b
  case c => exact nomatch (show (none : Option (List (V × Heap))) = some outs from h4)
  case m => exact nomatch (show (none : Option (List (V × Heap))) = some outs from h4)
  case si => exact nomatch (show (none : Option (List (V × Heap))) = some outs from h4)
  case it0 =>
    injection (show some [(V.t [.b false], H)] = some outs from h4) with h4; subst h4
    obtain ⟨hbase, since, sn, stepped, g1⟩ := hbr
    have hb0 : L.base + 0 = 0 := by rw [hbase]
    rw [hb0]
    refine ⟨_, List.mem_singleton.2 rfl, .tuple #[.bool false], w, ?_, ⟨[.bool false], rfl, .bool false, [], rfl, rfl, rfl⟩, Step.refl _ hr⟩
    simp [Instr.next, getObj, Sem.run, g1]
  case it m ver seen =>
    obtain ⟨mb, hmb, h5⟩ := onO_inv (show (onO (H.t.get m) fun mb => mb.onM fun ver' es => ifB (Nat.beq ver ver')
      ((fun l => List.rec (motive := fun _ => Option (List (V × Heap))) (some [(V.t [.b false], H)]) (fun _ _ _ => some (mapL (fun e : K × V => (V.t [.b true, e.1.toV, e.2], (⟨H.nx, H.t.set a (.it m ver (e.1 :: seen))⟩ : Heap))) l)) l) (leftK seen es))) = some outs from h4)
    obtain ⟨ver', es, rfl, h6⟩ := Blk.onM_inv h5
    obtain ⟨hver, h7⟩ := ifB_inv h6
    have hver := Nat.eq_of_beq_eq_true hver
    subst hver
    obtain ⟨hbase, Lm, since, sn, stepped, m1, m2, m3, m4⟩ := hbr
    obtain ⟨xs, x1, x2, x3, x4⟩ := m4 es hmb
    obtain ⟨Lm', hLm', hmbr⟩ := hr.at_ m _ hmb
    rw [m1] at hLm'; cases hLm'
    obtain ⟨xs', clock, c1, ⟨ys, p1, p2, p3, p4⟩, c3, c4⟩ := hmbr
    rw [x1] at c1
    injection c1 with c1; injection c1 with c1 c5; subst c1; subst c5
    have hb0 : L.base + 0 = 0 := by rw [hbase]
    rw [hb0]
    have hlt : L.blk < w.heap.size := (Array.getElem?_eq_some_iff.1 m2).1
    have hgo1 : (getObj L.blk).run P w = .ok (.mapIter (some Lm.blk) since sn stepped) w := by simp [getObj, Sem.run, m2]
    have hgo2 : (getObj Lm.blk).run P w = .ok (.map xs since) w := by simp [getObj, Sem.run, x1]
    -- an entry's key, and whether it has come
    have ent : ∀ e ∈ xs.toList, ∃ (i : Nat) (k : K) (v : V), ys[i]? = some (k, v) ∧ xs.toList[i]? = some e ∧ RK k e.key ∧ R ρ v e.val ∧ (k, v) ∈ es ∧ (sn.contains e.born = true ↔ k ∈ seen) := by
      intro e he
      obtain ⟨i, hi, rfl⟩ := List.getElem_of_mem he
      have hiy : i < ys.length := by rw [p3]; exact hi
      have e1 : ys[i]? = some (ys[i].1, ys[i].2) := List.getElem?_eq_getElem hiy
      have e2 : xs.toList[i]? = some xs.toList[i] := List.getElem?_eq_getElem hi
      obtain ⟨q1, q2⟩ := p4 i _ _ _ e1 e2
      have hmem : (ys[i].1, ys[i].2) ∈ es := p1.mem_iff.1 (List.getElem_mem hiy)
      exact ⟨i, _, _, e1, e2, q1, q2, hmem, (x4 _ he _ q1 (List.mem_map.2 ⟨_, hmem, rfl⟩)).1⟩
    have hold : (xs.filter fun e => !sn.contains e.born).filter (fun e => decide (e.born < since)) = xs.filter fun e => !sn.contains e.born := by
      apply Array.ext'
      rw [Array.toList_filter, Array.toList_filter, List.filter_eq_self]
      intro e he
      exact decide_eq_true (c4 e (List.mem_filter.1 he).1)
    have hnew : (xs.filter fun e => !sn.contains e.born).filter (fun e => decide (e.born ≥ since)) = #[] := by
      apply Array.ext'
      rw [Array.toList_filter, Array.toList_filter, List.filter_eq_nil_iff]
      intro e he
      have := c4 e (List.mem_filter.1 he).1
      simp; omega
    have hguard : (!sn.isEmpty && !xs.isEmpty && xs.all fun e => decide (e.born ≥ stepped)) = false := by
      rcases x2 with h | h
      · have : sn.isEmpty = true := by simp [Array.isEmpty, h]
        rw [this]; rfl
      · subst h
        cases hx : xs.toList with
        | nil =>
          have : xs.isEmpty = true := by simp [Array.isEmpty, ← Array.length_toList, hx]
          rw [this]; simp
        | cons e es' =>
          have he : e ∈ xs.toList := by rw [hx]; exact List.mem_cons_self
          have := c4 e he
          have hall : (xs.all fun e => decide (e.born ≥ stepped)) = false := by
            cases hq : (xs.all fun e => decide (e.born ≥ stepped))
            · rfl
            · exfalso
              rw [Array.all_eq_true_iff_forall_mem] at hq
              have := of_decide_eq_true (hq e (Array.mem_toList_iff.1 he))
              omega
          rw [hall]; simp
    -- the candidates
    generalize hleft : xs.filter (fun e => !sn.contains e.born) = left at hold hnew
    have hlm : ∀ e, e ∈ left.toList ↔ e ∈ xs.toList ∧ sn.contains e.born = false := by
      intro e
      rw [← hleft, Array.toList_filter, List.mem_filter]
      simp
    cases hl : leftK seen es with
    | nil =>
      rw [hl] at h7
      injection (show some [(V.t [.b false], H)] = some outs from h7) with h7; subst h7
      have hempty : left = #[] := by
        apply Array.ext'
        rw [List.eq_nil_iff_forall_not_mem]
        intro e he
        obtain ⟨he1, he2⟩ := (hlm e).1 he
        obtain ⟨i, k, v, q1, q2, q3, q4, q5, q6⟩ := ent e he1
        have : (k, v) ∈ leftK seen es := (leftK_mem seen es (k, v)).2 ⟨q5, fun hk => by rw [q6.2 hk] at he2; exact nomatch he2⟩
        rw [hl] at this; exact nomatch this
      refine ⟨_, List.mem_singleton.2 rfl, .tuple #[.bool false], w, ?_, ⟨[.bool false], rfl, .bool false, [], rfl, rfl, rfl⟩, Step.refl _ hr⟩
      simp only [Instr.next, Sem.run_bind, hgo1, hgo2, Result.andThen_ok, hguard, hleft, hempty]
      simp [Question.forced]
    | cons e0 l0 =>
      rw [hl] at h7
      injection (show some (mapL (fun e : K × V => (V.t [.b true, e.1.toV, e.2], (⟨H.nx, H.t.set a (.it m ver (e.1 :: seen))⟩ : Heap))) (e0 :: l0)) = some outs from h7) with h7
      rw [mapL_eq] at h7
      have hne : left ≠ #[] := by
        intro hempty
        have h0 : e0 ∈ leftK seen es := by rw [hl]; exact List.mem_cons_self
        obtain ⟨h01, h02⟩ := (leftK_mem seen es e0).1 h0
        have hy : e0 ∈ ys := p1.mem_iff.2 h01
        obtain ⟨i, hi, hie⟩ := List.getElem_of_mem hy
        have hix : i < xs.toList.length := by rw [← p3]; exact hi
        have hmem := List.getElem_mem hix
        obtain ⟨q1, q2⟩ := p4 i e0.1 e0.2 _ (by rw [List.getElem?_eq_getElem hi, hie]) (List.getElem?_eq_getElem hix)
        have hnc : sn.contains (xs.toList[i]).born = false := by
          cases hc : sn.contains (xs.toList[i]).born
          · rfl
          · exact absurd ((x4 _ hmem _ q1 (List.mem_map.2 ⟨e0, h01, rfl⟩)).1.1 hc) h02
        have := (hlm _).2 ⟨hmem, hnc⟩
        rw [hempty] at this; exact nomatch this
      have hsz : 0 < left.size := Array.size_pos_iff.2 hne
      -- whichever is drawn
      let q := Question.mapNext left.size
      let w1 : World := if q.forced then w else { w with drawn := w.drawn + 1 }
      let i : Nat := if q.forced then 0 else q.cut (w.tape w.drawn q)
      have hch : (choose q).run P w = .ok i w1 := by
        rw [run_choose]
        by_cases hf : q.forced = true
        · simp only [w1, i, hf, if_true]
        · simp only [w1, i, hf, if_false, Bool.false_eq_true]
      have hil : i < left.size := by
        show (if q.forced then 0 else q.cut (w.tape w.drawn q)) < left.size
        by_cases hf : q.forced = true
        · rw [if_pos hf]; exact hsz
        · rw [if_neg hf]; show _ % left.size < left.size; exact Nat.mod_lt _ hsz
      have hw1 : w1.heap = w.heap := by
        show (if q.forced then w else { w with drawn := w.drawn + 1 }).heap = w.heap
        by_cases hf : q.forced = true
        · rw [if_pos hf]
        · rw [if_neg hf]
      have hwe : w1.os = w.os ∧ w1.output = w.output := by
        show (if q.forced then w else { w with drawn := w.drawn + 1 }).os = w.os ∧ (if q.forced then w else { w with drawn := w.drawn + 1 }).output = w.output
        by_cases hf : q.forced = true
        · rw [if_pos hf]; exact ⟨rfl, rfl⟩
        · rw [if_neg hf]; exact ⟨rfl, rfl⟩
      have he : left[i] ∈ left.toList := Array.mem_toList_iff.2 (Array.getElem_mem hil)
      generalize hei : left[i] = e at he
      obtain ⟨he1, he2⟩ := (hlm e).1 he
      obtain ⟨j, k, v, q1, q2, q3, q4, q5, q6⟩ := ent e he1
      have hks : k ∉ seen := fun hk => by rw [q6.2 hk] at he2; exact nomatch he2
      have hkv : (k, v) ∈ leftK seen es := (leftK_mem seen es (k, v)).2 ⟨q5, hks⟩
      have hnem : m ≠ a := fun hh => by rw [hh, hb] at hmb; exact nomatch hmb
      have hLne : Lm.blk ≠ L.blk := fun hh => hnem (hr.inj m a _ _ Lm L hmb hb m1 hL hh)
      refine ⟨(.t [.b true, k.toV, v], ⟨H.nx, H.t.set a (.it m ver (k :: seen))⟩), ?_, .tuple #[.bool true, e.key, e.val], { w1 with heap := w1.heap.setIfInBounds L.blk (.mapIter (some Lm.blk) since (sn.push e.born) since) }, ?_, ?_, ?_⟩
      · rw [← h7, ← hl]; exact List.mem_map.2 ⟨(k, v), hkv, rfl⟩
      · have hcand : ((if left.isEmpty = true then #[none] else #[]) ++ (left ++ #[]).map some : Array (Option MapEntry)) = left.map some := by
          have : left.isEmpty = false := by
            cases hq : left.isEmpty
            · rfl
            · exact absurd (Array.isEmpty_iff.1 hq) hne
          rw [this]; simp
        have hso : (setObj L.blk (.mapIter (some Lm.blk) since (sn.push e.born) since)).run P w1 = .ok () { w1 with heap := w1.heap.setIfInBounds L.blk (.mapIter (some Lm.blk) since (sn.push e.born) since) } := by simp [setObj, Sem.run, hw1, m2]
        simp only [Instr.next, Sem.run_bind, hgo1, hgo2, Result.andThen_ok, hguard, hleft, hold, hnew, hcand, Array.size_map]
        rw [if_neg (by simp)]
        simp only [Sem.run_bind, show (choose (Question.mapNext left.size)).run P w = .ok i w1 from hch, Result.andThen_ok, Array.getElem?_map, Array.getElem?_eq_getElem hil, hei, Option.map_some, hso, Sem.run_pure]
      · exact ⟨[.bool true, e.key, e.val], rfl, .bool true, [e.key, e.val], rfl, rfl, e.key, [e.val], rfl, K.toV_ok ρ q3, e.val, [], rfl, q4, rfl⟩
      · show Step ρ ρ H.t.get (H.t.set a (.it m ver (k :: seen))).get H.nx H.nx w _
        rw [get_set_upd]
        refine Step.heap (w1 := w1) hw1 rfl (Step.write H.nx (hr.heap hw1) hb hL rfl ?_ (fun _ _ e => nomatch e)) hwe
        have hnm : ∀ b, upd H.t.get a (some b) m = some (.m ver es) := fun b => by unfold upd; rw [if_neg hnem]; exact hmb
        refine ⟨hbase, Lm, since, sn.push e.born, since, m1, set_get_same (by rw [hw1]; exact hlt), fun v' es' e => ?_, fun es' e' => ?_⟩
        · rw [hnm] at e; injection e with e; injection e with e1 _; omega
        · rw [hnm] at e'; injection e' with e'; injection e' with _ e'; subst e'
          refine ⟨xs, by rw [set_get hLne, hw1]; exact x1, .inr rfl, by simp [x3], fun e' he' k' hk' hin => ?_⟩
          -- e' is e just where its key is k
          obtain ⟨j', k2, v2, r1, r2, r3, r4, r5, r6⟩ := ent e' he'
          have hkk : k' = k2 := by
            -- keys with one value are one key, among those of the map
            have ek := RK_inj hk' hk'
            exact key_of ys xs.toList p1 p2 p3 p4 hk' hin r1 r2
          subst hkk
          have hiff : e'.born = e.born ↔ k' = k := by
            constructor
            · intro hbn
              have hj : j' = j := by
                have n1 : (xs.toList.map (·.born))[j']? = some e'.born := by rw [List.getElem?_map, r2]; rfl
                have n2 : (xs.toList.map (·.born))[j]? = some e'.born := by rw [List.getElem?_map, q2, hbn]; rfl
                have hl : j' < (xs.toList.map (·.born)).length := by
                  rcases Nat.lt_or_ge j' (xs.toList.map (·.born)).length with h | h
                  · exact h
                  · rw [List.getElem?_eq_none h] at n1; exact nomatch n1
                exact (List.getElem?_inj hl c3).1 (n1.trans n2.symm)
              subst hj
              rw [r1] at q1; injection q1 with q1; injection q1
            · intro hkk
              subst hkk
              have hj : j' = j := by
                have n1 : (ys.map (·.1))[j']? = some k' := by rw [List.getElem?_map, r1]; rfl
                have n2 : (ys.map (·.1))[j]? = some k' := by rw [List.getElem?_map, q1]; rfl
                have hl : j' < (ys.map (·.1)).length := by
                  rcases Nat.lt_or_ge j' (ys.map (·.1)).length with h | h
                  · exact h
                  · rw [List.getElem?_eq_none h] at n1; exact nomatch n1
                exact (List.getElem?_inj hl p2).1 (n1.trans n2.symm)
              subst hj
              rw [r2] at q2; injection q2 with q2; rw [q2]
          refine ⟨?_, fun hh => ?_⟩
          · rw [List.mem_cons, Array.contains_push, Bool.or_eq_true, beq_iff_eq]
            constructor
            · rintro (h | h)
              · exact .inr (r6.1 h)
              · exact .inl (hiff.1 h)
            · rintro (h | h)
              · exact .inr (hiff.2 h)
              · exact .inl (r6.2 h)
          · injection hh with hh
            rw [Array.back?_push, hiff.2 hh.symm]
  where
  key_of {ρ : Ren} {es : List (K × V)} {k' k2 : K} {v2 : V} {j' : Nat} {e' : MapEntry} (ys : List (K × V)) (xs : List MapEntry) (p1 : ys.Perm es) (p2 : (ys.map (·.1)).Nodup) (p3 : ys.length = xs.length)
      (p4 : ∀ (i : Nat) (k : K) (v : V) (e : MapEntry), ys[i]? = some (k, v) → xs[i]? = some e → RK k e.key ∧ R ρ v e.val) (hk' : RK k' e'.key) (hin : k' ∈ es.map (·.1)) (r1 : ys[j']? = some (k2, v2)) (r2 : xs[j']? = some e') : k' = k2 := by
    exact RK_key hk' (p4 j' k2 v2 e' r1 r2).1
  RK_key {k k' : K} {u : Value} (h : RK k u) (h' : RK k' u) : k = k' := by
    cases k with
    | a x => cases k' with
      | a y => rw [RKA_key h h']
      | g ys => exfalso; obtain ⟨us, rfl, _⟩ := h'; cases x <;> first | exact nomatch (show Value.agg _ = _ from h) | (obtain ⟨s, e, _⟩ := h; exact nomatch e)
    | g xs => cases k' with
      | a y => exfalso; obtain ⟨us, rfl, _⟩ := h; cases y <;> first | exact nomatch (show Value.agg _ = _ from h') | (obtain ⟨s, e, _⟩ := h'; exact nomatch e)
      | g ys => obtain ⟨us, rfl, h1⟩ := h; obtain ⟨vs, e, h2⟩ := h'; injection e with e; have e := congrArg Array.toList e; simp at e; subst e; rw [RKAL_key h1 h2]
  RKA_key {x y : KA} {u : Value} (h : RKA x u) (h' : RKA y u) : x = y := by
    cases x <;> cases y <;> first
      | (rw [show u = _ from h] at h'; injection (show Value.int _ _ = _ from h') with a b; subst a; subst b; rfl)
      | (rw [show u = _ from h] at h'; injection (show Value.bool _ = _ from h') with a; subst a; rfl)
      | (obtain ⟨s, e, h1⟩ := h; obtain ⟨s', e', h2⟩ := h'; rw [e] at e'; injection e' with e'; subst e'; rw [← h1, ← h2])
      | (exfalso; obtain ⟨s, e, _⟩ := h; rw [e] at h'; exact nomatch (show Value.string _ = _ from h'))
      | (exfalso; obtain ⟨s, e, _⟩ := h'; rw [show u = _ from h] at e; exact nomatch e)
      | (exfalso; rw [show u = _ from h] at h'; exact nomatch (show _ = _ from h'))
  RKAL_key : ∀ {xs ys : List KA} {us : List Value}, RKAL xs us → RKAL ys us → xs = ys
    | [], [], _, _, _ => rfl
    | [], y :: ys, us, h, ⟨u, us', e, _⟩ => by rw [show us = [] from h] at e; exact nomatch e
    | x :: xs, [], us, ⟨u, us', e, _⟩, h => by rw [show us = [] from h] at e; exact nomatch e
    | x :: xs, y :: ys, us, ⟨u, us', e, h1, h2⟩, ⟨v, vs', e', g1, g2⟩ => by
      rw [e] at e'; injection e' with e1 e2; subst e1; subst e2
      rw [RKA_key h1 g1, RKAL_key h2 g2]


/-! ### entry -/

/-- The value that a map has at a key. -/
noncomputable def atK (k : K) (es : List (K × V)) : Option V := List.rec (motive := fun _ => Option V) none (fun e _ ih => ite2 (kEq k e.1) (some e.2) ih) es
theorem atK_some {k : K} {v : V} : ∀ {es : List (K × V)}, atK k es = some v → (k, v) ∈ es
  | [], h => nomatch (show none = some v from h)
  | e :: es, h => by
    have h' : ite2 (kEq k e.1) (some e.2) (atK k es) = some v := h
    cases hk : kEq k e.1
    · rw [hk, ite2_false] at h'; exact List.mem_cons_of_mem _ (atK_some h')
    · rw [hk, ite2_true] at h'
      injection h' with h'
      rw [(kEq_eq _ _).1 hk, ← h']
      exact List.mem_cons_self

noncomputable def hEntry (h : Tr Blk) (x : V) : Option V :=
  x.onP fun a o => ifB (Nat.beq o 0) (onO (h.get a) fun b => b.onIt (fun m ver seen => onO (h.get m) fun mb => mb.onM fun ver' es => ifB (Nat.beq ver ver')
    (List.rec (motive := fun _ => Option V) none (fun k _ _ => onO (atK k es) fun v => some (.t [k.toV, v])) seen)) none)

theorem hEntry_ok {ρ : Ren} {h : Tr Blk} {x v : V} {u : Value} {w : World} (hh : hEntry h x = some v) (hr : HRel ρ h.get w) (hx : R ρ x u) : ∃ y, (Instr.entry u).run P w = .ok y w ∧ R ρ v y := by
  obtain ⟨a, o, rfl, h2⟩ := V.onP_inv hh
  obtain ⟨ho, h3⟩ := ifB_inv h2
  have ho := Nat.eq_of_beq_eq_true ho
  subst ho
  obtain ⟨b, hb, h4⟩ := onO_inv h3
  obtain ⟨L, hL, rfl⟩ := hx
  obtain ⟨L', hL', hbr⟩ := hr.at_ a _ hb
  rw [hL] at hL'; cases hL'
  cases b
  case it m ver seen =>
    obtain ⟨mb, hmb, h5⟩ := onO_inv (show (onO (h.get m) fun mb => mb.onM fun ver' es => ifB (Nat.beq ver ver')
      (List.rec (motive := fun _ => Option V) none (fun k _ _ => onO (atK k es) fun v => some (.t [k.toV, v])) seen)) = some v from h4)
    obtain ⟨ver', es, rfl, h6⟩ := Blk.onM_inv h5
    obtain ⟨hver, h7⟩ := ifB_inv h6
    have hver := Nat.eq_of_beq_eq_true hver
    subst hver
    cases seen with
    | nil => exact nomatch (show none = some v from h7)
    | cons k seen =>
      obtain ⟨z, hz, h8⟩ := onO_inv (show (onO (atK k es) fun v => some (V.t [k.toV, v])) = some v from h7)
      injection h8 with h8; subst h8
      obtain ⟨hbase, Lm, since, sn, stepped, m1, m2, m3, m4⟩ := hbr
      obtain ⟨xs, x1, x2, x3, x4⟩ := m4 es hmb
      obtain ⟨Lm', hLm', hmbr⟩ := hr.at_ m _ hmb
      rw [m1] at hLm'; cases hLm'
      obtain ⟨xs', clock, c1, ⟨ys, p1, p2, p3, p4⟩, c3, c4⟩ := hmbr
      rw [x1] at c1
      injection c1 with c1; injection c1 with c1 c5; subst c1; subst c5
      have hb0 : L.base + 0 = 0 := by rw [hbase]
      rw [hb0]
      have hst : stepped = since := by
        rcases x2 with q | q
        · rw [x3] at q; exact nomatch q
        · exact q
      subst hst
      have hgo1 : (getObj L.blk).run P w = .ok (.mapIter (some Lm.blk) stepped sn stepped) w := by simp [getObj, Sem.run, m2]
      have hgo2 : (getObj Lm.blk).run P w = .ok (.map xs stepped) w := by simp [getObj, Sem.run, x1]
      have hmem := atK_some hz
      have hy : (k, z) ∈ ys := p1.mem_iff.2 hmem
      obtain ⟨i, hi, hie⟩ := List.getElem_of_mem hy
      have hix : i < xs.toList.length := by rw [← p3]; exact hi
      obtain ⟨q1, q2⟩ := p4 i k z _ (by rw [List.getElem?_eq_getElem hi, hie]) (List.getElem?_eq_getElem hix)
      have hlast := (x4 _ (List.getElem_mem hix) k q1 (List.mem_map.2 ⟨_, hmem, rfl⟩)).2 rfl
      have hfind : xs.find? (fun e => e.born == (xs.toList[i]).born) = some xs.toList[i] := by
        have hsome : (xs.find? fun e => e.born == (xs.toList[i]).born).isSome = true := by
          rw [Array.find?_isSome]
          exact ⟨_, Array.mem_toList_iff.1 (List.getElem_mem hix), by simp⟩
        obtain ⟨e, he⟩ := Option.isSome_iff_exists.1 hsome
        rw [he]
        have hb := Array.find?_some he
        have hm := Array.mem_of_find?_eq_some he
        obtain ⟨j, hj, hje⟩ := List.getElem_of_mem (Array.mem_toList_iff.2 hm)
        have hbb : e.born = (xs.toList[i]).born := by simpa using hb
        have hij : j = i := by
          have n1 : (xs.toList.map (·.born))[j]? = some e.born := by rw [List.getElem?_map, List.getElem?_eq_getElem hj, hje]; rfl
          have n2 : (xs.toList.map (·.born))[i]? = some e.born := by rw [List.getElem?_map, List.getElem?_eq_getElem hix, hbb]; rfl
          exact (List.getElem?_inj (by simpa using hj) c3).1 (n1.trans n2.symm)
        subst hij
        rw [hje]
      refine ⟨.tuple #[(xs.toList[i]).key, (xs.toList[i]).val], ?_, [(xs.toList[i]).key, (xs.toList[i]).val], rfl, (xs.toList[i]).key, [(xs.toList[i]).val], rfl, K.toV_ok ρ q1, (xs.toList[i]).val, [], rfl, q2, rfl⟩
      simp only [Instr.entry, Sem.run_bind, hgo1, hgo2, hlast, Result.andThen_ok]
      rw [if_neg (by simp)]
      simp only [hfind]
      rfl
  all_goals exact nomatch (show (none : Option V) = some v from h4)

end Go.Proofs.YtdnlfkmfofckfaaGreatDoor.Ev
