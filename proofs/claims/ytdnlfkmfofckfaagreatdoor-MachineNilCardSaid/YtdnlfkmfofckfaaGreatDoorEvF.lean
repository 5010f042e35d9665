/- More operations that look at values alone: structs, addresses, indexes, slices, interfaces. -/
import Derived.Test.YtdnlfkmfofckfaaGreatDoorEvE
namespace Go.Proofs.YtdnlfkmfofckfaaGreatDoor.Ev
variable {P : Program}

/-! ### unary -/

noncomputable def pUn (op : UnOp) (x : V) : Option V :=
  UnOp.rec (motive := fun _ => V → Option V) (fun x => x.onI fun k n => bSub k 0 n) (fun _ => none) (fun x => x.onB fun b => some (.b (notB b))) (fun _ => none) op x

theorem pUn_ok {ρ : Ren} {op : UnOp} {x v : V} {u : Value} (w : World) (h : pUn op x = some v) (hx : R ρ x u) : ∃ y, (Op.unary op u).run P w = .ok y w ∧ R ρ v y := by
  cases op
  case neg =>
    obtain ⟨k, n, rfl, h⟩ := V.onI_inv (show x.onI (fun k n => bSub k 0 n) = some v from h)
    rw [show u = _ from hx]
    injection h with h; subst h
    exact ⟨.int k (k.wrap (0 - n)), by simp [Op.unary, Op.intArith], by show _ = _; rw [wrapV_eq]; rfl⟩
  case not =>
    obtain ⟨b, rfl, h⟩ := V.onB_inv (show x.onB (fun b => some (.b (notB b))) = some v from h)
    rw [show u = _ from hx]
    injection h with h; subst h
    exact ⟨.bool (!b), by simp [Op.unary], by show _ = _; rw [notB_eq]⟩
  case xor => exact nomatch (show (none : Option V) = some v from h)
  case plus => exact nomatch (show (none : Option V) = some v from h)

/-! ### structs -/

noncomputable def pExtract (x : V) (i : Nat) : Option V := x.onT fun vs => nthL vs i
theorem pExtract_ok {ρ : Ren} {x v : V} {u : Value} {i : Nat} (w : World) (h : pExtract x i = some v) (hx : R ρ x u) : ∃ y, (Instr.extract u i).run P w = .ok y w ∧ R ρ v y := by
  obtain ⟨vs, rfl, h'⟩ := V.onT_inv h
  obtain ⟨xs, rfl, hl⟩ := hx
  rw [nthL_eq] at h'
  obtain ⟨y, h1, h2⟩ := hl.get h'
  exact ⟨y, by simp [Instr.extract, h1], h2⟩

/-- A part of an aggregate's cells, as a value of type t. -/
noncomputable def pPart (P : Program) (t : TypeId) (cs : List V) (off : Nat) : Option V :=
  onO (tAgg P t) fun b => ite2 b (onO (tSize P t) fun n => some (.g (takeL n (dropL off cs)))) (nthL cs off)
theorem pPart_ok {ρ : Ren} {t : TypeId} {cs : List V} {ys : List Value} {off : Nat} {v : V} (w : World) (h : pPart P t cs off = some v) (hx : RL ρ cs ys) :
    ∃ y, (part t ys.toArray off).run P w = .ok y w ∧ R ρ v y := by
  obtain ⟨b, hb, h⟩ := onO_inv h
  cases b
  · rw [ite2_false, nthL_eq] at h
    obtain ⟨y, h1, h2⟩ := hx.get h
    refine ⟨y, ?_, h2⟩
    simp only [part, Sem.run_bind, tAgg_ok hb, Result.andThen_ok]
    simp [h1]
  · rw [ite2_true] at h
    obtain ⟨n, hn, h⟩ := onO_inv h
    injection h with h; subst h
    refine ⟨.agg ((ys.drop off).take n).toArray, ?_, _, rfl, ?_⟩
    · simp only [part, Sem.run_bind, tAgg_ok hb, Result.andThen_ok]
      simp [tSize_ok hn, List.extract_toArray]
    · rw [takeL_eq, dropL_eq]; exact (hx.drop off).take n

noncomputable def pField (P : Program) (t : TypeId) (x : V) (i : Nat) : Option V :=
  x.onG fun cs => onO (tFields P t) fun fs => onO (nthL fs i) fun f => pPart P f.type cs f.offset
theorem pField_ok {ρ : Ren} {t : TypeId} {x v : V} {u : Value} {i : Nat} (w : World) (h : pField P t x i = some v) (hx : R ρ x u) : ∃ y, (Instr.field t u i).run P w = .ok y w ∧ R ρ v y := by
  obtain ⟨cs, rfl, h⟩ := V.onG_inv h
  obtain ⟨ys, rfl, hl⟩ := hx
  obtain ⟨fs, hfs, h⟩ := onO_inv h
  obtain ⟨f, hf, h⟩ := onO_inv h
  rw [nthL_eq] at hf
  obtain ⟨y, h1, h2⟩ := pPart_ok w h hl
  refine ⟨y, ?_, h2⟩
  simp [Instr.field, run_und (tFields_und hfs), hf, asAgg, h1]

theorem add_none (b o n : Nat) : (⟨b, o, none⟩ : Addr).add n = ⟨b, o + n, none⟩ := by
  unfold Addr.add
  split
  · rename_i h; subst h; rfl
  · rfl

noncomputable def pFieldAddr (P : Program) (t : TypeId) (x : V) (i : Nat) : Option V :=
  x.onP fun a o => onO (tFields P t) fun fs => onO (nthL fs i) fun f => onO (tSize P f.type) fun n => ifB (notB (Nat.beq n 0)) (some (.p a (Nat.add o f.offset)))
theorem pFieldAddr_ok {ρ : Ren} {t : TypeId} {x v : V} {u : Value} {i : Nat} (w : World) (h : pFieldAddr P t x i = some v) (hx : R ρ x u) : ∃ y, (Instr.fieldAt t u i).run P w = .ok y w ∧ R ρ v y := by
  obtain ⟨a, o, rfl, h⟩ := V.onP_inv h
  obtain ⟨L, hL, rfl⟩ := hx
  obtain ⟨fs, hfs, h⟩ := onO_inv h
  obtain ⟨f, hf, h⟩ := onO_inv h
  obtain ⟨n, hn, h⟩ := onO_inv h
  obtain ⟨h0, h⟩ := ifB_inv h
  injection h with h; subst h
  rw [nthL_eq] at hf
  have hn0 : n ≠ 0 := by intro e; subst e; rw [notB_eq] at h0; exact nomatch h0
  refine ⟨.pointer (some ⟨L.blk, L.base + o + f.offset, none⟩), ?_, L, hL, by simp [Nat.add_assoc]⟩
  simp [Instr.fieldAt, run_und (tFields_und hfs), hf, Instr.sureAddr, fieldPlace, tSize_ok hn, hn0, add_none]

/-! ### building a struct, an array, a slice's cells -/

noncomputable def fillV (place : Nat → Option (Nat × Nat)) (parts : List (Nat × V)) : List V → Option (List V) :=
  List.rec (motive := fun _ => List V → Option (List V)) (fun cs => some cs)
    (fun p _ ih cs => onO (place p.1) fun q => onO p.2.cells fun ds => ifB (Nat.beq (lenL ds) q.2) (onO (putL q.1 ds cs) ih)) parts

theorem foldl_put {ρ : Ren} {off : Nat} {ds cs cs' : List V} {ys : List Value} {arr : Array Value} (h : putL off ds cs = some cs') (hd : RL ρ ds ys) (hc : RL ρ cs arr.toList) :
    RL ρ cs' ((ys.zipIdx 0).foldl (fun cs (x : Value × Nat) => cs.setIfInBounds (off + x.2) x.1) arr).toList := by
  obtain ⟨h1, h2, h3⟩ := putL_some h
  obtain ⟨g1, g2⟩ := Great.foldl_set off ys 0 arr
  have la := hc.length
  have ld := hd.length
  refine RL.of_get ?_ fun i d v hi hv => ?_
  · rw [Array.length_toList, g1, h1, ← la, Array.length_toList]
  · rw [Array.getElem?_toList, g2 i] at hv
    rw [h3 i] at hi
    rw [Array.length_toList] at la
    by_cases c : off ≤ i ∧ i < off + ds.length
    · rw [if_pos c] at hi
      rw [if_pos ⟨by omega, by omega, by omega⟩] at hv
      obtain ⟨v', e1, e2⟩ := hd.get hi
      rw [show i - (off + 0) = i - off from by omega, e1] at hv
      injection hv with hv; subst hv; exact e2
    · rw [if_neg c] at hi
      rw [if_neg (by omega)] at hv
      obtain ⟨v', e1, e2⟩ := hc.get hi
      rw [Array.getElem?_toList, hv] at e1
      injection e1 with e1; subst e1; exact e2

/-- Parts: places and values. -/
def RP (ρ : Ren) : List (Nat × V) → List (Nat × Value) → Prop
  | [], ys => ys = []
  | p :: ps, ys => ∃ y zs, ys = (p.1, y) :: zs ∧ R ρ p.2 y ∧ RP ρ ps zs

theorem fillV_ok {ρ : Ren} (place : Nat → Option (Nat × Nat)) : ∀ {parts : List (Nat × V)} {ys : List (Nat × Value)} {cs cs' : List V} {arr : Array Value}, fillV place parts cs = some cs' → RP ρ parts ys → RL ρ cs arr.toList →
    ∃ arr', Instr.fill place arr ys = some arr' ∧ RL ρ cs' arr'.toList
  | [], ys, cs, cs', arr, h, hp, hc => by
    injection (show some cs = some cs' from h) with h; subst h
    rw [show ys = [] from hp]
    exact ⟨arr, rfl, hc⟩
  | (i, d) :: ps, ys, cs, cs', arr, h, hp, hc => by
    obtain ⟨y, zs, rfl, h1, h2⟩ := hp
    have h' : (onO (place i) fun q => onO d.cells fun ds => ifB (Nat.beq (lenL ds) q.2) (onO (putL q.1 ds cs) (fillV place ps))) = some cs' := h
    obtain ⟨⟨off, size⟩, hq, h'⟩ := onO_inv h'
    obtain ⟨ds, hds, h'⟩ := onO_inv h'
    obtain ⟨hlen, h'⟩ := ifB_inv h'
    obtain ⟨cs1, hput, h'⟩ := onO_inv h'
    have hlen := Nat.eq_of_beq_eq_true hlen
    rw [lenL_eq] at hlen
    have hy := V.cells_ok hds h1
    have hyl := hy.length
    rw [Array.length_toList] at hyl
    have hput2 := (putL_some hput).2.1
    have hcl := hc.length
    rw [Array.length_toList] at hcl
    have hnew := foldl_put hput hy hc
    obtain ⟨arr', e1, e2⟩ := fillV_ok place h' h2 hnew
    refine ⟨arr', ?_, e2⟩
    unfold Instr.fill
    simp only [hq]
    have c1 : y.cells.size = size := by rw [hyl]; exact hlen
    rw [if_neg (by simp [c1]; omega)]
    rw [← e1]
    congr 1
    rw [← Array.foldl_toList, Array.toList_zipIdx]

noncomputable def mapO {α β : Type} (f : α → Option β) (l : List α) : Option (List β) :=
  List.rec (motive := fun _ => Option (List β)) (some []) (fun x _ ih => onO (f x) fun y => onO ih fun ys => some (y :: ys)) l
theorem mapO_cons {α β : Type} {f : α → Option β} {x : α} {l : List α} {r : List β} (h : mapO f (x :: l) = some r) : ∃ y ys, f x = some y ∧ mapO f l = some ys ∧ r = y :: ys := by
  have h' : (onO (f x) fun y => onO (mapO f l) fun ys => some (y :: ys)) = some r := h
  obtain ⟨y, hy, h'⟩ := onO_inv h'
  obtain ⟨ys, hys, h'⟩ := onO_inv h'
  injection h' with h'
  exact ⟨y, ys, hy, hys, h'.symm⟩

/-- The places of a struct's fields. -/
noncomputable def tPlaces (P : Program) (t : TypeId) : Option (List (Nat × Nat)) := onO (tFields P t) fun fs => mapO (fun f => onO (tSize P f.type) fun n => some (f.offset, n)) fs

theorem run_places {P : Program} (w : World) : ∀ {fs : List Field} {r : List (Nat × Nat)}, mapO (fun f : Field => onO (tSize P f.type) fun n => some (f.offset, n)) fs = some r →
    (fs.mapM (fun f => do pure (f.offset, ← sizeOf f.type) : Field → Sem (Nat × Nat))).run P w = .ok r w
  | [], r, h => by
    injection (show some [] = some r from h) with h; subst h
    rfl
  | f :: fs, r, h => by
    obtain ⟨y, ys, hy, hys, rfl⟩ := mapO_cons h
    obtain ⟨n, hn, hy⟩ := onO_inv hy
    injection hy with hy; subst hy
    have ih := run_places w hys
    simp only [List.mapM_cons, Sem.run_bind, tSize_ok hn, Result.andThen_ok, Sem.run_pure, ih]

noncomputable def pBuild (P : Program) (t : TypeId) (parts : List (Nat × V)) : Option V :=
  onO (tZero P t) fun z => onO (tPlaces P t) fun pl => onO (fillV (nthL pl) parts z) fun cs => some (.g cs)

theorem pBuild_ok {ρ : Ren} {t : TypeId} {parts : List (Nat × V)} {ys : List (Nat × Value)} {v : V} (w : World) (h : pBuild P t parts = some v) (hp : RP ρ parts ys) :
    ∃ y, (Instr.build t ys.toArray).run P w = .ok y w ∧ R ρ v y := by
  obtain ⟨z, hz, h⟩ := onO_inv h
  obtain ⟨pl, hpl, h⟩ := onO_inv h
  obtain ⟨cs, hcs, h⟩ := onO_inv h
  injection h with h; subst h
  obtain ⟨fs, hfs, hpl⟩ := onO_inv hpl
  obtain ⟨zy, hzy, hzr⟩ := tZero_ok hz ρ w
  obtain ⟨arr', e1, e2⟩ := fillV_ok (nthL pl) hcs hp hzr
  refine ⟨.agg arr', ?_, arr'.toList, by simp, e2⟩
  have hfun : (fun x => (pl.toArray)[x]?) = nthL pl := by funext k; rw [nthL_eq]; simp
  simp only [Instr.build, Sem.run_bind, hzy, Result.andThen_ok, run_und (tFields_und hfs)]
  have hm := run_places w hpl
  rw [show (fs.toArray.mapM (fun f => do pure (f.offset, ← sizeOf f.type) : Field → Sem (Nat × Nat))) = (do let l ← fs.mapM (fun f => do pure (f.offset, ← sizeOf f.type) : Field → Sem (Nat × Nat)); pure l.toArray) from by
    rw [List.mapM_toArray]; rfl]
  simp only [Sem.run_bind, hm, Result.andThen_ok, Sem.run_pure, hfun]
  rw [e1]
  rfl

end Go.Proofs.YtdnlfkmfofckfaaGreatDoor.Ev
