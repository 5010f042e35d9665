/- Operations on cells: loads, stores, new variables, slice literals, make. -/
import Derived.Test.YtdnlfkmfofckfaaGreatDoorEvJ
namespace Go.Proofs.YtdnlfkmfofckfaaGreatDoor.Ev
variable {P : Program}

theorem get_set_upd (t : Tr Blk) (a : Nat) (b : Blk) : (t.set a b).get = upd t.get a (some b) := by
  funext x; rw [Tr.get_set]; rfl
theorem get_cut_upd (t : Tr Blk) (a : Nat) : (t.cut a).get = upd t.get a none := by
  funext x; rw [Tr.get_cut]; rfl

noncomputable def Blk.onC {β : Type} (b : Blk) : (Bool → List V → Option β) → Option β :=
  Blk.rec (motive := fun _ => (Bool → List V → Option β) → Option β) (fun ro cs f => f ro cs) (fun _ _ _ => none) (fun _ _ _ _ => none) (fun _ => none) (fun _ _ _ => none) b
theorem Blk.onC_inv {β : Type} {b : Blk} {f : Bool → List V → Option β} {r : β} (h : b.onC f = some r) : ∃ ro cs, b = .c ro cs ∧ f ro cs = some r := by
  cases b <;> first | exact ⟨_, _, rfl, h⟩ | exact nomatch (show (none : Option β) = some r from h)

/-! ### loads -/

noncomputable def hLoad (P : Program) (h : Tr Blk) (t : TypeId) (x : V) : Option V :=
  x.onP fun a o => onO (h.get a) fun b => b.onC fun _ cs => onO (tAgg P t) fun g => ite2 g (onO (tSize P t) fun n => onO (cutL cs o n) fun ds => some (.g ds)) (nthL cs o)

theorem cell_of {w : World} {b : Nat} {arr : Array Value} {e : TypeId} {fz : Nat × Nat} (h : w.heap[b]? = some (.cells arr e fz)) (i : Nat) : w.cell? ⟨b, i, none⟩ = arr[i]? := by
  simp [World.cell?, h]

/-- The cells of a block, read in the model's world. -/
theorem cells_at {ρ : Ren} {hf : HF} {L : Loc} {w : World} {ro : Bool} {cs ds : List V} {o n : Nat} (hb : BR ρ hf L w (.c ro cs)) (h : cutL cs o n = some ds) :
    ∃ ys : List Value, ys.length = n ∧ RL ρ ds ys ∧ ∀ j v, ys[j]? = some v → w.cell? ((⟨L.blk, L.base + o, none⟩ : Addr).add j) = some v := by
  obtain ⟨arr, e, lo, hi, h1, _, h3, h4, h5⟩ := hb
  obtain ⟨rfl, hlen⟩ := cutL_some h
  have hle : o + n ≤ cs.length ∨ n = 0 := by
    rw [List.length_take, List.length_drop] at hlen; omega
  refine ⟨((arr.toList.drop (L.base + o)).take n), ?_, ?_, ?_⟩
  · rw [List.length_take, List.length_drop, Array.length_toList]; omega
  · refine RL.of_get ?_ fun i d v hd hv => ?_
    · rw [hlen, List.length_take, List.length_drop, Array.length_toList]; omega
    · rw [List.getElem?_take] at hd hv
      by_cases hi : i < n
      · rw [if_pos hi, List.getElem?_drop] at hd hv
        obtain ⟨v', g1, g2⟩ := h5 _ d hd
        rw [Array.getElem?_toList, show L.base + o + i = L.base + (o + i) from by omega, g1] at hv
        injection hv with hv; subst hv; exact g2
      · rw [if_neg hi] at hd; exact nomatch hd
  · intro j v hv
    rw [List.getElem?_take] at hv
    by_cases hj : j < n
    · rw [if_pos hj, List.getElem?_drop, Array.getElem?_toList] at hv
      rw [add_none, cell_of h1]; exact hv
    · rw [if_neg hj] at hv; exact nomatch hv

theorem hLoad_ok {ρ : Ren} {h : Tr Blk} {t : TypeId} {x v : V} {u : Value} {w : World} (hl : hLoad P h t x = some v) (hr : HRel ρ h.get w) (hx : R ρ x u) :
    ∃ y, (Instr.loadAt t u).run P w = .ok y w ∧ R ρ v y := by
  obtain ⟨a, o, rfl, h1⟩ := V.onP_inv hl
  obtain ⟨b, hb, h2⟩ := onO_inv h1
  obtain ⟨ro, cs, rfl, h3⟩ := Blk.onC_inv h2
  obtain ⟨g, hg, h4⟩ := onO_inv h3
  obtain ⟨L, hL, rfl⟩ := hx
  obtain ⟨L', hL', hbr⟩ := hr.at_ a _ hb
  rw [hL] at hL'; cases hL'
  cases g
  · rw [ite2_false] at h4
    have hbr' := hbr
    obtain ⟨arr, e, lo, hi, g1, _, g3, g4, g5⟩ := hbr
    rw [nthL_eq] at h4
    obtain ⟨y, e1, e2⟩ := g5 o v h4
    refine ⟨y, ?_, e2⟩
    have hc : w.cell? ⟨L.blk, L.base + o, none⟩ = some y := by rw [cell_of g1]; exact e1
    simp only [Instr.loadAt, Instr.sureAddr, loadVar, Sem.run_bind, Sem.run_pure, Result.andThen_ok, tAgg_ok hg]
    simp [hc]
  · rw [ite2_true] at h4
    obtain ⟨n, hn, h5⟩ := onO_inv h4
    obtain ⟨ds, hds, h6⟩ := onO_inv h5
    injection h6 with h6; subst h6
    obtain ⟨ys, e1, e2, e3⟩ := cells_at hbr hds
    refine ⟨.agg ys.toArray, ?_, ys, rfl, e2⟩
    have hlc := run_loadCells_list (P := P) w ⟨L.blk, L.base + o, none⟩ ys e3
    rw [e1] at hlc
    simp only [Instr.loadAt, Instr.sureAddr, loadVar, Sem.run_bind, Sem.run_pure, Result.andThen_ok, tAgg_ok hg]
    simp [tSize_ok hn, hlc]

/-! ### stores -/

theorem setRow_eq {w : World} {g : Nat} {cur new : Array Value} {t : TypeId} {fz : Nat × Nat} (h : w.heap[g]? = some (.cells cur t fz)) :
    w.setRow g new = { w with heap := w.heap.setIfInBounds g (.cells new t fz) } := by
  have hlt : g < w.heap.size := (Array.getElem?_eq_some_iff.1 h).1
  have hv : w.heap[g] = .cells cur t fz := (Array.getElem?_eq_some_iff.1 h).2
  unfold World.setRow
  congr 1
  apply Array.ext
  · simp
  · intro k h1 h2
    simp only [Array.getElem_modify]
    split
    · rename_i hk; subst hk; rw [hv]; simp
    · rename_i hk; rw [Array.getElem_setIfInBounds_ne _ hk]

theorem run_storeCells_ev (g o : Nat) (t : TypeId) (lo hi : Nat) : ∀ (vs : List Value) (i : Nat) (cur : Array Value) (w : World), w.heap[g]? = some (.cells cur t (lo, hi)) → (∀ i, i < cur.size → ¬ (lo ≤ i ∧ i < hi)) → o + i + vs.length ≤ cur.size → (∀ v ∈ vs, v.oneCell' = true) →
    (storeCells ⟨g, o, none⟩ vs i).run P w = .ok () (w.setRow g (cur.toList.take (o + i) ++ vs ++ cur.toList.drop (o + i + vs.length)).toArray)
  | [], i, cur, w, hg, _, _, _ => by
    simp only [storeCells, List.append_nil, List.length_nil, Nat.add_zero, List.take_append_drop, Array.toArray_toList]
    rw [setRow_self w g cur t (lo, hi) hg]
    rfl
  | v :: rest, i, cur, w, hg, hfz, hl, h1 => by
    have hi2 : o + i < cur.size := by simp at hl; omega
    have hadd : (⟨g, o, none⟩ : Addr).add i = ⟨g, o + i, none⟩ := add_none g o i
    have hcell : w.cell? ⟨g, o + i, none⟩ = some cur[o + i] := by simp [World.cell?, hg, hi2]
    have hfro : w.frozen? ⟨g, o + i, none⟩ = false := by
      have := hfz _ hi2
      simp only [World.frozen?, hg]
      cases hb : (decide (lo ≤ o + i) && decide (o + i < hi))
      · rfl
      · simp at hb; exact absurd hb this
    have hst : (store ((⟨g, o, none⟩ : Addr).add i) v).run P w = .ok () (w.setRow g (cur.setIfInBounds (o + i) v)) := by
      rw [hadd, run_store P w _ v _ (h1 v (by simp)), hcell]
      simp [hfro, setCell_eq_setRow w g (o + i) cur t (lo, hi) v hg]
    have ih := run_storeCells_ev g o t lo hi rest (i + 1) (cur.setIfInBounds (o + i) v) (w.setRow g (cur.setIfInBounds (o + i) v)) (setRow_heap w g cur _ t _ hg) (fun j hj => hfz j (by simpa using hj)) (by simp at hl ⊢; omega) (fun x hx => h1 x (by simp [hx]))
    simp only [storeCells, Sem.run_bind, hst, Result.andThen_ok, ih, setRow_setRow]
    congr 3
    have e := list_seg_step cur.toList (o + i) v rest (by simp at hl ⊢; omega)
    simpa [Array.toList_setIfInBounds, Nat.add_assoc] using e

theorem seg_get (l vs : List Value) (k i : Nat) (hk : k + vs.length ≤ l.length) :
    (l.take k ++ vs ++ l.drop (k + vs.length))[i]? = if k ≤ i ∧ i < k + vs.length then vs[i - k]? else l[i]? := by
  simp only [List.getElem?_append, List.length_append, List.length_take, List.getElem?_take, List.getElem?_drop]
  have : min k l.length = k := by omega
  rw [this]
  by_cases c1 : i < k
  · rw [if_pos (by omega), if_pos c1, if_pos c1, if_neg (by omega)]
  · by_cases c2 : i < k + vs.length
    · rw [if_pos c2, if_neg c1, if_pos (by omega)]
    · rw [if_neg c2, if_neg (by omega)]; congr 1; omega

noncomputable def hStore (P : Program) (H : Heap) (t : TypeId) (x v : V) : Option Heap :=
  x.onP fun a o => onO (H.t.get a) fun b => b.onC fun ro cs => ifB (notB ro) (onO v.cells fun ds => ifB (allOne ds) (onO (tSize P t) fun n => ifB (Nat.beq n (lenL ds)) (onO (putL o ds cs) fun cs' => some ⟨H.nx, H.t.set a (.c false cs')⟩)))

/-- Cells of a block that are written over. -/
theorem write_rel {ρ ρ' : Ren} {hf hf' : HF} {L : Loc} {w : World} {ro : Bool} {cs cs' ds : List V} {ys : List Value} {o : Nat} (hle : ρ.le ρ') (hro : ro = false) (hb : BR ρ hf L w (.c ro cs)) (hp : putL o ds cs = some cs') (hy : RL ρ' ds ys) (hone : ∀ y ∈ ys, y.oneCell' = true) :
    ∃ new e fz, (storeCells ⟨L.blk, L.base + o, none⟩ ys).run P w = .ok () { w with heap := w.heap.setIfInBounds L.blk (.cells new e fz) } ∧
      BR ρ' hf' L { w with heap := w.heap.setIfInBounds L.blk (.cells new e fz) } (.c false cs') := by
  obtain ⟨arr, e, lo, hi, h1, h2, h3, h4, h5⟩ := hb
  obtain ⟨p1, p2, p3⟩ := putL_some hp
  have ly := hy.length
  have hlt : L.blk < w.heap.size := (Array.getElem?_eq_some_iff.1 h1).1
  have hrun := run_storeCells_ev (P := P) L.blk (L.base + o) e lo hi ys 0 arr w h1 (fun i q => h2 i (.inl q)) (by rw [ly]; omega) hone
  rw [setRow_eq h1, Nat.add_zero] at hrun
  refine ⟨_, e, (lo, hi), hrun, _, e, lo, hi, set_get_same hlt, ?_, ?_, by omega, ?_⟩
  · intro i _
    exact h2 i (.inr hro)
  · simp; omega
  · intro i d hd
    rw [p3 i] at hd
    have hseg := seg_get arr.toList ys (L.base + o) (L.base + i) (by have : arr.toList.length = arr.size := Array.length_toList; omega)
    rw [List.getElem?_toArray, hseg]
    by_cases c : o ≤ i ∧ i < o + ds.length
    · rw [if_pos c] at hd
      rw [if_pos (by rw [ly]; omega)]
      obtain ⟨v, e1, e2⟩ := hy.get hd
      refine ⟨v, ?_, e2⟩
      rw [← e1]; congr 1; omega
    · rw [if_neg c] at hd
      rw [if_neg (by rw [ly]; omega)]
      obtain ⟨v, e1, e2⟩ := h5 i d hd
      exact ⟨v, by rw [Array.getElem?_toList]; exact e1, e2.mono hle⟩

theorem hStore_ok {ρ : Ren} {H H' : Heap} {t : TypeId} {x v : V} {u z : Value} {w : World} (hs : hStore P H t x v = some H') (hr : HRel ρ H.t.get w) (hx : R ρ x u) (hv : R ρ v z) :
    ∃ w', (Instr.storeAt t u z).run P w = .ok () w' ∧ Step ρ ρ H.t.get H'.t.get H.nx H'.nx w w' := by
  obtain ⟨a, o, rfl, h1⟩ := V.onP_inv hs
  obtain ⟨b, hb, h2⟩ := onO_inv h1
  obtain ⟨ro, cs, rfl, h3⟩ := Blk.onC_inv h2
  obtain ⟨hro, h4⟩ := ifB_inv h3
  obtain ⟨ds, hds, h5⟩ := onO_inv h4
  obtain ⟨hone, h6⟩ := ifB_inv h5
  obtain ⟨n, hn, h7⟩ := onO_inv h6
  obtain ⟨hlen, h8⟩ := ifB_inv h7
  obtain ⟨cs', hcs, h9⟩ := onO_inv h8
  injection h9 with h9; subst h9
  have hrf : ro = false := by cases ro; rfl; exact nomatch hro
  subst hrf
  obtain ⟨L, hL, rfl⟩ := hx
  obtain ⟨L', hL', hbr⟩ := hr.at_ a _ hb
  rw [hL] at hL'; cases hL'
  have hz := V.cells_ok hds hv
  have hlen := Nat.eq_of_beq_eq_true hlen
  rw [lenL_eq] at hlen
  have hzl := hz.length
  rw [Array.length_toList] at hzl
  obtain ⟨new, e, fz, g1, g2⟩ := write_rel (P := P) (hf' := upd H.t.get a (some (.c false cs'))) (Ren.le_refl ρ) rfl hbr hcs hz (allOne_ok hone hz)
  refine ⟨{ w with heap := w.heap.setIfInBounds L.blk (.cells new e fz) }, ?_, ?_⟩
  · simp only [Instr.storeAt, Instr.sureAddr, storeVar, Sem.run_bind, Sem.run_pure, Result.andThen_ok, tSize_ok hn]
    rw [if_neg (by rw [hzl]; omega)]
    simpa using g1
  · show Step ρ ρ H.t.get (H.t.set a (.c false cs')).get H.nx H.nx w _
    rw [get_set_upd]
    exact Step.write H.nx hr hb hL rfl g2 (fun v es e => nomatch e)

/-! ### new blocks of cells -/

noncomputable def hNew (H : Heap) (cells : List V) : Heap := ⟨Nat.add H.nx 1, H.t.set H.nx (.c false cells)⟩
/-- A row that a string was turned into. -/
noncomputable def hNewS (H : Heap) (cells : List V) : Heap := ⟨Nat.add H.nx 1, H.t.set H.nx (.c true cells)⟩

theorem new_stepR (ro : Bool) {ρ : Ren} {H : Heap} {cells : List V} {ys : List Value} {w : World} (e : TypeId) (extra : List Value) (fz : Nat × Nat) (hfz : ∀ i, (i < (ys ++ extra).length ∨ ro = false) → ¬ (fz.1 ≤ i ∧ i < fz.2)) (hr : HRel ρ H.t.get w) (hf : ρ H.nx = none) (hc : RL ρ cells ys) :
    Step ρ (updR ρ H.nx ⟨w.heap.size, 0, (ys ++ extra).length⟩) H.t.get (H.t.set H.nx (.c ro cells)).get H.nx (H.nx + 1) w { w with heap := w.heap.push (.cells (ys ++ extra).toArray e fz) } := by
  rw [get_set_upd]
  have hl := hc.length
  refine Step.push _ hr hf ?_ (fun v es e => nomatch e)
  refine ⟨(ys ++ extra).toArray, e, fz.1, fz.2, ?_, ?_, ?_, ?_, ?_⟩
  · show (w.heap.push _)[w.heap.size]? = _
    simp
  · intro i hi; exact hfz i (by simpa using hi)
  · simp
  · simp [← hl]
  · intro i d hd
    obtain ⟨v, e1, e2⟩ := hc.get hd
    refine ⟨v, ?_, e2.mono (updR_le _ hf)⟩
    have hi : i < ys.length := by
      rcases Nat.lt_or_ge i ys.length with h | h
      · exact h
      · rw [List.getElem?_eq_none h] at e1; exact nomatch e1
    rw [Nat.zero_add, List.getElem?_toArray, List.getElem?_append_left hi]; exact e1

theorem new_step {ρ : Ren} {H : Heap} {cells : List V} {ys : List Value} {w : World} (e : TypeId) (extra : List Value) (fz : Nat × Nat) (hfz : ∀ i, True → ¬ (fz.1 ≤ i ∧ i < fz.2)) (hr : HRel ρ H.t.get w) (hf : ρ H.nx = none) (hc : RL ρ cells ys) :
    Step ρ (updR ρ H.nx ⟨w.heap.size, 0, (ys ++ extra).length⟩) H.t.get (hNew H cells).t.get H.nx (H.nx + 1) w { w with heap := w.heap.push (.cells (ys ++ extra).toArray e fz) } :=
  new_stepR false e extra fz (fun i _ => hfz i trivial) hr hf hc

theorem new_ptr {ρ : Ren} {n : Nat} {L : Loc} : R (updR ρ n L) (.p n 0) (.pointer (some ⟨L.blk, L.base, none⟩)) := ⟨L, by unfold updR; rw [if_pos rfl], rfl⟩

/-- A new variable with these cells: its address. -/
noncomputable def hVar (H : Heap) (cells : Option (List V)) : Option (V × Heap) := onO cells fun cs => some (.p H.nx 0, hNew H cs)

theorem hVar_ok {ρ : Ren} {H H' : Heap} {cells : Option (List V)} {v : V} {u : Value} {t : TypeId} {w : World} (h : hVar H cells = some (v, H')) (hr : HRel ρ H.t.get w) (hf : ρ H.nx = none) (hc : ∀ cs, cells = some cs → RL ρ cs u.cells.toList) :
    ∃ a w' ρ', (newVar t u).run P w = .ok a w' ∧ R ρ' v (.pointer (some a)) ∧ Step ρ ρ' H.t.get H'.t.get H.nx H'.nx w w' := by
  obtain ⟨cs, hcs, h1⟩ := onO_inv h
  injection h1 with h1; injection h1 with h1 h2; subst h1; subst h2
  have hs := new_step t [] (0, 0) (fun i _ => by simp) hr hf (hc cs hcs)
  rw [List.append_nil] at hs
  refine ⟨⟨w.heap.size, 0, none⟩, _, _, ?_, new_ptr, hs⟩
  simp [newVar, newRow]

noncomputable def hAlloc (P : Program) (H : Heap) (t : TypeId) : Option (V × Heap) := hVar H (tZero P t)
noncomputable def hBox (H : Heap) (v : V) : Option (V × Heap) := hVar H v.cells

theorem hAlloc_ok {ρ : Ren} {H H' : Heap} {t : TypeId} {v : V} {w : World} (h : hAlloc P H t = some (v, H')) (hr : HRel ρ H.t.get w) (hf : ρ H.nx = none) :
    ∃ y w' ρ', (Instr.alloc t true (.tuple #[])).run P w = .ok y w' ∧ R ρ' v y ∧ Step ρ ρ' H.t.get H'.t.get H.nx H'.nx w w' := by
  obtain ⟨zs, hz, h1⟩ := onO_inv (show (onO (tZero P t) fun cs => some (V.p H.nx 0, hNew H cs)) = some (v, H') from h)
  obtain ⟨y, hy, hyr⟩ := tZero_ok hz ρ w
  obtain ⟨a, w', ρ', g1, g2, g3⟩ := hVar_ok (P := P) (t := t) (u := y) (cells := some zs) (show hVar H (some zs) = some (v, H') from h1) hr hf (fun cs e => by injection e with e; subst e; exact hyr)
  exact ⟨_, w', ρ', by simp [Instr.alloc, hy, g1], g2, g3⟩

theorem hBox_ok {ρ : Ren} {H H' : Heap} {x v : V} {u : Value} (t : TypeId) {w : World} (h : hBox H x = some (v, H')) (hr : HRel ρ H.t.get w) (hf : ρ H.nx = none) (hx : R ρ x u) :
    ∃ y w' ρ', (Instr.box t u).run P w = .ok y w' ∧ R ρ' v y ∧ Step ρ ρ' H.t.get H'.t.get H.nx H'.nx w w' := by
  obtain ⟨a, w', ρ', g1, g2, g3⟩ := hVar_ok (P := P) (t := t) h hr hf (fun cs e => V.cells_ok e hx)
  exact ⟨_, w', ρ', by simp [Instr.box, g1], g2, g3⟩

end Go.Proofs.YtdnlfkmfofckfaaGreatDoor.Ev
