/- append and copy as steps of the heap. -/
import Derived.Test.YtdnlfkmfofckfaaGreatDoorEvM
namespace Go.Proofs.YtdnlfkmfofckfaaGreatDoor.Ev
variable {P : Program}

/-- A block is forgotten. -/
theorem Step.drop {ρ : Ren} {h : HF} {w : World} (a n : Nat) (hr : HRel ρ h w) : Step ρ ρ h (upd h a none) n n w w where
  old := fun _ _ => rfl
  rel := by
    have f : ∀ {c : Nat} {b1 : Blk}, upd h a none c = some b1 → h c = some b1 := fun {c b1} e => by
      unfold upd at e
      by_cases c1 : c = a
      · rw [if_pos c1] at e; exact nomatch e
      · rw [if_neg c1] at e; exact e
    refine ⟨fun c b e => ?_, fun c c' b1 b2 L1 L2 e1 e2 => hr.inj c c' b1 b2 L1 L2 (f e1) (f e2)⟩
    obtain ⟨L, g1, g2⟩ := hr.at_ c b (f e)
    exact ⟨L, g1, BR.congr (Ren.le_refl ρ) rfl (fun m ver seen _ v' es hm => ⟨v', es, f hm, Nat.le_refl _, fun _ => ⟨rfl, fun _ _ => rfl⟩⟩) g2⟩
  kept := ⟨Nat.le_refl _, fun _ _ _ => rfl⟩
  own := fun c b L e h3 => by
    unfold upd at e
    by_cases c1 : c = a
    · rw [if_pos c1] at e; exact nomatch e
    · rw [if_neg c1] at e; exact .inr ⟨c, b, L, e, id, h3, rfl⟩
  dom := fun c b e => by
    unfold upd at e
    by_cases c1 : c = a
    · rw [if_pos c1] at e; exact nomatch e
    · rw [if_neg c1] at e; exact .inl ⟨b, e⟩
  le := Nat.le_refl n

/-- A grown slice's new row. -/
theorem grown {ρ : Ren} {H : Heap} {old ds : List V} {o n : Array Value} {rest : Array Value} {e : TypeId} {k cap sz : Nat} {w w' : World} (hr : HRel ρ H.t.get w) (hf : ρ H.nx = none) (ho : RL ρ old o.toList) (hn : RL ρ ds n.toList)
    (hw : w'.heap = w.heap) (ho2 : w'.os = w.os ∧ w'.output = w.output) (hk : k ≤ cap) (hl : old.length + ds.length = k * sz) (hrest : rest.size = (cap - k) * sz) :
    ∃ ρ', R ρ' (.l H.nx 0 k sz none) (.slice (some ⟨w.heap.size, 0, none⟩) k cap) ∧ Step ρ ρ' H.t.get (hNew H (appL old ds)).t.get H.nx (H.nx + 1) w { w' with heap := w'.heap.push (.cells (o ++ n ++ rest) e) } := by
  have hr' := HRel.heap (w' := w') hw hr
  have hs := new_step e rest.toList (0, 0) (fun i _ => by simp) hr' hf (appL_eq old ds ▸ ho.append hn)
  have e1 : ((o.toList ++ n.toList) ++ rest.toList).toArray = o ++ n ++ rest := by apply Array.ext'; simp
  rw [e1] at hs
  have hol := ho.length
  have hnl := hn.length
  refine ⟨_, ?_, hs.heap hw rfl ho2⟩
  rw [hw]
  refine slice_new none hk ?_ (fun j hj => nomatch hj)
  simp only [List.length_append]
  rw [hol, hnl, hl, Array.length_toList, hrest, ← Nat.add_mul]
  exact Nat.mul_le_mul_right _ (by omega)

theorem seg_length (l vs : List Value) (k : Nat) (hk : k + vs.length ≤ l.length) : (l.take k ++ vs ++ l.drop (k + vs.length)).length = l.length := by
  simp only [List.length_append, List.length_take, List.length_drop]; omega

theorem appAt_ok {ρ : Ren} {H H' : Heap} {ts : Array TypeId} {t xt e : TypeId} {a o n0 sz n by_ : Nat} {c : Option Nat} {ds z : List V} {v x : V} {su xu : Value} {w : World} (ty : TypeId)
    (h : appAt H a o n0 sz c n by_ ds = some (v, H')) (h0 : ts[0]? = some t) (hx1 : ts[1]? = some xt) (he : tSlice P t = some e) (hsz : tSize P e = some sz) (hby : tBytes P e = some by_) (hz : tZero P e = some z) (hzl : z.length = sz)
    (hxt : hAppend.notInt P xt = true) (hlen : vLen x = some n) (hds : hSrc H.t sz x n = some ds) (hdl : ds.length = n * sz) (hone : allOne ds = true) (hr : HRel ρ H.t.get w) (hf : ρ H.nx = none) (hs : R ρ (.l a o n0 sz c) su) (hx : R ρ x xu) :
    ∃ y w' ρ', (Builtin.append_ ts ty #[su, xu]).run P w = .ok y w' ∧ R ρ' v y ∧ Step ρ ρ' H.t.get H'.t.get H.nx H'.nx w w' := by
  obtain ⟨b, hb, h1⟩ := onO_inv h
  obtain ⟨ro, cs, rfl, h2⟩ := Blk.onC_inv h1
  obtain ⟨old, hold, h3⟩ := onO_inv h2
  obtain ⟨L, off, cap, hL, rfl, g1, g2, g3, g4, g5⟩ := hs
  obtain ⟨L', hL', hbr⟩ := hr.at_ a _ hb
  rw [hL] at hL'; cases hL'
  have hlen' : ∀ w', (Builtin.lenOf xu).run P w' = .ok n w' := fun w' => vLen_ok w' hlen hx
  obtain ⟨new, hnew', hnr⟩ := hSrc_ok (P := P) hds hlen (Nat.le_refl n) hr hx
  have hnew := hnew' w rfl
  -- the old cells
  have hold' : ∃ oa : Array Value, (∀ w', w'.heap = w.heap → (Builtin.firstCells sz n0 (.slice (some ⟨L.blk, off, none⟩) n0 cap)).run P w' = .ok oa w') ∧ RL ρ old oa.toList ∧ old.length = n0 * sz := by
    cases hz0 : Nat.beq n0 0
    · rw [hz0, ite2_false] at hold
      obtain ⟨ys, e1, e2, e3⟩ := cells_at hbr hold
      have hn0 := Nat.ne_of_beq_eq_false hz0
      have hoff : off = L.base + o := by
        rcases g5 with ⟨q, _⟩ | q
        · omega
        · exact q
      subst hoff
      refine ⟨ys.toArray, fun w' e' => ?_, e2, by have := e2.length; rw [e1] at this; exact this.symm⟩
      have hlc := run_loadCells_list (P := P) w' ⟨L.blk, L.base + o, none⟩ ys (fun j v hv => by have := e3 j v hv; unfold World.cell? at this ⊢; rw [e']; exact this)
      rw [e1] at hlc
      exact hlc
    · rw [hz0, ite2_true] at hold
      injection hold with hold; subst hold
      have := Nat.eq_of_beq_eq_true hz0
      subst this
      refine ⟨#[], fun w' _ => ?_, rfl, by simp⟩
      simp [Builtin.firstCells, loadCells, loadCellsFrom]
  obtain ⟨oa, hoa, hor, hol⟩ := hold'
  have hnl := hnr.length
  have hol2 := hor.length
  cases c with
  | none =>
    obtain ⟨hro, h4⟩ := ifB_inv h3
    obtain ⟨hneed, h5⟩ := ifB_inv h4
    injection h5 with h5; injection h5 with h5 h6; subst h5; subst h6
    have hrf : ro = false := by cases ro; rfl; exact nomatch hro
    subst hrf
    by_cases hroom : n0 + n ≤ cap
    · -- in place: the block goes on under a new name
      obtain ⟨arr, et, lo, hi, b1, b2, b3, b4, b5⟩ := hbr
      have hfit : off + n0 * sz + 0 + new.toList.length ≤ arr.size := by
        rw [hnl, hdl, b3]
        have : (n0 + n) * sz ≤ cap * sz := Nat.mul_le_mul_right _ hroom
        rw [Nat.add_mul] at this
        omega
      have hst := run_storeCells_ev (P := P) L.blk (off + n0 * sz) et lo hi new.toList 0 arr w b1 (fun i q => b2 i (.inl q)) hfit (allOne_ok hone hnr)
      rw [setRow_eq b1, Nat.add_zero] at hst
      have hlt : L.blk < w.heap.size := (Array.getElem?_eq_some_iff.1 b1).1
      refine ⟨_, _, updR ρ H.nx ⟨L.blk, off, L.size⟩, run_room ty h0 hx1 he hsz hxt (hlen' w) hroom hnew hst, ?_, ?_⟩
      · exact ⟨⟨L.blk, off, L.size⟩, off, cap, by unfold updR; rw [if_pos rfl], rfl, hroom, Nat.le_refl _, g3, (fun j hj => nomatch hj), .inr rfl⟩
      · show Step _ _ _ ((H.t.cut a).set H.nx (.c false (appL old ds))).get _ _ _ _
        rw [get_set_upd, get_cut_upd]
        refine Step.move off hr hb hL hf ?_
        refine ⟨_, et, lo, hi, set_get_same hlt, ?_, ?_, ?_, ?_⟩
        · intro i _
          exact b2 i (.inr rfl)
        · rw [List.size_toArray, seg_length _ _ _ (by have : arr.toList.length = arr.size := Array.length_toList; omega), Array.length_toList]
          exact b3
        · rw [appL_eq, List.length_append, hol, hdl]
          have : (n0 + n) * sz ≤ cap * sz := Nat.mul_le_mul_right _ hroom
          rw [Nat.add_mul] at this
          show off + _ ≤ L.size
          omega
        · intro i d hd
          rw [appL_eq] at hd
          have hseg := seg_get arr.toList new.toList (off + n0 * sz) (off + i) (by have : arr.toList.length = arr.size := Array.length_toList; omega)
          rw [List.getElem?_toArray]
          show ∃ v, (List.take (off + n0 * sz) arr.toList ++ new.toList ++ List.drop (off + n0 * sz + new.toList.length) arr.toList)[off + i]? = some v ∧ _
          rw [hseg]
          rcases Nat.lt_or_ge i (n0 * sz) with hi1 | hi1
          · rw [List.getElem?_append_left (by omega)] at hd
            rw [if_neg (by omega)]
            have hn0 : n0 ≠ 0 := by intro e; subst e; simp at hi1
            have hoff : off = L.base + o := by
              rcases g5 with ⟨q, _⟩ | q
              · omega
              · exact q
            have hcut : cutL cs o (n0 * sz) = some old := by
              cases hz0 : Nat.beq n0 0
              · rw [hz0, ite2_false] at hold; exact hold
              · exact absurd (Nat.eq_of_beq_eq_true hz0) hn0
            obtain ⟨rfl, _⟩ := cutL_some hcut
            rw [List.getElem?_take, if_pos hi1, List.getElem?_drop] at hd
            obtain ⟨v, q1, q2⟩ := b5 _ d hd
            refine ⟨v, ?_, q2.mono (updR_le _ hf)⟩
            rw [Array.getElem?_toList, ← q1]; congr 1; omega
          · rw [List.getElem?_append_right (by omega)] at hd
            obtain ⟨v, q1, q2⟩ := hnr.get hd
            have hi2 : i - old.length < new.toList.length := by
              rcases Nat.lt_or_ge (i - old.length) new.toList.length with h | h
              · exact h
              · rw [List.getElem?_eq_none h] at q1; exact nomatch q1
            rw [if_pos (by omega)]
            refine ⟨v, ?_, q2.mono (updR_le _ hf)⟩
            rw [← q1]; congr 1; omega
    · -- a new row; the old block is forgotten
      have hmul : n0 * sz + n * sz = (n0 + n) * sz := (Nat.add_mul _ _ _).symm
      obtain ⟨cap', w', rest, q1, q2, q2e, q3, q4⟩ := run_grow ρ ty h0 hx1 he hsz hby hz hxt (hlen' w) (by omega) hneed hoa hnew'
      have hd := Step.drop a H.nx hr
      have hd' : HRel ρ (⟨H.nx, H.t.cut a⟩ : Heap).t.get w := by
        show HRel ρ (H.t.cut a).get w
        rw [get_cut_upd]; exact hd.rel
      obtain ⟨ρ', r1, r2⟩ := grown (H := ⟨H.nx, H.t.cut a⟩) (e := e) hd' hf hor hnr q2 q2e q3 (by rw [hol, hdl, hmul]) (by rw [q4, hzl])
      refine ⟨_, _, ρ', q1, r1, ?_⟩
      refine hd.trans ?_
      rw [← get_cut_upd]
      exact r2
  | some k =>
    have hck := g4 k rfl
    subst hck
    have h3' : ite2 (Nat.ble (Nat.add n0 n) cap)
        (ifB (notB ro) (onO (putL (Nat.add o (Nat.mul n0 sz)) ds cs) fun cs' => some (V.l a o (Nat.add n0 n) sz (some cap), (⟨H.nx, H.t.set a (.c false cs')⟩ : Heap))))
        (ifB (needsOk (Nat.add n0 n) by_) (some (V.l H.nx 0 (Nat.add n0 n) sz none, hNew H (appL old ds)))) = some (v, H') := h3
    cases hle : Nat.ble (Nat.add n0 n) cap
    · rw [hle, ite2_false] at h3'
      obtain ⟨hneed, h5⟩ := ifB_inv h3'
      injection h5 with h5; injection h5 with h5 h6; subst h5; subst h6
      have hno : ¬ n0 + n ≤ cap := fun hh => by rw [show Nat.ble (Nat.add n0 n) cap = true from Nat.ble_eq_true_of_le hh] at hle; exact nomatch hle
      have hmul : n0 * sz + n * sz = (n0 + n) * sz := (Nat.add_mul _ _ _).symm
      obtain ⟨cap', w', rest, q1, q2, q2e, q3, q4⟩ := run_grow ρ ty h0 hx1 he hsz hby hz hxt (hlen' w) (by omega) hneed hoa hnew'
      obtain ⟨ρ', r1, r2⟩ := grown (e := e) hr hf hor hnr q2 q2e q3 (by rw [hol, hdl, hmul]) (by rw [q4, hzl])
      exact ⟨_, _, ρ', q1, r1, r2⟩
    · rw [hle, ite2_true] at h3'
      obtain ⟨hro, h4⟩ := ifB_inv h3'
      obtain ⟨cs', hput, h5⟩ := onO_inv h4
      injection h5 with h5; injection h5 with h5 h6; subst h5; subst h6
      have hrf : ro = false := by cases ro; rfl; exact nomatch hro
      subst hrf
      have hroom : n0 + n ≤ cap := Nat.le_of_ble_eq_true hle
      have hwr : ∃ new' e' fz, (storeCells ⟨L.blk, off + n0 * sz, none⟩ new.toList).run P w = .ok () { w with heap := w.heap.setIfInBounds L.blk (.cells new' e' fz) } ∧
          BR ρ (upd H.t.get a (some (.c false cs'))) L { w with heap := w.heap.setIfInBounds L.blk (.cells new' e' fz) } (.c false cs') := by
        by_cases hn0 : n = 0
        · -- nothing to write
          subst hn0
          have hdnil : ds = [] := List.length_eq_zero_iff.1 (by rw [hdl]; simp)
          subst hdnil
          have hnn : new.toList = [] := by have := hnr; simpa [RL] using this
          obtain ⟨new', e', fz, w1, w2⟩ := write_rel (P := P) (hf' := upd H.t.get a (some (.c false cs'))) (Ren.le_refl ρ) rfl hbr hput (ys := []) rfl (fun y hy => nomatch hy)
          refine ⟨new', e', fz, ?_, w2⟩
          rw [hnn]
          exact w1
        · have hoff : off = L.base + o := by
            rcases g5 with ⟨q, q2⟩ | q
            · rcases q2 with q2 | q2
              · exact nomatch q2
              · injection q2 with q2; omega
            · exact q
          have hput' : putL (o + n0 * sz) ds cs = some cs' := hput
          obtain ⟨new', e', fz, w1, w2⟩ := write_rel (P := P) (hf' := upd H.t.get a (some (.c false cs'))) (Ren.le_refl ρ) rfl hbr hput' hnr (allOne_ok hone hnr)
          refine ⟨new', e', fz, ?_, w2⟩
          rw [hoff, Nat.add_assoc]; exact w1
      obtain ⟨new', e', fz, w1, w2⟩ := hwr
      refine ⟨_, _, ρ, run_room ty h0 hx1 he hsz hxt (hlen' w) hroom hnew w1, ?_, ?_⟩
      · exact ⟨L, off, cap, hL, rfl, hroom, g2, g3, (fun j hj => by injection hj), by
          rcases g5 with ⟨q, q2⟩ | q
          · rcases q2 with q2 | q2
            · exact nomatch q2
            · injection q2 with q2
              exact .inl ⟨by show n0 + n = 0; omega, .inr (by rw [q2])⟩
          · exact .inr q⟩
      · show Step ρ ρ H.t.get (H.t.set a (.c false cs')).get H.nx H.nx w _
        rw [get_set_upd]
        exact Step.write H.nx hr hb hL rfl w2 (fun v es e => nomatch e)


theorem hAppend_ok {ρ : Ren} {H H' : Heap} {ts : List TypeId} {s x v : V} {su xu : Value} {w : World} (ty : TypeId) (h : hAppend P H ts s x = some (v, H'))
    (hr : HRel ρ H.t.get w) (hf : ρ H.nx = none) (hs : R ρ s su) (hx : R ρ x xu) :
    ∃ y w' ρ', (Builtin.append_ ts.toArray ty #[su, xu]).run P w = .ok y w' ∧ R ρ' v y ∧ Step ρ ρ' H.t.get H'.t.get H.nx H'.nx w w' := by
  obtain ⟨t, ht, h1⟩ := onO_inv h
  obtain ⟨xt, hxt0, h2⟩ := onO_inv h1
  obtain ⟨e, he, h3⟩ := onO_inv h2
  obtain ⟨sz, hsz, h4⟩ := onO_inv h3
  obtain ⟨by_, hby, h5⟩ := onO_inv h4
  obtain ⟨z, hz, h6⟩ := onO_inv h5
  obtain ⟨hzl, h7⟩ := ifB_inv h6
  obtain ⟨hxt, h8⟩ := ifB_inv h7
  obtain ⟨n, hn, h9⟩ := onO_inv h8
  obtain ⟨ds, hds, h10⟩ := onO_inv h9
  obtain ⟨hdl, h11⟩ := ifB_inv h10
  obtain ⟨hone, h12⟩ := ifB_inv h11
  have hzl := Nat.eq_of_beq_eq_true hzl
  rw [lenL_eq] at hzl
  have hdl := Nat.eq_of_beq_eq_true hdl
  rw [lenL_eq] at hdl
  rw [nthL_eq] at ht hxt0
  have h0' : (ts.toArray)[0]? = some t := by simpa using ht
  have h1' : (ts.toArray)[1]? = some xt := by simpa using hxt0
  have hlen := vLen_ok (P := P) w hn hx
  obtain ⟨new, hnew, hnr⟩ := hSrc_ok (P := P) hds hn (Nat.le_refl n) hr hx
  have nothing : n = 0 → ∃ new, (Builtin.firstCells sz 0 xu).run P w = .ok new w ∧ new.toList = [] := by
    intro e; subst e
    refine ⟨new, hnew w rfl, ?_⟩
    have := hnr.length
    rw [hdl, show Nat.mul 0 sz = 0 from Nat.zero_mul sz] at this
    exact List.length_eq_zero_iff.1 this
  unfold V.way at h12
  split at h12
  case h_2 a o n0 es c =>
    obtain ⟨hes, h13⟩ := ifB_inv h12
    have hes := Nat.eq_of_beq_eq_true hes
    subst hes
    cases hz0 : Nat.beq n 0
    · rw [hz0, ite2_false] at h13
      exact appAt_ok ty h13 h0' h1' he hsz hby hz hzl hxt hn hds hdl hone hr hf hs hx
    · rw [hz0, ite2_true] at h13
      injection h13 with h13; injection h13 with h13 h14; subst h13; subst h14
      have hn0 := Nat.eq_of_beq_eq_true hz0
      obtain ⟨L, off, cap, hL, rfl, g1, g2⟩ := hs
      refine ⟨_, w, ρ, run_none ty h0' h1' he hsz hxt (hn0 ▸ hlen) g1 (nothing hn0), ⟨L, off, cap, hL, rfl, g1, g2⟩, Step.refl _ hr⟩
  case h_3 =>
    rw [show su = _ from hs]
    cases hz0 : Nat.beq n 0
    · rw [hz0, ite2_false] at h12
      obtain ⟨hneed, h13⟩ := ifB_inv h12
      injection h13 with h13; injection h13 with h13 h14; subst h13; subst h14
      have hn0 := Nat.ne_of_beq_eq_false hz0
      obtain ⟨cap', w', rest, q1, q2, q2e, q3, q4⟩ := run_grow ρ (base := none) (sLen := 0) (sCap := 0) (old := #[]) ty h0' h1' he hsz hby hz hxt hlen (by omega) (by rw [Nat.zero_add]; exact hneed) (fun _ _ => rfl) hnew
      rw [Nat.zero_add] at q1 q3 q4
      obtain ⟨ρ', r1, r2⟩ := grown (e := e) (old := []) (o := #[]) (sz := sz) hr hf rfl hnr q2 q2e q3 (by simp [hdl]) (by rw [q4, hzl])
      exact ⟨_, _, ρ', q1, r1, r2⟩
    · rw [hz0, ite2_true] at h12
      injection h12 with h12; injection h12 with h12 h14; subst h12; subst h14
      have hn0 := Nat.eq_of_beq_eq_true hz0
      exact ⟨_, w, ρ, run_none ty h0' h1' he hsz hxt (hn0 ▸ hlen) (Nat.le_refl 0) (nothing hn0), rfl, Step.refl _ hr⟩
  all_goals exact nomatch h12

/-! ### copy -/

noncomputable def hCopy (P : Program) (H : Heap) (ts : List TypeId) (d x : V) : Option (V × Heap) :=
  onO (nthL ts 0) fun t => onO (tSlice P t) fun e => onO (tSize P e) fun sz => onO (vLen x) fun m =>
    d.way (fun _ _ => none)
      (fun a o n es _ => ifB (Nat.beq es sz) ((fun k => onO (hSrc H.t sz x k) fun ds => ifB (allOne ds) (ifB (Nat.beq (lenL ds) (Nat.mul k sz)) (ite2 (Nat.beq k 0) (some (.i .i64 (Int.ofNat 0), H))
        (onO (H.t.get a) fun b => b.onC fun ro cs => ifB (notB ro) (onO (putL o ds cs) fun cs' => some (.i .i64 (Int.ofNat k), ⟨H.nx, H.t.set a (.c false cs')⟩)))))) (ite2 (Nat.ble m n) m n)))
      (some (.i .i64 (Int.ofNat 0), H)) (fun _ => none) (fun _ => none)

theorem hCopy_ok {ρ : Ren} {H H' : Heap} {ts : List TypeId} {d x v : V} {du xu : Value} {w : World} (ty : TypeId) (h : hCopy P H ts d x = some (v, H'))
    (hr : HRel ρ H.t.get w) (hd : R ρ d du) (hx : R ρ x xu) :
    ∃ y w', (Builtin.copy_ ts.toArray ty #[du, xu]).run P w = .ok y w' ∧ R ρ v y ∧ Step ρ ρ H.t.get H'.t.get H.nx H'.nx w w' := by
  obtain ⟨t, ht, h1⟩ := onO_inv h
  obtain ⟨e, he, h2⟩ := onO_inv h1
  obtain ⟨sz, hsz, h3⟩ := onO_inv h2
  obtain ⟨m, hm, h4⟩ := onO_inv h3
  rw [nthL_eq] at ht
  have h0' : (ts.toArray)[0]? = some t := by simpa using ht
  have hlen := vLen_ok (P := P) w hm hx
  unfold V.way at h4
  split at h4
  case h_2 a o n es c =>
    obtain ⟨hes, h5⟩ := ifB_inv h4
    have hes := Nat.eq_of_beq_eq_true hes
    subst hes
    have hk : ite2 (Nat.ble m n) m n = Nat.min m n := by
      show _ = min m n
      cases hb : Nat.ble m n
      · have : ¬ m ≤ n := fun hh => by rw [Nat.ble_eq_true_of_le hh] at hb; exact nomatch hb
        rw [ite2_false]; omega
      · have := Nat.le_of_ble_eq_true hb; rw [ite2_true]; omega
    have h5' : (onO (hSrc H.t es x (ite2 (Nat.ble m n) m n)) fun ds => ifB (allOne ds) (ifB (Nat.beq (lenL ds) (Nat.mul (ite2 (Nat.ble m n) m n) es)) (ite2 (Nat.beq (ite2 (Nat.ble m n) m n) 0) (some (V.i .i64 (Int.ofNat 0), H))
        (onO (H.t.get a) fun b => b.onC fun ro cs => ifB (notB ro) (onO (putL o ds cs) fun cs' => some (V.i .i64 (Int.ofNat (ite2 (Nat.ble m n) m n)), (⟨H.nx, H.t.set a (.c false cs')⟩ : Heap))))))) = some (v, H') := h5
    rw [hk] at h5'
    obtain ⟨L, off, cap, hL, rfl, g1, g2, g3, g4, g5⟩ := hd
    obtain ⟨ds, hds, h6⟩ := onO_inv h5'
    obtain ⟨hone, h7⟩ := ifB_inv h6
    obtain ⟨hdl, h8⟩ := ifB_inv h7
    have hdl := Nat.eq_of_beq_eq_true hdl
    rw [lenL_eq] at hdl
    obtain ⟨new, hnew, hnr⟩ := hSrc_ok (P := P) hds hm (Nat.min_le_left m n) hr hx
    have hcopy : ∀ w', (storeCells ⟨L.blk, off, none⟩ new.toList).run P w = .ok () w' → (Builtin.copy_ ts.toArray ty #[.slice (some ⟨L.blk, off, none⟩) n cap, xu]).run P w = .ok (goInt (Nat.min m n : Nat)) w' := by
      intro w' hst
      simp [Builtin.copy_, ht, run_und (tSlice_und he), hlen, tSize_ok hsz, hnew w rfl, hst]
    cases hz0 : Nat.beq (Nat.min m n) 0
    · rw [hz0, ite2_false] at h8
      obtain ⟨b, hb, h9⟩ := onO_inv h8
      obtain ⟨ro, cs, rfl, h10⟩ := Blk.onC_inv h9
      obtain ⟨hro, h11⟩ := ifB_inv h10
      obtain ⟨cs', hput, h12⟩ := onO_inv h11
      injection h12 with h12; injection h12 with h12 h13; subst h12; subst h13
      have hrf : ro = false := by cases ro; rfl; exact nomatch hro
      subst hrf
      have hk0 := Nat.ne_of_beq_eq_false hz0
      have hn0 : n ≠ 0 := by
        intro e; subst e
        exact hk0 (by show min m 0 = 0; omega)
      have hoff : off = L.base + o := by
        rcases g5 with ⟨q, _⟩ | q
        · exact absurd q hn0
        · exact q
      subst hoff
      obtain ⟨L', hL', hbr⟩ := hr.at_ a _ hb
      rw [hL] at hL'; cases hL'
      obtain ⟨new', e', fz, w1, w2⟩ := write_rel (P := P) (hf' := upd H.t.get a (some (.c false cs'))) (Ren.le_refl ρ) rfl hbr hput hnr (allOne_ok hone hnr)
      refine ⟨_, _, hcopy _ w1, rfl, ?_⟩
      show Step ρ ρ H.t.get (H.t.set a (.c false cs')).get H.nx H.nx w _
      rw [get_set_upd]
      exact Step.write H.nx hr hb hL rfl w2 (fun v es e => nomatch e)
    · rw [hz0, ite2_true] at h8
      injection h8 with h8; injection h8 with h8 h13; subst h8; subst h13
      have hk0 := Nat.eq_of_beq_eq_true hz0
      rw [hk0, show Nat.mul 0 es = 0 from Nat.zero_mul es] at hdl
      have hnn : new.toList = [] := by
        have := hnr.length; rw [hdl] at this; exact List.length_eq_zero_iff.1 this
      refine ⟨_, w, hcopy w (by rw [hnn]; rfl), by rw [hk0]; rfl, Step.refl _ hr⟩
  case h_3 =>
    injection h4 with h4; injection h4 with h4 h13; subst h4; subst h13
    rw [show du = _ from hd]
    obtain ⟨ys, hys⟩ : ∃ ys, (Builtin.firstCells sz 0 xu).run P w = .ok ys w := by
      cases hs0 : hSrc H.t sz x 0 with
      | some ds => obtain ⟨ys, q, _⟩ := hSrc_ok (P := P) hs0 hm (Nat.zero_le m) hr hx; exact ⟨ys, q w rfl⟩
      | none =>
        unfold vLen V.way at hm
        split at hm
        · exact nomatch hm
        · obtain ⟨L, off, cap, _, rfl, _⟩ := hx; exact ⟨#[], by simp [Builtin.firstCells, loadCells, loadCellsFrom]⟩
        · rw [show xu = _ from hx]; exact ⟨#[], rfl⟩
        · obtain ⟨s, rfl, _⟩ := hx; exact ⟨_, rfl⟩
        all_goals exact nomatch hm
    refine ⟨goInt 0, w, ?_, rfl, Step.refl _ hr⟩
    have h00 : Nat.min m 0 = 0 := by show min m 0 = 0; omega
    simp [Builtin.copy_, ht, run_und (tSlice_und he), hlen, tSize_ok hsz, hys]
  all_goals exact nomatch h4

end Go.Proofs.YtdnlfkmfofckfaaGreatDoor.Ev
