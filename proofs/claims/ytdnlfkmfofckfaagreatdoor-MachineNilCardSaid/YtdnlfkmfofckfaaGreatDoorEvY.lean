/- A plan is run; a region whose order is drawn. -/
import Derived.Test.YtdnlfkmfofckfaaGreatDoorEvX
namespace Go.Proofs.YtdnlfkmfofckfaaGreatDoor.Ev
variable {P : Program}

noncomputable def sub (F : Tr V) (ts : List Nat) : Tr V := List.rec (motive := fun _ => Tr V) .e (fun t _ ih => ih.set t (getF F t)) ts
theorem getF_sub (F : Tr V) : ∀ (ts : List Nat) (t : Nat), getF (sub F ts) t = .w ∨ (t ∈ ts ∧ getF (sub F ts) t = getF F t)
  | [], t => .inl rfl
  | x :: ts, t => by
    have e : getF (sub F (x :: ts)) t = if t = x then getF F x else getF (sub F ts) t := getF_set (sub F ts) x t (getF F x)
    by_cases h : t = x
    · subst h; rw [e, if_pos rfl]; exact .inr ⟨List.mem_cons_self, rfl⟩
    · rw [e, if_neg h]
      rcases getF_sub F ts t with q | ⟨q1, q2⟩
      · exact .inl q
      · exact .inr ⟨List.mem_cons_of_mem _ q1, q2⟩

/-- With the values that temporaries had at first. -/
noncomputable def subA (F0 : Tr V) (ts : List Nat) (A : Tr V) : Tr V := List.rec (motive := fun _ => Tr V) A (fun t _ ih => ih.set t (getF F0 t)) ts
theorem getF_subA (F0 A : Tr V) : ∀ (ts : List Nat) (t : Nat), getF (subA F0 ts A) t = getF A t ∨ (t ∈ ts ∧ getF (subA F0 ts A) t = getF F0 t)
  | [], t => .inl rfl
  | x :: ts, t => by
    have e : getF (subA F0 (x :: ts) A) t = if t = x then getF F0 x else getF (subA F0 ts A) t := getF_set (subA F0 ts A) x t (getF F0 x)
    by_cases h : t = x
    · subst h; rw [e, if_pos rfl]; exact .inr ⟨List.mem_cons_self, rfl⟩
    · rw [e, if_neg h]
      rcases getF_subA F0 A ts t with q | ⟨q1, q2⟩
      · exact .inl q
      · exact .inr ⟨List.mem_cons_of_mem _ q1, q2⟩

noncomputable def single {α : Type} (l : List α) : Option α := List.rec (motive := fun _ => Option α) none (fun x t _ => List.rec (motive := fun _ => Option α) (some x) (fun _ _ _ => none) t) l
theorem single_inv {α : Type} {l : List α} {x : α} (h : single l = some x) : l = [x] := by
  match l, h with
  | [y], h => injection (show some y = some x from h) with h; rw [h]
  | [], h => exact nomatch (show (none : Option α) = some x from h)
  | _ :: _ :: _, h => exact nomatch (show (none : Option α) = some x from h)

section
variable (P : Program) (cal : Cal) (G n : Nat) (ops : List Oper) (base : Nat) (F0 : Tr V)

noncomputable def isV (v : V) (x : Option V) : Bool := Option.rec (motive := fun _ => Bool) false (fun v' => veq v v') x
noncomputable def preV (s : PSt) (cur : Tr Blk) (hist : List (Nat × Tr Blk)) (Fs : Tr V) : Option V :=
  onO (gd Fs ops s.o.guard) fun b => ite2 b
    (orE (pOp P G Fs s.o.op) (onO (lOp P G cur Fs s.o.op) fun v => ifB (allL (fun q => orB (bit s.anc q.1) (isV v (lOp P G q.2 Fs s.o.op))) hist) (some v)))
    (some (.t []))
noncomputable def isCb (b : Blk) : Bool := match b with | .c _ _ => true | _ => false
noncomputable def preA (s : PSt) (Fs : Tr V) : Option (V × Blk) :=
  onO (gd Fs ops s.o.guard) fun b => ifB b (onO (aOp P G ⟨Nat.add base s.i, leaf⟩ Fs s.o.op) fun p => ifB (Nat.beq p.2.nx (Nat.add (Nat.add base s.i) 1)) (onO (p.2.t.get (Nat.add base s.i)) fun b => ifB (isCb b) (some (p.1, b))))

noncomputable def runD (l : List PSt) : Tr V → Heap → Tr Blk → List (Nat × Tr Blk) → Option (Tr V × Heap) :=
  List.rec (motive := fun _ => Tr V → Heap → Tr Blk → List (Nat × Tr Blk) → Option (Tr V × Heap)) (fun F H _ _ => some (F, H))
    (fun s _ ih F H cur hist => (fun Fs => ite2 s.ch
      (onO (evOne P cal G ops Fs H s.o) fun outs => onO (single outs) fun p => ifB (Nat.ble H.nx p.2.nx) (onO (putF n F s.o.dst p.1) fun F' => ih F' p.2 p.2.t ((s.i, cur) :: hist)))
      (orE (onO (preV P G ops s cur hist Fs) fun v => onO (putF n F s.o.dst v) fun F' => ih F' H cur hist)
        (onO (preA P G ops base s Fs) fun p => onO (putF n F s.o.dst p.1) fun F' => ih F' ⟨H.nx, H.t.set (Nat.add base s.i) p.2⟩ cur hist))) (subA F0 s.t0 (sub F s.ts))) l
end

section
variable {cal : Cal} {G n : Nat} {ops : Array Oper} {base : Nat} {F0 : Tr V} {W0 W : Nat → V} {Hend : Heap}

theorem Good.congr {val val' : Nat → V} {bl bl' : Nat → Option Blk} : ∀ {l : List PSt} {H : Heap} {cur : Tr Blk} {hist : List (Nat × Tr Blk)}, (∀ x ∈ l, val x.i = val' x.i ∧ bl x.i = bl' x.i) →
    Good P G n ops base W0 W val' bl' Hend l H cur hist → Good P G n ops base W0 W val bl Hend l H cur hist := by
  intro l
  induction l with
  | nil => intro H cur hist _ h; exact h
  | cons s l ih =>
    rintro H cur hist he ⟨Fs, h1, h2, h⟩
    obtain ⟨e1, e2⟩ := he s List.mem_cons_self
    have he' : ∀ x ∈ l, val x.i = val' x.i ∧ bl x.i = bl' x.i := fun x hx => he x (List.mem_cons_of_mem _ hx)
    refine ⟨Fs, h1, fun d hd => by rw [e1]; exact h2 d hd, ?_⟩
    by_cases hs : s.ch = true
    · rw [if_pos hs] at h ⊢
      obtain ⟨H', g1, g2, g3⟩ := h
      exact ⟨H', by rw [e1]; exact g1, g2, ih he' g3⟩
    · rw [if_neg hs] at h ⊢
      rcases h with ⟨g1, g2, g3⟩ | ⟨ro, cs, g1, g2, g3⟩
      · exact .inl ⟨by rw [e2]; exact g1, by rw [e1]; exact g2, ih he' g3⟩
      · exact .inr ⟨ro, cs, by rw [e2]; exact g1, by rw [e1]; exact g2, ih he' g3⟩

theorem putF_get {F F' : Tr V} {d : Option Tmp} {v : V} (h : putF n F d v = some F') : (∀ t, d ≠ some t → getF F' t = getF F t) ∧ (∀ t, d = some t → getF F' t = v ∧ t < n) := by
  cases d with
  | none => injection (show some F = some F' from h) with h; subst h; exact ⟨fun _ _ => rfl, fun t e => nomatch e⟩
  | some d =>
    have hp' : Bool.rec (motive := fun _ => Option (Tr V)) none (some (F.set d v)) (Nat.ble (d + 1) n) = some F' := h
    cases e : Nat.ble (d + 1) n
    · rw [e] at hp'; exact nomatch hp'
    · rw [e] at hp'; injection hp' with hp'; subst hp'
      refine ⟨fun t ht => ?_, fun t ht => ?_⟩
      · rw [getF_set, if_neg (fun q => ht (by rw [q]))]
      · injection ht with ht; subst ht
        exact ⟨by rw [getF_set, if_pos rfl], Nat.le_of_ble_eq_true e⟩

theorem runD_ok (hcal : CalOk P G cal) {Fend : Tr V} : ∀ (l : List PSt) (F : Tr V) (H : Heap) (cur : Tr Blk) (hist : List (Nat × Tr Blk)), (l.map (·.i)).Nodup → POrd l →
    runD P cal G n ops.toList base F0 l F H cur hist = some (Fend, Hend) →
    (∃ val bl, Good P G n ops base (getF F0) (getF Fend) val bl Hend l H cur hist ∧ ∀ s ∈ l, ∀ d, s.o.dst = some d → getF Fend d = val s.i) ∧
    (∀ t, (∀ x ∈ l, x.o.dst ≠ some t) → getF Fend t = getF F t) ∧ ∀ s ∈ l, ∀ d, s.o.dst = some d → d < n := by
  intro l
  induction l with
  | nil =>
    intro F H cur hist _ _ h
    injection (show some (F, H) = some (Fend, Hend) from h) with h; injection h with h1 h2; subst h1; subst h2
    exact ⟨⟨fun _ => .w, fun _ => none, rfl, fun s hs => nomatch hs⟩, fun _ _ => rfl, fun s hs => nomatch hs⟩
  | cons s l ih =>
    intro F H cur hist hnd hord h
    rw [List.map_cons, List.nodup_cons] at hnd
    obtain ⟨o1, o2, o3⟩ := hord
    -- what is common to all the ways
    have key : ∀ (v : V) (b : Option Blk) (F' : Tr V) (H' : Heap) (cur' : Tr Blk) (hist' : List (Nat × Tr Blk)), putF n F s.o.dst v = some F' →
        runD P cal G n ops.toList base F0 l F' H' cur' hist' = some (Fend, Hend) →
        (FsOk (getF F0) (getF Fend) s (subA F0 s.t0 (sub F s.ts)) → ∀ val bl, Good P G n ops base (getF F0) (getF Fend) val bl Hend l H' cur' hist' → val s.i = v → bl s.i = b → getF Fend = getF Fend → (∀ d, s.o.dst = some d → getF Fend d = val s.i) →
          Good P G n ops base (getF F0) (getF Fend) val bl Hend (s :: l) H cur hist) →
        (∃ val bl, Good P G n ops base (getF F0) (getF Fend) val bl Hend (s :: l) H cur hist ∧ ∀ x ∈ s :: l, ∀ d, x.o.dst = some d → getF Fend d = val x.i) ∧
        (∀ t, (∀ x ∈ s :: l, x.o.dst ≠ some t) → getF Fend t = getF F t) ∧ ∀ x ∈ s :: l, ∀ d, x.o.dst = some d → d < n := by
      intro v b F' H' cur' hist' hput hrun hgood
      obtain ⟨⟨val, bl, hg, hval⟩, hkeep, hdst⟩ := ih F' H' cur' hist' hnd.2 o3 hrun
      obtain ⟨p1, p2⟩ := putF_get hput
      have hne : ∀ x ∈ l, x.i ≠ s.i := fun x hx e => hnd.1 (List.mem_map.2 ⟨x, hx, e⟩)
      have hW : ∀ d, s.o.dst = some d → getF Fend d = v := fun d hd => by
        rw [hkeep d (o2 d hd)]; exact (p2 d hd).1
      have hall : ∀ t, (∀ x ∈ s :: l, x.o.dst ≠ some t) → getF Fend t = getF F t := fun t ht => by
        rw [hkeep t fun x hx => ht x (List.mem_cons_of_mem _ hx)]
        exact p1 t (ht s List.mem_cons_self)
      refine ⟨⟨fun i => if i = s.i then v else val i, fun i => if i = s.i then b else bl i, ?_, fun x hx d hd => ?_⟩, hall, fun x hx d hd => ?_⟩
      · refine hgood (fun t => ?_) _ _ (Good.congr (fun x hx => ⟨if_neg (hne x hx), if_neg (hne x hx)⟩) hg) (if_pos rfl) (if_pos rfl) rfl (fun d hd => (hW d hd).trans (if_pos rfl).symm)
        rcases getF_subA F0 (sub F s.ts) s.t0 t with q0 | ⟨q1, q2⟩
        · rw [q0]
          rcases getF_sub F s.ts t with q | ⟨q1, q2⟩
          · exact .inl q
          · exact .inr (.inl ⟨q1, by rw [q2, hall t (o1 t q1)]⟩)
        · exact .inr (.inr ⟨q1, q2⟩)
      · cases hx with
        | head => exact (hW d hd).trans (if_pos rfl).symm
        | tail _ hx => exact (hval x hx d hd).trans (if_neg (hne x hx)).symm
      · cases hx with
        | head => exact (p2 d hd).2
        | tail _ hx => exact hdst x hx d hd
    have h : ite2 s.ch
      (onO (evOne P cal G ops.toList (subA F0 s.t0 (sub F s.ts)) H s.o) fun outs => onO (single outs) fun p => ifB (Nat.ble H.nx p.2.nx) (onO (putF n F s.o.dst p.1) fun F' => runD P cal G n ops.toList base F0 l F' p.2 p.2.t ((s.i, cur) :: hist)))
      (orE (onO (preV P G ops.toList s cur hist (subA F0 s.t0 (sub F s.ts))) fun v => onO (putF n F s.o.dst v) fun F' => runD P cal G n ops.toList base F0 l F' H cur hist)
        (onO (preA P G ops.toList base s (subA F0 s.t0 (sub F s.ts))) fun p => onO (putF n F s.o.dst p.1) fun F' => runD P cal G n ops.toList base F0 l F' ⟨H.nx, H.t.set (Nat.add base s.i) p.2⟩ cur hist)) = some (Fend, Hend) := h
    cases hs : s.ch
    · rw [hs, ite2_false] at h
      rcases orE_inv h with h | h
      · obtain ⟨v, h1, h2⟩ := onO_inv h
        obtain ⟨F', h3, h4⟩ := onO_inv h2
        refine key v none F' H cur hist h3 h4 fun hFs val bl hg hv hb _ hW => ⟨_, hFs, hW, ?_⟩
        rw [if_neg (by rw [hs]; exact Bool.false_ne_true)]
        refine .inl ⟨hb, fun x hx m Q' => ?_, hg⟩
        rw [hv]
        obtain ⟨b, g1, g2⟩ := onO_inv (show onO (gd (subA F0 s.t0 (sub F s.ts)) ops.toList s.o.guard) (fun b => ite2 b
            (orE (pOp P G (subA F0 s.t0 (sub F s.ts)) s.o.op) (onO (lOp P G cur (subA F0 s.t0 (sub F s.ts)) s.o.op) fun v => ifB (allL (fun q => orB (bit s.anc q.1) (isV v (lOp P G q.2 (subA F0 s.t0 (sub F s.ts)) s.o.op))) hist) (some v)))
            (some (.t []))) = some v from h1)
        cases b
        · rw [ite2_false] at g2; injection g2 with g2; subst g2
          exact op_skip g1
        · rw [ite2_true] at g2
          rcases orE_inv g2 with g2 | g2
          · exact op_pure g1 g2
          · obtain ⟨v', g3, g4⟩ := onO_inv g2
            obtain ⟨g5, g6⟩ := ifB_inv g4
            injection g6 with g6; subst g6
            rcases hx with rfl | ⟨c, c1, c2⟩
            · exact op_load (H := ⟨m, x⟩) g1 g3
            · have := allL_inv g5 _ c1
              rw [orB_eq, Bool.or_eq_true] at this
              rcases this with this | this
              · rw [show bit s.anc c = true from this] at c2; exact nomatch c2
              · have : isV v' (lOp P G x (subA F0 s.t0 (sub F s.ts)) s.o.op) = true := this
                cases q : lOp P G x (subA F0 s.t0 (sub F s.ts)) s.o.op with
                | none => rw [q] at this; exact nomatch this
                | some v'' =>
                  rw [q] at this
                  have e : v' = v'' := veq_ok (show veq v' v'' = true from this)
                  subst e
                  exact op_load (H := ⟨m, x⟩) g1 q
      · obtain ⟨⟨v, b⟩, h1, h2⟩ := onO_inv h
        obtain ⟨F', h3, h4⟩ := onO_inv h2
        refine key v (some b) F' _ cur hist h3 h4 fun hFs val bl hg hv hb _ hW => ⟨_, hFs, hW, ?_⟩
        rw [if_neg (by rw [hs]; exact Bool.false_ne_true)]
        obtain ⟨gb, g1, g2⟩ := onO_inv (show onO (gd (subA F0 s.t0 (sub F s.ts)) ops.toList s.o.guard) (fun b => ifB b (onO (aOp P G ⟨Nat.add base s.i, leaf⟩ (subA F0 s.t0 (sub F s.ts)) s.o.op) fun p => ifB (Nat.beq p.2.nx (Nat.add (Nat.add base s.i) 1)) (onO (p.2.t.get (Nat.add base s.i)) fun b => ifB (isCb b) (some (p.1, b))))) = some (v, b) from h1)
        obtain ⟨rfl, g3⟩ := ifB_inv g2
        obtain ⟨⟨v', H''⟩, g4, g5⟩ := onO_inv g3
        obtain ⟨g6, g7⟩ := ifB_inv g5
        obtain ⟨b', g8, g9⟩ := onO_inv g7
        obtain ⟨g10, g11⟩ := ifB_inv g9
        injection g11 with g11; injection g11 with g12 g13; subst g13
        have g12 : v' = v := g12
        subst g12
        have hC : ∃ ro cs, b' = .c ro cs := by
          cases b' <;> first | exact ⟨_, _, rfl⟩ | exact nomatch (show (false : Bool) = true from g10)
        obtain ⟨ro, cs, rfl⟩ := hC
        refine .inr ⟨ro, cs, hb, ⟨H'', Nat.eq_of_beq_eq_true g6, g8, fun Q' => ?_⟩, hg⟩
        rw [hv]
        exact op_alloc (H := ⟨base + s.i, leaf⟩) g1 (fun ρ hρ => hρ) g4
    · rw [hs, ite2_true] at h
      obtain ⟨outs, h1, h2⟩ := onO_inv h
      obtain ⟨⟨v, H'⟩, h3, h4⟩ := onO_inv h2
      obtain ⟨h5, h6⟩ := ifB_inv h4
      obtain ⟨F', h7, h8⟩ := onO_inv h6
      have h3 := single_inv h3
      subst h3
      refine key v none F' H' H'.t ((s.i, cur) :: hist) h7 h8 fun hFs val bl hg hv _ _ hW => ⟨_, hFs, hW, ?_⟩
      rw [if_pos hs]
      refine ⟨H', fun Q' => ?_, Nat.le_of_ble_eq_true h5, hg⟩
      rw [hv]
      exact evOne_ok hcal h1
end

/-! ### the region -/

noncomputable def evDraw (P : Program) (cal : Cal) (G n : Nat) (ops : List Oper) (F : Tr V) (H : Heap) : Option (Tr V × Heap) :=
  onO (mkPlan ops) fun flat => runD P cal G n ops H.nx F flat F ⟨Nat.add H.nx (lenL ops), H.t⟩ H.t []

theorem evDraw_ok {cal : Cal} {G n : Nat} {ops : Array Oper} {F F' : Tr V} {H H' : Heap} (hcal : CalOk P G cal) (hmix : P.follows .mixedOrders = true) (h : evDraw P cal G n ops.toList F H = some (F', H'))
    {ρ : Ren} {a : Act} {w : World} (hg : Glob ρ G) (hF : FRel ρ F n a) (hr : HRel ρ H.t.get w) (hf : Fresh ρ H.nx) {Q : Exit → Act → World → Prop} {id : Nat}
    (hQ : ∀ ρ' a' w', FRel ρ' F' n a' → Step ρ ρ' H.t.get H'.t.get H.nx H'.nx w w' → a'.defers = a.defers → Q .normal a' w') : (Code.region id ops true).wp P Q a w := by
  obtain ⟨flat, h1, h2⟩ := onO_inv h
  obtain ⟨hp, ho⟩ := mkPlan_ok h1
  obtain ⟨⟨val, bl, hgood, hval⟩, hkeep, hdst⟩ := runD_ok hcal flat F _ _ _ hp.nodup ho h2
  refine wp_region_any hmix ?_
  have hLd : ∀ i, ¬ Ld (Array.replicate ops.size false) i := fun i => by unfold Ld; simp [Array.getElem?_replicate]; split <;> simp
  refine DInv.any (base := H.nx) (W0 := getF F) (W := getF F') (val := val) (bl := bl) (Hend := H') (ρ0 := ρ) (h0 := H.t.get) (w0 := w) (ds := a.defers) (G := G) hp hdst hval
    (fun ρ' a' w' q1 q2 q3 q4 _ => hQ ρ' a' w' ⟨q1, q2⟩ q3 q4) ops.size (List.range ops.size) (by simp) [] flat ⟨H.nx + ops.size, H.t⟩ [] _ ρ a _ ?_ ?_
  · have hmono := hgood.mono
    have hmono : Nat.add H.nx (lenL ops.toList) ≤ H'.nx := hmono
    have hx : un H.t.get (ext H.nx bl (fun i => Ld (Array.replicate ops.size false) i ∧ ∃ s ∈ flat, s.i = i)) = H.t.get := by
      funext a
      cases q : H.t.get a with
      | some b => exact un_left q
      | none =>
        rw [un_right q]
        unfold ext
        rw [if_neg (fun z => hLd _ z.2.1)]
    have e0 : lenL ops.toList = ops.size := by rw [lenL_eq]; simp
    refine
      { split := rfl
        done := fun s hs => nomatch hs
        chs := fun s _ _ => hLd _
        good := by rw [← e0]; exact hgood
        down := fun s _ hl => absurd hl (hLd _)
        size := by simp
        fsz := hF.size
        fr := fun t ht => by
          rw [hkeep t fun x hx => ht x hx (hLd _)]; exact hF.at_ t
        fr0 := fun t _ => hF.at_ t
        fresh := fun a ha => hf a (Nat.le_trans (Nat.le_add_right _ _) ha)
        free := fun s _ _ => hf _ (Nat.le_add_right _ _)
        dj := fun s hs => ?_
        nxb := Nat.le_refl _
        glob := hg
        step := ?_
        defers := rfl }
    · cases q : H.t.get (H.nx + s.i) with
      | none => rfl
      | some b =>
        obtain ⟨L, g1, _⟩ := hr.at_ _ _ q
        rw [hf _ (Nat.le_add_right _ _)] at g1; exact nomatch g1
    · have h0 : Step ρ ρ H.t.get H.t.get H.nx H.nx w { w with drawn := w.drawn + 1 } := Step.heap (w := w) (w1 := w) (w' := { w with drawn := w.drawn + 1 }) (w1' := w) rfl rfl (Step.refl H.nx hr)
      refine (h0.widen (Nat.le_refl _) (Nat.le_trans (Nat.le_add_right _ _) hmono)).same rfl ?_
      exact hx.symm
  · intro s hs _
    exact List.mem_range.2 (Array.getElem?_eq_some_iff.1 (hp.op s hs)).1

end Go.Proofs.YtdnlfkmfofckfaaGreatDoor.Ev
