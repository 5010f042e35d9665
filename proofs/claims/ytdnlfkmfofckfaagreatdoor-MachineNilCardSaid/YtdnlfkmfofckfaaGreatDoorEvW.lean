/- Every order in which a region's operations may be drawn comes to what its plan has shown. -/
import Derived.Test.YtdnlfkmfofckfaaGreatDoorEvV
namespace Go.Proofs.YtdnlfkmfofckfaaGreatDoor.Ev
variable {P : Program}

theorem last_of {l : List PSt} (h : ∃ x ∈ l, x.ch = true) : ∃ u x v, l = u ++ x :: v ∧ x.ch = true ∧ ∀ y ∈ v, y.ch = false := by
  induction l with
  | nil => obtain ⟨x, hx, _⟩ := h; exact nomatch hx
  | cons s l ih =>
    by_cases hl : ∃ x ∈ l, x.ch = true
    · obtain ⟨u, x, v, e, h1, h2⟩ := ih hl
      exact ⟨s :: u, x, v, by rw [e]; rfl, h1, h2⟩
    · obtain ⟨x, hx, hc⟩ := h
      cases hx with
      | head =>
        refine ⟨[], s, l, rfl, hc, fun y hy => ?_⟩
        cases q : y.ch with
        | false => rfl
        | true => exact absurd ⟨y, hy, q⟩ hl
      | tail _ hx => exact absurd ⟨x, hx, hc⟩ hl

def Ld (listed : Array Bool) (i : Nat) : Prop := listed.getD i false = true
instance (listed : Array Bool) : DecidablePred (Ld listed) := fun i => inferInstanceAs (Decidable (listed.getD i false = true))

theorem Ld_set {listed : Array Bool} {i j : Nat} (hi : i < listed.size) : Ld (listed.setIfInBounds i true) j ↔ (j = i ∨ Ld listed j) := by
  unfold Ld
  by_cases e : j = i
  · subst e; simp [hi]
  · rw [getD_set_ne false (fun h => e h.symm)]
    simp [e]

section
variable (P : Program) (G n : Nat) (ops : Array Oper) (flat : List PSt) (base : Nat) (W0 W : Nat → V) (val : Nat → V) (bl : Nat → Option Blk) (Hend : Heap) (ρ0 : Ren) (h0 : HF) (w0 : World) (ds : List Deferred)

open Classical in
structure DInv (l1 l2 : List PSt) (H1 : Heap) (hist : List (Nat × Tr Blk)) (listed : Array Bool) (ρ : Ren) (a : Act) (w : World) : Prop where
  split : flat = l1 ++ l2
  done : ∀ s ∈ l1, Ld listed s.i
  chs : ∀ s ∈ l2, s.ch = true → ¬ Ld listed s.i
  good : Good P G n ops base W0 W val bl Hend l2 H1 H1.t hist
  down : ∀ s ∈ flat, Ld listed s.i → ∀ j, bit s.anc j = true → Ld listed j
  size : listed.size = ops.size
  fsz : a.tmps.size = n
  fr : ∀ t, (∀ s ∈ flat, ¬ Ld listed s.i → s.o.dst ≠ some t) → R ρ (W t) (a.tmps.getD t undef)
  fr0 : ∀ t, (∀ s ∈ flat, Ld listed s.i → s.o.dst ≠ some t) → R ρ (W0 t) (a.tmps.getD t undef)
  fresh : Fresh ρ H1.nx
  free : ∀ s ∈ flat, ¬ Ld listed s.i → ρ (base + s.i) = none
  dj : ∀ s ∈ l2, H1.t.get (base + s.i) = none
  nxb : base + ops.size ≤ H1.nx
  glob : Glob ρ G
  step : Step ρ0 ρ h0 (un H1.t.get (ext base bl (fun i => Ld listed i ∧ ∃ s ∈ l2, s.i = i))) base Hend.nx w0 w
  defers : a.defers = ds
end

section
variable {G n : Nat} {ops : Array Oper} {flat : List PSt} {base : Nat} {W0 W : Nat → V} {val : Nat → V} {bl : Nat → Option Blk} {Hend : Heap} {ρ0 : Ren} {h0 : HF} {w0 : World} {ds : List Deferred}
  {l1 l2 : List PSt} {H1 : Heap} {hist : List (Nat × Tr Blk)} {listed : Array Bool} {ρ : Ren} {a : Act} {w : World}

theorem DInv.frel (I : DInv P G n ops flat base W0 W val bl Hend ρ0 h0 w0 ds l1 l2 H1 hist listed ρ a w) (hp : PlanOk ops flat) {s : PSt} (hs : s ∈ flat) (hn : ¬ Ld listed s.i) (ha : ∀ j, bit s.anc j = true → Ld listed j) {Fs : Tr V} (h : FsOk W0 W s Fs) : FRel ρ Fs n a := by
  refine ⟨I.fsz, fun t => ?_⟩
  rcases h t with h | ⟨h1, h2⟩ | ⟨h1, h2⟩
  · rw [h]; exact trivial
  · rw [h2]
    exact I.fr t fun s' hs' hl hd => hl (ha _ (hp.ts s hs t h1 s' hs' hd))
  · rw [h2]
    exact I.fr0 t fun s' hs' hl hd => hn (I.down s' hs' hl _ (hp.ts0 s hs t h1 s' hs' hd))

theorem put_other {a : Act} {d : Option Tmp} {t : Nat} {y : Value} (h : d ≠ some t) : (a.put d y).tmps.getD t undef = a.tmps.getD t undef := by
  cases d with
  | none => rfl
  | some d =>
    have hne : d ≠ t := fun e => h (by rw [e])
    simp only [Act.put, Array.getD_eq_getD_getElem?]
    rw [Array.getElem?_setIfInBounds_ne hne]

theorem DInv.fr0_put (I : DInv P G n ops flat base W0 W val bl Hend ρ0 h0 w0 ds l1 l2 H1 hist listed ρ a w) (hp : PlanOk ops flat) {s : PSt} (hs : s ∈ flat) {ρ' : Ren} (hle : ρ.le ρ') (y : Value) :
    ∀ t, (∀ s' ∈ flat, Ld (listed.setIfInBounds s.i true) s'.i → s'.o.dst ≠ some t) → R ρ' (W0 t) ((a.put s.o.dst y).tmps.getD t undef) := by
  intro t ht
  have hsz : s.i < listed.size := by
    rw [I.size]; exact (Array.getElem?_eq_some_iff.1 (hp.op s hs)).1
  rw [put_other (ht s hs ((Ld_set hsz).2 (.inl rfl)))]
  exact (I.fr0 t fun s' hs' hl => ht s' hs' ((Ld_set hsz).2 (.inr hl))).mono hle

/-- The frame once an operation's value is put. -/
theorem DInv.fr_put (I : DInv P G n ops flat base W0 W val bl Hend ρ0 h0 w0 ds l1 l2 H1 hist listed ρ a w) (hp : PlanOk ops flat) (hdst : ∀ s ∈ flat, ∀ d, s.o.dst = some d → d < n) {s : PSt} (hs : s ∈ flat) {ρ' : Ren} (hle : ρ.le ρ') {y : Value} (hy : R ρ' (val s.i) y) (hW : ∀ d, s.o.dst = some d → W d = val s.i) :
    ∀ t, (∀ s' ∈ flat, ¬ Ld (listed.setIfInBounds s.i true) s'.i → s'.o.dst ≠ some t) → R ρ' (W t) ((a.put s.o.dst y).tmps.getD t undef) := by
  intro t ht
  have hsz : s.i < listed.size := by
    rw [I.size]; exact (Array.getElem?_eq_some_iff.1 (hp.op s hs)).1
  by_cases hd : s.o.dst = some t
  · rw [hW t hd, hd]
    have htn : t < a.tmps.size := by rw [I.fsz]; exact hdst s hs t hd
    have : (a.put (some t) y).tmps.getD t undef = y := by simp [Act.put, Array.getD, htn]
    rw [this]; exact hy
  · have h1 : R ρ (W t) (a.tmps.getD t undef) := I.fr t fun s' hs' hl => by
      by_cases e : s'.i = s.i
      · have : s'.o = s.o := by
          have h2 := hp.op s' hs'
          rw [e, hp.op s hs] at h2; injection h2 with h2; exact h2.symm
        rw [this]; exact hd
      · exact ht s' hs' fun q => by
          rcases (Ld_set hsz).1 q with q | q
          · exact e q
          · exact hl q
    have : (a.put s.o.dst y).tmps.getD t undef = a.tmps.getD t undef := by
      cases q : s.o.dst with
      | none => rfl
      | some d =>
        rw [q] at hd
        have hne : d ≠ t := fun e => hd (by rw [e])
        simp only [Act.put, Array.getD_eq_getD_getElem?]
        rw [Array.getElem?_setIfInBounds_ne hne]
    rw [this]; exact h1.mono hle

theorem put_size (a : Act) (d : Option Tmp) (y : Value) : (a.put d y).tmps.size = a.tmps.size := by
  cases d <;> simp [Act.put]
theorem put_defers (a : Act) (d : Option Tmp) (y : Value) : (a.put d y).defers = a.defers := by
  cases d <;> rfl

open Classical in
theorem DInv.go (hp : PlanOk ops flat) (hdst : ∀ s ∈ flat, ∀ d, s.o.dst = some d → d < n) (hW : ∀ s ∈ flat, ∀ d, s.o.dst = some d → W d = val s.i)
    (I : DInv P G n ops flat base W0 W val bl Hend ρ0 h0 w0 ds l1 l2 H1 hist listed ρ a w) {s : PSt} (hs : s ∈ flat) (hn : ¬ Ld listed s.i) (ha : ∀ j, bit s.anc j = true → Ld listed j)
    {Q : Exit → Act → World → Prop} {K : Act → World → Prop}
    (hK : ∀ l1' l2' H1' hist' ρ' a' w', DInv P G n ops flat base W0 W val bl Hend ρ0 h0 w0 ds l1' l2' H1' hist' (listed.setIfInBounds s.i true) ρ' a' w' → K a' w') : wpO P ops Q s.o K a w := by
  have hsz : s.i < listed.size := by
    rw [I.size]; exact (Array.getElem?_eq_some_iff.1 (hp.op s hs)).1
  have hr : HRel ρ (un H1.t.get (ext base bl (fun i => Ld listed i ∧ ∃ s ∈ l2, s.i = i))) w := I.step.rel
  have hs2 : s ∈ l2 := by
    have := hs; rw [I.split] at this
    rcases List.mem_append.1 this with q | q
    · exact absurd (I.done s q) hn
    · exact q
  have hnd2 : (l2.map (·.i)).Nodup := by
    have := hp.nodup; rw [I.split, List.map_append] at this
    exact (List.nodup_append.1 this).2.1
  have hl2f : ∀ x ∈ l2, x ∈ flat := fun x hx => by rw [I.split]; exact List.mem_append_right _ hx
  have hlt : ∀ x ∈ flat, x.i < ops.size := fun x hx => (Array.getElem?_eq_some_iff.1 (hp.op x hx)).1
  have hdown : ∀ x ∈ flat, Ld (listed.setIfInBounds s.i true) x.i → ∀ j, bit x.anc j = true → Ld (listed.setIfInBounds s.i true) j := by
    intro x hx hl j hj
    refine (Ld_set hsz).2 (.inr ?_)
    rcases (Ld_set hsz).1 hl with q | q
    · have : x = s := by
        have h1 : x.i = s.i := q
        -- the same place, the same entry
        have hi : ∀ (l : List PSt), (l.map (·.i)).Nodup → ∀ x ∈ l, ∀ y ∈ l, x.i = y.i → x = y := by
          intro l
          induction l with
          | nil => intro _ x hx; exact nomatch hx
          | cons z l ih =>
            intro hnd x hx y hy e
            simp only [List.map_cons, List.nodup_cons] at hnd
            cases hx with
            | head => cases hy with
              | head => rfl
              | tail _ hy => exact absurd (List.mem_map.2 ⟨y, hy, e.symm⟩) hnd.1
            | tail _ hx => cases hy with
              | head => exact absurd (List.mem_map.2 ⟨x, hx, e⟩) hnd.1
              | tail _ hy => exact ih hnd.2 x hx y hy e
        exact hi flat hp.nodup x hx s hs h1
      subst this; exact ha j hj
    · exact I.down x hx q j hj
  have hcells : ∀ x ∈ l2, Ld listed x.i → ∀ b, bl x.i = some b → ∃ ro cs, b = .c ro cs := fun x hx hl => I.good.cells x hx (by
    cases q : x.ch with
    | false => rfl
    | true => exact absurd hl (I.chs x hx q))
  cases hc : s.ch with
  | true =>
    obtain ⟨m1, m2, hsp⟩ := List.append_of_mem hs2
    have hm1n : ∀ x ∈ m1, x.ch = false := by
      intro x hx
      cases q : x.ch with
      | false => rfl
      | true =>
        obtain ⟨u, y, v, e, h1, h2⟩ := last_of (l := m1) ⟨x, hx, q⟩
        have hb := hp.nxt (l1 ++ u) y v s m2 (by rw [I.split, hsp, e]; simp) h2 hc
        exact absurd (ha _ hb) (I.chs y (by rw [hsp, e]; simp) h1)
    have hm1 : ∀ x ∈ m1, Ld listed x.i := by
      intro x hx
      obtain ⟨u, v, e⟩ := List.append_of_mem hx
      exact ha _ (hp.nxt (l1 ++ u) x v s m2 (by rw [I.split, hsp, e]; simp) (fun y hy => hm1n y (by rw [e]; simp [hy])) hc)
    have hgood := I.good
    rw [hsp] at hgood
    obtain ⟨X, Fs, H', hX, hFs, hop, hmono, hgood'⟩ := hgood.next hm1n hc
    have hm2l : ∀ x ∈ m2, x ∈ l2 := fun x hx => by rw [hsp]; simp [hx]
    have hm1l : ∀ x ∈ m1, x ∈ l2 := fun x hx => by rw [hsp]; simp [hx]
    have hnd : (m1.map (·.i)).Nodup ∧ s.i ∉ m2.map (·.i) ∧ ∀ x ∈ m1, ∀ y ∈ m2, x.i ≠ y.i := by
      rw [hsp, List.map_append, List.map_cons] at hnd2
      obtain ⟨h1, h2, h3⟩ := List.nodup_append.1 hnd2
      refine ⟨h1, (List.nodup_cons.1 h2).1, fun x hx y hy => ?_⟩
      exact h3 _ (List.mem_map.2 ⟨x, hx, rfl⟩) _ (List.mem_cons_of_mem _ (List.mem_map.2 ⟨y, hy, rfl⟩))
    -- what the operation looks at, and what it does not
    have hXsub : ∀ a b, X.get a = some b → un H1.t.get (ext base bl (fun i => Ld listed i ∧ ∃ s ∈ l2, s.i = i)) a = some b := by
      intro a b e
      rw [hX] at e
      rcases un_cases e with e | ⟨_, e⟩
      · obtain ⟨i, e1, ⟨x, hx, hxi⟩, e2⟩ := ext_inv e
        subst e1; subst hxi
        rw [un_right (I.dj x (hm1l x hx)), ext_at (E := fun i => Ld listed i ∧ ∃ s ∈ l2, s.i = i) ⟨hm1 x hx, x, hm1l x hx, rfl⟩]; exact e2
      · exact un_left e
    have hXm2 : ∀ x ∈ m2, X.get (base + x.i) = none := by
      intro x hx
      rw [hX, un_right]
      · exact I.dj x (hm2l x hx)
      · unfold ext
        rw [if_neg]
        rintro ⟨_, z, hz, hzi⟩
        exact hnd.2.2 z hz x hx (by omega)
    have hHD : un H1.t.get (ext base bl (fun i => Ld listed i ∧ ∃ s ∈ l2, s.i = i)) = un X.get (ext base bl (fun i => Ld (listed.setIfInBounds s.i true) i ∧ ∃ x ∈ m2, x.i = i)) := by
      funext a
      cases q : X.get a with
      | some b => rw [hXsub a b q, un_left q]
      | none =>
        rw [un_right q]
        have q' := q
        rw [hX] at q'
        have h1 : ext base bl (fun i => ∃ x ∈ m1, x.i = i) a = none := by
          cases z : ext base bl (fun i => ∃ x ∈ m1, x.i = i) a with
          | none => rfl
          | some b => rw [un_left z] at q'; exact nomatch q'
        rw [un_right h1] at q'
        rw [un_right q']
        unfold ext
        by_cases hb : base ≤ a ∧ (Ld (listed.setIfInBounds s.i true) (a - base) ∧ ∃ x ∈ m2, x.i = a - base)
        · rw [if_pos hb]
          obtain ⟨hb1, hb2, x, hx, hxi⟩ := hb
          refine if_pos ⟨hb1, ?_, x, hm2l x hx, hxi⟩
          rcases (Ld_set hsz).1 hb2 with z | z
          · exact absurd (List.mem_map.2 ⟨x, hx, by rw [hxi, z]⟩) hnd.2.1
          · exact z
        · rw [if_neg hb]
          by_cases hb' : base ≤ a ∧ (Ld listed (a - base) ∧ ∃ x ∈ l2, x.i = a - base)
          · rw [if_pos hb']
            obtain ⟨hb1, hb2, x, hx, hxi⟩ := hb'
            rw [hsp] at hx
            rcases List.mem_append.1 hx with hx | hx
            · unfold ext at h1
              rw [if_pos ⟨hb1, x, hx, hxi⟩] at h1; exact h1
            · cases hx with
              | head => rw [← hxi] at hb2; exact absurd hb2 hn
              | tail _ hx => exact absurd ⟨hb1, (Ld_set hsz).2 (.inr hb2), x, hx, hxi⟩ hb
          · rw [if_neg hb']
    have hYL : ∀ {a b}, ext base bl (fun i => Ld (listed.setIfInBounds s.i true) i ∧ ∃ x ∈ m2, x.i = i) a = some b → ∃ x ∈ m2, a = base + x.i ∧ Ld listed x.i ∧ bl x.i = some b := by
      intro a b e
      obtain ⟨i, e1, ⟨e2, x, hx, hxi⟩, e3⟩ := ext_inv e
      subst hxi
      refine ⟨x, hx, e1, ?_, e3⟩
      rcases (Ld_set hsz).1 e2 with z | z
      · exact absurd (List.mem_map.2 ⟨x, hx, z⟩) hnd.2.1
      · exact z
    refine hop Q ρ a w I.glob (I.frel hp hs hn ha hFs) (hr.sub hXsub) I.fresh K fun p hpm y w' ρ' hy hst => ?_
    rw [List.mem_singleton] at hpm; subst hpm
    have hfree : Free ρ H1.nx H'.nx := fun a h1 _ => I.fresh a h1
    have hfrm := Step.frame (y := ext base bl (fun i => Ld (listed.setIfInBounds s.i true) i ∧ ∃ x ∈ m2, x.i = i)) hst (by rw [← hHD]; exact hr) hfree
      (fun a b e => by
        obtain ⟨x, hx, e1, _, _⟩ := hYL e
        subst e1
        refine ⟨hXm2 x hx, ?_⟩
        have h1 := hlt x (hl2f x (hm2l x hx)); have h2 := I.nxb
        show ¬ (H1.nx ≤ base + x.i ∧ _)
        omega)
      (.inl fun a b e => by
        obtain ⟨x, hx, e1, e2, e3⟩ := hYL e
        exact hcells x (hm2l x hx) e2 b e3)
    have hle := hst.ren hfree
    refine hK (l1 ++ m1 ++ [s]) m2 H' ((s.i, H1.t) :: hist) ρ' _ w'
      { split := by rw [I.split, hsp]; simp
        done := fun x hx => ?_
        chs := fun x hx hxc hl => ?_
        good := hgood'
        down := hdown
        size := by simp [I.size]
        fsz := by rw [put_size]; exact I.fsz
        fr := I.fr_put hp hdst hs hle hy (hW s hs)
        fr0 := I.fr0_put hp hs hle y
        fresh := fun a ha => by
          have hm : H1.nx ≤ H'.nx := hmono
          rw [hst.old a (by show ¬ (H1.nx ≤ a ∧ a < H'.nx); omega)]; exact I.fresh a (by omega)
        free := fun x hx hl => ?_
        dj := fun x hx => ?_
        nxb := Nat.le_trans I.nxb hmono
        glob := I.glob.mono hle
        step := ?_
        defers := by rw [put_defers]; exact I.defers }
    · rw [List.mem_append, List.mem_append] at hx
      rcases hx with (hx | hx) | hx
      · exact (Ld_set hsz).2 (.inr (I.done x hx))
      · exact (Ld_set hsz).2 (.inr (hm1 x hx))
      · rw [List.mem_singleton] at hx; subst hx; exact (Ld_set hsz).2 (.inl rfl)
    · rcases (Ld_set hsz).1 hl with z | z
      · exact hnd.2.1 (List.mem_map.2 ⟨x, hx, z⟩)
      · exact I.chs x (hm2l x hx) hxc z
    · rw [hst.old _ (by
        have h1 := hlt x hx; have h2 := I.nxb
        show ¬ (H1.nx ≤ base + x.i ∧ _); omega)]
      exact I.free x hx fun z => hl ((Ld_set hsz).2 (.inr z))
    · cases q : H'.t.get (base + x.i) with
      | none => rfl
      | some b =>
        rcases hst.dom _ _ q with ⟨b0, z⟩ | z
        · rw [hXm2 x hx] at z; exact nomatch z
        · have h1 := hlt x (hl2f x (hm2l x hx)); have h2 := I.nxb
          have z : H1.nx ≤ base + x.i ∧ _ := z
          omega
    · have h3 := I.nxb
      refine I.step.trans2 (Step.widen ?_ (lo := H1.nx) (hi := H'.nx) (by omega) hgood'.mono)
      exact hfrm.same hHD.symm rfl
  | false =>
    have hch : ∀ x ∈ l2, x.ch = true → ¬ Ld (listed.setIfInBounds s.i true) x.i := fun x hx hxc hl => by
      rcases (Ld_set hsz).1 hl with z | z
      · have h1 : x.o = s.o ∧ x = s := by
          have hi : ∀ (l : List PSt), (l.map (·.i)).Nodup → ∀ x ∈ l, ∀ y ∈ l, x.i = y.i → x = y := by
            intro l
            induction l with
            | nil => intro _ x hx; exact nomatch hx
            | cons z l ih =>
              intro hnd x hx y hy e
              simp only [List.map_cons, List.nodup_cons] at hnd
              cases hx with
              | head => cases hy with
                | head => rfl
                | tail _ hy => exact absurd (List.mem_map.2 ⟨y, hy, e.symm⟩) hnd.1
              | tail _ hx => cases hy with
                | head => exact absurd (List.mem_map.2 ⟨x, hx, e⟩) hnd.1
                | tail _ hy => exact ih hnd.2 x hx y hy e
          have := hi l2 hnd2 x hx s hs2 z
          exact ⟨by rw [this], this⟩
        rw [h1.2, hc] at hxc; exact nomatch hxc
      · exact I.chs x hx hxc z
    have hYL : ∀ {a b}, ext base bl (fun i => Ld listed i ∧ ∃ s ∈ l2, s.i = i) a = some b → ∃ x ∈ l2, a = base + x.i ∧ Ld listed x.i ∧ bl x.i = some b := by
      intro a b e
      obtain ⟨i, e1, ⟨e2, x, hx, hxi⟩, e3⟩ := ext_inv e
      subst hxi
      exact ⟨x, hx, e1, e2, e3⟩
    cases hb : bl s.i with
    | none =>
      obtain ⟨Fs, hFs, hop⟩ := I.good.early s hs2 hc hb (fun c hcl hcc => by
        cases q : bit s.anc c.i with
        | false => rfl
        | true => exact absurd (ha _ q) (I.chs c hcl hcc)) H1.t (.inl rfl)
      refine hop H1.nx Q ρ a w I.glob (I.frel hp hs hn ha hFs) (hr.sub fun a b e => un_left e) trivial K fun p hpm y w' ρ' hy hst => ?_
      rw [List.mem_singleton] at hpm; subst hpm
      have hfree : Free ρ H1.nx H1.nx := fun a h1 h2 => by omega
      have hfrm := Step.frame (y := ext base bl (fun i => Ld listed i ∧ ∃ s ∈ l2, s.i = i)) hst hr hfree
        (fun a b e => by
          obtain ⟨x, hx, e1, _, _⟩ := hYL e
          subst e1
          refine ⟨I.dj x hx, ?_⟩
          show ¬ (H1.nx ≤ base + x.i ∧ base + x.i < H1.nx)
          omega)
        (.inl fun a b e => by
          obtain ⟨x, hx, e1, e2, e3⟩ := hYL e
          exact hcells x hx e2 b e3)
      have hle := hst.ren hfree
      have hold : ∀ a, ρ' a = ρ a := fun a => hst.old a (by show ¬ (H1.nx ≤ a ∧ a < H1.nx); omega)
      have hex : ext base bl (fun i => Ld listed i ∧ ∃ s ∈ l2, s.i = i) = ext base bl (fun i => Ld (listed.setIfInBounds s.i true) i ∧ ∃ s ∈ l2, s.i = i) := by
        funext a
        unfold ext
        by_cases h1 : base ≤ a ∧ (Ld listed (a - base) ∧ ∃ s ∈ l2, s.i = a - base)
        · rw [if_pos h1, if_pos ⟨h1.1, (Ld_set hsz).2 (.inr h1.2.1), h1.2.2⟩]
        · rw [if_neg h1]
          by_cases h2 : base ≤ a ∧ (Ld (listed.setIfInBounds s.i true) (a - base) ∧ ∃ s ∈ l2, s.i = a - base)
          · rw [if_pos h2]
            rcases (Ld_set hsz).1 h2.2.1 with z | z
            · rw [z, hb]
            · exact absurd ⟨h2.1, z, h2.2.2⟩ h1
          · rw [if_neg h2]
      refine hK l1 l2 H1 hist ρ' _ w'
        { split := I.split
          done := fun x hx => (Ld_set hsz).2 (.inr (I.done x hx))
          chs := hch
          good := I.good
          down := hdown
          size := by simp [I.size]
          fsz := by rw [put_size]; exact I.fsz
          fr := I.fr_put hp hdst hs hle hy (hW s hs)
          fr0 := I.fr0_put hp hs hle y
          fresh := fun a ha => by rw [hold]; exact I.fresh a ha
          free := fun x hx hl => by rw [hold]; exact I.free x hx fun z => hl ((Ld_set hsz).2 (.inr z))
          dj := I.dj
          nxb := I.nxb
          glob := I.glob.mono hle
          step := by
            rw [← hex]
            have h3 := I.nxb
            exact I.step.trans2 (hfrm.widen (lo := H1.nx) (hi := H1.nx) (by omega) I.good.mono)
          defers := by rw [put_defers]; exact I.defers }
    | some b =>
      obtain ⟨Fs, H'', hFs, hnx, hget, hop⟩ := I.good.makes s hs2 hc b hb
      have hempty : ∀ a, leaf.get a = none := fun a => rfl
      refine hop Q ρ a w I.glob (I.frel hp hs hn ha hFs) (hr.sub fun a b e => by rw [hempty] at e; exact nomatch e) (I.free s hs hn) K fun p hpm y w' ρ' hy hst => ?_
      rw [List.mem_singleton] at hpm; subst hpm
      have hst : Step ρ ρ' leaf.get H''.t.get (base + s.i) (base + s.i + 1) w w' := by rw [← hnx]; exact hst
      have hdom : ∀ a b', H''.t.get a = some b' → a = base + s.i ∧ b' = b := fun a b' e => by
        rcases hst.dom a b' e with ⟨b0, z⟩ | z
        · rw [hempty] at z; exact nomatch z
        · have : a = base + s.i := by omega
          subst this
          rw [hget] at e; injection e with e; exact ⟨rfl, e.symm⟩
      have hfree : Free ρ (base + s.i) (base + s.i + 1) := fun a h1 h2 => by
        have : a = base + s.i := by omega
        rw [this]; exact I.free s hs hn
      have he0 : un leaf.get (un H1.t.get (ext base bl (fun i => Ld listed i ∧ ∃ s ∈ l2, s.i = i))) = un H1.t.get (ext base bl (fun i => Ld listed i ∧ ∃ s ∈ l2, s.i = i)) := by
        funext a; exact un_right (hempty a)
      have hfrm := Step.frame (y := un H1.t.get (ext base bl (fun i => Ld listed i ∧ ∃ s ∈ l2, s.i = i))) hst (by rw [he0]; exact hr) hfree
        (fun a b e => ⟨hempty a, fun z => by
          obtain ⟨L, g1, _⟩ := hr.at_ a b e
          rw [hfree a z.1 z.2] at g1; exact nomatch g1⟩)
        (.inr fun a b' e => by
          obtain ⟨_, z⟩ := hdom a b' e
          subst z
          exact I.good.cells s hs2 hc _ hb)
      have he1 : un H''.t.get (un H1.t.get (ext base bl (fun i => Ld listed i ∧ ∃ s ∈ l2, s.i = i))) = un H1.t.get (ext base bl (fun i => Ld (listed.setIfInBounds s.i true) i ∧ ∃ s ∈ l2, s.i = i)) := by
        funext a
        by_cases e : a = base + s.i
        · subst e
          rw [un_left hget, un_right (I.dj s hs2), ext_at (E := fun i => Ld (listed.setIfInBounds s.i true) i ∧ ∃ s ∈ l2, s.i = i) ⟨(Ld_set hsz).2 (.inl rfl), s, hs2, rfl⟩, hb]
        · have hn2 : H''.t.get a = none := by
            cases q : H''.t.get a with
            | none => rfl
            | some b' => exact absurd (hdom a b' q).1 e
          rw [un_right hn2]
          cases q : H1.t.get a with
          | some b' => rw [un_left q, un_left q]
          | none =>
            rw [un_right q, un_right q]
            unfold ext
            by_cases h1 : base ≤ a ∧ (Ld listed (a - base) ∧ ∃ s ∈ l2, s.i = a - base)
            · rw [if_pos h1, if_pos ⟨h1.1, (Ld_set hsz).2 (.inr h1.2.1), h1.2.2⟩]
            · rw [if_neg h1]
              by_cases h2 : base ≤ a ∧ (Ld (listed.setIfInBounds s.i true) (a - base) ∧ ∃ s ∈ l2, s.i = a - base)
              · rcases (Ld_set hsz).1 h2.2.1 with z | z
                · omega
                · exact absurd ⟨h2.1, z, h2.2.2⟩ h1
              · rw [if_neg h2]
      have hle := hst.ren hfree
      refine hK l1 l2 H1 hist ρ' _ w'
        { split := I.split
          done := fun x hx => (Ld_set hsz).2 (.inr (I.done x hx))
          chs := hch
          good := I.good
          down := hdown
          size := by simp [I.size]
          fsz := by rw [put_size]; exact I.fsz
          fr := I.fr_put hp hdst hs hle hy (hW s hs)
          fr0 := I.fr0_put hp hs hle y
          fresh := fun a ha => by
            have h1 := hlt s hs; have h2 := I.nxb
            rw [hst.old a (by omega)]; exact I.fresh a ha
          free := fun x hx hl => by
            have h5 : x.i ≠ s.i := fun z => hl ((Ld_set hsz).2 (.inl z))
            rw [hst.old _ (by omega)]; exact I.free x hx fun z => hl ((Ld_set hsz).2 (.inr z))
          dj := I.dj
          nxb := I.nxb
          glob := I.glob.mono hle
          step := by
            rw [← he1]
            have h1 := hlt s hs; have h2 := I.nxb; have h3 := I.good.mono
            exact I.step.trans2 ((hfrm.same he0 rfl).widen (by omega) (by omega))
          defers := by rw [put_defers]; exact I.defers }

open Classical in
theorem DInv.end_ (I : DInv P G n ops flat base W0 W val bl Hend ρ0 h0 w0 ds l1 l2 H1 hist listed ρ a w) (hall : ∀ s ∈ flat, Ld listed s.i) :
    a.tmps.size = n ∧ (∀ t, R ρ (W t) (a.tmps.getD t undef)) ∧ Step ρ0 ρ h0 Hend.t.get base Hend.nx w0 w ∧ a.defers = ds ∧ Glob ρ G := by
  have hl2f : ∀ x ∈ l2, x ∈ flat := fun x hx => by rw [I.split]; exact List.mem_append_right _ hx
  have hno : ∀ x ∈ l2, x.ch = false := fun x hx => by
    cases q : x.ch with
    | false => rfl
    | true => exact absurd (hall x (hl2f x hx)) (I.chs x hx q)
  obtain ⟨hn, he⟩ := I.good.last hno
  refine ⟨I.fsz, fun t => I.fr t fun s hs hl => absurd (hall s hs) hl, I.step.same rfl ?_, I.defers, I.glob⟩
  funext a
  rw [he a]
  have hex : ext base bl (fun i => Ld listed i ∧ ∃ s ∈ l2, s.i = i) = ext base bl (fun i => ∃ x ∈ l2, x.i = i) := by
    funext a
    unfold ext
    by_cases h1 : base ≤ a ∧ ∃ s ∈ l2, s.i = a - base
    · rw [if_pos h1]
      obtain ⟨h2, x, hx, e⟩ := h1
      exact if_pos ⟨h2, by rw [← e]; exact hall x (hl2f x hx), x, hx, e⟩
    · rw [if_neg h1, if_neg (fun h2 => h1 ⟨h2.1, h2.2.2⟩)]
  rw [hex]
  cases q : ext base bl (fun i => ∃ x ∈ l2, x.i = i) a with
  | none =>
    rw [un_right q]
    cases q2 : H1.t.get a with
    | none => rw [un_right q2]; exact q
    | some b => rw [un_left q2]
  | some b =>
    rw [un_left q]
    obtain ⟨i, e1, ⟨x, hx, e2⟩, e3⟩ := ext_inv q
    subst e1; subst e2
    rw [un_right (I.dj x hx)]; exact q

theorem ready_of {listed : Array Bool} (hp : PlanOk ops flat) (hsz : listed.size = ops.size) (hr : Region.ready .any ops listed = []) : ∀ s ∈ flat, Ld listed s.i := by
  have key : ∀ i, i < ops.size → Ld listed i := by
    intro i
    induction i using Nat.strongRecOn with
    | _ i ih =>
      intro hi
      obtain ⟨s, hs, e⟩ := hp.all i hi
      subst e
      by_cases hl : Ld listed s.i
      · exact hl
      · have : s.i ∈ Region.ready .any ops listed := by
          rw [mem_ready]
          refine ⟨?_, s.o, hp.op s hs, fun e he hb => ?_⟩
          · unfold Ld at hl
            have hlt : s.i < listed.size := by rw [hsz]; exact hi
            simp [hlt] at hl ⊢
            exact hl
          · have := hp.back s hs e he hb
            exact ih e.on this (by omega)
        rw [hr] at this; exact nomatch this
  exact fun s hs => key _ (Array.getElem?_eq_some_iff.1 (hp.op s hs)).1

theorem DInv.any (hp : PlanOk ops flat) (hdst : ∀ s ∈ flat, ∀ d, s.o.dst = some d → d < n) (hW : ∀ s ∈ flat, ∀ d, s.o.dst = some d → W d = val s.i) {Q : Exit → Act → World → Prop}
    (hQ : ∀ ρ a w, a.tmps.size = n → (∀ t, R ρ (W t) (a.tmps.getD t undef)) → Step ρ0 ρ h0 Hend.t.get base Hend.nx w0 w → a.defers = ds → Glob ρ G → Q .normal a w) :
    ∀ (fuel : Nat) (rem : List Nat), rem.length ≤ fuel → ∀ (l1 l2 : List PSt) (H1 : Heap) (hist : List (Nat × Tr Blk)) (listed : Array Bool) (ρ : Ren) (a : Act) (w : World),
      DInv P G n ops flat base W0 W val bl Hend ρ0 h0 w0 ds l1 l2 H1 hist listed ρ a w → (∀ s ∈ flat, ¬ Ld listed s.i → s.i ∈ rem) → wpAny P .any ops Q fuel listed a w := by
  have hend : ∀ {l1 l2 : List PSt} {H1 : Heap} {hist : List (Nat × Tr Blk)} {listed : Array Bool} {ρ : Ren} {a : Act} {w : World},
      DInv P G n ops flat base W0 W val bl Hend ρ0 h0 w0 ds l1 l2 H1 hist listed ρ a w → (∀ s ∈ flat, Ld listed s.i) → Q .normal a w := by
    intro l1 l2 H1 hist listed ρ a w I hall
    obtain ⟨h1, h2, h3, h4, h5⟩ := I.end_ hall
    exact hQ ρ a w h1 h2 h3 h4 h5
  intro fuel
  induction fuel with
  | zero =>
    intro rem hlen l1 l2 H1 hist listed ρ a w I hrem
    have hall : ∀ s ∈ flat, Ld listed s.i := fun s hs => by
      by_cases h : Ld listed s.i
      · exact h
      · have := hrem s hs h
        rw [List.eq_nil_of_length_eq_zero (Nat.le_zero.1 hlen)] at this; exact nomatch this
    refine ⟨?_, hend I hall⟩
    cases q : Region.ready .any ops listed with
    | nil => rfl
    | cons j js =>
      have hj : j ∈ Region.ready .any ops listed := by rw [q]; exact List.mem_cons_self
      obtain ⟨h1, o, h2, _⟩ := mem_ready.1 hj
      obtain ⟨s, hs, e⟩ := hp.all j (Array.getElem?_eq_some_iff.1 h2).1
      have h3 := hall s hs
      rw [e] at h3
      unfold Ld at h3
      have hlt : j < listed.size := by rw [I.size]; exact (Array.getElem?_eq_some_iff.1 h2).1
      simp [hlt] at h1 h3
      rw [h1] at h3; exact nomatch h3
  | succ fuel ih =>
    intro rem hlen l1 l2 H1 hist listed ρ a w I hrem
    refine ⟨fun hr => hend I (ready_of hp I.size hr), fun i hi => ?_⟩
    obtain ⟨h1, o, h2, h3⟩ := mem_ready.1 hi
    obtain ⟨s, hs, e⟩ := hp.all i (Array.getElem?_eq_some_iff.1 h2).1
    subst e
    have hn : ¬ Ld listed s.i := by
      unfold Ld
      have hlt : s.i < listed.size := by rw [I.size]; exact (Array.getElem?_eq_some_iff.1 h2).1
      simp [hlt] at h1 ⊢
      exact h1
    have ho : s.o = o := by
      have := hp.op s hs; rw [h2] at this; injection this with this; exact this.symm
    have ha : ∀ j, bit s.anc j = true → Ld listed j := by
      intro j hj
      obtain ⟨e, he, hb, h4⟩ := hp.anc s hs j hj
      have h5 : Ld listed e.on := h3 e (ho ▸ he) hb
      rcases h4 with rfl | ⟨s', hs', e', hb'⟩
      · exact h5
      · exact I.down s' hs' (by rw [e']; exact h5) j hb'
    have hgo := I.go hp hdst hW hs hn ha (Q := Q) (K := wpAny P .any ops Q fuel (listed.setIfInBounds s.i true)) fun l1' l2' H1' hist' ρ' a' w' I' => by
      have hmem : s.i ∈ rem := hrem s hs hn
      refine ih (rem.erase s.i) (by rw [List.length_erase_of_mem hmem]; omega) l1' l2' H1' hist' _ ρ' a' w' I' fun x hx hl => ?_
      have hsz : s.i < listed.size := by rw [I.size]; exact (Array.getElem?_eq_some_iff.1 h2).1
      have hne : x.i ≠ s.i := fun e => hl ((Ld_set hsz).2 (.inl e))
      exact (List.mem_erase_of_ne hne).2 (hrem x hx fun q => hl ((Ld_set hsz).2 (.inr q)))
    unfold wpOp
    rw [h2]
    rw [ho] at hgo
    exact hgo
end
end Go.Proofs.YtdnlfkmfofckfaaGreatDoor.Ev
