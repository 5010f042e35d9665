/- Regions whose order is drawn: a plan in which the operations run, and why every order comes to the same. -/
import Derived.Test.YtdnlfkmfofckfaaGreatDoorEvU
namespace Go.Proofs.YtdnlfkmfofckfaaGreatDoor.Ev
variable {P : Program}

noncomputable def bit (m j : Nat) : Bool := Nat.beq (Nat.land (Nat.shiftRight m j) 1) 1

/-- An operation of a plan: its place, the temporaries it looks at, those of them that are written behind it (t0), the operations that come before it (a mask), whether its order among the others of its kind is fixed. -/
structure PSt where
  i : Nat
  o : Oper
  ts : List Nat
  t0 : List Nat
  anc : Nat
  ch : Bool

structure PlanOk (ops : Array Oper) (flat : List PSt) : Prop where
  op : ∀ s ∈ flat, ops[s.i]? = some s.o
  all : ∀ i, i < ops.size → ∃ s ∈ flat, s.i = i
  nodup : (flat.map (·.i)).Nodup
  back : ∀ s ∈ flat, ∀ e ∈ s.o.after, Region.binds .any e = true → e.on < s.i
  anc : ∀ s ∈ flat, ∀ j, bit s.anc j = true → ∃ e ∈ s.o.after, Region.binds .any e = true ∧ (j = e.on ∨ ∃ s' ∈ flat, s'.i = e.on ∧ bit s'.anc j = true)
  ts : ∀ s ∈ flat, ∀ t ∈ s.ts, ∀ s' ∈ flat, s'.o.dst = some t → bit s.anc s'.i = true
  ts0 : ∀ s ∈ flat, ∀ t ∈ s.t0, ∀ s' ∈ flat, s'.o.dst = some t → bit s'.anc s.i = true
  nxt : ∀ l1 s l2 c l3, flat = l1 ++ s :: (l2 ++ c :: l3) → (∀ x ∈ l2, x.ch = false) → c.ch = true → bit c.anc s.i = true

def leaf : Tr Blk := .e

section
variable (P : Program) (G n : Nat) (ops : Array Oper) (Q : Exit → Act → World → Prop) (base : Nat) (W0 W : Nat → V) (val : Nat → V) (bl : Nat → Option Blk) (Hend : Heap)

/-- The frame an operation of a plan is looked at under. -/
def FsOk (s : PSt) (Fs : Tr V) : Prop := ∀ t, getF Fs t = .w ∨ (t ∈ s.ts ∧ getF Fs t = W t) ∨ (t ∈ s.t0 ∧ getF Fs t = W0 t)

/-- What the run of a plan has shown, from a place on. 'cur': the heap after the last operation whose order is fixed; 'hist': such heaps before, each with the operation that came next. -/
def Good : List PSt → Heap → Tr Blk → List (Nat × Tr Blk) → Prop
  | [], H, _, _ => H = Hend
  | s :: l, H, cur, hist =>
    (∃ Fs, FsOk W0 W s Fs ∧ (∀ d, s.o.dst = some d → W d = val s.i) ∧
      if s.ch then ∃ H', (∀ Q', OpOk P G n ops Q' (Fresh · H.nx) Fs H s.o [(val s.i, H')]) ∧ H.nx ≤ H'.nx ∧ Good l H' H'.t ((s.i, cur) :: hist)
      else (bl s.i = none ∧ (∀ x, (x = cur ∨ ∃ c, (c, x) ∈ hist ∧ bit s.anc c = false) → ∀ m Q', OpOk P G n ops Q' (fun _ => True) Fs ⟨m, x⟩ s.o [(val s.i, ⟨m, x⟩)]) ∧ Good l H cur hist)
        ∨ (∃ ro cs, bl s.i = some (.c ro cs) ∧ (∃ H'', H''.nx = base + s.i + 1 ∧ H''.t.get (base + s.i) = some (.c ro cs) ∧
            ∀ Q', OpOk P G n ops Q' (fun ρ => ρ (base + s.i) = none) Fs ⟨base + s.i, leaf⟩ s.o [(val s.i, H'')]) ∧ Good l ⟨H.nx, H.t.set (base + s.i) (.c ro cs)⟩ cur hist))

end

section
variable {G n : Nat} {ops : Array Oper} {Q : Exit → Act → World → Prop} {base : Nat} {W0 W : Nat → V} {val : Nat → V} {bl : Nat → Option Blk} {Hend : Heap}

theorem Good.mono : ∀ {l : List PSt} {H : Heap} {cur : Tr Blk} {hist : List (Nat × Tr Blk)}, Good P G n ops base W0 W val bl Hend l H cur hist → H.nx ≤ Hend.nx := by
  intro l
  induction l with
  | nil => intro H cur hist h; rw [show _ = _ from h]; exact Nat.le_refl _
  | cons s l ih =>
    rintro H cur hist ⟨Fs, _, _, h⟩
    split at h
    · obtain ⟨H', _, h1, h2⟩ := h
      exact Nat.le_trans h1 (ih h2)
    · rcases h with ⟨_, _, h⟩ | ⟨_, _, _, _, h⟩
      · exact ih h
      · have := ih h; exact this

/-- The value of an operation goes where it goes. -/
theorem Good.valOf : ∀ {l : List PSt} {H : Heap} {cur : Tr Blk} {hist : List (Nat × Tr Blk)}, Good P G n ops base W0 W val bl Hend l H cur hist → ∀ s ∈ l, ∀ d, s.o.dst = some d → W d = val s.i := by
  intro l
  induction l with
  | nil => intro H cur hist _ s hs; exact nomatch hs
  | cons s l ih =>
    rintro H cur hist ⟨Fs, _, hv, h⟩ x hx d hd
    cases hx with
    | head => exact hv d hd
    | tail _ hx =>
      split at h
      · obtain ⟨H', _, h1, h2⟩ := h
        exact ih h2 x hx d hd
      · rcases h with ⟨_, _, h⟩ | ⟨_, _, _, _, h⟩
        · exact ih h x hx d hd
        · exact ih h x hx d hd

/-- The blocks that operations of a list have made. -/
def ext (base : Nat) (bl : Nat → Option Blk) (E : Nat → Prop) [DecidablePred E] : HF := fun a => if base ≤ a ∧ E (a - base) then bl (a - base) else none

theorem ext_at {E : Nat → Prop} [DecidablePred E] {i : Nat} (h : E i) : ext base bl E (base + i) = bl i := by
  unfold ext
  have : base + i - base = i := by omega
  rw [this, if_pos ⟨by omega, h⟩]

theorem ext_inv {E : Nat → Prop} [DecidablePred E] {a : Nat} {b : Blk} (h : ext base bl E a = some b) : ∃ i, a = base + i ∧ E i ∧ bl i = some b := by
  unfold ext at h
  split at h
  · rename_i hh; exact ⟨a - base, by omega, hh.2, h⟩
  · exact nomatch h

theorem Good.cells : ∀ {l : List PSt} {H : Heap} {cur : Tr Blk} {hist : List (Nat × Tr Blk)}, Good P G n ops base W0 W val bl Hend l H cur hist → ∀ s ∈ l, s.ch = false → ∀ b, bl s.i = some b → ∃ ro cs, b = .c ro cs := by
  intro l
  induction l with
  | nil => intro H cur hist _ s hs; exact nomatch hs
  | cons s l ih =>
    rintro H cur hist ⟨Fs, _, hv, h⟩ x hx hc b hb
    cases hx with
    | head =>
      rw [if_neg (by rw [hc]; exact Bool.false_ne_true)] at h
      rcases h with ⟨h, _⟩ | ⟨ro, cs, h, _⟩
      · rw [h] at hb; exact nomatch hb
      · rw [h] at hb; exact ⟨ro, cs, by injection hb with hb; exact hb.symm⟩
    | tail _ hx =>
      split at h
      · obtain ⟨H', _, h1, h2⟩ := h
        exact ih h2 x hx hc b hb
      · rcases h with ⟨_, _, h⟩ | ⟨_, _, _, _, h⟩
        · exact ih h x hx hc b hb
        · exact ih h x hx hc b hb

/-- An operation that is early and makes no block. -/
theorem Good.early : ∀ {l : List PSt} {H : Heap} {cur : Tr Blk} {hist : List (Nat × Tr Blk)}, Good P G n ops base W0 W val bl Hend l H cur hist → ∀ s ∈ l, s.ch = false → bl s.i = none →
    (∀ c ∈ l, c.ch = true → bit s.anc c.i = false) → ∀ x, (x = cur ∨ ∃ c, (c, x) ∈ hist ∧ bit s.anc c = false) →
    ∃ Fs, FsOk W0 W s Fs ∧ ∀ m Q', OpOk P G n ops Q' (fun _ => True) Fs ⟨m, x⟩ s.o [(val s.i, ⟨m, x⟩)] := by
  intro l
  induction l with
  | nil => intro H cur hist _ s hs; exact nomatch hs
  | cons s' l ih =>
    rintro H cur hist ⟨Fs, hFs, hv, h⟩ s hx hc hb hd x hxx
    cases hx with
    | head =>
      rw [if_neg (by rw [hc]; exact Bool.false_ne_true)] at h
      rcases h with ⟨_, h, _⟩ | ⟨ro, cs, h, _⟩
      · exact ⟨Fs, hFs, h x hxx⟩
      · rw [h] at hb; exact nomatch hb
    | tail _ hx =>
      have hd' : ∀ c ∈ l, c.ch = true → bit s.anc c.i = false := fun c hcl => hd c (List.mem_cons_of_mem _ hcl)
      by_cases hs : s'.ch = true
      · rw [if_pos hs] at h
        obtain ⟨H', _, h1, h2⟩ := h
        refine ih h2 s hx hc hb hd' x (.inr ?_)
        rcases hxx with rfl | ⟨c, g1, g2⟩
        · exact ⟨s'.i, List.mem_cons_self, hd s' List.mem_cons_self hs⟩
        · exact ⟨c, List.mem_cons_of_mem _ g1, g2⟩
      · rw [if_neg hs] at h
        rcases h with ⟨_, _, h⟩ | ⟨_, _, _, _, h⟩
        · exact ih h s hx hc hb hd' x hxx
        · exact ih h s hx hc hb hd' x hxx

/-- An operation that makes a block. -/
theorem Good.makes : ∀ {l : List PSt} {H : Heap} {cur : Tr Blk} {hist : List (Nat × Tr Blk)}, Good P G n ops base W0 W val bl Hend l H cur hist → ∀ s ∈ l, s.ch = false → ∀ b, bl s.i = some b →
    ∃ Fs H'', FsOk W0 W s Fs ∧ H''.nx = base + s.i + 1 ∧ H''.t.get (base + s.i) = some b ∧ ∀ Q', OpOk P G n ops Q' (fun ρ => ρ (base + s.i) = none) Fs ⟨base + s.i, leaf⟩ s.o [(val s.i, H'')] := by
  intro l
  induction l with
  | nil => intro H cur hist _ s hs; exact nomatch hs
  | cons s' l ih =>
    rintro H cur hist ⟨Fs, hFs, hv, h⟩ s hx hc b hb
    cases hx with
    | head =>
      rw [if_neg (by rw [hc]; exact Bool.false_ne_true)] at h
      rcases h with ⟨h, _⟩ | ⟨ro, cs, h, ⟨H'', h1, h2, h3⟩, _⟩
      · rw [h] at hb; exact nomatch hb
      · rw [h] at hb; injection hb with hb; subst hb
        exact ⟨Fs, H'', hFs, h1, h2, h3⟩
    | tail _ hx =>
      by_cases hs : s'.ch = true
      · rw [if_pos hs] at h
        obtain ⟨H', _, h1, h2⟩ := h
        exact ih h2 s hx hc b hb
      · rw [if_neg hs] at h
        rcases h with ⟨_, _, h⟩ | ⟨_, _, _, _, h⟩
        · exact ih h s hx hc b hb
        · exact ih h s hx hc b hb

open Classical in
/-- The next operation whose order is fixed. -/
theorem Good.next : ∀ {m1 : List PSt} {c : PSt} {m2 : List PSt} {H : Heap} {cur : Tr Blk} {hist : List (Nat × Tr Blk)}, Good P G n ops base W0 W val bl Hend (m1 ++ c :: m2) H cur hist → (∀ x ∈ m1, x.ch = false) → c.ch = true →
    ∃ (X : Tr Blk) (Fs : Tr V) (H' : Heap), (∀ a, X.get a = un (ext base bl (fun i => ∃ x ∈ m1, x.i = i)) H.t.get a) ∧ FsOk W0 W c Fs ∧ (∀ Q', OpOk P G n ops Q' (Fresh · H.nx) Fs ⟨H.nx, X⟩ c.o [(val c.i, H')]) ∧ H.nx ≤ H'.nx ∧
      Good P G n ops base W0 W val bl Hend m2 H' H'.t ((c.i, cur) :: hist) := by
  intro m1 c m2
  induction m1 with
  | nil =>
    rintro H cur hist ⟨Fs, hFs, hv, h⟩ hm hc
    rw [if_pos hc] at h
    obtain ⟨H', h0, h1, h2⟩ := h
    refine ⟨H.t, Fs, H', fun a => ?_, hFs, h0, h1, h2⟩
    rw [un_right]
    unfold ext
    rw [if_neg]
    rintro ⟨_, x, hx, _⟩; exact nomatch hx
  | cons s m1 ih =>
    rintro H cur hist ⟨Fs, hFs, hv, h⟩ hm hc
    rw [if_neg (by rw [hm s List.mem_cons_self]; exact Bool.false_ne_true)] at h
    have hm' : ∀ x ∈ m1, x.ch = false := fun x hx => hm x (List.mem_cons_of_mem _ hx)
    rcases h with ⟨hb, _, h⟩ | ⟨ro, cs, hb, _, h⟩
    · obtain ⟨X, Fs', H', e, r⟩ := ih h hm' hc
      refine ⟨X, Fs', H', fun a => ?_, r⟩
      rw [e a]
      congr 1
      funext a
      unfold ext
      by_cases ha : base ≤ a ∧ ∃ x ∈ m1, x.i = a - base
      · obtain ⟨h1, x, hx, hxi⟩ := ha
        rw [if_pos ⟨h1, x, hx, hxi⟩, if_pos ⟨h1, x, List.mem_cons_of_mem _ hx, hxi⟩]
      · rw [if_neg ha]
        by_cases hb2 : base ≤ a ∧ ∃ x ∈ s :: m1, x.i = a - base
        · rw [if_pos hb2]
          obtain ⟨h1, x, hx, hxi⟩ := hb2
          cases hx with
          | head => rw [← hxi, hb]
          | tail _ hx => exact absurd ⟨h1, x, hx, hxi⟩ ha
        · rw [if_neg hb2]
    · obtain ⟨X, Fs', H', e, r⟩ := ih h hm' hc
      refine ⟨X, Fs', H', fun a => ?_, r⟩
      rw [e a]
      show un _ (H.t.set (base + s.i) (.c ro cs)).get a = _
      by_cases ha : ∃ b, ext base bl (fun i => ∃ x ∈ m1, x.i = i) a = some b
      · obtain ⟨b, ha⟩ := ha
        rw [un_left ha, un_left]
        obtain ⟨i, e1, ⟨x, hx, hxi⟩, e2⟩ := ext_inv ha
        subst e1
        rw [ext_at ⟨x, List.mem_cons_of_mem _ hx, hxi⟩]; exact e2
      · have ha : ext base bl (fun i => ∃ x ∈ m1, x.i = i) a = none := by
          cases q : ext base bl (fun i => ∃ x ∈ m1, x.i = i) a with
          | none => rfl
          | some b => exact absurd ⟨b, q⟩ ha
        rw [un_right ha, Tr.get_set]
        by_cases e2 : a = base + s.i
        · subst e2
          rw [if_pos rfl, un_left]
          rw [ext_at ⟨s, List.mem_cons_self, rfl⟩]; exact hb
        · rw [if_neg e2, un_right]
          unfold ext
          by_cases hb2 : base ≤ a ∧ ∃ x ∈ s :: m1, x.i = a - base
          · rw [if_pos hb2]
            obtain ⟨h1, x, hx, hxi⟩ := hb2
            cases hx with
            | head => omega
            | tail _ hx => unfold ext at ha; rw [if_pos ⟨h1, x, hx, hxi⟩] at ha; exact ha
          · rw [if_neg hb2]

open Classical in
/-- The end of a plan, with no such operation to come. -/
theorem Good.last : ∀ {m1 : List PSt} {H : Heap} {cur : Tr Blk} {hist : List (Nat × Tr Blk)}, Good P G n ops base W0 W val bl Hend m1 H cur hist → (∀ x ∈ m1, x.ch = false) →
    H.nx = Hend.nx ∧ ∀ a, Hend.t.get a = un (ext base bl (fun i => ∃ x ∈ m1, x.i = i)) H.t.get a := by
  intro m1
  induction m1 with
  | nil =>
    intro H cur hist h hm
    have h : H = Hend := h
    subst h
    refine ⟨rfl, fun a => ?_⟩
    rw [un_right]
    unfold ext
    rw [if_neg]
    rintro ⟨_, x, hx, _⟩; exact nomatch hx
  | cons s m1 ih =>
    rintro H cur hist ⟨Fs, hFs, hv, h⟩ hm
    rw [if_neg (by rw [hm s List.mem_cons_self]; exact Bool.false_ne_true)] at h
    have hm' : ∀ x ∈ m1, x.ch = false := fun x hx => hm x (List.mem_cons_of_mem _ hx)
    rcases h with ⟨hb, _, h⟩ | ⟨ro, cs, hb, _, h⟩
    · obtain ⟨hn, e⟩ := ih h hm'
      refine ⟨hn, fun a => ?_⟩
      rw [e a]
      congr 1
      funext a
      unfold ext
      by_cases ha : base ≤ a ∧ ∃ x ∈ m1, x.i = a - base
      · obtain ⟨h1, x, hx, hxi⟩ := ha
        rw [if_pos ⟨h1, x, hx, hxi⟩, if_pos ⟨h1, x, List.mem_cons_of_mem _ hx, hxi⟩]
      · rw [if_neg ha]
        by_cases hb2 : base ≤ a ∧ ∃ x ∈ s :: m1, x.i = a - base
        · rw [if_pos hb2]
          obtain ⟨h1, x, hx, hxi⟩ := hb2
          cases hx with
          | head => rw [← hxi, hb]
          | tail _ hx => exact absurd ⟨h1, x, hx, hxi⟩ ha
        · rw [if_neg hb2]
    · obtain ⟨hn, e⟩ := ih h hm'
      refine ⟨hn, fun a => ?_⟩
      rw [e a]
      show un _ (H.t.set (base + s.i) (.c ro cs)).get a = _
      by_cases ha : ∃ b, ext base bl (fun i => ∃ x ∈ m1, x.i = i) a = some b
      · obtain ⟨b, ha⟩ := ha
        rw [un_left ha, un_left]
        obtain ⟨i, e1, ⟨x, hx, hxi⟩, e2⟩ := ext_inv ha
        subst e1
        rw [ext_at ⟨x, List.mem_cons_of_mem _ hx, hxi⟩]; exact e2
      · have ha : ext base bl (fun i => ∃ x ∈ m1, x.i = i) a = none := by
          cases q : ext base bl (fun i => ∃ x ∈ m1, x.i = i) a with
          | none => rfl
          | some b => exact absurd ⟨b, q⟩ ha
        rw [un_right ha, Tr.get_set]
        by_cases e2 : a = base + s.i
        · subst e2
          rw [if_pos rfl, un_left]
          rw [ext_at ⟨s, List.mem_cons_self, rfl⟩]; exact hb
        · rw [if_neg e2, un_right]
          unfold ext
          by_cases hb2 : base ≤ a ∧ ∃ x ∈ s :: m1, x.i = a - base
          · rw [if_pos hb2]
            obtain ⟨h1, x, hx, hxi⟩ := hb2
            cases hx with
            | head => omega
            | tail _ hx => unfold ext at ha; rw [if_pos ⟨h1, x, hx, hxi⟩] at ha; exact ha
          · rw [if_neg hb2]
end

end Go.Proofs.YtdnlfkmfofckfaaGreatDoor.Ev
