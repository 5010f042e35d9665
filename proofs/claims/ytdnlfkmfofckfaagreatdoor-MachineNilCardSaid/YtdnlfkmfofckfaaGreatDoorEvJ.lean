/- Steps of the heap: what a step keeps, new blocks, written blocks, moved blocks. -/
import Derived.Test.YtdnlfkmfofckfaaGreatDoorEvI
import Derived.Laws.CopyRow
namespace Go.Proofs.YtdnlfkmfofckfaaGreatDoor.Ev
variable {P : Program}

/-- What a step leaves as it was: every block that no writable block of the evaluator's heap stands for. -/
def Kept (ρ : Ren) (h : HF) (w w' : World) : Prop :=
  w.heap.size ≤ w'.heap.size ∧ ∀ c, c < w.heap.size → (∀ a b L, h a = some b → b.wr = true → ρ a = some L → L.blk ≠ c) → w'.heap[c]? = w.heap[c]?

/-- Names from lo on, below hi, are free. -/
def Free (ρ : Ren) (lo hi : Nat) : Prop := ∀ a, lo ≤ a → a < hi → ρ a = none

theorem Free.sub {ρ : Ren} {lo hi lo' hi' : Nat} (h : Free ρ lo hi) (h1 : lo ≤ lo') (h2 : hi' ≤ hi) : Free ρ lo' hi' := fun a g1 g2 => h a (Nat.le_trans h1 g1) (Nat.lt_of_lt_of_le g2 h2)

/-- A step: names from lo on, below hi, are given; the new heap fits the new world; what was written was the evaluator's own. -/
structure Step (ρ ρ' : Ren) (h h' : HF) (lo hi : Nat) (w w' : World) : Prop where
  old : ∀ a, ¬ (lo ≤ a ∧ a < hi) → ρ' a = ρ a
  rel : HRel ρ' h' w'
  kept : Kept ρ h w w'
  own : ∀ a b L, h' a = some b → ρ' a = some L → w.heap.size ≤ L.blk ∨ ∃ a0 b0 L0, h a0 = some b0 ∧ (b.wr = true → b0.wr = true) ∧ ρ a0 = some L0 ∧ L0.blk = L.blk
  dom : ∀ a b, h' a = some b → (∃ b0, h a = some b0) ∨ (lo ≤ a ∧ a < hi)
  le : lo ≤ hi
  env : w'.os = w.os ∧ w'.output = w.output := by exact ⟨rfl, rfl⟩

theorem Step.ren {ρ ρ' : Ren} {h h' : HF} {lo hi : Nat} {w w' : World} (s : Step ρ ρ' h h' lo hi w w') (hf : Free ρ lo hi) : ρ.le ρ' := fun a _ e => by
  rw [s.old a (fun ⟨h1, h2⟩ => by rw [hf a h1 h2] at e; exact nomatch e)]; exact e

theorem Step.refl {ρ : Ren} {h : HF} {w : World} (n : Nat) (hr : HRel ρ h w) : Step ρ ρ h h n n w w where
  old := fun _ _ => rfl
  rel := hr
  kept := ⟨Nat.le_refl _, fun _ _ _ => rfl⟩
  own := fun a b L h1 h3 => .inr ⟨a, b, L, h1, id, h3, rfl⟩
  dom := fun _ b h1 => .inl ⟨b, h1⟩
  le := Nat.le_refl n

theorem Step.trans {ρ ρ1 ρ2 : Ren} {h h1 h2 : HF} {lo m hi : Nat} {w w1 w2 : World} (s : Step ρ ρ1 h h1 lo m w w1) (t : Step ρ1 ρ2 h1 h2 m hi w1 w2) : Step ρ ρ2 h h2 lo hi w w2 where
  old := fun a ha => by
    have l1 := s.le; have l2 := t.le
    rw [t.old a (by omega), s.old a (by omega)]
  rel := t.rel
  kept := by
    refine ⟨Nat.le_trans s.kept.1 t.kept.1, fun c hc hn => ?_⟩
    rw [t.kept.2 c (Nat.lt_of_lt_of_le hc s.kept.1) ?_, s.kept.2 c hc hn]
    intro a b L e1 e2 e3 e4
    rcases s.own a b L e1 e3 with h5 | ⟨a0, b0, L0, g1, g2, g3, g4⟩
    · omega
    · exact hn a0 b0 L0 g1 (g2 e2) g3 (by omega)
  own := fun a b L e1 e3 => by
    rcases t.own a b L e1 e3 with h5 | ⟨a0, b0, L0, g1, g2, g3, g4⟩
    · exact .inl (Nat.le_trans s.kept.1 h5)
    · rcases s.own a0 b0 L0 g1 g3 with h5 | ⟨a1, b1, L1, f1, f2, f3, f4⟩
      · exact .inl (by omega)
      · exact .inr ⟨a1, b1, L1, f1, fun q => f2 (g2 q), f3, by omega⟩
  dom := fun a b e => by
    have l1 := s.le; have l2 := t.le
    rcases t.dom a b e with ⟨b0, h0⟩ | h0
    · rcases s.dom a b0 h0 with h3 | h3
      · exact .inl h3
      · exact .inr (by omega)
    · exact .inr (by omega)
  le := Nat.le_trans s.le t.le
  env := ⟨t.env.1.trans s.env.1, t.env.2.trans s.env.2⟩

theorem HRel.lt {ρ : Ren} {h : HF} {w : World} (hr : HRel ρ h w) {a : Nat} {b : Blk} (e : h a = some b) : ∃ L, ρ a = some L ∧ L.blk < w.heap.size := by
  obtain ⟨L, h1, h2⟩ := hr.at_ a b e
  refine ⟨L, h1, ?_⟩
  have key : ∀ {o : Obj}, w.heap[L.blk]? = some o → L.blk < w.heap.size := fun h => (Array.getElem?_eq_some_iff.1 h).1
  cases b
  case c => obtain ⟨_, _, _, _, h3, _⟩ := h2; exact key h3
  case m => obtain ⟨_, _, h3, _⟩ := h2; exact key h3
  case it => obtain ⟨_, _, _, _, _, _, h3, _⟩ := h2; exact key h3
  case it0 => obtain ⟨_, _, _, _, h3⟩ := h2; exact key h3
  case si => obtain ⟨_, _, h3, _⟩ := h2; exact key h3

/-- A block stands for the same in another world, if its own block, and the map's that it goes over, are the same. -/
theorem BR.congr {ρ ρ' : Ren} {h h' : HF} {L : Loc} {w w' : World} {b : Blk} (hle : ρ.le ρ') (hw : w'.heap[L.blk]? = w.heap[L.blk]?)
    (hm : ∀ m ver seen, b = .it m ver seen → ∀ v' es, h' m = some (.m v' es) → (∃ v0 es0, h m = some (.m v0 es0) ∧ v0 ≤ v' ∧ (v0 = v' → es0 = es ∧ ∀ Lm, ρ m = some Lm → w'.heap[Lm.blk]? = w.heap[Lm.blk]?)))
    (hb : BR ρ h L w b) : BR ρ' h' L w' b := by
  cases b
  case c ro cells =>
    obtain ⟨arr, e, lo, hi, h1, h2, h3, h4, h5⟩ := hb
    exact ⟨arr, e, lo, hi, by rw [hw]; exact h1, h2, h3, h4, fun i d hd => let ⟨v, g1, g2⟩ := h5 i d hd; ⟨v, g1, g2.mono hle⟩⟩
  case m ver es =>
    obtain ⟨xs, clock, h1, ⟨ys, g1, g2, g3, g4⟩, h3⟩ := hb
    exact ⟨xs, clock, by rw [hw]; exact h1, ⟨ys, g1, g2, g3, fun i k v e e1 e2 => ⟨(g4 i k v e e1 e2).1, (g4 i k v e e1 e2).2.mono hle⟩⟩, h3⟩
  case it m ver seen =>
    obtain ⟨h0, Lm, since, sn, stepped, h1, h2, h3, h4⟩ := hb
    refine ⟨h0, Lm, since, sn, stepped, hle m Lm h1, by rw [hw]; exact h2, fun v' es e => ?_, fun es e => ?_⟩
    · obtain ⟨v0, es0, g1, g2, _⟩ := hm m ver seen rfl v' es e
      exact Nat.le_trans (h3 v0 es0 g1) g2
    · obtain ⟨v0, es0, g1, g2, g3⟩ := hm m ver seen rfl ver es e
      have hv := h3 v0 es0 g1
      have hv' : v0 = ver := by omega
      subst hv'
      obtain ⟨rfl, g4⟩ := g3 rfl
      obtain ⟨xs, f1, f2⟩ := h4 es0 g1
      exact ⟨xs, by rw [g4 Lm h1]; exact f1, f2⟩
  case it0 => obtain ⟨h0, a, b, c, h1⟩ := hb; exact ⟨h0, a, b, c, by rw [hw]; exact h1⟩
  case si => obtain ⟨h0, s, h1, h2⟩ := hb; exact ⟨h0, s, by rw [hw]; exact h1, h2⟩

def upd (h : HF) (a : Nat) (b : Option Blk) : HF := fun x => if x = a then b else h x
def updR (ρ : Ren) (a : Nat) (L : Loc) : Ren := fun x => if x = a then some L else ρ x

theorem updR_le {ρ : Ren} {a : Nat} (L : Loc) (h : ρ a = none) : ρ.le (updR ρ a L) := fun x L' e => by
  unfold updR
  by_cases c : x = a
  · subst c; rw [h] at e; exact nomatch e
  · rw [if_neg c]; exact e

/-- Objects of the model that the evaluator's blocks stand for keep their place when a new one is laid behind. -/
theorem push_get {w : World} {o : Obj} {c : Nat} (h : c < w.heap.size) : ({ w with heap := w.heap.push o } : World).heap[c]? = w.heap[c]? := by
  show (w.heap.push o)[c]? = _
  rw [Array.getElem?_push, if_neg (by omega)]

theorem HRel.le_of {ρ : Ren} {h : HF} {w : World} (hr : HRel ρ h w) {a : Nat} {b : Blk} {L : Loc} (e : h a = some b) (hL : ρ a = some L) : L.blk < w.heap.size := by
  obtain ⟨L', h1, h2⟩ := hr.lt e
  rw [hL] at h1; cases h1; exact h2

/-- A NEW BLOCK. -/
theorem Step.push {ρ : Ren} {h : HF} {w : World} {n : Nat} {b : Blk} {o : Obj} (size : Nat) (hr : HRel ρ h w) (hn : ρ n = none)
    (hb : BR (updR ρ n ⟨w.heap.size, 0, size⟩) (upd h n (some b)) ⟨w.heap.size, 0, size⟩ { w with heap := w.heap.push o } b) (hnm : ∀ v es, b = .m v es → h n = none) :
    Step ρ (updR ρ n ⟨w.heap.size, 0, size⟩) h (upd h n (some b)) n (n + 1) w { w with heap := w.heap.push o } where
  old := fun a ha => by unfold updR; rw [if_neg (by omega)]
  rel := by
    have hfree : h n = none := by
      cases e : h n with
      | none => rfl
      | some b0 => obtain ⟨L, h1, _⟩ := hr.at_ n b0 e; rw [hn] at h1; exact nomatch h1
    have hle := updR_le ⟨w.heap.size, 0, size⟩ hn
    refine ⟨fun a b' e => ?_, fun a a' b1 b2 L L' e1 e2 e3 e4 e5 => ?_⟩
    · unfold upd at e
      by_cases c : a = n
      · rw [if_pos c] at e; cases e; subst c
        exact ⟨⟨w.heap.size, 0, size⟩, by unfold updR; rw [if_pos rfl], hb⟩
      · rw [if_neg c] at e
        obtain ⟨L, g1, g2⟩ := hr.at_ a b' e
        refine ⟨L, hle a L g1, BR.congr hle (push_get (hr.le_of e g1)) ?_ g2⟩
        rintro m ver seen rfl v' es hm
        unfold upd at hm
        by_cases cm : m = n
        · -- a map under a name that was free: the iterator's own map is older
          subst cm
          obtain ⟨_, Lm, _, _, _, q1, _⟩ := g2
          rw [hn] at q1; exact nomatch q1
        · rw [if_neg cm] at hm
          exact ⟨v', es, hm, Nat.le_refl _, fun _ => ⟨rfl, fun Lm q => push_get (hr.le_of hm q)⟩⟩
    · unfold upd at e1 e2
      unfold updR at e3 e4
      by_cases c1 : a = n <;> by_cases c2 : a' = n
      · rw [c1, c2]
      · rw [if_neg c2] at e2 e4; rw [if_pos c1] at e3; cases e3
        have := hr.le_of e2 e4; simp only at e5; omega
      · rw [if_neg c1] at e1 e3; rw [if_pos c2] at e4; cases e4
        have := hr.le_of e1 e3; simp only at e5; omega
      · rw [if_neg c1] at e1 e3; rw [if_neg c2] at e2 e4
        exact hr.inj a a' b1 b2 L L' e1 e2 e3 e4 e5
  kept := ⟨by simp, fun c hc _ => push_get hc⟩
  own := fun a b' L e1 e3 => by
    unfold upd at e1
    unfold updR at e3
    by_cases c : a = n
    · rw [if_pos c] at e3; cases e3; exact .inl (Nat.le_refl _)
    · rw [if_neg c] at e1 e3; exact .inr ⟨a, b', L, e1, id, e3, rfl⟩
  dom := fun a b' e => by
    unfold upd at e
    by_cases c : a = n
    · exact .inr (by omega)
    · rw [if_neg c] at e; exact .inl ⟨b', e⟩
  le := by omega

theorem set_get {w : World} {o : Obj} {g c : Nat} (h : c ≠ g) : ({ w with heap := w.heap.setIfInBounds g o } : World).heap[c]? = w.heap[c]? := by
  show (w.heap.setIfInBounds g o)[c]? = _
  rw [Array.getElem?_setIfInBounds_ne (fun e => h e.symm)]
theorem set_get_same {w : World} {o : Obj} {g : Nat} (h : g < w.heap.size) : ({ w with heap := w.heap.setIfInBounds g o } : World).heap[g]? = some o := by
  show (w.heap.setIfInBounds g o)[g]? = _
  rw [Array.getElem?_setIfInBounds_self_of_lt h]

/-- A BLOCK IS WRITTEN, under the same name. If it is a map, its number goes up. -/
theorem Step.write {ρ : Ren} {h : HF} {w : World} {a : Nat} {b b' : Blk} {L : Loc} {o : Obj} (n : Nat) (hr : HRel ρ h w) (ha : h a = some b) (hL : ρ a = some L) (hwr : b.wr = true)
    (hb : BR ρ (upd h a (some b')) L { w with heap := w.heap.setIfInBounds L.blk o } b') (hm : ∀ v es, b' = .m v es → ∃ v0 es0, b = .m v0 es0 ∧ v0 < v) :
    Step ρ ρ h (upd h a (some b')) n n w { w with heap := w.heap.setIfInBounds L.blk o } where
  old := fun _ _ => rfl
  rel := by
    refine ⟨fun c b1 e => ?_, fun c c' b1 b2 L1 L2 e1 e2 e3 e4 e5 => ?_⟩
    · unfold upd at e
      by_cases hc : c = a
      · rw [if_pos hc] at e; cases e; subst hc; exact ⟨L, hL, hb⟩
      · rw [if_neg hc] at e
        obtain ⟨L1, g1, g2⟩ := hr.at_ c b1 e
        have hne : L1.blk ≠ L.blk := fun q => hc (hr.inj c a b1 b L1 L e ha g1 hL q)
        refine ⟨L1, g1, BR.congr (Ren.le_refl ρ) (set_get hne) ?_ g2⟩
        rintro m ver seen rfl v' es hm'
        unfold upd at hm'
        by_cases cm : m = a
        · rw [if_pos cm] at hm'
          injection hm' with hm'
          obtain ⟨v0, es0, rfl, hlt⟩ := hm v' es hm'
          subst cm
          exact ⟨v0, es0, ha, by omega, fun e => by omega⟩
        · rw [if_neg cm] at hm'
          refine ⟨v', es, hm', Nat.le_refl _, fun _ => ⟨rfl, fun Lm q => set_get fun q2 => cm (hr.inj m a _ _ Lm L hm' ha q hL q2)⟩⟩
    · have f : ∀ {c : Nat} {b1 : Blk}, upd h a (some b') c = some b1 → ∃ b2, h c = some b2 := fun {c b1} e => by
        unfold upd at e
        by_cases hc : c = a
        · subst hc; exact ⟨b, ha⟩
        · rw [if_neg hc] at e; exact ⟨b1, e⟩
      obtain ⟨d1, f1⟩ := f e1
      obtain ⟨d2, f2⟩ := f e2
      exact hr.inj c c' d1 d2 L1 L2 f1 f2 e3 e4 e5
  kept := ⟨by simp, fun c hc hn => set_get fun q => hn a b L ha hwr hL q.symm⟩
  own := fun c b1 L1 e1 e3 => by
    unfold upd at e1
    by_cases hc : c = a
    · subst hc; rw [hL] at e3; cases e3; exact .inr ⟨c, b, L, ha, fun _ => hwr, hL, rfl⟩
    · rw [if_neg hc] at e1; exact .inr ⟨c, b1, L1, e1, id, e3, rfl⟩
  dom := fun c b1 e => by
    unfold upd at e
    by_cases hc : c = a
    · subst hc; exact .inl ⟨b, ha⟩
    · rw [if_neg hc] at e; exact .inl ⟨b1, e⟩
  le := Nat.le_refl n

/-- A BLOCK OF CELLS IS WRITTEN AND GOES ON UNDER A NEW NAME; the old name is dead. -/
theorem Step.move {ρ : Ren} {h : HF} {w : World} {a n : Nat} {cells cells' : List V} {L : Loc} {o : Obj} (off : Nat) (hr : HRel ρ h w) (ha : h a = some (.c false cells)) (hL : ρ a = some L) (hn : ρ n = none)
    (hb : BR (updR ρ n ⟨L.blk, off, L.size⟩) (upd (upd h a none) n (some (.c false cells'))) ⟨L.blk, off, L.size⟩ { w with heap := w.heap.setIfInBounds L.blk o } (.c false cells')) :
    Step ρ (updR ρ n ⟨L.blk, off, L.size⟩) h (upd (upd h a none) n (some (.c false cells'))) n (n + 1) w { w with heap := w.heap.setIfInBounds L.blk o } where
  old := fun c hc => by unfold updR; rw [if_neg (by omega)]
  rel := by
    have hle := updR_le ⟨L.blk, off, L.size⟩ hn
    have hne : a ≠ n := fun e => by rw [e, hn] at hL; exact nomatch hL
    have f : ∀ {c : Nat} {b1 : Blk}, upd (upd h a none) n (some (.c false cells')) c = some b1 → (c = n ∧ b1 = .c false cells') ∨ (c ≠ n ∧ c ≠ a ∧ h c = some b1) := fun {c b1} e => by
      unfold upd at e
      by_cases c1 : c = n
      · rw [if_pos c1] at e; injection e with e; exact .inl ⟨c1, e.symm⟩
      · rw [if_neg c1] at e
        by_cases c2 : c = a
        · rw [if_pos c2] at e; exact nomatch e
        · rw [if_neg c2] at e; exact .inr ⟨c1, c2, e⟩
    refine ⟨fun c b1 e => ?_, fun c c' b1 b2 L1 L2 e1 e2 e3 e4 e5 => ?_⟩
    · rcases f e with ⟨rfl, rfl⟩ | ⟨c1, c2, e⟩
      · exact ⟨_, by unfold updR; rw [if_pos rfl], hb⟩
      · obtain ⟨L1, g1, g2⟩ := hr.at_ c b1 e
        have hne : L1.blk ≠ L.blk := fun q => c2 (hr.inj c a b1 _ L1 L e ha g1 hL q)
        refine ⟨L1, hle c L1 g1, BR.congr hle (set_get hne) ?_ g2⟩
        rintro m ver seen rfl v' es hm'
        rcases f hm' with ⟨_, hx⟩ | ⟨q1, q2, q3⟩
        · exact nomatch hx
        · exact ⟨v', es, q3, Nat.le_refl _, fun _ => ⟨rfl, fun Lm q => set_get fun q4 => q2 (hr.inj m a _ _ Lm L q3 ha q hL q4)⟩⟩
    · unfold updR at e3 e4
      rcases f e1 with ⟨c1, d1⟩ | ⟨c1, c2, q1⟩ <;> rcases f e2 with ⟨c3, d3⟩ | ⟨c3, c4, q2⟩
      · rw [c1, c3]
      · rw [if_pos c1] at e3; cases e3
        rw [if_neg c3] at e4
        exact absurd (hr.inj c' a b2 _ L2 L q2 ha e4 hL e5.symm) c4
      · rw [if_pos c3] at e4; cases e4
        rw [if_neg c1] at e3
        exact absurd (hr.inj c a b1 _ L1 L q1 ha e3 hL e5) c2
      · rw [if_neg c1] at e3; rw [if_neg c3] at e4
        exact hr.inj c c' b1 b2 L1 L2 q1 q2 e3 e4 e5
  kept := ⟨by simp, fun c hc hk => set_get fun q => hk a _ L ha rfl hL q.symm⟩
  own := fun c b1 L1 e1 e3 => by
    unfold upd at e1
    unfold updR at e3
    by_cases c1 : c = n
    · rw [if_pos c1] at e3; cases e3; exact .inr ⟨a, _, L, ha, fun _ => rfl, hL, rfl⟩
    · rw [if_neg c1] at e1 e3
      by_cases c2 : c = a
      · rw [if_pos c2] at e1; exact nomatch e1
      · rw [if_neg c2] at e1; exact .inr ⟨c, b1, L1, e1, id, e3, rfl⟩
  dom := fun c b1 e => by
    unfold upd at e
    by_cases c1 : c = n
    · exact .inr (by omega)
    · rw [if_neg c1] at e
      by_cases c2 : c = a
      · rw [if_pos c2] at e; exact nomatch e
      · rw [if_neg c2] at e; exact .inl ⟨b1, e⟩
  le := by omega

end Go.Proofs.YtdnlfkmfofckfaaGreatDoor.Ev
