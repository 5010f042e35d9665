/- The evaluator's data: values, blocks, the heap as a trie, and what they stand for in the model's world. -/
import Derived.Orders
import Derived.KernelRfl
import Derived.Laws.Sem
import Derived.Laws.World
namespace Go.Proofs.YtdnlfkmfofckfaaGreatDoor.Ev

/-! ### the trie -/

inductive Tr (α : Type) : Type where
  | e : Tr α
  | n (l : Tr α) (v : Option α) (r : Tr α) : Tr α

noncomputable def Tr.get {α : Type} (t : Tr α) : Nat → Option α :=
  Tr.rec (motive := fun _ => Nat → Option α) (fun _ => none)
    (fun _ v _ ihl ihr k => Bool.rec (motive := fun _ => Option α)
      (Bool.rec (motive := fun _ => Option α) (ihr (Nat.div k 2)) (ihl (Nat.sub (Nat.div k 2) 1)) (Nat.beq (Nat.mod k 2) 0)) v (Nat.beq k 0)) t

noncomputable def Tr.one {α : Type} (f : Nat) : Nat → α → Tr α :=
  Nat.rec (motive := fun _ => Nat → α → Tr α) (fun _ x => .n .e (some x) .e)
    (fun _ ih k x => Bool.rec (motive := fun _ => Tr α)
      (Bool.rec (motive := fun _ => Tr α) (.n .e none (ih (Nat.div k 2) x)) (.n (ih (Nat.sub (Nat.div k 2) 1) x) none .e) (Nat.beq (Nat.mod k 2) 0))
      (.n .e (some x) .e) (Nat.beq k 0)) f

noncomputable def Tr.set {α : Type} (t : Tr α) : Nat → α → Tr α :=
  Tr.rec (motive := fun _ => Nat → α → Tr α) (fun k x => Tr.one k k x)
    (fun l v r ihl ihr k x => Bool.rec (motive := fun _ => Tr α)
      (Bool.rec (motive := fun _ => Tr α) (.n l v (ihr (Nat.div k 2) x)) (.n (ihl (Nat.sub (Nat.div k 2) 1) x) v r) (Nat.beq (Nat.mod k 2) 0))
      (.n l (some x) r) (Nat.beq k 0)) t

/-- The entry at a place is taken out. -/
noncomputable def Tr.cut {α : Type} (t : Tr α) : Nat → Tr α :=
  Tr.rec (motive := fun _ => Nat → Tr α) (fun _ => .e)
    (fun l v r ihl ihr k => Bool.rec (motive := fun _ => Tr α)
      (Bool.rec (motive := fun _ => Tr α) (.n l v (ihr (Nat.div k 2))) (.n (ihl (Nat.sub (Nat.div k 2) 1)) v r) (Nat.beq (Nat.mod k 2) 0))
      (.n l none r) (Nat.beq k 0)) t

section trie
variable {α : Type}

theorem sel {β : Type} (k : Nat) (a b c : β) :
    Bool.rec (motive := fun _ => β) (Bool.rec (motive := fun _ => β) c b (Nat.beq (Nat.mod k 2) 0)) a (Nat.beq k 0) = if k = 0 then a else if k % 2 = 0 then b else c := by
  cases h : Nat.beq k 0
  · have h0 : k ≠ 0 := Nat.ne_of_beq_eq_false h
    rw [if_neg h0]
    cases h2 : Nat.beq (Nat.mod k 2) 0
    · have h3 : k % 2 ≠ 0 := Nat.ne_of_beq_eq_false h2
      rw [if_neg h3]
    · have h3 : k % 2 = 0 := Nat.eq_of_beq_eq_true h2
      rw [if_pos h3]
  · have h0 : k = 0 := Nat.eq_of_beq_eq_true h
    rw [if_pos h0]


theorem Tr.get_e (k : Nat) : (Tr.e : Tr α).get k = none := rfl

theorem Tr.get_n (l : Tr α) (v : Option α) (r : Tr α) (k : Nat) :
    (Tr.n l v r).get k = if k = 0 then v else if k % 2 = 0 then l.get (k / 2 - 1) else r.get (k / 2) := sel k _ _ _

theorem Tr.set_n (l : Tr α) (v : Option α) (r : Tr α) (k : Nat) (x : α) :
    (Tr.n l v r).set k x = if k = 0 then .n l (some x) r else if k % 2 = 0 then .n (l.set (k / 2 - 1) x) v r else .n l v (r.set (k / 2) x) := sel k _ _ _

theorem Tr.cut_n (l : Tr α) (v : Option α) (r : Tr α) (k : Nat) :
    (Tr.n l v r).cut k = if k = 0 then .n l none r else if k % 2 = 0 then .n (l.cut (k / 2 - 1)) v r else .n l v (r.cut (k / 2)) := sel k _ _ _

theorem Tr.one_zero (k : Nat) (x : α) : Tr.one 0 k x = .n .e (some x) .e := rfl

theorem Tr.one_succ (f k : Nat) (x : α) :
    Tr.one (f + 1) k x = if k = 0 then .n .e (some x) .e else if k % 2 = 0 then .n (Tr.one f (k / 2 - 1) x) none .e else .n .e none (Tr.one f (k / 2) x) := sel k _ _ _

theorem Tr.get_one (f : Nat) : ∀ (k j : Nat) (x : α), k ≤ f → (Tr.one f k x).get j = if j = k then some x else none := by
  induction f with
  | zero =>
    intro k j x h
    obtain rfl : k = 0 := by omega
    rw [Tr.one_zero, Tr.get_n]
    by_cases hj : j = 0
    · simp [hj]
    · rw [if_neg hj, if_neg hj]; split <;> rfl
  | succ f ih =>
    intro k j x h
    rw [Tr.one_succ]
    by_cases hk : k = 0
    · subst hk
      rw [if_pos rfl, Tr.get_n]
      by_cases hj : j = 0
      · simp [hj]
      · rw [if_neg hj, if_neg hj]; split <;> rfl
    · rw [if_neg hk]
      by_cases h2 : k % 2 = 0
      · rw [if_pos h2, Tr.get_n]
        by_cases hj : j = 0
        · rw [if_pos hj, if_neg (by omega)]
        · rw [if_neg hj]
          by_cases hj2 : j % 2 = 0
          · rw [if_pos hj2, ih _ _ _ (by omega)]
            by_cases e : j = k
            · rw [if_pos (by omega), if_pos e]
            · rw [if_neg (by omega), if_neg e]
          · rw [if_neg hj2, if_neg (by omega)]; rfl
      · rw [if_neg h2, Tr.get_n]
        by_cases hj : j = 0
        · rw [if_pos hj, if_neg (by omega)]
        · rw [if_neg hj]
          by_cases hj2 : j % 2 = 0
          · rw [if_pos hj2, if_neg (by omega)]; rfl
          · rw [if_neg hj2, ih _ _ _ (by omega)]
            by_cases e : j = k
            · rw [if_pos (by omega), if_pos e]
            · rw [if_neg (by omega), if_neg e]

theorem Tr.get_set (t : Tr α) : ∀ (k j : Nat) (x : α), (t.set k x).get j = if j = k then some x else t.get j := by
  induction t with
  | e => intro k j x; exact Tr.get_one k k j x (Nat.le_refl _)
  | n l v r ihl ihr =>
    intro k j x
    rw [Tr.set_n]
    by_cases hk : k = 0
    · subst hk
      rw [if_pos rfl, Tr.get_n, Tr.get_n]
      by_cases hj : j = 0
      · simp [hj]
      · simp [hj]
    · rw [if_neg hk]
      by_cases h2 : k % 2 = 0
      · rw [if_pos h2, Tr.get_n, Tr.get_n, ihl]
        by_cases hj : j = 0
        · rw [if_pos hj, if_pos hj, if_neg (by omega)]
        · rw [if_neg hj, if_neg hj]
          by_cases hj2 : j % 2 = 0
          · rw [if_pos hj2, if_pos hj2]
            by_cases e : j = k
            · rw [if_pos (by omega), if_pos e]
            · rw [if_neg (by omega), if_neg e]
          · rw [if_neg hj2, if_neg hj2, if_neg (by omega)]
      · rw [if_neg h2, Tr.get_n, Tr.get_n, ihr]
        by_cases hj : j = 0
        · rw [if_pos hj, if_pos hj, if_neg (by omega)]
        · rw [if_neg hj, if_neg hj]
          by_cases hj2 : j % 2 = 0
          · rw [if_pos hj2, if_pos hj2, if_neg (by omega)]
          · rw [if_neg hj2, if_neg hj2]
            by_cases e : j = k
            · rw [if_pos (by omega), if_pos e]
            · rw [if_neg (by omega), if_neg e]

theorem Tr.get_cut (t : Tr α) : ∀ (k j : Nat), (t.cut k).get j = if j = k then none else t.get j := by
  induction t with
  | e => intro k j; show none = _; split <;> rfl
  | n l v r ihl ihr =>
    intro k j
    rw [Tr.cut_n]
    by_cases hk : k = 0
    · subst hk
      rw [if_pos rfl, Tr.get_n, Tr.get_n]
      by_cases hj : j = 0
      · simp [hj]
      · simp [hj]
    · rw [if_neg hk]
      by_cases h2 : k % 2 = 0
      · rw [if_pos h2, Tr.get_n, Tr.get_n, ihl]
        by_cases hj : j = 0
        · rw [if_pos hj, if_pos hj, if_neg (by omega)]
        · rw [if_neg hj, if_neg hj]
          by_cases hj2 : j % 2 = 0
          · rw [if_pos hj2, if_pos hj2]
            by_cases e : j = k
            · rw [if_pos (by omega), if_pos e]
            · rw [if_neg (by omega), if_neg e]
          · rw [if_neg hj2, if_neg hj2, if_neg (by omega)]
      · rw [if_neg h2, Tr.get_n, Tr.get_n, ihr]
        by_cases hj : j = 0
        · rw [if_pos hj, if_pos hj, if_neg (by omega)]
        · rw [if_neg hj, if_neg hj]
          by_cases hj2 : j % 2 = 0
          · rw [if_pos hj2, if_pos hj2, if_neg (by omega)]
          · rw [if_neg hj2, if_neg hj2]
            by_cases e : j = k
            · rw [if_pos (by omega), if_pos e]
            · rw [if_neg (by omega), if_neg e]
end trie

end Go.Proofs.YtdnlfkmfofckfaaGreatDoor.Ev
