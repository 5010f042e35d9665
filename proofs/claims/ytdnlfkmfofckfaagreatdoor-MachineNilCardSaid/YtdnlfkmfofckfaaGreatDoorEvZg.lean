/- The functions that a function can come to, found with a trie. -/
import Derived.Test.YtdnlfkmfofckfaaGreatDoorEvZf
namespace Go.Proofs.YtdnlfkmfofckfaaGreatDoor.Ev
variable {P : Program}

noncomputable def adjT (P : Program) (T : Tr Func) (f : FuncId) : Option (List FuncId) := onO (T.get f) fun g => some (P.leadsTo g)
noncomputable def cloT (adj : FuncId → Option (List FuncId)) (n : Nat) : List FuncId → List FuncId → Tr Unit → Option (List FuncId) :=
  Nat.rec (motive := fun _ => List FuncId → List FuncId → Tr Unit → Option (List FuncId))
    (fun todo seen _ => List.rec (motive := fun _ => Option (List FuncId)) (some seen.reverse) (fun _ _ _ => none) todo)
    (fun _ ih todo seen set => List.rec (motive := fun _ => Option (List FuncId)) (some seen.reverse)
      (fun f t _ => Option.rec (motive := fun _ => Option (List FuncId)) (onO (adj f) fun l => ih (appL l t) (f :: seen) (set.set f ())) (fun _ => ih t seen set) (set.get f)) todo) n

theorem cloT_ok {T : Tr Func} (hT : ∀ f g, T.get f = some g → P.funcs[f]? = some g) : ∀ (n : Nat) (todo seen : List FuncId) (set : Tr Unit) (L : List FuncId), (∀ f, (set.get f).isSome = seen.contains f) →
    cloT (adjT P T) n todo seen set = some L → ∀ m, n ≤ m → P.closureVia m todo seen = L
  | 0, [], seen, set, L, _, h, m, _ => by
    injection (show some seen.reverse = some L from h) with h
    cases m <;> simp only [Program.closureVia, h]
  | 0, _ :: _, seen, set, L, _, h, m, _ => nomatch (show (none : Option (List FuncId)) = some L from h)
  | n + 1, [], seen, set, L, _, h, m, _ => by
    injection (show some seen.reverse = some L from h) with h
    cases m <;> simp only [Program.closureVia, h]
  | n + 1, f :: t, seen, set, L, hs, h, 0, hm => by omega
  | n + 1, f :: t, seen, set, L, hs, h, m + 1, hm => by
    have h : Option.rec (motive := fun _ => Option (List FuncId)) (onO (adjT P T f) fun l => cloT (adjT P T) n (appL l t) (f :: seen) (set.set f ())) (fun _ => cloT (adjT P T) n t seen set) (set.get f) = some L := h
    unfold Program.closureVia
    rw [← hs f]
    cases hg : set.get f with
    | some u =>
      rw [hg] at h
      rw [if_pos (show (some u).isSome = true from rfl)]
      exact cloT_ok hT n t seen set L hs h m (by omega)
    | none =>
      rw [hg] at h
      rw [if_neg (show ¬ ((none : Option Unit).isSome = true) from fun h => nomatch h)]
      obtain ⟨l, h1, h2⟩ := onO_inv (show (onO (adjT P T f) fun l => cloT (adjT P T) n (appL l t) (f :: seen) (set.set f ())) = some L from h)
      obtain ⟨g, h3, h4⟩ := onO_inv h1
      injection h4 with h4
      rw [hT f g h3]
      show P.closureVia m (P.leadsTo g ++ t) (f :: seen) = L
      rw [h4, ← appL_eq]
      refine cloT_ok hT n (appL l t) (f :: seen) (set.set f ()) L (fun k => ?_) h2 m (by omega)
      rw [Tr.get_set]
      by_cases hk : k = f
      · subst hk; simp
      · have : (f :: seen).contains k = seen.contains k := by simp [hk]
        rw [this, ← hs k, if_neg hk]

noncomputable def lbF (g : Func) : Nat := Option.rec (motive := fun _ => Nat) 1 (fun c => Nat.add (lenL c.funcsNamed) 1) g.body
theorem lbF_le (g : Func) : lbF g ≤ (P.leadsTo g).length + 1 := by
  unfold lbF Program.leadsTo
  cases g.body with
  | none => show 1 ≤ _; omega
  | some c => show Nat.add (lenL c.funcsNamed) 1 ≤ _; rw [lenL_eq]; exact Nat.le_refl _
noncomputable def sumL (l : List Func) : Nat := List.rec (motive := fun _ => Nat) 0 (fun g _ ih => Nat.add (lbF g) ih) l
theorem sumL_le : ∀ l : List Func, sumL l ≤ (l.map fun g => (P.leadsTo g).length + 1).sum
  | [] => Nat.le_refl _
  | g :: l => by
    have : sumL (g :: l) = lbF g + sumL l := rfl
    rw [this, List.map_cons, List.sum_cons]
    exact Nat.add_le_add (lbF_le g) (sumL_le l)

noncomputable def fuelOk (P : Program) (n : Nat) : Bool := Nat.ble n (Nat.add (sumL P.funcs.toList) 1)
theorem closure_is {f : FuncId} {n : Nat} {L : List FuncId} (h : cloT (adjT P (idxA P.funcs)) n [f] [] .e = some L) (hn : fuelOk P n = true) : P.closure f = L := by
  unfold Program.closure
  refine cloT_ok (fun f g e => idxA_get e) n [f] [] .e L (fun k => rfl) h _ ?_
  have h1 := sumL_le (P := P) P.funcs.toList
  have h2 : n ≤ sumL P.funcs.toList + 1 := Nat.le_of_ble_eq_true hn
  omega

/-! ### laid out, by parts -/
theorem all_parts {p : Nat → Bool} {n k : Nat} (h1 : (List.range k).all p = true) (h2 : (List.range n).all (fun i => p (k + i)) = true) : (List.range (k + n)).all p = true := by
  rw [List.all_eq_true] at h1 h2 ⊢
  intro x hx
  have hx := List.mem_range.1 hx
  by_cases c : x < k
  · exact h1 x (List.mem_range.2 c)
  · have := h2 (x - k) (List.mem_range.2 (by omega))
    rwa [show k + (x - k) = x by omega] at this

end Go.Proofs.YtdnlfkmfofckfaaGreatDoor.Ev
