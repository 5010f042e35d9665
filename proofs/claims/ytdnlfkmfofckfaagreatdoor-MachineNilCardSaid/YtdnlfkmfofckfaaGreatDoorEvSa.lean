/- Whether two pointers are equal. -/
import Derived.Test.YtdnlfkmfofckfaaGreatDoorEvS
namespace Go.Proofs.YtdnlfkmfofckfaaGreatDoor.Ev
variable {P : Program}

noncomputable def tPtrElem (P : Program) (t : TypeId) : Option TypeId := match tU P t with | some (.pointer e) => some e | _ => none
theorem tPtrElem_und {t e : TypeId} (h : tPtrElem P t = some e) : P.underlying t = some (.pointer e) := by
  unfold tPtrElem at h; rw [tU_eq] at h; split at h
  · injection h with h; subst h; assumption
  · exact nomatch h

noncomputable def plainAt (h : Tr Blk) (a : Nat) : Bool := Option.rec (motive := fun _ => Bool) false (fun b => Blk.rec (motive := fun _ => Bool) (fun ro _ => notB ro) (fun _ _ => false) (fun _ _ _ => false) false (fun _ _ => false) b) (h.get a)
theorem plainAt_ok {h : Tr Blk} {a : Nat} (e : plainAt h a = true) : ∃ cs, h.get a = some (.c false cs) := by
  unfold plainAt at e
  cases hb : h.get a with
  | none => rw [hb] at e; exact nomatch (show (false : Bool) = true from e)
  | some b =>
    rw [hb] at e
    cases b
    case c ro cs => cases ro; exact ⟨cs, rfl⟩; exact nomatch (show (false : Bool) = true from e)
    all_goals exact nomatch (show (false : Bool) = true from e)

noncomputable def hPtrEq (P : Program) (h : Tr Blk) (op : BinOp) (t : TypeId) (x y : V) : Option V :=
  onO (isEq op) fun pos => x.onP fun a o => y.onP fun a' o' => onO (tPtrElem P t) fun e => onO (tSize P e) fun n => ifB (notB (Nat.beq n 0))
    (Bool.rec (motive := fun _ => Option V) (ifB (plainAt h a) (ifB (plainAt h a') (some (.b (notB pos))))) (some (.b (ite2 pos (Nat.beq o o') (notB (Nat.beq o o'))))) (Nat.beq a a'))

theorem notB_true {b : Bool} (h : notB b = true) : b = false := by cases b; rfl; exact nomatch h

theorem sameAddr_off (w : World) (b o o' : Nat) : (sameAddr ⟨b, o, none⟩ ⟨b, o', none⟩).run P w = .ok (Nat.beq o o') w := by
  have e : ((⟨b, o, none⟩ : Addr) == ⟨b, o', none⟩) = Nat.beq o o' := by
    rw [Bool.eq_iff_iff, beq_iff_eq]
    constructor
    · intro h; injection h with _ h; subst h; exact Nat.beq_refl _
    · intro h; rw [Nat.eq_of_beq_eq_true h]
  unfold sameAddr
  simp only [beq_self_eq_true, if_true, e]
  rfl

theorem sameAddr_ne {w : World} {b b' o o' : Nat} {c c' : Array Value} {e e' : TypeId} {lo hi lo' hi' : Nat} (hne : b ≠ b') (h : w.heap[b]? = some (.cells c e (lo, hi))) (h' : w.heap[b']? = some (.cells c' e' (lo', hi')))
    (hf : ∀ i, ¬ (lo ≤ i ∧ i < hi)) (hf' : ∀ i, ¬ (lo' ≤ i ∧ i < hi')) : (sameAddr ⟨b, o, none⟩ ⟨b', o', none⟩).run P w = .ok false w := by
  have fz : ∀ {b : Nat} {c : Array Value} {e : TypeId} {lo hi : Nat} (i : Nat), w.heap[b]? = some (.cells c e (lo, hi)) → (∀ i, ¬ (lo ≤ i ∧ i < hi)) → w.frozen? ⟨b, i, none⟩ = false := by
    intro b c e lo hi i h hf
    simp only [World.frozen?, h]
    cases hb : (decide (lo ≤ i) && decide (i < hi))
    · rfl
    · simp at hb; exact absurd hb (hf i)
  have sh : ∀ {b : Nat} {c : Array Value} {e : TypeId} {lo hi : Nat}, w.heap[b]? = some (.cells c e (lo, hi)) → w.shape? b = some (e, c.size) := by
    intro b c e lo hi h
    simp [World.shape?, h]
  have hb : (b == b') = false := by simp [hne]
  have rs : ∀ (r : Nat), (shape r).run P w = .ok (w.shape? r) w := fun r => rfl
  have rf : ∀ (a : Addr), (frozen a).run P w = .ok (w.frozen? a) w := fun a => rfl
  unfold sameAddr
  simp only [hb, Bool.false_eq_true, if_false, Sem.run_bind, rf, fz _ h hf, fz _ h' hf', Result.andThen_ok, Bool.false_and, noView, viewAt, rs, sh h, sh h', Option.isSome_some, if_true, Sem.run_pure, Option.isSome_none, mayBeOne, stringish, Bool.or_self]

theorem equal_ptr (dp : Nat) {t e : TypeId} {n : Nat} {x y : Addr} {r : Bool} {w : World} (ht : P.underlying t = some (.pointer e)) (hn : tSize P e = some n) (h0 : n ≠ 0) (h : (sameAddr x y).run P w = .ok r w) :
    (Op.equalIn (dp + 1) t (.pointer (some x)) (.pointer (some y))).run P w = .ok r w := by
  unfold Op.equalIn
  simp only [Sem.run_bind, run_und ht, Result.andThen_ok, tSize_ok hn, ne_eq, h0, not_false_eq_true, if_true, h]

theorem hPtrEq_ok {ρ : Ren} {h : Tr Blk} {op : BinOp} {t : TypeId} {xo yo : Operand} {x y v : V} {u z : Value} {w : World} (hr : HRel ρ h.get w) (hh : hPtrEq P h op t x y = some v) (hx : R ρ x u) (hy : R ρ y z) :
    ∃ r, (do eqGuard op t xo yo u z; binOp op t u z : Sem Value).run P w = .ok r w ∧ R ρ v r := by
  obtain ⟨pos, hpos, h1⟩ := onO_inv hh
  obtain ⟨a, o, rfl, h2⟩ := V.onP_inv h1
  obtain ⟨a', o', rfl, h3⟩ := V.onP_inv h2
  obtain ⟨e, he, h4⟩ := onO_inv h3
  obtain ⟨n, hn, h5⟩ := onO_inv h4
  obtain ⟨h6, h7⟩ := ifB_inv h5
  have h0 := Nat.ne_of_beq_eq_false (notB_true h6)
  have ht := tPtrElem_und he
  obtain ⟨L, hL, rfl⟩ := hx
  obtain ⟨L', hL', rfl⟩ := hy
  have key : ∃ r, (sameAddr ⟨L.blk, L.base + o, none⟩ ⟨L'.blk, L'.base + o', none⟩).run P w = .ok r w ∧ v = .b (ite2 pos r (notB r)) := by
    cases c : Nat.beq a a' with
    | true =>
      rw [c] at h7
      injection h7 with h7
      have := Nat.eq_of_beq_eq_true c
      subst this
      rw [hL] at hL'; cases hL'
      refine ⟨Nat.beq o o', ?_, h7.symm⟩
      rw [sameAddr_off]
      congr 1
      rw [Bool.eq_iff_iff, Nat.beq_eq, Nat.beq_eq]
      omega
    | false =>
      rw [c] at h7
      obtain ⟨p1, h8⟩ := ifB_inv h7
      obtain ⟨p2, h9⟩ := ifB_inv h8
      injection h9 with h9
      obtain ⟨cs, q1⟩ := plainAt_ok p1
      obtain ⟨cs', q2⟩ := plainAt_ok p2
      obtain ⟨L1, k1, arr, et, lo, hi, b1, b2, _⟩ := hr.at_ a _ q1
      obtain ⟨L2, k2, arr', et', lo', hi', b1', b2', _⟩ := hr.at_ a' _ q2
      rw [hL] at k1; cases k1
      rw [hL'] at k2; cases k2
      have hne : L.blk ≠ L'.blk := fun q => Nat.ne_of_beq_eq_false c (hr.inj a a' _ _ L L' q1 q2 hL hL' q)
      refine ⟨false, sameAddr_ne hne b1 b1' (fun i => b2 i (.inr rfl)) (fun i => b2' i (.inr rfl)), ?_⟩
      rw [← h9]
      cases pos <;> rfl
  obtain ⟨r, hs, rfl⟩ := key
  have hgd : (eqGuard op t xo yo (.pointer (some ⟨L.blk, L.base + o, none⟩)) (.pointer (some ⟨L'.blk, L'.base + o', none⟩))).run P w = .ok () w := guard_skip w (fun e => nomatch e) (fun cs e => nomatch e)
  have heq : (Op.equal t (.pointer (some ⟨L.blk, L.base + o, none⟩)) (.pointer (some ⟨L'.blk, L'.base + o', none⟩))).run P w = .ok r w := equal_ptr 9999 ht hn h0 hs
  have nk : ∀ z : Option Addr, (∀ k n, Value.pointer z ≠ .int k n) ∧ (∀ k n, Value.pointer z ≠ .float k n) ∧ (∀ k n m, Value.pointer z ≠ .complex k n m) ∧ (∀ s, Value.pointer z ≠ .string s) := by
    intro z
    refine ⟨?_, ?_, ?_, ?_⟩ <;> intros <;> intro hh <;> exact nomatch hh
  obtain ⟨k1, k2, k3, k4⟩ := nk (some ⟨L.blk, L.base + o, none⟩)
  rcases isEq_ok hpos with ⟨rfl, rfl⟩ | ⟨rfl, rfl⟩
  · refine ⟨.bool r, ?_, rfl⟩
    simp only [Sem.run_bind, hgd, Result.andThen_ok]
    rw [binOp_eql t _ _ w k1 k2 k3 k4 (fun _ _ => trivial), heq, Result.andThen_ok]
  · refine ⟨.bool (!r), ?_, by show _ = _; rw [ite2_false, notB_eq]⟩
    simp only [Sem.run_bind, hgd, Result.andThen_ok]
    rw [binOp_neq t _ _ w k1 k2 k3 k4, heq, Result.andThen_ok]

end Go.Proofs.YtdnlfkmfofckfaaGreatDoor.Ev
