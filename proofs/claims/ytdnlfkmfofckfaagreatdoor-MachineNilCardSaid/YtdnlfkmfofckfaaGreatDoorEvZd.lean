/- Functions whose contracts say that the world below is as it was. -/
import Derived.Test.YtdnlfkmfofckfaaGreatDoorEvZc
import Derived.Below
import Derived.Lib.Case
namespace Go.Proofs.YtdnlfkmfofckfaaGreatDoor.Ev
open Go.RowKit (Below)
variable {P : Program}

theorem HRel.below {ρ : Ren} {h : HF} {w w' : World} (hr : HRel ρ h w) (hb : Below w.heap.size w w') : HRel ρ h w' where
  at_ := fun a b e => by
    obtain ⟨L, h1, h2⟩ := hr.at_ a b e
    refine ⟨L, h1, BR.congr (Ren.le_refl ρ) (hb.block _ (hr.le_of e h1)) (fun m ver seen _ v' es hm => ⟨v', es, hm, Nat.le_refl _, fun _ => ⟨rfl, fun Lm hL => hb.block _ (hr.le_of hm hL)⟩⟩) h2⟩
  inj := hr.inj

theorem Step.below {ρ : Ren} {h : HF} {w w' : World} (n : Nat) (hr : HRel ρ h w) (hb : Below w.heap.size w w') : Step ρ ρ h h n n w w' where
  old := fun _ _ => rfl
  rel := hr.below hb
  kept := ⟨hb.size, fun c hc _ => hb.block c hc⟩
  own := fun a b L h1 h3 => .inr ⟨a, b, L, h1, id, h3, rfl⟩
  dom := fun _ b h1 => .inl ⟨b, h1⟩
  le := Nat.le_refl n
  env := ⟨hb.os, hb.output⟩

/-- That a function has a body. -/
def Bodied (P : Program) (k : FuncId) : Prop := ∃ fn, P.funcs[k]? = some fn ∧ (fn.name == "runtime.NumGoroutine") = false ∧ fn.body.isNone = false

/-- What a function makes of values, where its contract says so; nothing below is turned. -/
def Says (P : Program) (k : FuncId) (g : List V → Option V) : Prop :=
  ∀ args v (ρ : Ren) (vs : List Value) (w : World), g args = some v → RL ρ args vs → Calls P k vs.toArray w fun
    | .returned y, w' => R ρ v y ∧ Below w.heap.size w w'
    | _, _ => False

/-- Contracts as a table. -/
noncomputable def told (k : FuncId) (g : List V → Option V) (c : Cal) : Cal := fun f args H => Bool.rec (motive := fun _ => Option (V × Heap)) (c f args H) (onO (g args) fun v => some (v, H)) (Nat.beq f k)

theorem told_ok {G : Nat} {k : FuncId} {g : List V → Option V} {c : Cal} (hb : Bodied P k) (hs : Says P k g) (hc : FunOk P G c) : FunOk P G (told k g c) := by
  intro f args H v H' h
  cases e : Nat.beq f k with
  | false =>
    have h : c f args H = some (v, H') := by
      have : told k g c f args H = Bool.rec (motive := fun _ => Option (V × Heap)) (c f args H) (onO (g args) fun v => some (v, H)) (Nat.beq f k) := rfl
      rw [this, e] at h; exact h
    exact hc f args H v H' h
  | true =>
    have h : (onO (g args) fun v => some (v, H)) = some (v, H') := by
      have : told k g c f args H = Bool.rec (motive := fun _ => Option (V × Heap)) (c f args H) (onO (g args) fun v => some (v, H)) (Nat.beq f k) := rfl
      rw [this, e] at h; exact h
    obtain ⟨v', h1, h2⟩ := onO_inv h
    injection h2 with h2; injection h2 with h2 h3; subst h2; subst h3
    have := Nat.eq_of_beq_eq_true e; subst this
    refine ⟨hb, fun ρ vs w _ ha hr _ => (hs args v' ρ vs w h1 ha).mono ?_⟩
    intro e w' hq
    cases e with
    | returned y => exact ⟨ρ, hq.1, Step.below _ hr hq.2⟩
    | panicked _ => exact hq
    | outgrown => exact hq

theorem none_ok {G : Nat} : FunOk P G (fun _ _ _ => none) := fun _ _ _ _ _ h => nomatch h
theorem noneD_ok {G : Nat} : DCalOk P G (fun _ _ _ => none) := fun _ _ _ _ h => nomatch h

/-! ### strings.ToLower on ASCII text -/

noncomputable def lowN (b : Nat) : Nat := Bool.rec (motive := fun _ => Nat) b (Bool.rec (motive := fun _ => Nat) b (Nat.add b 32) (Nat.ble b 90)) (Nat.ble 65 b)
noncomputable def allAsc (l : List Nat) : Bool := List.rec (motive := fun _ => Bool) true (fun b _ ih => Bool.rec (motive := fun _ => Bool) false ih (Nat.blt b 128)) l
noncomputable def sole {β : Type} (l : List V) (f : V → Option β) : Option β := List.rec (motive := fun _ => Option β) none (fun x t _ => List.rec (motive := fun _ => Option β) (f x) (fun _ _ _ => none) t) l
theorem sole_inv {β : Type} {l : List V} {f : V → Option β} {r : β} (h : sole l f = some r) : ∃ x, l = [x] ∧ f x = some r := by
  match l, h with
  | [x], h => exact ⟨x, rfl, h⟩
  | [], h => exact nomatch (show (none : Option β) = some r from h)
  | _ :: _ :: _, h => exact nomatch (show (none : Option β) = some r from h)
noncomputable def toLow (args : List V) : Option V := sole args fun x => V.onS x fun l => ifB (andB (allAsc l) (Nat.ble (lenL l) 4096)) (some (.s (mapL lowN l)))

theorem lowN_ok (b : UInt8) : lowN b.toNat = (Lib.lowerB b).toNat := by
  have h1 : (65 : UInt8) ≤ b ↔ 65 ≤ b.toNat := Iff.rfl
  have h2 : b ≤ (90 : UInt8) ↔ b.toNat ≤ 90 := Iff.rfl
  unfold lowN Lib.lowerB Lib.isUpperB
  cases e1 : Nat.ble 65 b.toNat
  · have : ¬ 65 ≤ b.toNat := fun h => by rw [Nat.ble_eq_true_of_le h] at e1; exact nomatch e1
    simp [h1, this]
  · have e1 := Nat.le_of_ble_eq_true e1
    cases e2 : Nat.ble b.toNat 90
    · have : ¬ b.toNat ≤ 90 := fun h => by rw [Nat.ble_eq_true_of_le h] at e2; exact nomatch e2
      simp [h2, this]
    · have e2 := Nat.le_of_ble_eq_true e2
      have : (b + 32).toNat = b.toNat + 32 := by rw [UInt8.toNat_add]; show (b.toNat + 32) % 256 = _; omega
      simp [h1, h2, e1, e2, this]

theorem allAsc_ok : ∀ {l : List UInt8}, allAsc (l.map UInt8.toNat) = true → ∀ b ∈ l, b.toNat < 128
  | [], _, _, hb => nomatch hb
  | x :: l, h, b, hb => by
    have h : Bool.rec (motive := fun _ => Bool) false (allAsc (l.map UInt8.toNat)) (Nat.blt x.toNat 128) = true := h
    cases e : Nat.blt x.toNat 128
    · rw [e] at h; exact nomatch (show (false : Bool) = true from h)
    · rw [e] at h
      rcases List.mem_cons.1 hb with rfl | hb
      · have : Nat.ble (b.toNat + 1) 128 = true := e
        exact Nat.le_of_ble_eq_true this
      · exact allAsc_ok h b hb

/-- The shelf's contract for strings.ToLower, as the evaluator asks for it. -/
theorem toLow_ok {k : FuncId} (h : ∀ (s : ByteArray) (w : World), s.size ≤ 140737488355328 → (∀ (j : Nat) (b : UInt8), s.data.toList[j]? = some b → b.toNat < 128) →
    Calls P k #[.string s] w fun e w' => e = .returned (.string ⟨(Lib.toLowerA s.data.toList).toArray⟩) ∧ Below w.heap.size w w') : Says P k toLow := by
  intro args v ρ vs w hg ha
  obtain ⟨x, rfl, h1⟩ := sole_inv hg
  obtain ⟨l, rfl, h2⟩ := V.onS_inv h1
  obtain ⟨h3, h4⟩ := ifB_inv h2
  injection h4 with h4; subst h4
  obtain ⟨y, ys, rfl, ⟨s, rfl, hs⟩, hn⟩ := ha
  have hn : ys = [] := hn
  subst hn
  subst hs
  obtain ⟨h3, h5⟩ := andB_inv h3
  have h5 := Nat.le_of_ble_eq_true h5
  rw [lenL_eq] at h5
  unfold bytesOf at h3 h5
  rw [List.length_map] at h5
  refine (h s w (Nat.le_trans (show s.size ≤ 4096 from (show s.data.toList.length ≤ 4096 from h5)) (by omega)) (fun j b e => allAsc_ok h3 b (List.mem_of_getElem? e))).mono ?_
  rintro e w' ⟨rfl, hb⟩
  refine ⟨⟨_, rfl, ?_⟩, hb⟩
  unfold bytesOf Lib.toLowerA
  rw [mapL_eq, List.map_map, List.map_map]
  exact List.map_congr_left fun b _ => (lowN_ok b).symm

end Go.Proofs.YtdnlfkmfofckfaaGreatDoor.Ev
