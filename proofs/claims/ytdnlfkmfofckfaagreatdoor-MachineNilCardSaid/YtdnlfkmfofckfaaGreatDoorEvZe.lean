/- A run from an empty heap that answers true: what the machine does. -/
import Derived.Test.YtdnlfkmfofckfaaGreatDoorEvZd
namespace Go.Proofs.YtdnlfkmfofckfaaGreatDoor.Ev
open Go.RowKit (Below)
variable {P : Program}

noncomputable def noC : Cal := fun _ _ _ => none
noncomputable def noD : DCal := fun _ _ _ => none
noncomputable def V.isT (v : V) : Bool := V.rec (motive_1 := fun _ => Bool) (motive_2 := fun _ => PUnit) (fun b => b) (fun _ _ => false) (fun _ => false) false (fun _ _ => false) false (fun _ _ _ _ _ => false) false (fun _ => false) false (fun _ _ _ _ _ => false) false (fun _ _ _ => false) (fun _ _ => false) (fun _ _ => false) false false (fun _ => false) PUnit.unit (fun _ _ _ _ => PUnit.unit) v
noncomputable def yes (x : Option (V × Heap)) : Bool := Option.rec (motive := fun _ => Bool) false (fun p => p.1.isT) x
theorem isT_ok : ∀ {v : V}, v.isT = true → v = .b true
  | .b true, _ => rfl
theorem yes_ok {x : Option (V × Heap)} (h : yes x = true) : ∃ H, x = some (.b true, H) := by
  cases x with
  | none => exact nomatch (show (false : Bool) = true from h)
  | some p => exact ⟨p.2, by rw [← isT_ok (v := p.1) h]⟩

/-- One run of the function f, its callees to depth d. -/
noncomputable def runF (P : Program) (G fuel : Nat) (row orc : Cal) (d : Nat) (f : FuncId) (args : List V) (H : Heap) : Option (V × Heap) :=
  evFun P G fuel (evCal P G fuel row orc noD d) (evDC P G fuel noD (evCal P G fuel row orc noD d)) f args H

theorem evDC_ok {G fuel : Nat} {cal : Cal} (hc : CalOk P G cal) (hmix : P.follows .mixedOrders = true) : DCalOk P G (evDC P G fuel noD cal) := by
  intro f args H H' h
  rcases orE_inv (show orE (noD f args H) (orE (evRecD P G fuel cal f args H) (evFunD P G fuel cal f args H)) = some H' from h) with h | h
  · exact nomatch (show (none : Option Heap) = some H' from h)
  · rcases orE_inv h with h | h
    · exact evRecD_ok hc hmix f args H H' h
    · exact evFunD_ok hc hmix f args H H' h

theorem runF_ok {G fuel d : Nat} {row orc : Cal} (hrow : RowOk P G row) (ho : FunOk P G orc) (hmix : P.follows .mixedOrders = true) : FunOk P G (runF P G fuel row orc d) :=
  have hc := evCal_ok (fuel := fuel) hrow ho (noneD_ok (P := P) (G := G)) hmix d
  fun f args H v H' h => evFun_ok hc (evDC_ok hc hmix) hmix f args H v H' h

/-- What lay there when a call began is as it was. -/
structure Stays (w w' : World) : Prop where
  os : w'.os = w.os
  output : w'.output = w.output
  size : w.heap.size ≤ w'.heap.size
  block : ∀ k, k < w.heap.size → w'.heap[k]? = w.heap[k]?

theorem Stays.frame {W w' : World} (h : Stays W w') (may : MemPlace → Prop) : W.keptBut w' may := by
  refine ⟨h.os, h.output, fun i hi => ?_⟩
  rw [h.block i hi]
  split <;> simp_all

noncomputable def idR (G : Nat) : Ren := fun a => if a < G then some ⟨a, 0, 0⟩ else none

theorem calls_true {G : Nat} {f : FuncId} {args : List V} {vs : List Value} {run : Cal} (hrun : FunOk P G run) (h : yes (run f args ⟨G, .e⟩) = true) (ha : ∀ ρ, RL ρ args vs) (w : World) :
    Calls P f vs.toArray w fun e w' => e = .returned (.bool true) ∧ Stays w w' := by
  obtain ⟨H, h⟩ := yes_ok h
  obtain ⟨_, h2⟩ := hrun f args _ _ H h
  have hg : Glob (idR G) G := fun g hg => ⟨⟨g, 0, 0⟩, by unfold idR; rw [if_pos hg], rfl, rfl⟩
  have hf : Fresh (idR G) G := fun a ha => by unfold idR; rw [if_neg (by omega)]
  have hn : ∀ a, (Tr.e : Tr Blk).get a = none := fun a => Tr.get_e a
  have hr : HRel (idR G) (Tr.e : Tr Blk).get w := ⟨fun a b e => (by rw [hn] at e; exact nomatch e), fun a a' b b' L L' e => (by rw [hn] at e; exact nomatch e)⟩
  refine (h2 (idR G) vs w hg (ha _) hr hf).mono fun e w' hq => ?_
  cases e with
  | returned y =>
    obtain ⟨ρ', h3, h4⟩ := hq
    have h3 : y = .bool true := h3
    subst h3
    exact ⟨rfl, h4.env.1, h4.env.2, h4.kept.1, fun k hk => h4.kept.2 k hk fun a b L e => by rw [hn] at e; exact nomatch e⟩
  | panicked _ => exact hq.elim
  | outgrown => exact hq.elim

end Go.Proofs.YtdnlfkmfofckfaaGreatDoor.Ev
