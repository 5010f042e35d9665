/- The evaluator's values and blocks, and what they stand for. -/
import Derived.Test.YtdnlfkmfofckfaaGreatDoorEvA
namespace Go.Proofs.YtdnlfkmfofckfaaGreatDoor.Ev

/-- Atoms of a map's key. -/
inductive KA : Type where
  | i (k : IntKind) (n : Int)
  | s (l : List Nat)
  | b (x : Bool)

/-- A map's key. -/
inductive K : Type where
  | a (x : KA)
  | g (xs : List KA)

/-- Values. 'u': one cell, unknown. 'w': anything. 'os no': a string that is none of 'no'. -/
inductive V : Type where
  | b (x : Bool)
  | i (k : IntKind) (n : Int)
  | s (l : List Nat)
  | pn
  | p (a o : Nat)
  | ln
  | l (a o n es : Nat) (c : Option Nat)
  | mn
  | m (a : Nat)
  | fn0
  | f (fn : Fn) (first cap : List V)
  | xn
  | x (t : Nat) (v : V)
  | g (cs : List V)
  | t (vs : List V)
  | u
  | w
  | os (no : List (List Nat))

/-! ### projections: closed recursors, so that the kernel copies little -/

noncomputable def V.onB {β : Type} (v : V) : (Bool → Option β) → Option β :=
  @V.rec (fun _ => (Bool → Option β) → Option β) (fun _ => PUnit) (fun a0 f => f a0) (fun _ _ _ => none) (fun _ _ => none) (fun _ => none) (fun _ _ _ => none) (fun _ => none) (fun _ _ _ _ _ _ => none) (fun _ => none) (fun _ _ => none) (fun _ => none) (fun _ _ _ _ _ _ => none) (fun _ => none) (fun _ _ _ _ => none) (fun _ _ _ => none) (fun _ _ _ => none) (fun _ => none) (fun _ => none) (fun _ _ => none) PUnit.unit (fun _ _ _ _ => PUnit.unit) v
theorem V.onB_inv {β : Type} {v : V} {f : Bool → Option β} {r : β} (h : v.onB f = some r) : ∃ a0, v = .b a0 ∧ f a0 = some r := by
  cases v <;> first | exact ⟨_, rfl, h⟩ | exact (nomatch (show (none : Option β) = some r from h))
noncomputable def V.onI {β : Type} (v : V) : (IntKind → Int → Option β) → Option β :=
  @V.rec (fun _ => (IntKind → Int → Option β) → Option β) (fun _ => PUnit) (fun _ _ => none) (fun a0 a1 f => f a0 a1) (fun _ _ => none) (fun _ => none) (fun _ _ _ => none) (fun _ => none) (fun _ _ _ _ _ _ => none) (fun _ => none) (fun _ _ => none) (fun _ => none) (fun _ _ _ _ _ _ => none) (fun _ => none) (fun _ _ _ _ => none) (fun _ _ _ => none) (fun _ _ _ => none) (fun _ => none) (fun _ => none) (fun _ _ => none) PUnit.unit (fun _ _ _ _ => PUnit.unit) v
theorem V.onI_inv {β : Type} {v : V} {f : IntKind → Int → Option β} {r : β} (h : v.onI f = some r) : ∃ a0 a1, v = .i a0 a1 ∧ f a0 a1 = some r := by
  cases v <;> first | exact ⟨_, _, rfl, h⟩ | exact (nomatch (show (none : Option β) = some r from h))
noncomputable def V.onS {β : Type} (v : V) : (List Nat → Option β) → Option β :=
  @V.rec (fun _ => (List Nat → Option β) → Option β) (fun _ => PUnit) (fun _ _ => none) (fun _ _ _ => none) (fun a0 f => f a0) (fun _ => none) (fun _ _ _ => none) (fun _ => none) (fun _ _ _ _ _ _ => none) (fun _ => none) (fun _ _ => none) (fun _ => none) (fun _ _ _ _ _ _ => none) (fun _ => none) (fun _ _ _ _ => none) (fun _ _ _ => none) (fun _ _ _ => none) (fun _ => none) (fun _ => none) (fun _ _ => none) PUnit.unit (fun _ _ _ _ => PUnit.unit) v
theorem V.onS_inv {β : Type} {v : V} {f : List Nat → Option β} {r : β} (h : v.onS f = some r) : ∃ a0, v = .s a0 ∧ f a0 = some r := by
  cases v <;> first | exact ⟨_, rfl, h⟩ | exact (nomatch (show (none : Option β) = some r from h))
noncomputable def V.onP {β : Type} (v : V) : (Nat → Nat → Option β) → Option β :=
  @V.rec (fun _ => (Nat → Nat → Option β) → Option β) (fun _ => PUnit) (fun _ _ => none) (fun _ _ _ => none) (fun _ _ => none) (fun _ => none) (fun a0 a1 f => f a0 a1) (fun _ => none) (fun _ _ _ _ _ _ => none) (fun _ => none) (fun _ _ => none) (fun _ => none) (fun _ _ _ _ _ _ => none) (fun _ => none) (fun _ _ _ _ => none) (fun _ _ _ => none) (fun _ _ _ => none) (fun _ => none) (fun _ => none) (fun _ _ => none) PUnit.unit (fun _ _ _ _ => PUnit.unit) v
theorem V.onP_inv {β : Type} {v : V} {f : Nat → Nat → Option β} {r : β} (h : v.onP f = some r) : ∃ a0 a1, v = .p a0 a1 ∧ f a0 a1 = some r := by
  cases v <;> first | exact ⟨_, _, rfl, h⟩ | exact (nomatch (show (none : Option β) = some r from h))
noncomputable def V.onL {β : Type} (v : V) : (Nat → Nat → Nat → Nat → Option Nat → Option β) → Option β :=
  @V.rec (fun _ => (Nat → Nat → Nat → Nat → Option Nat → Option β) → Option β) (fun _ => PUnit) (fun _ _ => none) (fun _ _ _ => none) (fun _ _ => none) (fun _ => none) (fun _ _ _ => none) (fun _ => none) (fun a0 a1 a2 a3 a4 f => f a0 a1 a2 a3 a4) (fun _ => none) (fun _ _ => none) (fun _ => none) (fun _ _ _ _ _ _ => none) (fun _ => none) (fun _ _ _ _ => none) (fun _ _ _ => none) (fun _ _ _ => none) (fun _ => none) (fun _ => none) (fun _ _ => none) PUnit.unit (fun _ _ _ _ => PUnit.unit) v
theorem V.onL_inv {β : Type} {v : V} {f : Nat → Nat → Nat → Nat → Option Nat → Option β} {r : β} (h : v.onL f = some r) : ∃ a0 a1 a2 a3 a4, v = .l a0 a1 a2 a3 a4 ∧ f a0 a1 a2 a3 a4 = some r := by
  cases v <;> first | exact ⟨_, _, _, _, _, rfl, h⟩ | exact (nomatch (show (none : Option β) = some r from h))
noncomputable def V.onM {β : Type} (v : V) : (Nat → Option β) → Option β :=
  @V.rec (fun _ => (Nat → Option β) → Option β) (fun _ => PUnit) (fun _ _ => none) (fun _ _ _ => none) (fun _ _ => none) (fun _ => none) (fun _ _ _ => none) (fun _ => none) (fun _ _ _ _ _ _ => none) (fun _ => none) (fun a0 f => f a0) (fun _ => none) (fun _ _ _ _ _ _ => none) (fun _ => none) (fun _ _ _ _ => none) (fun _ _ _ => none) (fun _ _ _ => none) (fun _ => none) (fun _ => none) (fun _ _ => none) PUnit.unit (fun _ _ _ _ => PUnit.unit) v
theorem V.onM_inv {β : Type} {v : V} {f : Nat → Option β} {r : β} (h : v.onM f = some r) : ∃ a0, v = .m a0 ∧ f a0 = some r := by
  cases v <;> first | exact ⟨_, rfl, h⟩ | exact (nomatch (show (none : Option β) = some r from h))
noncomputable def V.onF {β : Type} (v : V) : (Fn → List V → List V → Option β) → Option β :=
  @V.rec (fun _ => (Fn → List V → List V → Option β) → Option β) (fun _ => PUnit) (fun _ _ => none) (fun _ _ _ => none) (fun _ _ => none) (fun _ => none) (fun _ _ _ => none) (fun _ => none) (fun _ _ _ _ _ _ => none) (fun _ => none) (fun _ _ => none) (fun _ => none) (fun a0 a1 a2 _ _ f => f a0 a1 a2) (fun _ => none) (fun _ _ _ _ => none) (fun _ _ _ => none) (fun _ _ _ => none) (fun _ => none) (fun _ => none) (fun _ _ => none) PUnit.unit (fun _ _ _ _ => PUnit.unit) v
theorem V.onF_inv {β : Type} {v : V} {f : Fn → List V → List V → Option β} {r : β} (h : v.onF f = some r) : ∃ a0 a1 a2, v = .f a0 a1 a2 ∧ f a0 a1 a2 = some r := by
  cases v <;> first | exact ⟨_, _, _, rfl, h⟩ | exact (nomatch (show (none : Option β) = some r from h))
noncomputable def V.onX {β : Type} (v : V) : (Nat → V → Option β) → Option β :=
  @V.rec (fun _ => (Nat → V → Option β) → Option β) (fun _ => PUnit) (fun _ _ => none) (fun _ _ _ => none) (fun _ _ => none) (fun _ => none) (fun _ _ _ => none) (fun _ => none) (fun _ _ _ _ _ _ => none) (fun _ => none) (fun _ _ => none) (fun _ => none) (fun _ _ _ _ _ _ => none) (fun _ => none) (fun a0 a1 _ f => f a0 a1) (fun _ _ _ => none) (fun _ _ _ => none) (fun _ => none) (fun _ => none) (fun _ _ => none) PUnit.unit (fun _ _ _ _ => PUnit.unit) v
theorem V.onX_inv {β : Type} {v : V} {f : Nat → V → Option β} {r : β} (h : v.onX f = some r) : ∃ a0 a1, v = .x a0 a1 ∧ f a0 a1 = some r := by
  cases v <;> first | exact ⟨_, _, rfl, h⟩ | exact (nomatch (show (none : Option β) = some r from h))
noncomputable def V.onG {β : Type} (v : V) : (List V → Option β) → Option β :=
  @V.rec (fun _ => (List V → Option β) → Option β) (fun _ => PUnit) (fun _ _ => none) (fun _ _ _ => none) (fun _ _ => none) (fun _ => none) (fun _ _ _ => none) (fun _ => none) (fun _ _ _ _ _ _ => none) (fun _ => none) (fun _ _ => none) (fun _ => none) (fun _ _ _ _ _ _ => none) (fun _ => none) (fun _ _ _ _ => none) (fun a0 _ f => f a0) (fun _ _ _ => none) (fun _ => none) (fun _ => none) (fun _ _ => none) PUnit.unit (fun _ _ _ _ => PUnit.unit) v
theorem V.onG_inv {β : Type} {v : V} {f : List V → Option β} {r : β} (h : v.onG f = some r) : ∃ a0, v = .g a0 ∧ f a0 = some r := by
  cases v <;> first | exact ⟨_, rfl, h⟩ | exact (nomatch (show (none : Option β) = some r from h))
noncomputable def V.onT {β : Type} (v : V) : (List V → Option β) → Option β :=
  @V.rec (fun _ => (List V → Option β) → Option β) (fun _ => PUnit) (fun _ _ => none) (fun _ _ _ => none) (fun _ _ => none) (fun _ => none) (fun _ _ _ => none) (fun _ => none) (fun _ _ _ _ _ _ => none) (fun _ => none) (fun _ _ => none) (fun _ => none) (fun _ _ _ _ _ _ => none) (fun _ => none) (fun _ _ _ _ => none) (fun _ _ _ => none) (fun a0 _ f => f a0) (fun _ => none) (fun _ => none) (fun _ _ => none) PUnit.unit (fun _ _ _ _ => PUnit.unit) v
theorem V.onT_inv {β : Type} {v : V} {f : List V → Option β} {r : β} (h : v.onT f = some r) : ∃ a0, v = .t a0 ∧ f a0 = some r := by
  cases v <;> first | exact ⟨_, rfl, h⟩ | exact (nomatch (show (none : Option β) = some r from h))


/-- Where a block lies: the model's block, the offset of its first cell in it, how many cells the model's block has. -/
structure Loc where
  blk : Nat
  base : Nat
  size : Nat

abbrev Ren := Nat → Option Loc

def bytesOf (s : ByteArray) : List Nat := s.data.toList.map UInt8.toNat

def RKA : KA → Value → Prop
  | .i k n, v => v = .int k n
  | .s l, v => ∃ s, v = .string s ∧ bytesOf s = l
  | .b x, v => v = .bool x

def RKAL : List KA → List Value → Prop
  | [], vs => vs = []
  | x :: xs, vs => ∃ y ys, vs = y :: ys ∧ RKA x y ∧ RKAL xs ys

def RK : K → Value → Prop
  | .a x, v => RKA x v
  | .g xs, v => ∃ vs : List Value, v = .agg vs.toArray ∧ RKAL xs vs

mutual
def R (ρ : Ren) : V → Value → Prop
  | .b x, v => v = .bool x
  | .i k n, v => v = .int k n
  | .s l, v => ∃ s, v = .string s ∧ bytesOf s = l
  | .pn, v => v = .pointer none
  | .p a o, v => ∃ L, ρ a = some L ∧ v = .pointer (some ⟨L.blk, L.base + o, none⟩)
  | .ln, v => v = .slice none 0 0
  | .l a o n es c, v => ∃ L off cap, ρ a = some L ∧ v = .slice (some ⟨L.blk, off, none⟩) n cap ∧ n ≤ cap ∧ L.base ≤ off ∧ off + cap * es ≤ L.size ∧
      (∀ k, c = some k → cap = k) ∧ ((n = 0 ∧ (c = none ∨ c = some 0)) ∨ off = L.base + o)
  | .mn, v => v = .map none
  | .m a, v => ∃ L, ρ a = some L ∧ v = .map (some L.blk)
  | .fn0, v => v = .nilFunc
  | .f fn a c, v => ∃ xs ys : List Value, v = .func fn xs.toArray ys.toArray ∧ RL ρ a xs ∧ RL ρ c ys
  | .xn, v => v = .nilIface
  | .x t d, v => ∃ y, v = .iface t y ∧ R ρ d y
  | .g cs, v => ∃ xs : List Value, v = .agg xs.toArray ∧ RL ρ cs xs
  | .t cs, v => ∃ xs : List Value, v = .tuple xs.toArray ∧ RL ρ cs xs
  | .u, v => v.oneCell' = true
  | .w, _ => True
  | .os no, v => ∃ s, v = .string s ∧ ∀ l ∈ no, bytesOf s ≠ l
def RL (ρ : Ren) : List V → List Value → Prop
  | [], xs => xs = []
  | d :: ds, xs => ∃ y ys, xs = y :: ys ∧ R ρ d y ∧ RL ρ ds ys
end

/-- A renaming says at least as much. -/
def Ren.le (ρ ρ' : Ren) : Prop := ∀ a L, ρ a = some L → ρ' a = some L

theorem Ren.le_refl (ρ : Ren) : ρ.le ρ := fun _ _ h => h
theorem Ren.le_trans {ρ ρ' ρ'' : Ren} (h : ρ.le ρ') (h' : ρ'.le ρ'') : ρ.le ρ'' := fun a L e => h' a L (h a L e)

mutual
theorem R.mono {ρ ρ' : Ren} (h : ρ.le ρ') : ∀ {d : V} {v : Value}, R ρ d v → R ρ' d v
  | .b _, _, e => e
  | .i _ _, _, e => e
  | .s _, _, e => e
  | .pn, _, e => e
  | .p a o, v, e => by
    obtain ⟨L, h1, h2⟩ := e
    exact ⟨L, h a L h1, h2⟩
  | .ln, _, e => e
  | .l a o n es c, v, e => by
    obtain ⟨L, off, cap, h1, h2⟩ := e
    exact ⟨L, off, cap, h a L h1, h2⟩
  | .mn, _, e => e
  | .m a, v, e => by
    obtain ⟨L, h1, h2⟩ := e
    exact ⟨L, h a L h1, h2⟩
  | .fn0, _, e => e
  | .f fn a c, v, e => by
    obtain ⟨xs, ys, h1, h2, h3⟩ := e
    exact ⟨xs, ys, h1, RL.mono h h2, RL.mono h h3⟩
  | .xn, _, e => e
  | .x t d, v, e => by
    obtain ⟨y, h1, h2⟩ := e
    exact ⟨y, h1, R.mono h h2⟩
  | .g cs, v, e => by
    obtain ⟨xs, h1, h2⟩ := e
    exact ⟨xs, h1, RL.mono h h2⟩
  | .t cs, v, e => by
    obtain ⟨xs, h1, h2⟩ := e
    exact ⟨xs, h1, RL.mono h h2⟩
  | .u, _, e => e
  | .w, _, _ => trivial
  | .os _, _, e => e
theorem RL.mono {ρ ρ' : Ren} (h : ρ.le ρ') : ∀ {ds : List V} {vs : List Value}, RL ρ ds vs → RL ρ' ds vs
  | [], _, e => e
  | d :: ds, vs, e => by
    obtain ⟨y, ys, h1, h2, h3⟩ := e
    exact ⟨y, ys, h1, R.mono h h2, RL.mono h h3⟩
end

theorem RL.length {ρ : Ren} : ∀ {ds : List V} {vs : List Value}, RL ρ ds vs → vs.length = ds.length
  | [], _, e => by rw [show _ = _ from e]; rfl
  | d :: ds, vs, e => by
    obtain ⟨y, ys, rfl, _, h3⟩ := e
    simp [RL.length h3]

theorem RL.get {ρ : Ren} : ∀ {ds : List V} {vs : List Value}, RL ρ ds vs → ∀ {i : Nat} {d : V}, ds[i]? = some d → ∃ v, vs[i]? = some v ∧ R ρ d v
  | [], _, _, i, d, hd => by simp at hd
  | x :: ds, vs, e, i, d, hd => by
    obtain ⟨y, ys, rfl, h2, h3⟩ := e
    cases i with
    | zero => simp at hd; subst hd; exact ⟨y, by simp, h2⟩
    | succ i => simp at hd; obtain ⟨v, h4, h5⟩ := RL.get h3 hd; exact ⟨v, by simpa using h4, h5⟩

theorem RL.append {ρ : Ren} : ∀ {ds es : List V} {vs us : List Value}, RL ρ ds vs → RL ρ es us → RL ρ (ds ++ es) (vs ++ us)
  | [], es, vs, us, e, h => by rw [show vs = [] from e]; exact h
  | x :: ds, es, vs, us, e, h => by
    obtain ⟨y, ys, rfl, h2, h3⟩ := e
    exact ⟨y, ys ++ us, rfl, h2, RL.append h3 h⟩

theorem RL.of_get {ρ : Ren} : ∀ {ds : List V} {vs : List Value}, vs.length = ds.length → (∀ (i : Nat) (d : V) (v : Value), ds[i]? = some d → vs[i]? = some v → R ρ d v) → RL ρ ds vs
  | [], vs, hl, _ => by
    cases vs with
    | nil => rfl
    | cons => simp at hl
  | d :: ds, vs, hl, h => by
    cases vs with
    | nil => simp at hl
    | cons v vs =>
      exact ⟨v, vs, rfl, h 0 d v rfl rfl, RL.of_get (by simpa using hl) fun i d' v' h1 h2 => h (i + 1) d' v' (by simpa using h1) (by simpa using h2)⟩

theorem RL.map {ρ : Ren} {α : Type} (f : α → V) (g : α → Value) (h : ∀ a, R ρ (f a) (g a)) : ∀ l : List α, RL ρ (l.map f) (l.map g)
  | [] => rfl
  | a :: l => ⟨g a, l.map g, rfl, h a, RL.map f g h l⟩

theorem RL.take {ρ : Ren} {ds : List V} {vs : List Value} (h : RL ρ ds vs) (k : Nat) : RL ρ (ds.take k) (vs.take k) :=
  RL.of_get (by simp [h.length]) fun i d v h1 h2 => by
    rw [List.getElem?_take] at h1 h2
    by_cases hi : i < k
    · rw [if_pos hi] at h1 h2
      obtain ⟨v', h3, h4⟩ := h.get h1
      rw [h2] at h3; cases h3; exact h4
    · rw [if_neg hi] at h1; simp at h1

theorem RL.drop {ρ : Ren} {ds : List V} {vs : List Value} (h : RL ρ ds vs) (k : Nat) : RL ρ (ds.drop k) (vs.drop k) :=
  RL.of_get (by simp [h.length]) fun i d v h1 h2 => by
    rw [List.getElem?_drop] at h1 h2
    obtain ⟨v', h3, h4⟩ := h.get h1
    rw [h2] at h3; cases h3; exact h4

/-! ### blocks -/

/-- Blocks: cells ('ro': never written); a map, with a number that an insertion or a deletion changes; an iterator over a map (the map's block, its number as it stood, the keys that have come, the last one first); over no map; over a string. -/
inductive Blk : Type where
  | c (ro : Bool) (cells : List V)
  | m (ver : Nat) (es : List (K × V))
  | it (m : Nat) (ver : Nat) (seen : List K)
  | it0
  | si (s : List Nat) (pos : Nat)

structure Heap : Type where
  nx : Nat
  t : Tr Blk

abbrev HF := Nat → Option Blk

/-- The entries of the model's map fit those of the evaluator's, in whatever order. -/
def RE (ρ : Ren) (es : List (K × V)) (xs : List MapEntry) : Prop :=
  ∃ ys : List (K × V), ys.Perm es ∧ (ys.map (·.1)).Nodup ∧ ys.length = xs.length ∧
    ∀ (i : Nat) (k : K) (v : V) (e : MapEntry), ys[i]? = some (k, v) → xs[i]? = some e → RK k e.key ∧ R ρ v e.val

/-- What a block stands for. -/
def BR (ρ : Ren) (h : HF) (L : Loc) (w : World) : Blk → Prop
  | .c ro cells => ∃ arr e lo hi, w.heap[L.blk]? = some (.cells arr e (lo, hi)) ∧ (∀ i, (i < arr.size ∨ ro = false) → ¬ (lo ≤ i ∧ i < hi)) ∧ arr.size = L.size ∧
      L.base + cells.length ≤ L.size ∧ ∀ i d, cells[i]? = some d → ∃ v, arr[L.base + i]? = some v ∧ R ρ d v
  | .m _ es => ∃ xs clock, w.heap[L.blk]? = some (.map xs clock) ∧ RE ρ es xs.toList ∧ (xs.toList.map (·.born)).Nodup ∧ ∀ e ∈ xs.toList, e.born < clock
  | .it m ver seen => L.base = 0 ∧ ∃ Lm since sn stepped, ρ m = some Lm ∧ w.heap[L.blk]? = some (.mapIter (some Lm.blk) since sn stepped) ∧
      (∀ v' es, h m = some (.m v' es) → ver ≤ v') ∧ ∀ es, h m = some (.m ver es) → ∃ xs, w.heap[Lm.blk]? = some (.map xs since) ∧ (sn.size = 0 ∨ stepped = since) ∧ sn.size = seen.length ∧
        ∀ e ∈ xs.toList, ∀ k, RK k e.key → k ∈ es.map (·.1) → (sn.contains e.born = true ↔ k ∈ seen) ∧ (seen.head? = some k → sn.back? = some e.born)
  | .it0 => L.base = 0 ∧ ∃ since sn stepped, w.heap[L.blk]? = some (.mapIter none since sn stepped)
  | .si l pos => L.base = 0 ∧ ∃ s, w.heap[L.blk]? = some (.stringIter s pos) ∧ bytesOf s = l

noncomputable def Blk.wr (b : Blk) : Bool := Blk.rec (motive := fun _ => Bool) (fun ro _ => Bool.rec (motive := fun _ => Bool) true false ro) (fun _ _ => true) (fun _ _ _ => true) true (fun _ _ => true) b

structure HRel (ρ : Ren) (h : HF) (w : World) : Prop where
  at_ : ∀ a b, h a = some b → ∃ L, ρ a = some L ∧ BR ρ h L w b
  inj : ∀ a a' b b' L L', h a = some b → h a' = some b' → ρ a = some L → ρ a' = some L' → L.blk = L'.blk → a = a'

end Go.Proofs.YtdnlfkmfofckfaaGreatDoor.Ev
