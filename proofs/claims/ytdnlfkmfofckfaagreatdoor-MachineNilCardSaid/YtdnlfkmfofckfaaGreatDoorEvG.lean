/- Indexes, slices, interfaces, conversions, builtins on values; and all value-only operations under one name. -/
import Derived.Test.YtdnlfkmfofckfaaGreatDoorEvF
namespace Go.Proofs.YtdnlfkmfofckfaaGreatDoor.Ev
variable {P : Program}

noncomputable def ltN (a b : Nat) : Bool := Nat.ble (Nat.add a 1) b
theorem ltN_ok {a b : Nat} (h : ltN a b = true) : a < b := Nat.le_of_ble_eq_true h

/-- Parts ways: a pointer, a slice, the nil slice, a string, an aggregate; else none. -/
noncomputable def V.way {β : Type} (v : V) (fp : Nat → Nat → Option β) (fl : Nat → Nat → Nat → Nat → Option Nat → Option β) (fn : Option β) (fs : List Nat → Option β) (fg : List V → Option β) : Option β :=
  match v with
  | .p a o => fp a o
  | .l a o n es c => fl a o n es c
  | .ln => fn
  | .s bs => fs bs
  | .g cs => fg cs
  | _ => none

/-! ### indexes -/

noncomputable def pIndexAddr (P : Program) (t : TypeId) (x ix : V) : Option V :=
  ix.onI fun _ j => natI j fun j => x.way
    (fun a o => onO (tArray P t) fun q => onO (tSize P q.2) fun sz => ifB (ltN j q.1) (some (.p a (Nat.add o (Nat.mul j sz)))))
    (fun a o n es _ => onO (tSlice P t) fun e => onO (tSize P e) fun sz => ifB (Nat.beq sz es) (ifB (ltN j n) (some (.p a (Nat.add o (Nat.mul j es))))))
    none (fun _ => none) (fun _ => none)

theorem pIndexAddr_ok {ρ : Ren} {t : TypeId} {x ix v : V} {u iu : Value} (w : World) (h : pIndexAddr P t x ix = some v) (hx : R ρ x u) (hi : R ρ ix iu) :
    ∃ y, (Instr.indexAt t u iu).run P w = .ok y w ∧ R ρ v y := by
  obtain ⟨k, j0, rfl, h1⟩ := V.onI_inv h
  obtain ⟨j, rfl, h2⟩ := natI_inv h1
  rw [show iu = _ from hi]
  unfold V.way at h2
  split at h2
  case h_1 a o =>
    obtain ⟨⟨n, e⟩, hq, h3⟩ := onO_inv h2
    obtain ⟨sz, hsz, h4⟩ := onO_inv h3
    obtain ⟨h5, h6⟩ := ifB_inv h4
    injection h6 with h6; subst h6
    obtain ⟨L, hL, rfl⟩ := hx
    have hlt : j < n := ltN_ok h5
    refine ⟨.pointer (some ⟨L.blk, L.base + o + j * sz, none⟩), ?_, L, hL, by simp [Nat.add_assoc]⟩
    simp [Instr.indexAt, asIntOf, run_und (tArray_und hq), Instr.sureAddr, tSize_ok hsz, hlt, add_none]
  case h_2 a o n es c =>
    obtain ⟨e, he, h3⟩ := onO_inv h2
    obtain ⟨sz, hsz, h4⟩ := onO_inv h3
    obtain ⟨h5, h6⟩ := ifB_inv h4
    obtain ⟨h7, h8⟩ := ifB_inv h6
    injection h8 with h8; subst h8
    have hlt : j < n := ltN_ok h7
    have hes := Nat.eq_of_beq_eq_true h5
    subst hes
    obtain ⟨L, off, cap, hL, rfl, h9, h10, h11, h12, h13⟩ := hx
    have hoff : off = L.base + o := by
      rcases h13 with ⟨h, _⟩ | h
      · omega
      · exact h
    subst hoff
    refine ⟨.pointer (some ⟨L.blk, L.base + o + j * sz, none⟩), ?_, L, hL, by simp [Nat.add_assoc]⟩
    simp [Instr.indexAt, asIntOf, run_und (tSlice_und he), tSize_ok hsz, hlt, add_none]
  all_goals exact nomatch h2

noncomputable def pIndex (P : Program) (t : TypeId) (x ix : V) : Option V :=
  ix.onI fun _ j => natI j fun j => x.way (fun _ _ => none) (fun _ _ _ _ _ => none) none
    (fun l => ifB (tIsStr P t) (onO (nthL l j) fun b => some (.i .u8 (Int.ofNat b))))
    (fun cs => onO (tArray P t) fun q => onO (tSize P q.2) fun sz => ifB (ltN j q.1) (pPart P q.2 cs (Nat.mul j sz)))

theorem pIndex_ok {ρ : Ren} {t : TypeId} {x ix v : V} {u iu : Value} (w : World) (h : pIndex P t x ix = some v) (hx : R ρ x u) (hi : R ρ ix iu) :
    ∃ y, (Instr.index t u iu).run P w = .ok y w ∧ R ρ v y := by
  obtain ⟨k, j0, rfl, h1⟩ := V.onI_inv h
  obtain ⟨j, rfl, h2⟩ := natI_inv h1
  rw [show iu = _ from hi]
  unfold V.way at h2
  split at h2
  case h_4 l =>
    obtain ⟨hs, h3⟩ := ifB_inv h2
    obtain ⟨b, hb, h4⟩ := onO_inv h3
    injection h4 with h4; subst h4
    obtain ⟨s, rfl, hl⟩ := hx
    rw [nthL_eq, ← hl] at hb
    refine ⟨.int .u8 (b : Int), ?_, rfl⟩
    unfold bytesOf at hb
    rw [List.getElem?_map] at hb
    have hb2 : (s.data.toList[j]?).map UInt8.toNat = some b := hb
    cases hc : s.data.toList[j]? with
    | none => rw [hc] at hb2; exact nomatch hb2
    | some c =>
      rw [hc] at hb2; injection hb2 with hb2
      have hlt : j < s.data.size := by
        rw [← Array.length_toList]
        rcases Nat.lt_or_ge j s.data.toList.length with h | h
        · exact h
        · rw [List.getElem?_eq_none h] at hc; exact nomatch hc
      have hsj : s[j]? = some c := by
        have hsz : j < s.size := hlt
        rw [getElem?_pos s j hsz]
        congr 1
        have : s.data[j] = c := by
          rw [Array.getElem?_toList, Array.getElem?_eq_getElem hlt] at hc
          injection hc
        exact this
      simp only [Instr.index, asIntOf, Sem.run_bind, Sem.run_pure, Result.andThen_ok, run_und (tIsStr_und hs)]
      simp [hsj, hb2]
  case h_5 cs =>
    obtain ⟨⟨n, e⟩, hq, h3⟩ := onO_inv h2
    obtain ⟨sz, hsz, h4⟩ := onO_inv h3
    obtain ⟨h5, h6⟩ := ifB_inv h4
    obtain ⟨xs, rfl, hl⟩ := hx
    obtain ⟨y, hy1, hy2⟩ := pPart_ok w h6 hl
    have hlt := ltN_ok h5
    have hlt' : (j : Int) < (n : Int) := by simpa using hlt
    refine ⟨y, ?_, hy2⟩
    have hy1' : (part e xs.toArray (j * sz)).run P w = .ok y w := hy1
    simp only [Instr.index, asIntOf, Sem.run_bind, Sem.run_pure, Result.andThen_ok, run_und (tArray_und hq)]
    rw [if_pos ⟨by omega, hlt'⟩]
    simp only [Sem.run_bind, tSize_ok hsz, Result.andThen_ok, Int.toNat_natCast]
    exact hy1'
  all_goals exact nomatch h2

/-! ### slices -/

/-- An operand that may be missing. -/
noncomputable def bnd {β : Type} (x : Option V) (d : Nat) (f : Nat → Option β) : Option β :=
  Option.rec (motive := fun _ => Option β) (f d) (fun v => v.onI fun _ j => natI j f) x

def ROpt (ρ : Ren) : Option V → Option Value → Prop
  | none, y => y = none
  | some v, y => ∃ u, y = some u ∧ R ρ v u

theorem bnd_inv {β : Type} {ρ : Ren} {x : Option V} {y : Option Value} {d : Nat} {f : Nat → Option β} {r : β} (h : bnd x d f = some r) (hx : ROpt ρ x y) :
    ∃ n, f n = some r ∧ ((y = none ∧ x = none ∧ n = d) ∨ ∃ k, y = some (.int k (n : Int)) ∧ x.isSome = true) := by
  cases x with
  | none => exact ⟨d, h, .inl ⟨hx, rfl, rfl⟩⟩
  | some v =>
    obtain ⟨u, rfl, hu⟩ := hx
    obtain ⟨k, j, rfl, h1⟩ := V.onI_inv (show v.onI (fun _ j => natI j f) = some r from h)
    obtain ⟨n, rfl, h2⟩ := natI_inv h1
    exact ⟨n, h2, .inr ⟨k, by rw [show u = _ from hu], rfl⟩⟩

theorem sliceBound_ok {k : IntKind} {n y : Nat} (c : BoundsCode) (w : World) (h : n ≤ y) : (Instr.sliceBound (.int k (n : Int)) y c).run P w = .ok n w := by
  have : (n : Int) ≤ (y : Int) := by omega
  simp [Instr.sliceBound, asIntOf, this]

noncomputable def pSlice (P : Program) (t : TypeId) (x : V) (lo hi mx : Option V) : Option V :=
  x.way (fun _ _ => none)
    (fun a o n es c => onO (tSlice P t) fun e => onO (tSize P e) fun sz => ifB (Nat.beq sz es)
      (Option.rec (motive := fun _ => Option V)
        (bnd hi n fun h => ifB (Nat.ble h (Option.rec (motive := fun _ => Nat) n (fun k => k) c)) (bnd lo 0 fun l => ifB (Nat.ble l h)
          (some (.l a (Nat.add o (Nat.mul l es)) (Nat.sub h l) es (Option.rec (motive := fun _ => Option Nat) none (fun k => some (Nat.sub k l)) c)))))
        (fun _ => bnd mx 0 fun m => ifB (Nat.ble m (Option.rec (motive := fun _ => Nat) n (fun k => k) c)) (bnd hi n fun h => ifB (Nat.ble h m) (bnd lo 0 fun l => ifB (Nat.ble l h)
          (ifB hi.isSome (some (.l a (Nat.add o (Nat.mul l es)) (Nat.sub h l) es (some (Nat.sub m l)))))))) mx))
    (onO (tSlice P t) fun e => onO (tSize P e) fun _ => Option.rec (motive := fun _ => Option V)
      (bnd hi 0 fun h => ifB (Nat.beq h 0) (bnd lo 0 fun l => ifB (Nat.beq l 0) (some .ln))) (fun _ => none) mx)
    (fun s => ifB (tIsStr P t) (Option.rec (motive := fun _ => Option V)
      (bnd hi (lenL s) fun h => ifB (Nat.ble h (lenL s)) (bnd lo 0 fun l => ifB (Nat.ble l h) (some (.s (takeL (Nat.sub h l) (dropL l s)))))) (fun _ => none) mx))
    (fun _ => none)

theorem bytesOf_extract (s : ByteArray) (l h : Nat) : bytesOf (s.extract l h) = ((bytesOf s).drop l).take (h - l) := by
  unfold bytesOf
  rw [ByteArray.data_extract, Array.toList_extract, List.extract_eq_take_drop, List.map_take, List.map_drop]

theorem pSlice_ok {ρ : Ren} {t : TypeId} {x v : V} {lo hi mx : Option V} {u : Value} {lo' hi' mx' : Option Value} (w : World) (h : pSlice P t x lo hi mx = some v) (hx : R ρ x u)
    (hlo : ROpt ρ lo lo') (hhi : ROpt ρ hi hi') (hmx : ROpt ρ mx mx') : ∃ y, (Instr.sliceAt t u lo' hi' mx').run P w = .ok y w ∧ R ρ v y := by
  unfold pSlice V.way at h
  split at h
  case h_2 a o n es c =>
    obtain ⟨e, he, h1⟩ := onO_inv h
    obtain ⟨sz, hsz, h2⟩ := onO_inv h1
    obtain ⟨h3, h4⟩ := ifB_inv h2
    have hes := Nat.eq_of_beq_eq_true h3
    subst hes
    obtain ⟨L, off, cap, hL, rfl, h9, h10, h11, h12, h13⟩ := hx
    have hcap : ∀ k, Nat.ble k (Option.rec (motive := fun _ => Nat) n (fun k => k) c) = true → k ≤ cap := by
      intro k hk
      have hk := Nat.le_of_ble_eq_true hk
      cases c with
      | none => have : k ≤ n := hk; omega
      | some c => rw [h12 c rfl]; exact hk
    cases mx with
    | none =>
      rw [show mx' = none from hmx]
      obtain ⟨hh, h5, hhc⟩ := bnd_inv h4 hhi
      obtain ⟨h6, h7⟩ := ifB_inv h5
      obtain ⟨ll, h8, hlc⟩ := bnd_inv h7 hlo
      obtain ⟨h14, h15⟩ := ifB_inv h8
      injection h15 with h15; subst h15
      have hhle := hcap _ h6
      have hlle := Nat.le_of_ble_eq_true h14
      have hmul : off + ll * sz + (cap - ll) * sz = off + cap * sz := by
        rw [Nat.add_assoc, ← Nat.add_mul]; congr 2; omega
      refine ⟨.slice (if cap = ll then some ⟨L.blk, off, none⟩ else (some ⟨L.blk, off, none⟩ : Option Addr).map (·.add (ll * sz))) (hh - ll) (cap - ll), ?_, ?_⟩
      · have hb : (Instr.sliceBounds true n cap lo' hi' none).run P w = .ok (ll, hh, cap) w := by
          unfold Instr.sliceBounds
          rcases hhc with ⟨rfl, _, rfl⟩ | ⟨k, rfl, _⟩ <;> rcases hlc with ⟨rfl, _, rfl⟩ | ⟨k', rfl, _⟩ <;> simp [sliceBound_ok, hhle, hlle]
        have hne : ∀ n' e', P.underlying t = some (.array n' e') → False := fun n' e' hh => by rw [tSlice_und he] at hh; exact nomatch hh
        simp only [Instr.sliceAt, Sem.run_bind, run_und (tSlice_und he), Result.andThen_ok, Instr.slice, hb, tSize_ok hsz, Sem.run_pure]
      · by_cases hcl : cap = ll
        · rw [if_pos hcl]
          refine ⟨L, off, cap - ll, hL, rfl, by show hh - ll ≤ cap - ll; omega, h10, by rw [hcl]; simp; have := Nat.le_trans (Nat.le_add_right off (cap * sz)) h11; omega, ?_, .inl ⟨by show hh - ll = 0; omega, ?_⟩⟩
          · intro k hk
            cases c with
            | none => exact nomatch hk
            | some c => injection (show some (c - ll) = some k from hk) with hk; rw [h12 c rfl]; omega
          · cases c with
            | none => exact .inl rfl
            | some c =>
              right
              have := h12 c rfl
              show some (c - ll) = some 0
              rw [show c - ll = 0 by omega]
        · rw [if_neg hcl]
          have hadd : ((some ⟨L.blk, off, none⟩ : Option Addr).map (·.add (ll * sz))) = some ⟨L.blk, off + ll * sz, none⟩ := by simp [add_none]
          rw [hadd]
          refine ⟨L, off + ll * sz, cap - ll, hL, rfl, by show hh - ll ≤ cap - ll; omega, by omega, by omega, ?_, ?_⟩
          · intro k hk
            cases c with
            | none => exact nomatch hk
            | some c => injection (show some (c - ll) = some k from hk) with hk; rw [h12 c rfl]; omega
          · rcases h13 with ⟨hn0, hc0⟩ | hoff
            · left
              rcases hc0 with rfl | rfl
              · have h6' : hh ≤ n := Nat.le_of_ble_eq_true h6
                exact ⟨by show hh - ll = 0; omega, .inl rfl⟩
              · have := h12 0 rfl
                omega
            · right; rw [hoff]; show _ = L.base + (o + ll * sz); omega
    | some mv =>
      obtain ⟨m, h5, hmc⟩ := bnd_inv h4 hmx
      obtain ⟨h6, h7⟩ := ifB_inv h5
      obtain ⟨hh, h8, hhc⟩ := bnd_inv h7 hhi
      obtain ⟨h14, h15⟩ := ifB_inv h8
      obtain ⟨ll, h16, hlc⟩ := bnd_inv h15 hlo
      obtain ⟨h17, h18⟩ := ifB_inv h16
      obtain ⟨hsome, h19⟩ := ifB_inv h18
      injection h19 with h19; subst h19
      have hmle := hcap _ h6
      have hhle := Nat.le_of_ble_eq_true h14
      have hlle := Nat.le_of_ble_eq_true h17
      have hhi2 : ∃ k, hi' = some (.int k (hh : Int)) := by
        rcases hhc with ⟨_, hx0, _⟩ | ⟨k, hk, _⟩
        · rw [hx0] at hsome; exact nomatch hsome
        · exact ⟨k, hk⟩
      obtain ⟨kh, rfl⟩ := hhi2
      have hmx2 : ∃ k, mx' = some (.int k (m : Int)) := by
        rcases hmc with ⟨_, hx0, _⟩ | ⟨k, hk, _⟩
        · exact nomatch hx0
        · exact ⟨k, hk⟩
      obtain ⟨km, rfl⟩ := hmx2
      have hmul : ll * sz + (m - ll) * sz ≤ cap * sz := by
        rw [← Nat.add_mul]; exact Nat.mul_le_mul_right _ (by omega)
      refine ⟨.slice (if m = ll then some ⟨L.blk, off, none⟩ else (some ⟨L.blk, off, none⟩ : Option Addr).map (·.add (ll * sz))) (hh - ll) (m - ll), ?_, ?_⟩
      · have hb : (Instr.sliceBounds true n cap lo' (some (.int kh (hh : Int))) (some (.int km (m : Int)))).run P w = .ok (ll, hh, m) w := by
          unfold Instr.sliceBounds
          rcases hlc with ⟨rfl, _, rfl⟩ | ⟨k', rfl, _⟩ <;> simp [sliceBound_ok, hhle, hlle, hmle]
        simp only [Instr.sliceAt, Sem.run_bind, run_und (tSlice_und he), Result.andThen_ok, Instr.slice, hb, tSize_ok hsz, Sem.run_pure]
      · by_cases hcl : m = ll
        · rw [if_pos hcl]
          refine ⟨L, off, m - ll, hL, rfl, by show hh - ll ≤ m - ll; omega, h10, by rw [hcl]; simp; have := Nat.le_trans (Nat.le_add_right off (cap * sz)) h11; omega, ?_, .inl ⟨by show hh - ll = 0; omega, .inr (by show some (m - ll) = some 0; rw [hcl, Nat.sub_self])⟩⟩
          intro k hk; injection hk
        · rw [if_neg hcl]
          have hadd : ((some ⟨L.blk, off, none⟩ : Option Addr).map (·.add (ll * sz))) = some ⟨L.blk, off + ll * sz, none⟩ := by simp [add_none]
          rw [hadd]
          refine ⟨L, off + ll * sz, m - ll, hL, rfl, by show hh - ll ≤ m - ll; omega, by omega, by omega, ?_, ?_⟩
          · intro k hk; injection hk
          · rcases h13 with ⟨hn0, hc0⟩ | hoff
            · exfalso
              rcases hc0 with rfl | rfl
              · have h6' : m ≤ n := Nat.le_of_ble_eq_true h6
                omega
              · have := h12 0 rfl
                omega
            · right; rw [hoff]; show _ = L.base + (o + ll * sz); omega
  case h_3 =>
    obtain ⟨e, he, h1⟩ := onO_inv h
    obtain ⟨sz, hsz, h2⟩ := onO_inv h1
    cases mx with
    | some mv => exact nomatch h2
    | none =>
      rw [show mx' = none from hmx, show u = _ from hx]
      obtain ⟨hh, h5, hhc⟩ := bnd_inv h2 hhi
      obtain ⟨h6, h7⟩ := ifB_inv h5
      obtain ⟨ll, h8, hlc⟩ := bnd_inv h7 hlo
      obtain ⟨h14, h15⟩ := ifB_inv h8
      injection h15 with h15; subst h15
      have e1 := Nat.eq_of_beq_eq_true h6
      have e2 := Nat.eq_of_beq_eq_true h14
      subst e1; subst e2
      refine ⟨.slice none 0 0, ?_, rfl⟩
      have hb : (Instr.sliceBounds true 0 0 lo' hi' none).run P w = .ok (0, 0, 0) w := by
        unfold Instr.sliceBounds
        have s0 : ∀ (k : IntKind) (c : BoundsCode), (Instr.sliceBound (.int k 0) 0 c).run P w = .ok 0 w := fun k c => sliceBound_ok c w (Nat.le_refl 0)
        rcases hhc with ⟨rfl, _, _⟩ | ⟨k, rfl, _⟩ <;> rcases hlc with ⟨rfl, _, _⟩ | ⟨k', rfl, _⟩ <;> simp [s0]
      simp only [Instr.sliceAt, Sem.run_bind, run_und (tSlice_und he), Result.andThen_ok, Instr.slice, hb, tSize_ok hsz, Sem.run_pure]
      simp
  case h_4 s =>
    obtain ⟨hs, h1⟩ := ifB_inv h
    cases mx with
    | some mv => exact nomatch h1
    | none =>
      obtain ⟨b, rfl, hb⟩ := hx
      rw [show mx' = none from hmx]
      have hlen : lenL s = b.size := by rw [lenL_eq, ← hb, bytesOf_length]
      have h1' : (bnd hi (lenL s) fun h => ifB (Nat.ble h (lenL s)) (bnd lo 0 fun l => ifB (Nat.ble l h) (some (.s (takeL (Nat.sub h l) (dropL l s)))))) = some v := h1
      rw [hlen] at h1'
      obtain ⟨hh, h5, hhc⟩ := bnd_inv h1' hhi
      obtain ⟨h6, h7⟩ := ifB_inv h5
      obtain ⟨ll, h8, hlc⟩ := bnd_inv h7 hlo
      obtain ⟨h14, h15⟩ := ifB_inv h8
      injection h15 with h15; subst h15
      have hhle := Nat.le_of_ble_eq_true h6
      have hlle := Nat.le_of_ble_eq_true h14
      refine ⟨.string (b.extract ll hh), ?_, b.extract ll hh, rfl, ?_⟩
      · have hbo : (Instr.sliceBounds false b.size b.size lo' hi' none).run P w = .ok (ll, hh, b.size) w := by
          unfold Instr.sliceBounds
          rcases hhc with ⟨rfl, _, rfl⟩ | ⟨k, rfl, _⟩ <;> rcases hlc with ⟨rfl, _, rfl⟩ | ⟨k', rfl, _⟩ <;> simp [sliceBound_ok, hhle, hlle]
        simp only [Instr.sliceAt, Sem.run_bind, run_und (tIsStr_und hs), Result.andThen_ok, Instr.slice]
        simp [hbo]
      · rw [bytesOf_extract, takeL_eq, dropL_eq, hb]
        rfl
  all_goals exact nomatch h

end Go.Proofs.YtdnlfkmfofckfaaGreatDoor.Ev
