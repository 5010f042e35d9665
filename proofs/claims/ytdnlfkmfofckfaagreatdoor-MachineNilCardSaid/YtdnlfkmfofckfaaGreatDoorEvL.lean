/- Slices: literals, make, append, copy; strings and bytes. -/
import Derived.Test.YtdnlfkmfofckfaaGreatDoorEvK
namespace Go.Proofs.YtdnlfkmfofckfaaGreatDoor.Ev
variable {P : Program}

theorem HRel.heap {ρ : Ren} {h : HF} {w w' : World} (e : w'.heap = w.heap) (hr : HRel ρ h w) : HRel ρ h w' where
  at_ := fun a b hb => by
    obtain ⟨L, h1, h2⟩ := hr.at_ a b hb
    exact ⟨L, h1, BR.congr (Ren.le_refl ρ) (by rw [e]) (fun m ver seen _ v' es hm => ⟨v', es, hm, Nat.le_refl _, fun _ => ⟨rfl, fun Lm _ => by rw [e]⟩⟩) h2⟩
  inj := hr.inj

theorem Step.heap {ρ ρ' : Ren} {h h' : HF} {lo hi : Nat} {w w1 w' w1' : World} (e : w1.heap = w.heap) (e' : w1'.heap = w'.heap) (s : Step ρ ρ' h h' lo hi w1 w1') (eo : w1.os = w.os ∧ w1.output = w.output := by exact ⟨rfl, rfl⟩) (eo' : w1'.os = w'.os ∧ w1'.output = w'.output := by exact ⟨rfl, rfl⟩) : Step ρ ρ' h h' lo hi w w' where
  old := s.old
  rel := s.rel.heap e'.symm
  kept := ⟨by rw [← e, ← e']; exact s.kept.1, fun c hc hn => by rw [← e, ← e']; exact s.kept.2 c (by rw [e]; exact hc) hn⟩
  own := fun a b L h1 h3 => by rw [← e]; exact s.own a b L h1 h3
  dom := s.dom
  le := s.le
  env := ⟨by rw [← eo.1, ← eo'.1]; exact s.env.1, by rw [← eo.2, ← eo'.2]; exact s.env.2⟩

/-! ### zero cells -/

theorem rep_ok {ρ : Ren} {z : List V} {zs : Array Value} (k n : Nat) (hz : RL ρ z zs.toList) (hn : n = k * z.length) :
    RL ρ (repL k z) ((Array.range n).map (zs[· % zs.size]!)).toList := by
  have hl := hz.length
  rw [Array.length_toList] at hl
  refine RL.of_get (by simp [repL_length, hn]) fun i d v hd hv => ?_
  have hi : i < k * z.length := by
    rw [← repL_length z k]
    rcases Nat.lt_or_ge i (repL k z).length with h | h
    · exact h
    · rw [List.getElem?_eq_none h] at hd; exact nomatch hd
  rw [repL_get z k i hi] at hd
  obtain ⟨y, e1, e2⟩ := hz.get hd
  have hpos : 0 < z.length := by
    rcases Nat.eq_zero_or_pos z.length with h | h
    · rw [h, Nat.mul_zero] at hi; omega
    · exact h
  have hv' : v = zs[i % zs.size]! := by
    rw [Array.getElem?_toList, Array.getElem?_map, Array.getElem?_range] at hv
    rw [if_pos (by omega)] at hv
    injection hv with hv
    exact hv.symm
  rw [hv', hl]
  rw [Array.getElem?_toList] at e1
  have hlt : i % z.length < zs.size := by rw [hl]; exact Nat.mod_lt _ hpos
  rw [getElem!_pos zs _ hlt]
  rw [Array.getElem?_eq_getElem hlt] at e1
  injection e1 with e1
  rw [e1]; exact e2

theorem slice_new {ρ : Ren} {n k len es total blk : Nat} (c : Option Nat) (h1 : len ≤ k) (h2 : k * es ≤ total) (hc : ∀ j, c = some j → k = j) :
    R (updR ρ n ⟨blk, 0, total⟩) (.l n 0 len es c) (.slice (some ⟨blk, 0, none⟩) len k) :=
  ⟨⟨blk, 0, total⟩, 0, k, by unfold updR; rw [if_pos rfl], rfl, h1, Nat.le_refl 0, by simpa using h2, hc, .inr rfl⟩

/-! ### slice literals -/

noncomputable def hBuildSlice (P : Program) (H : Heap) (t : TypeId) (len : Nat) (parts : List (Nat × V)) : Option (V × Heap) :=
  onO (tSlice P t) fun e => onO (tSize P e) fun sz => ifB (Nat.ble (Nat.mul len sz) 16777216) (onO (tZero P e) fun z => ifB (Nat.beq (lenL z) sz)
    (onO (fillV (fun i => some (Nat.mul i sz, sz)) parts (repL len z)) fun cs => some (.l H.nx 0 len sz (some len), hNew H cs)))

theorem hBuildSlice_ok {ρ : Ren} {H H' : Heap} {t : TypeId} {len : Nat} {parts : List (Nat × V)} {ys : List (Nat × Value)} {v : V} {w : World} (h : hBuildSlice P H t len parts = some (v, H'))
    (hr : HRel ρ H.t.get w) (hf : ρ H.nx = none) (hp : RP ρ parts ys) :
    ∃ y w' ρ', (Instr.buildSlice t len ys.toArray).run P w = .ok y w' ∧ R ρ' v y ∧ Step ρ ρ' H.t.get H'.t.get H.nx H'.nx w w' := by
  obtain ⟨e, he, h1⟩ := onO_inv h
  obtain ⟨sz, hsz, h2⟩ := onO_inv h1
  obtain ⟨hb, h3⟩ := ifB_inv h2
  obtain ⟨z, hz, h4⟩ := onO_inv h3
  obtain ⟨hlen, h5⟩ := ifB_inv h4
  obtain ⟨cs, hcs, h6⟩ := onO_inv h5
  injection h6 with h6; injection h6 with h6 h7; subst h6; subst h7
  have hlen := Nat.eq_of_beq_eq_true hlen
  rw [lenL_eq] at hlen
  have hb : len * sz ≤ 16777216 := Nat.le_of_ble_eq_true hb
  obtain ⟨zy, hzy, hzr⟩ := tZero_ok hz ρ w
  have hrep := rep_ok len (len * sz) hzr (by rw [hlen])
  have hcl : cs.length = len * sz := by
    have := fillV_length hcs
    rw [this, repL_length, hlen]
  have hrun : ∃ arr', (Instr.buildSlice t len ys.toArray).run P w = .ok (.slice (some ⟨w.heap.size, 0, none⟩) len len) { w with heap := w.heap.push (.cells arr' e) } ∧ RL ρ cs arr'.toList := by
    by_cases c : len * sz = 0
    · have hnil : repL len z = [] := by
        apply List.length_eq_zero_iff.1; rw [repL_length, hlen, c]
      obtain ⟨arr', g1, g2⟩ := fillV_ok (ρ := ρ) (arr := #[]) (fun i => some (i * sz, sz)) hcs hp (by rw [hnil]; rfl)
      refine ⟨arr', ?_, g2⟩
      simp only [Instr.buildSlice, Sem.run_bind, run_und (tSlice_und he), Result.andThen_ok, tSize_ok hsz]
      rw [if_neg (by omega)]
      have h0 : Array.range 0 = #[] := rfl
      simp [c, newRow, h0, g1]
    · obtain ⟨arr', g1, g2⟩ := fillV_ok (fun i => some (i * sz, sz)) hcs hp hrep
      refine ⟨arr', ?_, g2⟩
      simp only [Instr.buildSlice, Sem.run_bind, run_und (tSlice_und he), Result.andThen_ok, tSize_ok hsz]
      rw [if_neg (by omega)]
      simp [c, hzy, newRow, g1]
  obtain ⟨arr', hrun, g2⟩ := hrun
  have hal := g2.length
  rw [Array.length_toList] at hal
  have hs := new_step e [] (0, 0) (fun i _ => by simp) hr hf g2
  rw [List.append_nil, Array.length_toList, Array.toArray_toList] at hs
  refine ⟨_, _, _, hrun, slice_new (some len) (Nat.le_refl _) ?_ (fun j hj => by injection hj), hs⟩
  rw [hal, hcl]
  exact Nat.le_refl _
  where
  fillV_length {place : Nat → Option (Nat × Nat)} : ∀ {parts : List (Nat × V)} {cs cs' : List V}, fillV place parts cs = some cs' → cs'.length = cs.length
    | [], cs, cs', h => by injection (show some cs = some cs' from h) with h; rw [h]
    | (i, d) :: ps, cs, cs', h => by
      have h' : (onO (place i) fun q => onO d.cells fun ds => ifB (Nat.beq (lenL ds) q.2) (onO (putL q.1 ds cs) (fillV place ps))) = some cs' := h
      obtain ⟨q, _, h'⟩ := onO_inv h'
      obtain ⟨ds, _, h'⟩ := onO_inv h'
      obtain ⟨_, h'⟩ := ifB_inv h'
      obtain ⟨cs1, hput, h'⟩ := onO_inv h'
      rw [fillV_length h', (putL_some hput).1]

/-! ### make -/

noncomputable def hMakeSlice (P : Program) (H : Heap) (t : TypeId) (l c : V) : Option (V × Heap) :=
  l.onI fun _ l0 => c.onI fun _ c0 => natI l0 fun n => natI c0 fun k => onO (tSlice P t) fun e => onO (tSize P e) fun sz => onO (tBytes P e) fun by_ => ifB (Nat.ble (Nat.mul by_ k) 281474976710656) (ifB (Nat.ble n k)
    (ifB (Nat.ble k 281474976710656) (onO (tZero P e) fun z => ifB (Nat.beq (lenL z) sz) (some (.l H.nx 0 n sz (some k), hNew H (repL k z))))))

theorem hMakeSlice_ok {ρ : Ren} {H H' : Heap} {t : TypeId} {l c v : V} {lu cu : Value} {w : World} (h : hMakeSlice P H t l c = some (v, H'))
    (hr : HRel ρ H.t.get w) (hf : ρ H.nx = none) (hl : R ρ l lu) (hc : R ρ c cu) :
    ∃ y w' ρ', (Instr.makeSlice t lu cu).run P w = .ok y w' ∧ R ρ' v y ∧ Step ρ ρ' H.t.get H'.t.get H.nx H'.nx w w' := by
  obtain ⟨kl, l0, rfl, h1⟩ := V.onI_inv h
  obtain ⟨kc, c0, rfl, h2⟩ := V.onI_inv h1
  obtain ⟨n, rfl, h3⟩ := natI_inv h2
  obtain ⟨k, rfl, h4⟩ := natI_inv h3
  obtain ⟨e, he, h5⟩ := onO_inv h4
  obtain ⟨sz, hsz, h6⟩ := onO_inv h5
  obtain ⟨by_, hby, h7⟩ := onO_inv h6
  obtain ⟨hb, h8⟩ := ifB_inv h7
  obtain ⟨hnk, h9⟩ := ifB_inv h8
  obtain ⟨hk, h10⟩ := ifB_inv h9
  obtain ⟨z, hz, h11⟩ := onO_inv h10
  obtain ⟨hlen, h12⟩ := ifB_inv h11
  injection h12 with h12; injection h12 with h12 h13; subst h12; subst h13
  have hlen := Nat.eq_of_beq_eq_true hlen
  rw [lenL_eq] at hlen
  have hb : by_ * k ≤ 281474976710656 := Nat.le_of_ble_eq_true hb
  have hnk := Nat.le_of_ble_eq_true hnk
  have hk := Nat.le_of_ble_eq_true hk
  rw [show lu = _ from hl, show cu = _ from hc]
  obtain ⟨zy, hzy, hzr⟩ := tZero_ok hz ρ w
  obtain ⟨i, hi, hi2⟩ := tBytes_info hby
  have hrep := rep_ok k (k * sz) hzr (by rw [hlen])
  have hwl : IntKind.i64.wrap (n : Int) = (n : Int) := wrap_of_inR (by show Nat.ble n 9223372036854775807 = true; exact Nat.ble_eq_true_of_le (by omega))
  have hwk : IntKind.i64.wrap (k : Int) = (k : Int) := wrap_of_inR (by show Nat.ble k 9223372036854775807 = true; exact Nat.ble_eq_true_of_le (by omega))
  have hcond : ((decide ((k : Int) < 0) || decide ((by_ : Int) * (k : Int) > 2 ^ 48)) || decide ((n : Int) < 0) || decide ((n : Int) > (k : Int))) = false := by
    have e1 : ¬ ((k : Int) < 0) := by omega
    have e2 : ¬ ((by_ : Int) * (k : Int) > 2 ^ 48) := by
      have : ((by_ * k : Nat) : Int) ≤ 281474976710656 := by omega
      rw [Int.natCast_mul] at this
      have e3 : (2 : Int) ^ 48 = 281474976710656 := by decide
      rw [e3]; omega
    have e3 : ¬ ((n : Int) < 0) := by omega
    have e4 : ¬ ((n : Int) > (k : Int)) := by omega
    rw [decide_eq_false e1, decide_eq_false e2, decide_eq_false e3, decide_eq_false e4]; rfl
  have hrun : ∃ arr : Array Value, (Instr.makeSlice t (.int kl (n : Int)) (.int kc (k : Int))).run P w = .ok (.slice (some ⟨w.heap.size, 0, none⟩) n k) { w with heap := w.heap.push (.cells arr e) } ∧ RL ρ (repL k z) arr.toList := by
    by_cases c : k * sz = 0
    · have hnil : repL k z = [] := by
        apply List.length_eq_zero_iff.1; rw [repL_length, hlen, c]
      refine ⟨#[], ?_, by rw [hnil]; rfl⟩
      simp only [Instr.makeSlice, Sem.run_bind, run_und (tSlice_und he), Result.andThen_ok, asInt, asIntOf, Sem.run_pure, typeInfo, run_program, hi, hi2, hwl, hwk]
      simp only [hcond, Bool.false_eq_true, if_false]
      simp only [Sem.run_bind, run_askRoom, Result.andThen_ok, tSize_ok hsz, Int.toNat_natCast]
      have h0 : Array.range 0 = #[] := rfl
      simp [c, newRow, h0]
    · refine ⟨_, ?_, hrep⟩
      simp only [Instr.makeSlice, Sem.run_bind, run_und (tSlice_und he), Result.andThen_ok, asInt, asIntOf, Sem.run_pure, typeInfo, run_program, hi, hi2, hwl, hwk]
      simp only [hcond, Bool.false_eq_true, if_false]
      simp only [Sem.run_bind, run_askRoom, Result.andThen_ok, tSize_ok hsz, Int.toNat_natCast]
      simp [c, hzy, newRow]
  obtain ⟨arr, hrun, g2⟩ := hrun
  have hal := g2.length
  rw [Array.length_toList] at hal
  have hs := new_step e [] (0, 0) (fun i _ => by simp) hr hf g2
  rw [List.append_nil, Array.length_toList, Array.toArray_toList] at hs
  refine ⟨_, _, _, hrun, slice_new (some k) hnk ?_ (fun j hj => by injection hj), hs⟩
  rw [hal, repL_length, hlen]
  exact Nat.le_refl _

end Go.Proofs.YtdnlfkmfofckfaaGreatDoor.Ev
