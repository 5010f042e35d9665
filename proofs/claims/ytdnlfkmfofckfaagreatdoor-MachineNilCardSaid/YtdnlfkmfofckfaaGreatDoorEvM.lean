/- append, copy; strings and bytes. -/
import Derived.Test.YtdnlfkmfofckfaaGreatDoorEvL
namespace Go.Proofs.YtdnlfkmfofckfaaGreatDoor.Ev
variable {P : Program}

/-! ### the cells that are appended or copied -/

/-- The first n elements of a slice, or bytes of a string, as cells. -/
noncomputable def hSrc (h : Tr Blk) (sz : Nat) (x : V) (n : Nat) : Option (List V) :=
  x.way (fun _ _ => none)
    (fun a o _ es _ => ifB (Nat.beq es sz) (ite2 (Nat.beq n 0) (some []) (onO (h.get a) fun b => b.onC fun _ cs => cutL cs o (Nat.mul n sz))))
    (ifB (Nat.beq n 0) (some []))
    (fun l => some (mapL (fun b => V.i .u8 (Int.ofNat b)) (takeL n l)))
    (fun _ => none)
/-- How many there are. -/
noncomputable def vLen (x : V) : Option Nat := x.way (fun _ _ => none) (fun _ _ n _ _ => some n) (some 0) (fun l => some (lenL l)) (fun _ => none)

theorem vLen_ok {ρ : Ren} {x : V} {u : Value} {n : Nat} (w : World) (h : vLen x = some n) (hx : R ρ x u) : (Builtin.lenOf u).run P w = .ok n w := by
  unfold vLen V.way at h
  split at h
  · exact nomatch h
  · injection h with h; subst h; obtain ⟨L, off, cap, _, rfl, _⟩ := hx; rfl
  · injection h with h; subst h; rw [show u = _ from hx]; rfl
  · injection h with h; subst h
    obtain ⟨s, rfl, hs⟩ := hx
    rw [lenL_eq, ← hs, bytesOf_length]; rfl
  all_goals exact nomatch h

theorem hSrc_ok {ρ : Ren} {h : Tr Blk} {sz n m : Nat} {x : V} {u : Value} {ds : List V} {w : World} (hs : hSrc h sz x n = some ds) (hm : vLen x = some m) (hn : n ≤ m) (hr : HRel ρ h.get w) (hx : R ρ x u) :
    ∃ ys : Array Value, (∀ w', w'.heap = w.heap → (Builtin.firstCells sz n u).run P w' = .ok ys w') ∧ RL ρ ds ys.toList := by
  unfold hSrc V.way at hs
  split at hs
  · exact nomatch hs
  · rename_i a o m' es c
    obtain ⟨he, h1⟩ := ifB_inv hs
    have he := Nat.eq_of_beq_eq_true he
    subst he
    have hmm : m' = m := by injection (show some m' = some m from hm)
    subst hmm
    obtain ⟨L, off, cap, hL, rfl, g1, g2, g3, g4, g5⟩ := hx
    cases hz : Nat.beq n 0
    · rw [hz, ite2_false] at h1
      obtain ⟨b, hb, h2⟩ := onO_inv h1
      obtain ⟨ro, cs, rfl, h3⟩ := Blk.onC_inv h2
      obtain ⟨L', hL', hbr⟩ := hr.at_ a _ hb
      rw [hL] at hL'; cases hL'
      obtain ⟨ys, e1, e2, e3⟩ := cells_at hbr h3
      have hn0 := Nat.ne_of_beq_eq_false hz
      have hoff : off = L.base + o := by
        rcases g5 with ⟨q, _⟩ | q
        · omega
        · exact q
      subst hoff
      refine ⟨ys.toArray, fun w' e' => ?_, e2⟩
      have hlc := run_loadCells_list (P := P) w' ⟨L.blk, L.base + o, none⟩ ys (fun j v hv => by have := e3 j v hv; unfold World.cell? at this ⊢; rw [e']; exact this)
      rw [e1] at hlc
      exact hlc
    · rw [hz, ite2_true] at h1
      injection h1 with h1; subst h1
      have := Nat.eq_of_beq_eq_true hz
      subst this
      refine ⟨#[], fun w' _ => ?_, rfl⟩
      simp [Builtin.firstCells, loadCells, loadCellsFrom]
  · obtain ⟨_, h2⟩ := ifB_inv hs
    injection h2 with h2; subst h2
    rw [show u = _ from hx]
    exact ⟨#[], fun _ _ => rfl, rfl⟩
  · rename_i l
    injection hs with hs; subst hs
    obtain ⟨s, rfl, hs⟩ := hx
    refine ⟨(s.extract 0 n).data.map fun b => .int .u8 b.toNat, fun _ _ => rfl, ?_⟩
    have : takeL n l = bytesOf (s.extract 0 n) := by
      rw [takeL_eq, bytesOf_extract, hs]; simp
    rw [mapL_eq, this]
    unfold bytesOf
    rw [List.map_map, Array.toList_map]
    exact RL.map (fun b : UInt8 => V.i .u8 (Int.ofNat b.toNat)) (fun b : UInt8 => Value.int .u8 (b.toNat : Int)) (fun _ => rfl) _
  · exact nomatch hs
  · exact nomatch hs

/-! ### append -/

theorem growBy_le (n : Nat) : ∀ (r c : Nat), c ≤ n + (n + 768) / 4 → Builtin.growBy n r c ≤ n + (n + 768) / 4
  | 0, c, h => h
  | r + 1, c, h => by
    unfold Builtin.growBy
    by_cases hc : c ≥ n
    · rw [if_pos hc]; exact h
    · rw [if_neg hc]; exact growBy_le n r _ (by omega)

theorem nextslicecap_le {need old : Nat} (h : old < need) : Builtin.nextslicecap need old ≤ 2 * need + 192 := by
  unfold Builtin.nextslicecap
  split
  · omega
  · split
    · omega
    · have := growBy_le need 4 old (by omega); omega

noncomputable def needsOk (need by_ : Nat) : Bool := Bool.rec (motive := fun _ => Bool) false (Nat.ble need 4611686018427387904) (Nat.ble (Nat.mul (Nat.add (Nat.mul 2 need) 192) by_) 281474976710656)
theorem needsOk_ok {need by_ : Nat} (h : needsOk need by_ = true) : (2 * need + 192) * by_ ≤ 281474976710656 ∧ need ≤ 4611686018427387904 := by
  have h' : Bool.rec (motive := fun _ => Bool) false (Nat.ble need 4611686018427387904) (Nat.ble (Nat.mul (Nat.add (Nat.mul 2 need) 192) by_) 281474976710656) = true := h
  cases e : Nat.ble (Nat.mul (Nat.add (Nat.mul 2 need) 192) by_) 281474976710656
  · rw [e] at h'; exact nomatch h'
  · rw [e] at h'; exact ⟨Nat.le_of_ble_eq_true e, Nat.le_of_ble_eq_true h'⟩

/-- append to a slice at block a, offset o, of n0 elements. -/
noncomputable def appAt (H : Heap) (a o n0 sz : Nat) (c : Option Nat) (n by_ : Nat) (ds : List V) : Option (V × Heap) :=
  onO (H.t.get a) fun b => b.onC fun ro cs => onO (ite2 (Nat.beq n0 0) (some []) (cutL cs o (Nat.mul n0 sz))) fun old =>
    Option.rec (motive := fun _ => Option (V × Heap))
      (ifB (notB ro) (ifB (needsOk (Nat.add n0 n) by_) (some (.l H.nx 0 (Nat.add n0 n) sz none, ⟨Nat.add H.nx 1, (H.t.cut a).set H.nx (.c false (appL old ds))⟩))))
      (fun k => ite2 (Nat.ble (Nat.add n0 n) k)
        (ifB (notB ro) (onO (putL (Nat.add o (Nat.mul n0 sz)) ds cs) fun cs' => some (.l a o (Nat.add n0 n) sz (some k), ⟨H.nx, H.t.set a (.c false cs')⟩)))
        (ifB (needsOk (Nat.add n0 n) by_) (some (.l H.nx 0 (Nat.add n0 n) sz none, hNew H (appL old ds))))) c

noncomputable def hAppend (P : Program) (H : Heap) (ts : List TypeId) (s x : V) : Option (V × Heap) :=
  onO (nthL ts 0) fun t => onO (nthL ts 1) fun xt => onO (tSlice P t) fun e => onO (tSize P e) fun sz => onO (tBytes P e) fun by_ => onO (tZero P e) fun z => ifB (Nat.beq (lenL z) sz)
    (ifB (notInt P xt) (onO (vLen x) fun n => onO (hSrc H.t sz x n) fun ds => ifB (Nat.beq (lenL ds) (Nat.mul n sz)) (ifB (allOne ds)
      (s.way (fun _ _ => none) (fun a o n0 es c => ifB (Nat.beq es sz) (ite2 (Nat.beq n 0) (some (.l a o n0 es c, H)) (appAt H a o n0 sz c n by_ ds)))
        (ite2 (Nat.beq n 0) (some (.ln, H)) (ifB (needsOk n by_) (some (.l H.nx 0 n sz none, hNew H ds)))) (fun _ => none) (fun _ => none)))))
  where notInt (P : Program) (t : TypeId) : Bool := match tU P t with | some (.int _) => false | some _ => true | none => false

theorem notInt_ok {t : TypeId} (h : hAppend.notInt P t = true) : ∃ d, P.underlying t = some d ∧ (d matches .int _) = false := by
  unfold hAppend.notInt at h
  rw [tU_eq] at h
  split at h
  · exact nomatch h
  · rename_i d hne hd
    refine ⟨d, hd, ?_⟩
    cases d <;> first | rfl | exact absurd rfl (hne _)
  · exact nomatch h

/-- What the model's append does where there is no room: a new row. -/
theorem run_grow (ρ : Ren) {ts : Array TypeId} {t xt e : TypeId} {sz by_ sLen sCap n : Nat} {base : Option Addr} {u : Value} {w : World} {z : List V} {old new : Array Value} (ty : TypeId) (h0 : ts[0]? = some t) (hx1 : ts[1]? = some xt)
    (he : tSlice P t = some e) (hsz : tSize P e = some sz) (hby : tBytes P e = some by_) (hz : tZero P e = some z) (hxt : hAppend.notInt P xt = true)
    (hlen : (Builtin.lenOf u).run P w = .ok n w) (hcap : sCap < sLen + n) (hneed : needsOk (sLen + n) by_ = true)
    (hold : ∀ w', w'.heap = w.heap → (Builtin.firstCells sz sLen (.slice base sLen sCap)).run P w' = .ok old w') (hnew : ∀ w', w'.heap = w.heap → (Builtin.firstCells sz n u).run P w' = .ok new w') :
    ∃ (cap : Nat) (w' : World) (rest : Array Value), (Builtin.append_ ts ty #[.slice base sLen sCap, u]).run P w = .ok (.slice (some ⟨w.heap.size, 0, none⟩) (sLen + n) cap) { w' with heap := w'.heap.push (.cells (old ++ new ++ rest) e) } ∧
      w'.heap = w.heap ∧ (w'.os = w.os ∧ w'.output = w.output) ∧ sLen + n ≤ cap ∧ rest.size = (cap - (sLen + n)) * z.length := by
  obtain ⟨i, hi, hi2⟩ := tBytes_info hby
  obtain ⟨d, hd, hdn⟩ := notInt_ok hxt
  obtain ⟨zy, hzy, hzr⟩ := tZero_ok hz ρ w
  have hzl := hzr.length
  rw [Array.length_toList] at hzl
  have hzy' : ∀ w', (zeroValue e).run P w' = .ok zy w' := by
    intro w'
    obtain ⟨zy', hzy', _⟩ := tZero_ok hz ρ w'
    have : zy' = zy := by
      simp only [zeroValue, typeInfo, Sem.run_bind, run_program, Result.andThen_ok, hi, Sem.run_pure] at hzy hzy'
      cases hq : i.zero with
      | none => rw [hq] at hzy; exact nomatch hzy
      | some q =>
        rw [hq] at hzy hzy'
        injection hzy with hzy; injection hzy' with hzy'
        rw [← hzy, ← hzy']
    rw [← this]; exact hzy'
  have hnb : Builtin.nextslicecap (sLen + n) sCap * by_ ≤ 281474976710656 := by
    have h1 := nextslicecap_le hcap
    have h2 := (needsOk_ok hneed).1
    exact Nat.le_trans (Nat.mul_le_mul_right _ h1) h2
  have hlt := (needsOk_ok hneed).2
  have h48 : (2 : Nat) ^ 48 = 281474976710656 := by decide
  let q := Question.appendCap (sLen + n) sCap e
  refine ⟨q.cut (w.tape w.drawn q), { w with drawn := w.drawn + 1 }, Builtin.zeroCells zy.cells (q.cut (w.tape w.drawn q) - (sLen + n)), ?_, rfl, ⟨rfl, rfl⟩, ?_, ?_⟩
  · cases d
    case int => exact nomatch hdn
    all_goals
      simp only [Builtin.append_, h0, hx1, List.getElem?_toArray, List.getElem?_cons_zero, List.getElem?_cons_succ, Sem.run_bind, run_und (tSlice_und he), Result.andThen_ok, tSize_ok hsz, run_und hd, Sem.run_pure]
      simp only [Bool.false_eq_true, if_false, Sem.run_bind, hlen, Result.andThen_ok]
      rw [if_neg (by omega)]
      simp only [Sem.run_bind, typeInfo, run_program, Result.andThen_ok, hi, Sem.run_pure]
      rw [if_neg (by rintro ⟨h, _⟩; rw [max64] at h; omega)]
      simp only [Sem.run_bind, run_program, Result.andThen_ok, hi, Sem.run_pure]
      rw [if_neg (by rw [hi2, h48]; omega)]
      simp only [Sem.run_bind, run_choose, Question.forced, Bool.false_eq_true, if_false, Result.andThen_ok, run_askRoom, Bool.not_false, if_true, hzy', newRow, run_newObj, Sem.run_pure]
      simp only [run_program, Result.andThen_ok, hi, Sem.run_pure, hold { w with drawn := w.drawn + 1 } rfl, hnew { w with drawn := w.drawn + 1 } rfl]
      rfl
  · show sLen + n ≤ sLen + n + _
    omega
  · simp [Builtin.zeroCells, hzl]


/-- Where there is room. -/
theorem run_room {ts : Array TypeId} {t xt e : TypeId} {sz sLen sCap n b off : Nat} {u : Value} {w w' : World} {new : Array Value} (ty : TypeId) (h0 : ts[0]? = some t) (hx1 : ts[1]? = some xt)
    (he : tSlice P t = some e) (hsz : tSize P e = some sz) (hxt : hAppend.notInt P xt = true) (hlen : (Builtin.lenOf u).run P w = .ok n w) (hcap : sLen + n ≤ sCap)
    (hnew : (Builtin.firstCells sz n u).run P w = .ok new w) (hst : (storeCells ⟨b, off + sLen * sz, none⟩ new.toList).run P w = .ok () w') :
    (Builtin.append_ ts ty #[.slice (some ⟨b, off, none⟩) sLen sCap, u]).run P w = .ok (.slice (some ⟨b, off, none⟩) (sLen + n) sCap) w' := by
  obtain ⟨d, hd, hdn⟩ := notInt_ok hxt
  cases d
  case int => exact nomatch hdn
  all_goals
    simp only [Builtin.append_, h0, hx1, List.getElem?_toArray, List.getElem?_cons_zero, List.getElem?_cons_succ, Sem.run_bind, run_und (tSlice_und he), Result.andThen_ok, tSize_ok hsz, run_und hd, Sem.run_pure]
    simp only [Bool.false_eq_true, if_false, Sem.run_bind, hlen, Result.andThen_ok]
    rw [if_pos hcap]
    simp only [Bool.not_false, if_true, Sem.run_bind, hnew, Result.andThen_ok, add_none, hst, Sem.run_pure]

/-- Nothing is appended. -/
theorem run_none {ts : Array TypeId} {t xt e : TypeId} {sz sLen sCap : Nat} {base : Option Addr} {u : Value} {w : World} (ty : TypeId) (h0 : ts[0]? = some t) (hx1 : ts[1]? = some xt)
    (he : tSlice P t = some e) (hsz : tSize P e = some sz) (hxt : hAppend.notInt P xt = true) (hlen : (Builtin.lenOf u).run P w = .ok 0 w) (hcap : sLen ≤ sCap)
    (hnew : ∃ new, (Builtin.firstCells sz 0 u).run P w = .ok new w ∧ new.toList = []) :
    (Builtin.append_ ts ty #[.slice base sLen sCap, u]).run P w = .ok (.slice base sLen sCap) w := by
  obtain ⟨d, hd, hdn⟩ := notInt_ok hxt
  obtain ⟨new, hnew, hnil⟩ := hnew
  cases d
  case int => exact nomatch hdn
  all_goals
    simp only [Builtin.append_, h0, hx1, List.getElem?_toArray, List.getElem?_cons_zero, List.getElem?_cons_succ, Sem.run_bind, run_und (tSlice_und he), Result.andThen_ok, tSize_ok hsz, run_und hd, Sem.run_pure]
    simp only [Bool.false_eq_true, if_false, Sem.run_bind, hlen, Result.andThen_ok]
    rw [if_pos (by omega)]
    simp only [Bool.not_false, if_true, Sem.run_bind, hnew, Result.andThen_ok]
    cases base <;> simp [hnil, storeCells]

end Go.Proofs.YtdnlfkmfofckfaaGreatDoor.Ev
