/- Strings to bytes and back. -/
import Derived.Test.YtdnlfkmfofckfaaGreatDoorEvN
import Derived.Laws.BytesArg
namespace Go.Proofs.YtdnlfkmfofckfaaGreatDoor.Ev
variable {P : Program}

noncomputable def isU8 (k : Option IntKind) : Bool := match k with | some .u8 => true | _ => false
theorem isU8_ok {t : TypeId} (h : isU8 (tInt P t) = true) : P.underlying t = some (.int .u8) := by
  unfold isU8 at h
  split at h
  · rename_i e; exact tInt_und e
  · exact nomatch h

/-- The byte in a cell. -/
noncomputable def byteV (v : V) : Option Nat := v.onI fun k n => ifB (Nat.beq (kn k) 4) (natI n fun m => ifB (Nat.ble (Nat.add m 1) 256) (some m))

theorem byteV_ok {ρ : Ren} {v : V} {u : Value} {m : Nat} (h : byteV v = some m) (hv : R ρ v u) : u = .int .u8 (m : Int) ∧ m < 256 := by
  obtain ⟨k, n, rfl, h1⟩ := V.onI_inv h
  obtain ⟨hk, h2⟩ := ifB_inv h1
  obtain ⟨m', rfl, h3⟩ := natI_inv h2
  obtain ⟨h4, h5⟩ := ifB_inv h3
  injection h5 with h5; subst h5
  have : k = .u8 := kn_inj (k := k) (k' := .u8) hk
  subst this
  exact ⟨hv, Nat.le_of_ble_eq_true h4⟩

theorem bytes_ok {ρ : Ren} : ∀ {ds : List V} {ys : List Value} {bs : List Nat}, mapO byteV ds = some bs → RL ρ ds ys → ys = bs.map (fun (m : Nat) => Value.int .u8 (m : Int)) ∧ ∀ m ∈ bs, m < 256
  | [], ys, bs, h, hr => by
    injection (show some [] = some bs from h) with h; subst h
    exact ⟨hr, fun m hm => nomatch hm⟩
  | d :: ds, ys, bs, h, hr => by
    obtain ⟨m, ms, h1, h2, rfl⟩ := mapO_cons h
    obtain ⟨u, us, rfl, hu, hus⟩ := hr
    obtain ⟨e1, e2⟩ := byteV_ok h1 hu
    obtain ⟨e3, e4⟩ := bytes_ok h2 hus
    refine ⟨by rw [e1, e3]; rfl, fun x hx => ?_⟩
    cases hx with
    | head => exact e2
    | tail _ hx => exact e4 x hx

noncomputable def pB2S (P : Program) (h : Tr Blk) (src dst : TypeId) (x : V) : Option V :=
  onO (tSlice P src) fun e => ifB (isU8 (tInt P e)) (ifB (tIsStr P dst) (x.way (fun _ _ => none)
    (fun a o n es _ => ifB (Nat.beq es 1) (ite2 (Nat.beq n 0) (some (.s [])) (onO (h.get a) fun b => b.onC fun _ cs => onO (cutL cs o n) fun ds => onO (mapO byteV ds) fun bs => some (.s bs))))
    (some (.s [])) (fun _ => none) (fun _ => none)))

theorem bytesOf_nums (bs : List Nat) (h : ∀ m ∈ bs, m < 256) : bytesOf (strOfNums (bs.map fun (m : Nat) => (m : Int))) = bs := by
  unfold bytesOf
  rw [strOfNums_data, List.map_map, List.map_map]
  conv => rhs; rw [← List.map_id bs]
  refine List.map_congr_left fun m hm => ?_
  have := h m hm
  simp [Nat.mod_eq_of_lt this]

theorem pB2S_ok {ρ : Ren} {h : Tr Blk} {src dst : TypeId} {x v : V} {u : Value} {w : World} (hh : pB2S P h src dst x = some v) (hr : HRel ρ h.get w) (hx : R ρ x u) :
    ∃ y, (convert src dst u).run P w = .ok y w ∧ R ρ v y := by
  obtain ⟨e, he, h1⟩ := onO_inv hh
  obtain ⟨hu8, h2⟩ := ifB_inv h1
  obtain ⟨hstr, h3⟩ := ifB_inv h2
  have hs := tSlice_und he
  have hu := isU8_ok hu8
  have hd := tIsStr_und hstr
  unfold V.way at h3
  split at h3
  case h_2 a o n es c =>
    obtain ⟨hes, h4⟩ := ifB_inv h3
    have hes := Nat.eq_of_beq_eq_true hes
    subst hes
    obtain ⟨L, off, cap, hL, rfl, g1, g2, g3, g4, g5⟩ := hx
    cases hz0 : Nat.beq n 0
    · rw [hz0, ite2_false] at h4
      have hn0 := Nat.ne_of_beq_eq_false hz0
      obtain ⟨b, hb, h5⟩ := onO_inv h4
      obtain ⟨ro, cs, rfl, h6⟩ := Blk.onC_inv h5
      obtain ⟨ds, hds, h7⟩ := onO_inv h6
      obtain ⟨bs, hbs, h8⟩ := onO_inv h7
      injection h8 with h8; subst h8
      obtain ⟨L', hL', hbr⟩ := hr.at_ a _ hb
      rw [hL] at hL'; cases hL'
      obtain ⟨ys, e1, e2, e3⟩ := cells_at hbr hds
      obtain ⟨hys, hlt⟩ := bytes_ok hbs e2
      have hoff : off = L.base + o := by
        rcases g5 with ⟨q, _⟩ | q
        · exact absurd q hn0
        · exact q
      subst hoff
      refine ⟨_, run_convert_bytes_arg w src e hs hu L.blk (L.base + o) n cap (bs.map fun (m : Nat) => (m : Int)) ?_ ?_ dst hd, _, rfl, bytesOf_nums bs hlt⟩
      · rw [List.length_map, ← e1, hys, List.length_map]
      · intro i hi
        have hi' : i < bs.length := by rw [← e1, hys, List.length_map] at hi; exact hi
        have := e3 i (.int .u8 (bs[i] : Int)) (by rw [hys, List.getElem?_map, List.getElem?_eq_getElem hi']; rfl)
        rw [add_none] at this
        rw [this]
        simp [List.getD, List.getElem?_eq_getElem hi']
    · rw [hz0, ite2_true] at h4
      injection h4 with h4; subst h4
      have hn0 := Nat.eq_of_beq_eq_true hz0
      subst hn0
      exact ⟨_, run_convert_bytes_arg w src e hs hu L.blk off 0 cap [] rfl (fun i hi => by omega) dst hd, _, rfl, rfl⟩
  case h_3 =>
    injection h3 with h3; subst h3
    rw [show u = _ from hx]
    exact ⟨_, run_convert_bytes_nil w src e hs hu 0 0 dst hd, _, rfl, rfl⟩
  all_goals exact nomatch h3

noncomputable def hS2B (P : Program) (H : Heap) (src dst : TypeId) (x : V) : Option (V × Heap) :=
  x.onS fun l => ifB (tHas P src) (onO (tSlice P dst) fun e => ifB (isU8 (tInt P e)) (onO (tSize P e) fun sz => ifB (Nat.beq sz 1) (some (.l H.nx 0 (lenL l) 1 none, hNewS H (mapL (fun b => V.i .u8 (Int.ofNat b)) l)))))

theorem hS2B_ok {ρ : Ren} {H H' : Heap} {src dst : TypeId} {x v : V} {u : Value} {w : World} (h : hS2B P H src dst x = some (v, H')) (hr : HRel ρ H.t.get w) (hf : ρ H.nx = none) (hx : R ρ x u) :
    ∃ y w' ρ', (convert src dst u).run P w = .ok y w' ∧ R ρ' v y ∧ Step ρ ρ' H.t.get H'.t.get H.nx H'.nx w w' := by
  obtain ⟨l, rfl, h1⟩ := V.onS_inv h
  obtain ⟨hsrc, h2⟩ := ifB_inv h1
  obtain ⟨e, he, h3⟩ := onO_inv h2
  obtain ⟨hu8, h4⟩ := ifB_inv h3
  obtain ⟨sz, hsz, h5⟩ := onO_inv h4
  obtain ⟨h6, h7⟩ := ifB_inv h5
  injection h7 with h7; injection h7 with h7 h8; subst h7; subst h8
  obtain ⟨s, rfl, hl⟩ := hx
  obtain ⟨ds, hds⟩ : ∃ d, P.underlying src = some d := by
    unfold tHas at hsrc; rw [tU_eq] at hsrc; split at hsrc
    · exact ⟨_, by assumption⟩
    · exact nomatch hsrc
  have hd := tSlice_und he
  have hu := isU8_ok hu8
  let q := Question.appendCap s.size 0 e
  let cap := q.cut (w.tape w.drawn q)
  let elems : Array Value := s.data.map fun b => .int .u8 b.toNat
  let arr : Array Value := elems ++ Array.replicate (cap - s.size) (.int .u8 0)
  have hcap : s.size ≤ cap := by show s.size ≤ s.size + _; omega
  have hel : elems.size = s.size := by show (s.data.map _).size = s.data.size; rw [Array.size_map]
  have hsize : arr.size = cap := by
    show (elems ++ Array.replicate (cap - s.size) (Value.int .u8 0)).size = cap
    rw [Array.size_append, hel, Array.size_replicate]
    omega
  have e2 : (elems.toList ++ (Array.replicate (cap - s.size) (Value.int .u8 0)).toList).length = cap := by
    rw [List.length_append, Array.length_toList, Array.length_toList, hel, Array.size_replicate]; omega
  have hcells : RL ρ (mapL (fun b => V.i .u8 (Int.ofNat b)) l) elems.toList := by
    rw [mapL_eq, ← hl]
    unfold bytesOf
    rw [List.map_map, Array.toList_map]
    exact RL.map (fun b : UInt8 => V.i .u8 (Int.ofNat b.toNat)) (fun b : UInt8 => Value.int .u8 (b.toNat : Int)) (fun _ => rfl) _
  let w1 : World := { w with drawn := w.drawn + 1 }
  have hs := new_stepR true e (Array.replicate (cap - s.size) (Value.int .u8 0)).toList (cap, cap + 1) (fun i hi => by
    intro hh
    have hi := hi.resolve_right (fun q => nomatch q)
    rw [e2] at hi
    have := hh.1
    simp only at this
    omega) (HRel.heap (w' := w1) (w := w) rfl hr) hf hcells
  have e1 : (elems.toList ++ (Array.replicate (cap - s.size) (Value.int .u8 0)).toList).toArray = arr := by apply Array.ext'; simp [arr]
  rw [e1] at hs
  refine ⟨.slice (some ⟨w.heap.size, 0, none⟩) s.size cap, ?_⟩
  have hfreeze : ({ w1 with heap := w1.heap.push (.cells arr e) } : World).freeze ⟨w.heap.size, cap, none⟩ 1 = { w1 with heap := w1.heap.push (.cells arr e (cap, cap + 1)) } := by
    unfold World.freeze
    rw [if_neg (by omega)]
    congr 1
    apply Array.ext
    · simp
    · intro k h1 h2
      simp only [Array.getElem_modify]
      by_cases hk : w.heap.size = k
      · subst hk
        simp [w1]
      · rw [if_neg hk]
        have hlt : k < w.heap.size := by simp [w1] at h2; omega
        simp [Array.getElem_push, w1, hlt]
  refine ⟨{ w1 with heap := w1.heap.push (.cells arr e (cap, cap + 1)) }, _, ?_, ?_, Step.heap (w1 := w1) rfl rfl hs⟩
  · have hshape : ({ w1 with heap := w1.heap.push (.cells arr e) } : World).shape? w.heap.size = some (e, cap) := by
      show (match (w.heap.push (Obj.cells arr e))[w.heap.size]? with | some (.cells c elem _) => some (elem, c.size) | _ => none) = _
      simp [hsize]
    simp only [convert, Sem.run_bind, run_und hds, run_und hd, Result.andThen_ok]
    have key : (Conv.stringToBytes e s).run P w = .ok (.slice (some ⟨w.heap.size, 0, none⟩) s.size cap) { w1 with heap := w1.heap.push (.cells arr e (cap, cap + 1)) } := by
      simp only [Conv.stringToBytes, Sem.run_bind, run_choose, Question.forced, Bool.false_eq_true, if_false, Result.andThen_ok, newRow, run_newObj, Sem.run_pure, markStringish, run_shape]
      have hsh2 : ({ heap := w.heap.push (Obj.cells (Array.map (fun b => Value.int IntKind.u8 ↑b.toNat) s.data ++ Array.replicate ((Question.appendCap s.size 0 e).cut (w.tape w.drawn (Question.appendCap s.size 0 e)) - s.size) (Value.int IntKind.u8 0)) e), tape := w.tape, drawn := w.drawn + 1, os := w.os, output := w.output } : World).shape? w.heap.size = some (e, cap) := hshape
      rw [hsh2]
      simp only [run_freeze, Result.andThen_ok]
      congr 1
    cases ds <;> first | (simp only [run_und hu, Result.andThen_ok]; exact key)
  · rw [e2]
    have : lenL l = s.size := by rw [lenL_eq, ← hl, bytesOf_length]
    rw [this]
    exact slice_new none hcap (by omega) (fun j hj => nomatch hj)

end Go.Proofs.YtdnlfkmfofckfaaGreatDoor.Ev
