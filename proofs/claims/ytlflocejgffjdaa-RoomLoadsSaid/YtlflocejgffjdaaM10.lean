/-
  One operation of Go code over the abstract memory. No statement of the seat is proved here; no condition.
-/
import Derived.Test.YtlflocejgffjdaaM9f
namespace Go.Mini
open Go.RowKit

variable {P : Program}

def okOperand : Operand → Bool
  | .tmp _ => true
  | .const v => plainV v
  | .func _ => true
  | .global _ => false

/-- may an operation come to something by its operands alone, in a way that no other rule below tells? -/
def mayPlain : Op → Bool
  | .select _ _ | .move _ | .assign _ | .load _ _ | .store _ _ _ | .alloc _ | .box _ _ | .build _ _ | .buildSlice _ _ _ | .makeSlice _ _ _ | .fieldAddr _ _ _ | .indexAddr _ _ _ | .mapUpdate _ _ _ _ | .insert _ _ _ _ | .makeMap _ _ => false
  | _ => true
/-- whole numbers, the short way -/
def fastM (P : Program) (ρ : Operand → Value) (o : Oper) : Option Value :=
  match o.op with
  | .binOp op _ x y _ => fastBin op (ρ x) (ρ y)
  | .convert src dst x => if (P.underlying src).isSome then fastConv P dst (ρ x) else none
  | _ => none
/-- what an operation comes to that has plain operands and neither reads nor writes -/
def plainM (P : Program) (ρ : Operand → Value) (o : Oper) : Option Value :=
  match fastM P ρ o with
  | some v => some v
  | none => if mayPlain o.op = true ∧ o.op.operands.all (fun x => plainV (ρ x)) = true then match pureOf P (execOp ρ o) with
      | some (.value v) => if plainV v then some v else none
      | _ => none
    else none
theorem fastBin_ints {op : BinOp} {x y v : Value} (h : fastBin op x y = some v) : plainV x = true ∧ plainV y = true := by
  unfold fastBin at h
  split at h
  · split at h
    · exact ⟨rfl, rfl⟩
    · cases h
  · cases h
theorem fastConv_ints {dst : TypeId} {x v : Value} (h : fastConv P dst x = some v) : plainV x = true := by
  unfold fastConv at h
  split at h
  · rfl
  · cases h
theorem fastM_does {m : Em} {ρ ρ' : Operand → Value} {o : Oper} (hρ : ∀ x ∈ o.op.operands, VR m (ρ x) (ρ' x)) {v : Value} (hl : fastM P ρ o = some v) (w : World) :
    (execOp ρ' o).run P w = .ok (.value v) w ∧ plainV v = true := by
  obtain ⟨dst, op, ty, pos, after, guard⟩ := o
  unfold fastM at hl
  dsimp only at hl hρ
  split at hl
  · rename_i op t x y q
    obtain ⟨h1, h2⟩ := fastBin_ints hl
    have e1 : ρ' x = ρ x := (hρ x (by simp [Op.operands])).plain_eq h1
    have e2 : ρ' y = ρ y := (hρ y (by simp [Op.operands])).plain_eq h2
    obtain ⟨r1, r2⟩ := fastBin_does (P := P) (t := t) (ox := x) (oy := y) hl w
    refine ⟨?_, r2⟩
    show (do pure (.value (← (do eqGuard op t x y (ρ' x) (ρ' y); binOp op t (ρ' x) (ρ' y)))) : Sem Next).run P w = _
    rw [e1, e2, Sem.run_bind, r1]
    rfl
  · rename_i src d x
    split at hl
    · rename_i hs
      have h1 := fastConv_ints hl
      have e1 : ρ' x = ρ x := (hρ x (by simp [Op.operands])).plain_eq h1
      obtain ⟨u, hu⟩ := Option.isSome_iff_exists.1 hs
      obtain ⟨r1, r2⟩ := fastConv_does (src := src) hu hl w
      refine ⟨?_, r2⟩
      show (do pure (.value (← convert src d (ρ' x))) : Sem Next).run P w = _
      rw [e1, Sem.run_bind, r1]
      rfl
    · cases hl
  · cases hl
theorem plainM_does {m : Em} {ρ ρ' : Operand → Value} {o : Oper} (hρ : ∀ x ∈ o.op.operands, VR m (ρ x) (ρ' x)) {v : Value} (hl : plainM P ρ o = some v) (w : World) :
    (execOp ρ' o).run P w = .ok (.value v) w ∧ plainV v = true := by
  unfold plainM at hl
  split at hl
  · rename_i u hu
    injection hl with hl
    subst hl
    exact fastM_does hρ hu w
  · split at hl
    · rename_i hc
      split at hl
      · rename_i u hu
        split at hl
        · rename_i hp
          injection hl with hl
          subst hl
          have he : execOp ρ o = execOp ρ' o := execOp_congr o (fun cs b hh => by rw [hh] at hc; simp [mayPlain] at hc) fun x hx => by
            have hx' := Array.all_eq_true_iff_forall_mem.1 hc.2 x hx
            exact ((hρ x hx).plain_eq hx').symm
          rw [← he]
          exact ⟨pureOf_run hu w, hp⟩
        · cases hl
      · cases hl
    · cases hl

def extractM (x : Value) (ix : Nat) : Option Value :=
  match x with
  | .tuple vs => vs[ix]?
  | _ => none
def nilCheckM (x : Value) : Option Value :=
  match x with
  | .pointer (some a) => some (.pointer (some a))
  | _ => none
def pickM (c a b : Value) : Option Value :=
  match c with
  | .bool t => some (if t then a else b)
  | _ => none

def optPlain : Option Value → Bool
  | none => true
  | some v => plainV v
theorem optPlain_eq {m : Em} {ρ ρ' : Operand → Value} {x : Option Operand} (hp : optPlain (x.map ρ) = true) (h : ∀ y, x = some y → VR m (ρ y) (ρ' y)) : x.map ρ' = x.map ρ := by
  cases x with
  | none => rfl
  | some y => exact congrArg some ((h y rfl).plain_eq hp)

/-- ONE OPERATION, no call of a function. -/
def mop (P : Program) (ρ : Operand → Value) (o : Oper) (μ : Mem) : Option (Value × Mem) :=
  match plainM P ρ o with
  | some v => some (v, μ)
  | none =>
    match o.op with
    | .move x | .assign x => some (ρ x, μ)
    | .pick c a b => (pickM (ρ c) (ρ a) (ρ b)).map (·, μ)
    | .alloc e => allocM P e μ
    | .box e x => boxM e (ρ x) μ
    | .build t ps => (buildM P t (ps.map fun (i, x) => (i, ρ x)).toList).map (·, μ)
    | .buildSlice t n ps => buildSliceM P t n (ps.map fun (i, x) => (i, ρ x)).toList μ
    | .load t a => (loadM P t μ (ρ a)).map (·, μ)
    | .store t a x => (storeM P t μ (ρ a) (ρ x)).map (undef, ·)
    | .nilCheck x => (nilCheckM (ρ x)).map (·, μ)
    | .binOp op t x y _ => (nilM P op t (ρ x) (ρ y)).map (·, μ)
    | .makeSlice t l c => if plainV (ρ l) && plainV (ρ c) then makeSliceM P t (ρ l) (ρ c) μ else none
    | .slice t x lo hi mx => if optPlain (lo.map ρ) && optPlain (hi.map ρ) && optPlain (mx.map ρ) then (cutM P t (ρ x) (lo.map ρ) (hi.map ρ) (mx.map ρ)).map (·, μ) else none
    | .fieldAddr s x f => (fieldAddrM P s (ρ x) f).map (·, μ)
    | .field t x f => (fieldM P t (ρ x) f).map (·, μ)
    | .indexAddr t x ix => if plainV (ρ ix) then (indexAddrM P t (ρ x) (ρ ix)).map (·, μ) else none
    | .index t x ix => if plainV (ρ ix) then (indexM P t (ρ x) (ρ ix)).map (·, μ) else none
    | .convert src dst x => match bytesStrM P src dst (ρ x) μ with
      | some v => some (v, μ)
      | none => strBytesM P src dst (ρ x) μ
    | .sliceToArrayPointer arr x => (arrayAtM P arr (ρ x)).map (·, μ)
    | .makeMap t r => if optPlain (r.map ρ) then makeMapM P t (r.map ρ) μ else none
    | .lookup t x k ok => (lookupM P t μ (ρ x) (ρ k) ok).map (·, μ)
    | .mapUpdate t x k v => (mapUpdateM P t (ρ x) (ρ k) (ρ v) μ).map (undef, ·)
    | .insert t x k v => (mapUpdateM P t (ρ x) (ρ k) (ρ v) μ).map (undef, ·)
    | .extract x ix => (extractM (ρ x) ix).map (·, μ)
    | .call c => match c.callee with
      | .builtin .append => match c.argTypes.toList, c.args.toList with
        | [t, tx], [s, x] => appendM P t tx (ρ s) (ρ x) μ
        | _, _ => none
      | .builtin .len => match c.argTypes.toList, c.args.toList with
        | [t], [x] => match lenM P t (ρ x) with
          | some v => some (v, μ)
          | none => (lenMapM P t μ (ρ x)).map (·, μ)
        | _, _ => none
      | .builtin .copy => match c.argTypes.toList, c.args.toList with
        | [t, _], [d, s] => copyM P t (ρ d) (ρ s) μ
        | _, _ => none
      | .builtin .delete => match c.argTypes.toList, c.args.toList with
        | [t, _], [x, k] => (deleteM P t (ρ x) (ρ k) μ).map (undef, ·)
        | _, _ => none
      | _ => none
    | _ => none

theorem some_map {α β : Type} {o : Option α} {f : α → β} {b : β} (h : o.map f = some b) : ∃ a, o = some a ∧ f a = b := by
  cases o with
  | none => cases h
  | some a => exact ⟨a, rfl, by simpa using h⟩

/-- from a run of the operation's own semantics -/
theorem Does.value {m : Em} {base : Nat → Prop} {μ' : Mem} {w : World} {ρ' : Operand → Value} {o : Oper} {v : Value} {s : Sem Value} (he : execOp ρ' o = (do pure (.value (← s)) : Sem Next))
    (h : ∃ m' v' w', s.run P w = .ok v' w' ∧ m.le m' ∧ Ok P m' base μ' w' ∧ VR m' v v' ∧ Below base w w') : Does P m base w ρ' o v μ' := by
  obtain ⟨m', v', w', h1, h2, h3, h4, h5⟩ := h
  exact ⟨m', v', w', .inl (by rw [he]; simp [h1]), h2, h3, h4, h5⟩
theorem Does.still {m : Em} {base : Nat → Prop} {μ : Mem} {w : World} (hok : Ok P m base μ w) {ρ' : Operand → Value} {o : Oper} {v : Value} {s : Sem Value} (he : execOp ρ' o = (do pure (.value (← s)) : Sem Next))
    (h : ∃ v', s.run P w = .ok v' w ∧ VR m v v') : Does P m base w ρ' o v μ := by
  obtain ⟨v', h1, h2⟩ := h
  exact Does.value he ⟨m, v', w, h1, m.le_refl, hok, h2, Below.refl _ _⟩

theorem partsOk {m : Em} {ρ ρ' : Operand → Value} {ps : Array (Nat × Operand)} (h : ∀ p ∈ ps.toList, VR m (ρ p.2) (ρ' p.2)) :
    PartsOk m (ps.map fun (i, x) => (i, ρ x)).toList (ps.map fun (i, x) => (i, ρ' x)).toList := by
  rw [Array.toList_map, Array.toList_map]
  generalize ps.toList = l at h
  induction l with
  | nil => exact .nil
  | cons p l ih => exact .cons ⟨rfl, h p (List.mem_cons_self ..)⟩ (ih fun q hq => h q (List.mem_cons_of_mem _ hq))

theorem parts_mem {ps : Array (Nat × Operand)} {p : Nat × Operand} (hp : p ∈ ps.toList) : p.2 ∈ (ps.toList.map (·.2)).toArray := by
  rw [List.mem_toArray]
  exact List.mem_map.2 ⟨p, hp, rfl⟩

set_option maxHeartbeats 2000000 in
theorem mop_does {m : Em} {base : Nat → Prop} {μ μ' : Mem} {w : World} (h : Ok P m base μ w) {ρ ρ' : Operand → Value} {o : Oper} (hρ : ∀ x ∈ o.op.operands, VR m (ρ x) (ρ' x)) {v : Value} (hl : mop P ρ o μ = some (v, μ')) :
    Does P m base w ρ' o v μ' := by
  unfold mop at hl
  split at hl
  · rename_i u hp
    injection hl with hl; injection hl with q1 q2; subst q1; subst q2
    obtain ⟨h1, h2⟩ := plainM_does hρ hp w
    exact Does.quiet h h1 (VR.of_plain h2)
  · rename_i hnone
    clear hnone
    obtain ⟨dst, op, ty, pos, after, guard⟩ := o
    dsimp only at hl hρ
    split at hl
    · rename_i x
      injection hl with hl; injection hl with q1 q2; subst q1; subst q2
      exact Does.quiet h rfl (hρ x (by simp [Op.operands]))
    · rename_i x
      injection hl with hl; injection hl with q1 q2; subst q1; subst q2
      exact Does.quiet h rfl (hρ x (by simp [Op.operands]))
    · rename_i c a b
      obtain ⟨u, h1, h2⟩ := some_map hl
      injection h2 with q1 q2; subst q1; subst q2
      unfold pickM at h1
      split at h1
      · rename_i t hc
        injection h1 with h1; subst h1
        have hc' := hρ c (by simp [Op.operands])
        rw [hc] at hc'
        have : ρ' c = .bool t := hc'.plain_eq rfl
        refine Does.quiet h (v' := if t then ρ' a else ρ' b) (by simp [execOp, this, asBool]) ?_
        cases t
        · exact hρ b (by simp [Op.operands])
        · exact hρ a (by simp [Op.operands])
      · cases h1
    · rename_i e
      exact Does.value rfl (allocM_does h hl)
    · rename_i e x
      exact Does.value rfl (boxM_does h (hρ x (by simp [Op.operands])) hl)
    · rename_i t ps
      obtain ⟨u, h1, h2⟩ := some_map hl
      injection h2 with q1 q2; subst q1; subst q2
      refine Does.still h (s := Instr.build t (ps.map fun (i, x) => (i, ρ' x))) rfl ?_
      have := buildM_does (partsOk (ρ := ρ) (ρ' := ρ') (ps := ps) fun p hp => hρ p.2 (parts_mem hp)) h1 w
      rwa [Array.toArray_toList] at this
    · rename_i t n ps
      refine Does.value (s := Instr.buildSlice t n (ps.map fun (i, x) => (i, ρ' x))) rfl ?_
      have := buildSliceM_does h (partsOk (ρ := ρ) (ρ' := ρ') (ps := ps) fun p hp => hρ p.2 (parts_mem hp)) hl
      rwa [Array.toArray_toList] at this
    · rename_i t a
      obtain ⟨u, h1, h2⟩ := some_map hl
      injection h2 with q1 q2; subst q1; subst q2
      exact Does.still h rfl (loadM_does h h1 (hρ a (by simp [Op.operands])))
    · rename_i t a x
      obtain ⟨u, h1, h2⟩ := some_map hl
      injection h2 with q1 q2; subst q1; subst q2
      obtain ⟨w', r1, r2, r3⟩ := storeM_does h h1 (hρ a (by simp [Op.operands])) (hρ x (by simp [Op.operands]))
      exact ⟨m, undef, w', .inr ⟨by simp [execOp, r1], rfl⟩, m.le_refl, r2, VR.undef m, r3⟩
    · rename_i x
      obtain ⟨u, h1, h2⟩ := some_map hl
      injection h2 with q1 q2; subst q1; subst q2
      unfold nilCheckM at h1
      split at h1
      · rename_i a hx
        injection h1 with h1; subst h1
        have hx' := hρ x (by simp [Op.operands])
        rw [hx] at hx'
        refine Does.quiet h (v' := ρ' x) ?_ hx'
        obtain ⟨_, _, h3⟩ := hx'.pointer
        simp [execOp, h3]
      · cases h1
    · rename_i op t x y q
      obtain ⟨u, h1, h2⟩ := some_map hl
      injection h2 with q1 q2; subst q1; subst q2
      obtain ⟨r1, r2⟩ := nilM_does (ox := x) (oy := y) (hρ x (by simp [Op.operands])) (hρ y (by simp [Op.operands])) h1 w
      exact Does.still h (s := do eqGuard op t x y (ρ' x) (ρ' y); binOp op t (ρ' x) (ρ' y)) rfl ⟨_, r1, VR.of_plain r2⟩
    · rename_i t l c
      split at hl
      · rename_i hp
        rw [Bool.and_eq_true] at hp
        have e1 : ρ' l = ρ l := (hρ l (by simp [Op.operands])).plain_eq hp.1
        have e2 : ρ' c = ρ c := (hρ c (by simp [Op.operands])).plain_eq hp.2
        refine Does.value (s := Instr.makeSlice t (ρ' l) (ρ' c)) rfl ?_
        rw [e1, e2]
        exact makeSliceM_does h hl
      · cases hl
    · rename_i t x lo hi mx
      split at hl
      · rename_i hp
        rw [Bool.and_eq_true, Bool.and_eq_true] at hp
        obtain ⟨⟨p1, p2⟩, p3⟩ := hp
        obtain ⟨u, h1, h2⟩ := some_map hl
        injection h2 with q1 q2; subst q1; subst q2
        have e1 : lo.map ρ' = lo.map ρ := optPlain_eq (m := m) p1 fun y hy => hρ y (by subst hy; simp [Op.operands])
        have e2 : hi.map ρ' = hi.map ρ := optPlain_eq (m := m) p2 fun y hy => hρ y (by subst hy; simp [Op.operands])
        have e3 : mx.map ρ' = mx.map ρ := optPlain_eq (m := m) p3 fun y hy => hρ y (by subst hy; simp [Op.operands])
        refine Does.still h (s := Instr.sliceAt t (ρ' x) (lo.map ρ') (hi.map ρ') (mx.map ρ')) rfl ?_
        rw [e1, e2, e3]
        exact cutM_does (hρ x (by simp [Op.operands])) h1 w
      · cases hl
    · rename_i s x f
      obtain ⟨u, h1, h2⟩ := some_map hl
      injection h2 with q1 q2; subst q1; subst q2
      exact Does.still h rfl (fieldAddrM_does (hρ x (by simp [Op.operands])) h1 w)
    · rename_i t x f
      obtain ⟨u, h1, h2⟩ := some_map hl
      injection h2 with q1 q2; subst q1; subst q2
      exact Does.still h rfl (fieldM_does (hρ x (by simp [Op.operands])) h1 w)
    · rename_i t x ix
      split at hl
      · rename_i hp
        obtain ⟨u, h1, h2⟩ := some_map hl
        injection h2 with q1 q2; subst q1; subst q2
        have : ρ' ix = ρ ix := (hρ ix (by simp [Op.operands])).plain_eq hp
        refine Does.still h (s := Instr.indexAt t (ρ' x) (ρ' ix)) rfl ?_
        rw [this]
        exact indexAddrM_does (hρ x (by simp [Op.operands])) h1 w
      · cases hl
    · rename_i t x ix
      split at hl
      · rename_i hp
        obtain ⟨u, h1, h2⟩ := some_map hl
        injection h2 with q1 q2; subst q1; subst q2
        have : ρ' ix = ρ ix := (hρ ix (by simp [Op.operands])).plain_eq hp
        refine Does.still h (s := Instr.index t (ρ' x) (ρ' ix)) rfl ?_
        rw [this]
        exact indexM_does (hρ x (by simp [Op.operands])) h1 w
      · cases hl
    · rename_i src dst x
      split at hl
      · rename_i u h1
        injection hl with hl; injection hl with q1 q2; subst q1; subst q2
        obtain ⟨r1, r2⟩ := bytesStrM_does h (hρ x (by simp [Op.operands])) h1
        exact Does.still h (s := convert src dst (ρ' x)) rfl ⟨_, r1, VR.of_plain r2⟩
      · exact Does.value (s := convert src dst (ρ' x)) rfl (strBytesM_does h (hρ x (by simp [Op.operands])) hl)
    · rename_i arr x
      obtain ⟨u, h1, h2⟩ := some_map hl
      injection h2 with q1 q2; subst q1; subst q2
      exact Does.still h rfl (arrayAtM_does (hρ x (by simp [Op.operands])) h1 w)
    · rename_i t r
      split at hl
      · rename_i hp
        have e1 : r.map ρ' = r.map ρ := optPlain_eq (m := m) hp fun y hy => hρ y (by subst hy; simp [Op.operands])
        refine Does.value (s := Instr.makeMap t (r.map ρ')) rfl ?_
        rw [e1]
        exact makeMapM_does h hl
      · cases hl
    · rename_i t x k ok
      obtain ⟨u, h1, h2⟩ := some_map hl
      injection h2 with q1 q2; subst q1; subst q2
      exact Does.still h rfl (lookupM_does h (hρ x (by simp [Op.operands])) (hρ k (by simp [Op.operands])) h1)
    · rename_i t x k u
      obtain ⟨μ2, h1, h2⟩ := some_map hl
      injection h2 with q1 q2; subst q1; subst q2
      obtain ⟨w', r1, r2, r3⟩ := mapUpdateM_does h (hρ x (by simp [Op.operands])) (hρ k (by simp [Op.operands])) (hρ u (by simp [Op.operands])) h1
      exact ⟨m, undef, w', .inr ⟨by simp [execOp, r1], rfl⟩, m.le_refl, r2, VR.undef m, r3⟩
    · rename_i t x k u
      obtain ⟨μ2, h1, h2⟩ := some_map hl
      injection h2 with q1 q2; subst q1; subst q2
      obtain ⟨w', r1, r2, r3⟩ := mapUpdateM_does h (hρ x (by simp [Op.operands])) (hρ k (by simp [Op.operands])) (hρ u (by simp [Op.operands])) h1
      exact ⟨m, undef, w', .inr ⟨by simp [execOp, r1], rfl⟩, m.le_refl, r2, VR.undef m, r3⟩
    · rename_i x ix
      obtain ⟨u, h1, h2⟩ := some_map hl
      injection h2 with q1 q2; subst q1; subst q2
      unfold extractM at h1
      split at h1
      · rename_i vs hx
        have hx' := hρ x (by simp [Op.operands])
        rw [hx] at hx'
        obtain ⟨vs', e, ha⟩ := hx'
        rw [← Array.getElem?_toList] at h1
        obtain ⟨u', r1, r2⟩ := ha.get h1
        rw [Array.getElem?_toList] at r1
        refine Does.still h (s := Instr.extract (ρ' x) ix) rfl ⟨u', ?_, VR.of_vr1 r2⟩
        rw [e]
        simp [Instr.extract, r1]
      · cases h1
    · rename_i c
      obtain ⟨cal, cargs, cat⟩ := c
      dsimp only at hl hρ
      split at hl
      · split at hl
        · rename_i t tx s x ht ha
          have ht' : cat = #[t, tx] := by apply Array.ext'; rw [ht]
          have ha' : cargs = #[s, x] := by apply Array.ext'; rw [ha]
          subst ht' ha'
          refine Does.value (s := Builtin.append_ #[t, tx] ty #[ρ' s, ρ' x]) (by simp [execOp, resolve, invoke, builtin]) ?_
          exact appendM_does h (hρ s (by simp [Op.operands, Call.operands])) (hρ x (by simp [Op.operands, Call.operands])) hl
        · cases hl
      · split at hl
        · rename_i t x ht ha
          have ht' : cat = #[t] := by apply Array.ext'; rw [ht]
          have ha' : cargs = #[x] := by apply Array.ext'; rw [ha]
          subst ht' ha'
          split at hl
          · rename_i u h1
            injection hl with hl; injection hl with q1 q2; subst q1; subst q2
            obtain ⟨r1, r2⟩ := lenM_does (ty := ty) (hρ x (by simp [Op.operands, Call.operands])) h1 w
            exact Does.still h (s := Builtin.len_ #[t] ty #[ρ' x]) (by simp [execOp, resolve, invoke, builtin]) ⟨_, r1, VR.of_plain r2⟩
          · obtain ⟨u, h1, h2⟩ := some_map hl
            injection h2 with q1 q2; subst q1; subst q2
            obtain ⟨r1, r2⟩ := lenMapM_does (ty := ty) h (hρ x (by simp [Op.operands, Call.operands])) h1
            exact Does.still h (s := Builtin.len_ #[t] ty #[ρ' x]) (by simp [execOp, resolve, invoke, builtin]) ⟨_, r1, VR.of_plain r2⟩
        · cases hl
      · split at hl
        · rename_i t tx s x ht ha
          have ht' : cat = #[t, tx] := by apply Array.ext'; rw [ht]
          have ha' : cargs = #[s, x] := by apply Array.ext'; rw [ha]
          subst ht' ha'
          refine Does.value (s := Builtin.copy_ #[t, tx] ty #[ρ' s, ρ' x]) (by simp [execOp, resolve, invoke, builtin]) ?_
          obtain ⟨w', r1, r2, r3, r4⟩ := copyM_does (ty := ty) (sT := tx) h (hρ s (by simp [Op.operands, Call.operands])) (hρ x (by simp [Op.operands, Call.operands])) hl
          exact ⟨m, v, w', r1, m.le_refl, r3, VR.of_plain r2, r4⟩
        · cases hl
      · split at hl
        · rename_i t tx s x ht ha
          have ht' : cat = #[t, tx] := by apply Array.ext'; rw [ht]
          have ha' : cargs = #[s, x] := by apply Array.ext'; rw [ha]
          subst ht' ha'
          obtain ⟨μ2, h1, h2⟩ := some_map hl
          injection h2 with q1 q2; subst q1; subst q2
          refine Does.value (s := Builtin.delete_ #[t, tx] ty #[ρ' s, ρ' x]) (by simp [execOp, resolve, invoke, builtin]) ?_
          obtain ⟨w', r1, r2, r3⟩ := deleteM_does (ty := ty) (kT := tx) h (hρ s (by simp [Op.operands, Call.operands])) (hρ x (by simp [Op.operands, Call.operands])) h1
          exact ⟨m, undef, w', r1, m.le_refl, r2, VR.undef m, r3⟩
        · cases hl
      · cases hl
    · cases hl

end Go.Mini
