/-
  Frames, operations in a row, code and calls over the abstract memory. No statement of the seat is proved here; no condition.
-/
import Derived.Test.YtlflocejgffjdaaM10
namespace Go.Mini
open Go.RowKit

variable {P : Program}

/-! ### a frame: a tree over the slots' digits -/
inductive Tr where
  | nil
  | node (v : Value) (l r : Tr)
def Tr.getF : Nat → Tr → Nat → Value
  | 0, _, _ => undef
  | _ + 1, .nil, _ => undef
  | f + 1, .node o l r, n => if n = 0 then o else if n % 2 = 1 then l.getF f (n / 2) else r.getF f (n / 2 - 1)
def Tr.setF : Nat → Tr → Nat → Value → Tr
  | 0, h, _, _ => h
  | f + 1, .nil, n, x => if n = 0 then .node x .nil .nil else if n % 2 = 1 then .node undef (Tr.setF f .nil (n / 2) x) .nil else .node undef .nil (Tr.setF f .nil (n / 2 - 1) x)
  | f + 1, .node o l r, n, x => if n = 0 then .node x l r else if n % 2 = 1 then .node o (l.setF f (n / 2) x) r else .node o l (r.setF f (n / 2 - 1) x)
def Tr.setK {β : Type} : Nat → Tr → Nat → Value → (Tr → β) → β
  | 0, h, _, _, k => k h
  | f + 1, .nil, n, x, k => if n = 0 then k (.node x .nil .nil) else if n % 2 = 1 then Tr.setK f .nil (n / 2) x fun l => k (.node undef l .nil) else Tr.setK f .nil (n / 2 - 1) x fun r => k (.node undef .nil r)
  | f + 1, .node o l r, n, x, k => if n = 0 then k (.node x l r) else if n % 2 = 1 then l.setK f (n / 2) x fun l => k (.node o l r) else r.setK f (n / 2 - 1) x fun r => k (.node o l r)
theorem Tr.setK_eq {β : Type} (x : Value) : ∀ (f : Nat) (h : Tr) (n : Nat) (k : Tr → β), h.setK f n x k = k (h.setF f n x)
  | 0, h, _, _ => by cases h <;> rfl
  | f + 1, .nil, n, k => by
    simp only [Tr.setK, Tr.setF]
    split
    · rfl
    · split
      · rw [Tr.setK_eq x f]
      · rw [Tr.setK_eq x f]
  | f + 1, .node o l r, n, k => by
    simp only [Tr.setK, Tr.setF]
    split
    · rfl
    · split
      · rw [Tr.setK_eq x f]
      · rw [Tr.setK_eq x f]
theorem Tr.getF_nil : ∀ (f n : Nat), Tr.getF f .nil n = undef
  | 0, _ => rfl
  | _ + 1, _ => rfl
theorem Tr.getF_setF (x : Value) : ∀ (f g : Nat) (h : Tr) (n m : Nat), n < f → m < g → (h.setF f n x).getF g m = if n = m then x else h.getF g m
  | 0, _, _, n, _, hf, _ => absurd hf (Nat.not_lt_zero n)
  | _ + 1, 0, _, _, m, _, hg => absurd hg (Nat.not_lt_zero m)
  | f + 1, g + 1, .nil, n, m, hf, hg => by
    simp only [Tr.setF]
    by_cases n0 : n = 0
    · rw [if_pos n0]
      subst n0
      simp only [Tr.getF]
      by_cases m0 : m = 0
      · subst m0; simp
      · rw [if_neg m0, if_neg (show ¬ (0 = m) from fun h => m0 h.symm)]
        split <;> exact Tr.getF_nil _ _
    · rw [if_neg n0]
      by_cases n1 : n % 2 = 1
      · rw [if_pos n1]
        simp only [Tr.getF]
        by_cases m0 : m = 0
        · subst m0; rw [if_pos rfl, if_neg n0]
        · rw [if_neg m0]
          by_cases m1 : m % 2 = 1
          · rw [if_pos m1, Tr.getF_setF x f g .nil (n / 2) (m / 2) (by omega) (by omega), Tr.getF_nil]
            by_cases e : n = m
            · rw [if_pos e, if_pos (by omega)]
            · rw [if_neg e, if_neg (by omega)]
          · rw [if_neg m1, if_neg (by omega), Tr.getF_nil]
      · rw [if_neg n1]
        simp only [Tr.getF]
        by_cases m0 : m = 0
        · subst m0; rw [if_pos rfl, if_neg n0]
        · rw [if_neg m0]
          by_cases m1 : m % 2 = 1
          · rw [if_pos m1, if_neg (by omega), Tr.getF_nil]
          · rw [if_neg m1, Tr.getF_setF x f g .nil (n / 2 - 1) (m / 2 - 1) (by omega) (by omega), Tr.getF_nil]
            by_cases e : n = m
            · rw [if_pos e, if_pos (by omega)]
            · rw [if_neg e, if_neg (by omega)]
  | f + 1, g + 1, .node o l r, n, m, hf, hg => by
    simp only [Tr.setF]
    by_cases n0 : n = 0
    · rw [if_pos n0]
      subst n0
      simp only [Tr.getF]
      by_cases m0 : m = 0
      · subst m0; simp
      · rw [if_neg m0, if_neg (show ¬ (0 = m) from fun h => m0 h.symm), if_neg m0]
    · rw [if_neg n0]
      by_cases n1 : n % 2 = 1
      · rw [if_pos n1]
        simp only [Tr.getF]
        by_cases m0 : m = 0
        · subst m0; rw [if_pos rfl, if_neg n0, if_pos rfl]
        · rw [if_neg m0, if_neg m0]
          by_cases m1 : m % 2 = 1
          · rw [if_pos m1, if_pos m1, Tr.getF_setF x f g l (n / 2) (m / 2) (by omega) (by omega)]
            by_cases e : n = m
            · rw [if_pos e, if_pos (by omega)]
            · rw [if_neg e, if_neg (by omega)]
          · rw [if_neg m1, if_neg m1, if_neg (by omega)]
      · rw [if_neg n1]
        simp only [Tr.getF]
        by_cases m0 : m = 0
        · subst m0; rw [if_pos rfl, if_neg n0, if_pos rfl]
        · rw [if_neg m0, if_neg m0]
          by_cases m1 : m % 2 = 1
          · rw [if_pos m1, if_pos m1, if_neg (by omega)]
          · rw [if_neg m1, if_neg m1, Tr.getF_setF x f g r (n / 2 - 1) (m / 2 - 1) (by omega) (by omega)]
            by_cases e : n = m
            · rw [if_pos e, if_pos (by omega)]
            · rw [if_neg e, if_neg (by omega)]
noncomputable def Tr.getR (t : Tr) : Nat → Value := Tr.rec (motive := fun _ => Nat → Value) (fun _ => undef) (fun v _ _ il ir n => cond (Nat.beq n 0) v (cond (Nat.beq (Nat.mod n 2) 1) (il (Nat.div n 2)) (ir (Nat.sub (Nat.div n 2) 1)))) t
theorem beq_if {α : Type} (n m : Nat) (a b : α) : (cond (Nat.beq n m) a b) = if n = m then a else b := by
  by_cases h : n = m
  · have : Nat.beq n m = true := Nat.beq_eq.mpr h
    rw [if_pos h, this]; rfl
  · have : Nat.beq n m = false := Bool.eq_false_iff.mpr fun hh => h (Nat.beq_eq.mp hh)
    rw [if_neg h, this]; rfl
theorem Tr.getR_node (v : Value) (l r : Tr) (n : Nat) : (Tr.node v l r).getR n = if n = 0 then v else if n % 2 = 1 then l.getR (n / 2) else r.getR (n / 2 - 1) := by
  show cond (Nat.beq n 0) v (cond (Nat.beq (n % 2) 1) (l.getR (n / 2)) (r.getR (n / 2 - 1))) = _
  rw [beq_if, beq_if]
theorem Tr.getR_eq : ∀ (t : Tr) (f n : Nat), n < f → t.getR n = t.getF f n
  | .nil, f, n, h => (Tr.getF_nil f n).symm
  | .node v l r, 0, n, h => absurd h (Nat.not_lt_zero n)
  | .node v l r, f + 1, n, h => by
    rw [Tr.getR_node, Tr.getF]
    split
    · rfl
    · split
      · exact Tr.getR_eq l f _ (by omega)
      · exact Tr.getR_eq r f _ (by omega)
noncomputable def Tr.setR {β : Type} (f : Nat) : Tr → Nat → Value → (Tr → β) → β :=
  Nat.rec (motive := fun _ => Tr → Nat → Value → (Tr → β) → β) (fun h _ _ k => k h) (fun _ ih h n x k =>
    Tr.casesOn h
      (cond (Nat.beq n 0) (k (.node x .nil .nil)) (cond (Nat.beq (Nat.mod n 2) 1) (ih .nil (Nat.div n 2) x fun l => k (.node undef l .nil)) (ih .nil (Nat.sub (Nat.div n 2) 1) x fun r => k (.node undef .nil r))))
      (fun o l r => cond (Nat.beq n 0) (k (.node x l r)) (cond (Nat.beq (Nat.mod n 2) 1) (ih l (Nat.div n 2) x fun l => k (.node o l r)) (ih r (Nat.sub (Nat.div n 2) 1) x fun r => k (.node o l r))))) f
theorem Tr.setR_eq {β : Type} (x : Value) : ∀ (f : Nat) (h : Tr) (n : Nat) (k : Tr → β), h.setK f n x k = Tr.setR f h n x k
  | 0, h, _, _ => by cases h <;> rfl
  | f + 1, .nil, n, k => by
    show _ = cond (Nat.beq n 0) (k (.node x .nil .nil)) (cond (Nat.beq (n % 2) 1) (Tr.setR f .nil (n / 2) x fun l => k (.node undef l .nil)) (Tr.setR f .nil (n / 2 - 1) x fun r => k (.node undef .nil r)))
    rw [beq_if, beq_if, Tr.setK, Tr.setR_eq x f, Tr.setR_eq x f]
  | f + 1, .node o l r, n, k => by
    show _ = cond (Nat.beq n 0) (k (.node x l r)) (cond (Nat.beq (n % 2) 1) (Tr.setR f l (n / 2) x fun l => k (.node o l r)) (Tr.setR f r (n / 2 - 1) x fun r => k (.node o l r)))
    rw [beq_if, beq_if, Tr.setK, Tr.setR_eq x f, Tr.setR_eq x f]
/-- the slots of a frame -/
structure Tm where
  size : Nat
  tree : Tr
noncomputable def Tm.get (t : Tm) (n : Nat) : Value := t.tree.getR n
theorem Tm.get_def (t : Tm) (n : Nat) : t.get n = t.tree.getF (n + 1) n := Tr.getR_eq _ _ _ (Nat.lt_succ_self n)
noncomputable def Tm.putK {β : Type} (t : Tm) (n : Nat) (v : Value) (k : Tm → β) : β := cond (Nat.blt n t.size) (Tr.setR (n + 1) t.tree n v fun r => k ⟨t.size, r⟩) (k t)
def Tm.put (t : Tm) (n : Nat) (v : Value) : Tm := if n < t.size then ⟨t.size, t.tree.setF (n + 1) n v⟩ else t
theorem Tm.putK_eq {β : Type} (t : Tm) (n : Nat) (v : Value) (k : Tm → β) : t.putK n v k = k (t.put n v) := by
  unfold Tm.putK Tm.put
  by_cases h : n < t.size
  · have : Nat.blt n t.size = true := Nat.blt_eq.mpr h
    rw [this, if_pos h, cond_true, ← Tr.setR_eq, Tr.setK_eq]
  · have : Nat.blt n t.size = false := Bool.eq_false_iff.mpr fun hh => h (Nat.blt_eq.mp hh)
    rw [this, if_neg h]
    rfl
theorem Tm.get_put (t : Tm) (n m : Nat) (v : Value) : (t.put n v).get m = if n = m ∧ n < t.size then v else t.get m := by
  unfold Tm.put
  split
  · rename_i h
    rw [Tm.get_def, Tm.get_def, Tr.getF_setF v (n + 1) (m + 1) t.tree n m (by omega) (by omega)]
    simp [h]
  · rename_i h
    rw [if_neg (fun hh => h hh.2)]
theorem Tm.size_put (t : Tm) (n : Nat) (v : Value) : (t.put n v).size = t.size := by
  unfold Tm.put
  split <;> rfl
/-- a frame as it begins -/
def Tm.fill : List Value → Nat → Tm → Tm
  | [], _, t => t
  | v :: l, i, t => Tm.fill l (i + 1) (t.put i v)
def Tm.start (args : List Value) (n : Nat) : Tm := Tm.fill args 0 ⟨args.length + (n - args.length), .nil⟩
theorem Tm.fill_size : ∀ (l : List Value) (i : Nat) (t : Tm), (Tm.fill l i t).size = t.size
  | [], _, _ => rfl
  | v :: l, i, t => by rw [Tm.fill, Tm.fill_size l, Tm.size_put]
theorem Tm.fill_get : ∀ (l : List Value) (i : Nat) (t : Tm) (m : Nat), i + l.length ≤ t.size → (Tm.fill l i t).get m = if i ≤ m ∧ m < i + l.length then l.getD (m - i) undef else t.get m
  | [], i, t, m, _ => by
    rw [if_neg (by simp)]
    rfl
  | v :: l, i, t, m, h => by
    simp only [List.length_cons] at h
    rw [Tm.fill, Tm.fill_get l (i + 1) (t.put i v) m (by rw [Tm.size_put]; omega), Tm.get_put]
    simp only [List.length_cons]
    by_cases h1 : i = m
    · subst h1
      rw [if_neg (by omega), if_pos ⟨rfl, by omega⟩, if_pos (by omega)]
      simp
    · by_cases h2 : i + 1 ≤ m ∧ m < i + 1 + l.length
      · rw [if_pos h2, if_pos (by omega), show m - i = (m - (i + 1)) + 1 by omega]
        simp
      · rw [if_neg h2, if_neg (fun hh => h1 hh.1), if_neg (by omega)]
theorem Tm.get_nil (n m : Nat) : (Tm.mk n .nil).get m = undef := (Tm.get_def _ _).trans (Tr.getF_nil _ _)

structure ARel (m : Em) (tmps : Tm) (a : Act) : Prop where
  size : tmps.size = a.tmps.size
  slots : ∀ t, VR m (tmps.get t) (a.tmps.getD t undef)
  defers : a.defers = []
theorem ARel.mono {m m2 : Em} (h : m.le m2) {tmps : Tm} {a : Act} (ha : ARel m tmps a) : ARel m2 tmps a := ⟨ha.size, fun t => (ha.slots t).mono h, ha.defers⟩
noncomputable def evalM (tmps : Tm) : Operand → Value
  | .tmp t => tmps.get t
  | .const v => v
  | .global _ => undef
  | .func f => .func (.func f) #[] #[]
theorem ARel.getD {m : Em} {tmps : Tm} {a : Act} (ha : ARel m tmps a) (t : Nat) : VR m (tmps.get t) (a.tmps.getD t undef) := ha.slots t
theorem ARel.eval {m : Em} {tmps : Tm} {a : Act} (ha : ARel m tmps a) {x : Operand} (hx : okOperand x = true) : VR m (evalM tmps x) (a.eval x) := by
  cases x with
  | tmp t => exact ha.getD t
  | const v => exact VR.of_plain hx
  | func f => exact VR.of_plain rfl
  | global g => cases hx
def putM (tmps : Tm) (dst : Option Tmp) (v : Value) : Tm :=
  match dst with
  | some d => tmps.put d v
  | none => tmps
noncomputable def putK {β : Type} (tmps : Tm) (dst : Option Tmp) (v : Value) (k : Tm → β) : β :=
  match dst with
  | some d => tmps.putK d v k
  | none => k tmps
theorem putK_eq {β : Type} (tmps : Tm) (dst : Option Tmp) (v : Value) (k : Tm → β) : putK tmps dst v k = k (putM tmps dst v) := by
  cases dst with
  | none => rfl
  | some d => exact Tm.putK_eq _ _ _ _
theorem ARel.put {m : Em} {tmps : Tm} {a : Act} (ha : ARel m tmps a) (dst : Option Tmp) {v v' : Value} (hv : VR m v v') : ARel m (putM tmps dst v) (a.put dst v') := by
  cases dst with
  | none => exact ha
  | some d =>
    refine ⟨?_, fun t => ?_, ha.defers⟩
    · simp only [putM, Act.put, Tm.size_put, Array.size_setIfInBounds]
      exact ha.size
    · simp only [putM, Act.put, Tm.get_put]
      rw [Array.getD_eq_getD_getElem?]
      by_cases h : d = t
      · subst h
        by_cases hd : d < a.tmps.size
        · rw [if_pos ⟨rfl, by rw [ha.size]; exact hd⟩]
          simp [hd, hv]
        · rw [if_neg (fun hh => hd (by rw [← ha.size]; exact hh.2))]
          have := ha.slots d
          rw [Array.getD_eq_getD_getElem?] at this
          have e : (a.tmps.setIfInBounds d v')[d]? = a.tmps[d]? := by
            rw [Array.getElem?_eq_none_iff.2 (by simpa using Nat.le_of_not_lt hd), Array.getElem?_eq_none_iff.2 (Nat.le_of_not_lt hd)]
          rw [e]
          exact this
      · rw [if_neg (fun hh => h hh.1), Array.getElem?_setIfInBounds_ne h, ← Array.getD_eq_getD_getElem?]
        exact ha.slots t
theorem ARel.start {m : Em} {args args' : List Value} (ha : All2 (VR m) args args') (n : Nat) : ARel m (Tm.start args n) { tmps := args'.toArray ++ Array.replicate (n - args'.toArray.size) undef, defers := [] } := by
  have hl := ha.length
  refine ⟨?_, fun t => ?_, rfl⟩
  · simp [Tm.start, Tm.fill_size, hl]
  · rw [Tm.start, Tm.fill_get args 0 _ t (by simp), Tm.get_nil, Array.getD_eq_getD_getElem?]
    by_cases h : t < args.length
    · rw [if_pos (by omega)]
      obtain ⟨v', h1, h2⟩ := ha.get (List.getElem?_eq_getElem h)
      rw [Array.getElem?_append_left (by simp; omega)]
      simp only [Nat.sub_zero, List.getD_eq_getElem?_getD, List.getElem?_eq_getElem h, List.getElem?_toArray, h1]
      exact h2
    · rw [if_neg (by omega), Array.getElem?_append_right (by simp; omega)]
      have : ((Array.replicate (n - args'.toArray.size) undef)[t - args'.toArray.size]?).getD undef = undef := by
        rw [Array.getElem?_replicate]
        split <;> rfl
      rw [this]
      exact VR.undef m
theorem VR.bool {m : Em} {v : Value} {b : Bool} (h : VR m v (.bool b)) : v = .bool b := by
  cases v with
  | pointer p => cases p with
    | none => have := h.2; cases this
    | some a => have := h.2.2; cases this
  | map p => cases p with
    | none => have := h.2; cases this
    | some a => have := h.2; cases this
  | slice p l c => cases p with
    | none => have := h.2; cases this
    | some a =>
      obtain ⟨_, _, _, e⟩ := VR.slice_some h
      cases e
  | agg cs => obtain ⟨_, e, _⟩ := h; cases e
  | tuple cs => obtain ⟨_, e, _⟩ := h; cases e
  | _ => exact h.2.symm
/-- what a guard's operation has yielded -/
noncomputable def yieldM (ops : Array Oper) (tmps : Tm) (j : Nat) : Option Bool :=
  match (ops[j]?).bind (·.dst) with
  | some t => match tmps.get t with
    | .bool b => some b
    | _ => none
  | none => none
theorem ARel.yielded {m : Em} {tmps : Tm} {a : Act} (ha : ARel m tmps a) (ops : Array Oper) (j : Nat) : yieldM ops tmps j = yielded ops a.tmps j := by
  unfold Go.yielded yieldM
  cases hd : (ops[j]?).bind (·.dst) with
  | none => rfl
  | some t =>
    simp only [Option.bind_some]
    have hs := ha.slots t
    rw [Array.getD_eq_getD_getElem?] at hs
    cases hv : a.tmps[t]? with
    | none =>
      rw [hv] at hs
      have : tmps.get t ≠ .bool true ∧ tmps.get t ≠ .bool false := ⟨fun e => (by rw [e] at hs; cases hs.2), fun e => (by rw [e] at hs; cases hs.2)⟩
      split
      · rename_i b e; cases b
        · exact absurd e this.2
        · exact absurd e this.1
      · rfl
    | some v' =>
      rw [hv] at hs
      simp only [Option.getD_some] at hs
      by_cases hb : ∃ b, tmps.get t = .bool b
      · obtain ⟨b, e⟩ := hb
        rw [e] at hs ⊢
        have : v' = .bool b := hs.plain_eq rfl
        rw [this]
      · have hb' : ∀ b, v' ≠ .bool b := fun b e => hb ⟨b, (e ▸ hs).bool⟩
        split
        · rename_i b e; exact absurd ⟨b, e⟩ hb
        · split
          · rename_i b e; injection e with e; exact absurd e (hb' b)
          · rfl

/-! ### operations, with calls -/
abbrev CallT := FuncId → List Value → Mem → Option (Value × Mem)
def calleeM (v : Value) : Option FuncId :=
  match v with
  | .func (.func g) first captured => if first.isEmpty && captured.isEmpty then some g else none
  | _ => none
def callOf (ρ : Operand → Value) (o : Oper) : Option (FuncId × List Value) :=
  match o.op with
  | .call c => match c.callee with
    | .value f => (calleeM (ρ f)).map fun g => (g, (c.args.map ρ).toList)
    | _ => none
  | _ => none
noncomputable def opM (P : Program) (call : CallT) (ρ : Operand → Value) (o : Oper) (μ : Mem) : Option (Value × Mem) :=
  match callOf ρ o with
  | some (g, args) => call g args μ
  | none => mop P ρ o μ
structure StM where
  tmps : Tm
  mem : Mem
noncomputable def stepM (P : Program) (call : CallT) (ops : Array Oper) (i : Nat) (σ : StM) : Option StM :=
  match ops[i]? with
  | none => some σ
  | some o =>
    if Region.wanted o (yieldM ops σ.tmps) then
      if o.op.operands.all okOperand then match opM P call (evalM σ.tmps) o σ.mem with
        | some (v, μ') => forceVal v fun v => putK σ.tmps o.dst v fun t => some ⟨t, μ'⟩
        | none => none
      else none
    else putK σ.tmps o.dst undef fun t => some ⟨t, σ.mem⟩
/-- what a call comes to -/
def CameBack (P : Program) (m : Em) (base : Nat → Prop) (w : World) (v : Value) (μ' : Mem) (e : Ending) (w' : World) : Prop :=
  ∃ v', e = .returned v' ∧ ∃ m', m.le m' ∧ Ok P m' base μ' w' ∧ VR m' v v' ∧ Below base w w'
def CallOk (P : Program) (base : Nat → Prop) (call : CallT) : Prop :=
  ∀ f args μ v μ', call f args μ = some (v, μ') → (∃ fn, P.funcs[f]? = some fn ∧ (fn.name == "runtime.NumGoroutine") = false ∧ fn.body.isNone = false) ∧
    ∀ m w args', All2 (VR m) args args' → Ok P m base μ w → Calls P f args'.toArray w (CameBack P m base w v μ')

theorem wanted_eq {m : Em} {tmps : Tm} {a : Act} (ha : ARel m tmps a) (ops : Array Oper) (o : Oper) : Region.wanted o (yielded ops a.tmps) = Region.wanted o (yieldM ops tmps) := by
  have : yielded ops a.tmps = yieldM ops tmps := funext fun j => (ha.yielded ops j).symm
  rw [this]

theorem argsOk {m : Em} {ρ ρ' : Operand → Value} : ∀ {l : List Operand}, (∀ x ∈ l, VR m (ρ x) (ρ' x)) → All2 (VR m) (l.map ρ) (l.map ρ')
  | [], _ => .nil
  | x :: _, h => .cons (h x (List.mem_cons_self ..)) (argsOk fun y hy => h y (List.mem_cons_of_mem _ hy))

theorem run_enter {w : World} {ρ : Operand → Value} {o : Oper} {c : Call} {f : Operand} {g : FuncId} {fn : Func} (ho : o.op = .call c) (hc : c.callee = .value f) (hf : ρ f = .func (.func g) #[] #[])
    (hfn : P.funcs[g]? = some fn) (hn : (fn.name == "runtime.NumGoroutine") = false) (hb : fn.body.isNone = false) : (execOp ρ o).run P w = .ok (.enter g (c.args.map ρ)) w := by
  have hn' : fn.name ≠ "runtime.NumGoroutine" := by simpa using hn
  simp [execOp, ho, resolve, hc, hf, Deferred.ofValue, invoke, callFunc, hfn, hn']
  intro hb2
  simp [hb2] at hb

theorem step_sound {base : Nat → Prop} {call : CallT} (hcall : CallOk P base call) {ops : Array Oper} {i : Nat} {σ σ' : StM} (hs : stepM P call ops i σ = some σ') {m : Em} {a : Act} {w : World} (ha : ARel m σ.tmps a) (hok : Ok P m base σ.mem w)
    {Q : Exit → Act → World → Prop} {K : Act → World → Prop} (hK : ∀ m' a' w', m.le m' → ARel m' σ'.tmps a' → Ok P m' base σ'.mem w' → Below base w w' → K a' w') : wpOp P ops Q i K a w := by
  unfold stepM at hs
  unfold wpOp
  split at hs
  · rename_i ho
    injection hs with hs; subst hs
    rw [ho]
    exact hK m a w m.le_refl ha hok (Below.refl _ _)
  · rename_i o ho
    rw [ho]
    dsimp only
    rw [wanted_eq ha]
    split at hs
    · rename_i hw
      rw [if_pos hw]
      refine .inl ?_
      split at hs
      · rename_i hgood
        have hρ : ∀ x ∈ o.op.operands, VR m (evalM σ.tmps x) (a.eval x) := fun x hx => ha.eval (Array.all_eq_true_iff_forall_mem.1 hgood x hx)
        split at hs
        · rename_i v μ' hop
          rw [forceVal_eq, putK_eq] at hs
          injection hs with hs; subst hs
          unfold opM at hop
          split at hop
          · -- a call
            rename_i g args hc
            unfold callOf at hc
            split at hc
            · rename_i c hoc
              split at hc
              · rename_i f hcf
                obtain ⟨g', h1, h2⟩ := some_map hc
                injection h2 with q1 q2
                subst q1
                unfold calleeM at h1
                split at h1
                · rename_i g2 first captured hf
                  split at h1
                  · rename_i hemp
                    injection h1 with h1
                    subst h1
                    simp only [Bool.and_eq_true, Array.isEmpty_iff] at hemp
                    obtain ⟨e1, e2⟩ := hemp
                    subst e1; subst e2
                    obtain ⟨⟨fn, k1, k2, k3⟩, hcalls⟩ := hcall _ _ _ _ _ hop
                    have hf' : a.eval f = .func (.func g2) #[] #[] := by
                      have hff := hρ f (by rw [hoc]; simp [Op.operands, Call.operands, hcf])
                      rw [hf] at hff
                      exact hff.plain_eq rfl
                    unfold Oper.wp
                    rw [run_enter hoc hcf hf' k1 k2 k3]
                    have hargs : All2 (VR m) args (c.args.map a.eval).toList := by
                      rw [← q2, Array.toList_map, Array.toList_map]
                      exact argsOk fun x hx => hρ x (by rw [hoc]; simp only [Op.operands, Call.operands, hcf]; simp at hx ⊢; exact .inr hx)
                    have := hcalls m w _ hargs hok
                    simp only [Oper.upon, Array.toArray_toList] at this ⊢
                    refine Calls.mono this fun e w' hb => ?_
                    obtain ⟨v', rfl, m', hm, ok', hv, hbel⟩ := hb
                    exact hK m' _ w' hm ((ha.mono hm).put o.dst hv) ok' hbel
                  · cases h1
                · cases h1
              · cases hc
            · cases hc
          · obtain ⟨m', v', w', hcame, hm, ok', hv, hbel⟩ := mop_does hok hρ hop
            unfold Oper.wp
            rcases hcame with hr | ⟨hr, rfl⟩
            · rw [hr]
              exact hK m' _ w' hm ((ha.mono hm).put o.dst hv) ok' hbel
            · rw [hr]
              exact hK m' _ w' hm ((ha.mono hm).put o.dst hv) ok' hbel
        · cases hs
      · cases hs
    · rename_i hw
      rw [if_neg hw]
      rw [putK_eq] at hs
      injection hs with hs; subst hs
      exact hK m _ w m.le_refl (ha.put o.dst (VR.undef m)) hok (Below.refl _ _)

noncomputable def opsM (P : Program) (call : CallT) (ops : Array Oper) : List Nat → StM → Option StM
  | [], σ => some σ
  | i :: r, σ => match stepM P call ops i σ with
    | some σ' => opsM P call ops r σ'
    | none => none
theorem ops_sound {base : Nat → Prop} {call : CallT} (hcall : CallOk P base call) {ops : Array Oper} {Q : Exit → Act → World → Prop} : ∀ (l : List Nat) {σ σ' : StM}, opsM P call ops l σ = some σ' → ∀ {m : Em} {a : Act} {w : World}, ARel m σ.tmps a → Ok P m base σ.mem w →
    (∀ m' a' w', m.le m' → ARel m' σ'.tmps a' → Ok P m' base σ'.mem w' → Below base w w' → Q .normal a' w') → wpOps P ops Q l a w
  | [], σ, σ', hs, m, a, w, ha, hok, hQ => by
    simp only [opsM, Option.some.injEq] at hs
    subst hs
    exact hQ m a w m.le_refl ha hok (Below.refl _ _)
  | i :: r, σ, σ', hs, m, a, w, ha, hok, hQ => by
    simp only [opsM] at hs
    split at hs
    · rename_i σ1 h1
      rw [wpOps_cons]
      exact step_sound hcall h1 ha hok fun m1 a1 w1 hm1 ha1 hok1 hb1 => ops_sound hcall r hs ha1 hok1 fun m2 a2 w2 hm2 ha2 hok2 hb2 => hQ m2 a2 w2 (Em.le_trans hm1 hm2) ha2 hok2 (hb1.trans hb2)
    · cases hs

end Go.Mini
