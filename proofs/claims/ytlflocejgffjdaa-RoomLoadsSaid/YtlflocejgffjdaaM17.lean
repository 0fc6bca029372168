/-
  The laws of single operations, for a step-by-step proof by rewriting. No statement of the seat is proved here; no condition.
-/
import Derived.Test.YtlflocejgffjdaaM16
namespace Go.Mini
open Go.RowKit

variable {P : Program}

/-! ### what is rewritten, and what is let be -/
def letV (v : Value) (k : Value → Prop) : Prop := k v
theorem letV_eq (v : Value) (k : Value → Prop) : letV v k = k v := rfl
@[congr] theorem letV_congr {v v' : Value} {k : Value → Prop} (h : True → v = v') : letV v k = letV v' k := by rw [h trivial]
@[congr] theorem bindO_congr {α : Type} {o o' : Option α} {k : α → Prop} (h : True → o = o') : bindO o k = bindO o' k := by rw [h trivial]
@[congr] theorem Gets_congr {S : Seat} {f : FuncId} {args args' : List Value} {μ : Mem} {Q : Value → Mem → Prop} (h : True → args = args') : Gets S f args μ Q = Gets S f args' μ Q := by rw [h trivial]
@[congr] theorem Run_congr {S S' : Seat} {c : Code} {g : Env} {μ : Mem} {Q : ExitM → Env → Mem → Prop} (h : True → S = S') : Run S c g μ Q = Run S' c g μ Q := by rw [h trivial]
@[congr] theorem RunL_congr {S S' : Seat} {all : Array Oper} {l : List Oper} {g : Env} {μ : Mem} {Q : Env → Mem → Prop} (h : True → S = S') : RunL S all l g μ Q = RunL S' all l g μ Q := by rw [h trivial]
@[congr] theorem RunO_congr {S S' : Seat} {all : Array Oper} {o : Oper} {g : Env} {μ : Mem} {Q : Env → Mem → Prop} (h : True → S = S') : RunO S all o g μ Q = RunO S' all o g μ Q := by rw [h trivial]
@[congr] theorem condP_congr {v v' : Value} {A B : Prop} (h : True → v = v') : condP v A B = condP v' A B := by rw [h trivial]
@[congr] theorem guardP_congr {b b' : Option Bool} {c : Bool} {A B : Prop} (h : True → b = b') : guardP b c A B = guardP b' c A B := by rw [h trivial]
def ifB (b : Bool) (A B : Prop) : Prop := cond b A B
@[congr] theorem ifB_congr {b b' : Bool} {A B : Prop} (h : True → b = b') : ifB b A B = ifB b' A B := by rw [h trivial]
/-- what is not to be rewritten yet: what hangs on a statement holds the rewriting off -/
inductive Dum (A : Prop) : Type where
  | mk
def hold (A : Prop) (_ : Dum A) : Prop := A
theorem ifB_true (A B : Prop) (d : Dum A) (e : Dum B) : ifB true (hold A d) (hold B e) = A := rfl
theorem ifB_false (A B : Prop) (d : Dum A) (e : Dum B) : ifB false (hold A d) (hold B e) = B := rfl
theorem ifB_not (b : Bool) (A B : Prop) : ifB (!b) A B = ifB b B A := by cases b <;> rfl
theorem ifB_intro {b : Bool} {A B : Prop} {d : Dum A} {e : Dum B} (ha : b = true → A) (hb : b = false → B) : ifB b (hold A d) (hold B e) := by
  cases b with
  | false => exact hb rfl
  | true => exact ha rfl
theorem condP_bool (b : Bool) (A B : Prop) : condP (.bool b) A B = ifB b (hold A .mk) (hold B .mk) := rfl
theorem guardP_true (b : Bool) (A B : Prop) : guardP (some b) true A B = ifB b (hold A .mk) (hold B .mk) := by cases b <;> rfl
theorem guardP_false (b : Bool) (A B : Prop) : guardP (some b) false A B = ifB b (hold B .mk) (hold A .mk) := by cases b <;> rfl
/-- a call, what hangs on it held off from rewriting -/
inductive DumQ (Q : Value → Mem → Prop) : Type where
  | mk
abbrev GetsK (S : Seat) (f : FuncId) (args : List Value) (μ : Mem) (Q : Value → Mem → Prop) (_ : DumQ Q) : Prop := Gets S f args μ Q
theorem upd_get (g : Env) (d k : Nat) (v : Value) : upd g d v k = if k = d then v else g k := rfl
theorem evalE_tmp (g : Env) (t : Tmp) : evalE g (.tmp t) = g t := rfl
theorem evalE_const (g : Env) (v : Value) : evalE g (.const v) = v := rfl
theorem evalE_func (g : Env) (f : FuncId) : evalE g (.func f) = .func (.func f) #[] #[] := rfl
theorem run_region' (S : Seat) (id : Nat) (l : List Oper) (d : Bool) (g : Env) (μ : Mem) (Q : ExitM → Env → Mem → Prop) : Run S (.region id (List.toArray l) d) g μ Q = RunL S (List.toArray l) l g μ (Q .normal) := run_region S id _ d g μ Q

/-! ### guards -/
def boolOf (v : Value) : Option Bool :=
  match v with
  | .bool b => some b
  | _ => none
theorem boolOf_bool (b : Bool) : boolOf (.bool b) = some b := rfl
def yieldL : List Oper → Env → Nat → Option Bool
  | [], _, _ => none
  | o :: _, g, 0 => match o.dst with
    | some t => boolOf (g t)
    | none => none
  | _ :: l, g, j + 1 => yieldL l g j
theorem yieldE_list : ∀ (l : List Oper) (g : Env) (j : Nat), yieldE (List.toArray l) g j = yieldL l g j
  | [], g, j => by simp [yieldE, yieldL]
  | o :: l, g, 0 => by
    simp only [yieldE, yieldL, List.getElem?_toArray, List.getElem?_cons_zero, Option.bind_some]
    cases o.dst with
    | none => rfl
    | some t => rfl
  | o :: l, g, j + 1 => by
    have := yieldE_list l g j
    simp only [yieldE, yieldL, List.getElem?_toArray, List.getElem?_cons_succ] at this ⊢
    exact this
theorem yieldL_zero (t : Tmp) (op : Op) (ty : TypeId) (pos : String) (af : Array Edge) (gd : Option (Nat × Bool)) (l : List Oper) (g : Env) : yieldL (⟨some t, op, ty, pos, af, gd⟩ :: l) g 0 = boolOf (g t) := rfl
theorem yieldL_succ (o : Oper) (l : List Oper) (g : Env) (j : Nat) : yieldL (o :: l) g (j + 1) = yieldL l g j := rfl
theorem mop_guard (ρ : Operand → Value) (d : Option Tmp) (op : Op) (ty : TypeId) (pos : String) (af : Array Edge) (gd : Option (Nat × Bool)) (μ : Mem) : mop P ρ ⟨d, op, ty, pos, af, gd⟩ μ = mop P ρ ⟨d, op, ty, pos, af, none⟩ μ := by
  cases op <;> rfl
theorem o_guard (S : Seat) (l : List Oper) (d : Option Tmp) (op : Op) (ty : TypeId) (pos : String) (af : Array Edge) (j : Nat) (c : Bool) (g : Env) (μ : Mem) (Q : Env → Mem → Prop) :
    RunO S (List.toArray l) ⟨d, op, ty, pos, af, some (j, c)⟩ g μ Q = guardP (yieldL l g j) c (RunO S (List.toArray l) ⟨d, op, ty, pos, af, none⟩ g μ Q) (Q (putE g d undef) μ) := by
  rw [← yieldE_list]
  cases hy : yieldE (List.toArray l) g j with
  | none => rw [runO_not S _ _ g μ Q (by simp [Region.wanted, hy])]; rfl
  | some b =>
    by_cases hb : b = c
    · subst hb
      have e : guardP (some b) b (RunO S (List.toArray l) ⟨d, op, ty, pos, af, none⟩ g μ Q) (Q (putE g d undef) μ) = RunO S (List.toArray l) ⟨d, op, ty, pos, af, none⟩ g μ Q := by simp [guardP]
      rw [e]
      have hw : Region.wanted ⟨d, op, ty, pos, af, some (j, b)⟩ (yieldE (List.toArray l) g) = true := by simp [Region.wanted, hy]
      have hcc : callOf (evalE g) ⟨d, op, ty, pos, af, some (j, b)⟩ = callOf (evalE g) ⟨d, op, ty, pos, af, none⟩ := rfl
      cases hc : callOf (evalE g) ⟨d, op, ty, pos, af, none⟩ with
      | none =>
        rw [runO_op S _ _ g μ Q hw (hcc.trans hc), runO_op S _ _ g μ Q rfl hc, mop_guard]
      | some fa =>
        obtain ⟨f, args⟩ := fa
        rw [runO_call S _ _ g μ Q hw (hcc.trans hc), runO_call S _ _ g μ Q rfl hc]
    · have e : guardP (some b) c (RunO S (List.toArray l) ⟨d, op, ty, pos, af, none⟩ g μ Q) (Q (putE g d undef) μ) = Q (putE g d undef) μ := by
        simp [guardP, hb]
      rw [e]
      exact runO_not S _ _ g μ Q (by simp [Region.wanted, hy, hb])
theorem putE_some (g : Env) (d : Tmp) (v : Value) : putE g (some d) v = upd g d v := rfl
theorem putE_none (g : Env) (v : Value) : putE g none v = g := rfl

/-! ### moves, calls -/
section
variable (S : Seat) (all : Array Oper) (d : Option Tmp) (ty : TypeId) (pos : String) (af : Array Edge) (g : Env) (μ : Mem) (Q : Env → Mem → Prop)
theorem o_move (x : Operand) : RunO S all ⟨d, .move x, ty, pos, af, none⟩ g μ Q = letV (evalE g x) fun v => Q (putE g d v) μ := by
  rw [runO_op S _ _ g μ Q rfl rfl]
  simp [mop, plainM, fastM, mayPlain, bindO_some, letV]
theorem o_assign (x : Operand) : RunO S all ⟨d, .assign x, ty, pos, af, none⟩ g μ Q = letV (evalE g x) fun v => Q (putE g d v) μ := by
  rw [runO_op S _ _ g μ Q rfl rfl]
  simp [mop, plainM, fastM, mayPlain, bindO_some, letV]
theorem o_call (f : FuncId) (l : List Operand) (ts : Array TypeId) : RunO S all ⟨d, .call ⟨.value (.func f), List.toArray l, ts⟩, ty, pos, af, none⟩ g μ Q = GetsK S f (l.map (evalE g)) μ (fun v μ' => Q (putE g d v) μ') .mk := by
  have hc : callOf (evalE g) ⟨d, .call ⟨.value (.func f), List.toArray l, ts⟩, ty, pos, af, none⟩ = some (f, l.map (evalE g)) := by
    simp [callOf, evalE, calleeM]
  rw [runO_call S _ _ g μ Q rfl hc]

/-! ### the plain road -/
theorem pureOf_map {α β : Type} (f : α → β) (s : Sem α) : pureOf P (do pure (f (← s))) = (pureOf P s).map f := by
  induction s with
  | pure a => rfl
  | program k ih => exact ih P
  | mark _ k ih => exact ih
  | load | store | new | shape | freeze | frozen | getObj | setObj | choose | sys | halt => rfl
/-- what pure semantics come to, if that is plain -/
def plainOf (P : Program) (s : Sem Value) : Option Value :=
  match pureOf P s with
  | some v => if plainV v then some v else none
  | none => none
theorem plainOf_pure (v : Value) (h : plainV v = true) : plainOf P (pure v) = some v := by
  show (if plainV v = true then some v else none) = some v
  rw [if_pos h]
theorem plainM_value {ρ : Operand → Value} {o : Oper} {s : Sem Value} (hf : fastM P ρ o = none) (hm : mayPlain o.op = true) (he : execOp ρ o = (do pure (.value (← s)) : Sem Next)) :
    plainM P ρ o = if o.op.operands.all (fun x => plainV (ρ x)) = true then plainOf P s else none := by
  unfold plainM
  rw [hf]
  dsimp only
  by_cases h : o.op.operands.all (fun x => plainV (ρ x)) = true
  · rw [if_pos ⟨hm, h⟩, if_pos h, he, pureOf_map]
    unfold plainOf
    cases pureOf P s <;> rfl
  · rw [if_neg (fun hh => h hh.2), if_neg h]

/-! ### numbers and comparisons -/
def binM (P : Program) (op : BinOp) (t : TypeId) (ox oy : Operand) (a b : Value) : Option Value :=
  match fastBin op a b with
  | some v => some v
  | none => match if plainV a = true ∧ plainV b = true then plainOf P (do eqGuard op t ox oy a b; binOp op t a b) else none with
    | some v => some v
    | none => nilM P op t a b
theorem o_binOp (op : BinOp) (t : TypeId) (x y : Operand) (q : TypeId) : RunO S all ⟨d, .binOp op t x y q, ty, pos, af, none⟩ g μ Q = bindO (binM S.P op t x y (evalE g x) (evalE g y)) fun v => Q (putE g d v) μ := by
  rw [runO_op S _ _ g μ Q rfl rfl]
  have e : mop S.P (evalE g) ⟨d, .binOp op t x y q, ty, pos, af, none⟩ μ = (binM S.P op t x y (evalE g x) (evalE g y)).map (·, μ) := by
    unfold binM
    cases hf : fastBin op (evalE g x) (evalE g y) with
    | some v => simp [mop, plainM, fastM, hf]
    | none =>
      have hp := plainM_value (P := S.P) (ρ := evalE g) (o := ⟨d, .binOp op t x y q, ty, pos, af, none⟩) (s := do eqGuard op t x y (evalE g x) (evalE g y); binOp op t (evalE g x) (evalE g y)) hf rfl rfl
      have ha : (Op.binOp op t x y q).operands.all (fun x => plainV (evalE g x)) = true ↔ (plainV (evalE g x) = true ∧ plainV (evalE g y) = true) := by simp [Op.operands]
      have hp' : plainM S.P (evalE g) ⟨d, .binOp op t x y q, ty, pos, af, none⟩ = if plainV (evalE g x) = true ∧ plainV (evalE g y) = true then plainOf S.P (do eqGuard op t x y (evalE g x) (evalE g y); binOp op t (evalE g x) (evalE g y)) else none := by
        rw [hp]
        by_cases h : plainV (evalE g x) = true ∧ plainV (evalE g y) = true
        · rw [if_pos h, if_pos (ha.2 h)]
        · rw [if_neg h, if_neg (fun hh => h (ha.1 hh))]
      dsimp only
      rw [← hp']
      unfold mop
      cases plainM S.P (evalE g) ⟨d, .binOp op t x y q, ty, pos, af, none⟩ with
      | some v => rfl
      | none => rfl
  rw [e]
  cases binM S.P op t x y (evalE g x) (evalE g y) with
  | none => apply propext; constructor <;> (rintro ⟨_, h, _⟩; cases h)
  | some v => simp [bindO_some]
end

section
variable (t : TypeId) (ox oy : Operand) (k : IntKind) (a b : Int)
theorem bin_add : binM P .add t ox oy (.int k a) (.int k b) = some (.int k (k.wrap (a + b))) := by simp [binM, fastBin, fastInt]
theorem bin_sub : binM P .sub t ox oy (.int k a) (.int k b) = some (.int k (k.wrap (a - b))) := by simp [binM, fastBin, fastInt]
theorem bin_mul : binM P .mul t ox oy (.int k a) (.int k b) = some (.int k (k.wrap (a * b))) := by simp [binM, fastBin, fastInt]
theorem bin_quo (h : b ≠ 0) : binM P .quo t ox oy (.int k a) (.int k b) = some (.int k (k.wrap (a.tdiv b))) := by simp [binM, fastBin, fastInt, h]
theorem bin_rem (h : b ≠ 0) : binM P .rem t ox oy (.int k a) (.int k b) = some (.int k (a.tmod b)) := by simp [binM, fastBin, fastInt, h]
theorem bin_and : binM P .and t ox oy (.int k a) (.int k b) = some (.int k (k.wrap (BitVec.ofInt k.bits a &&& BitVec.ofInt k.bits b).toNat)) := by simp [binM, fastBin, fastInt]
theorem bin_or : binM P .or t ox oy (.int k a) (.int k b) = some (.int k (k.wrap (BitVec.ofInt k.bits a ||| BitVec.ofInt k.bits b).toNat)) := by simp [binM, fastBin, fastInt]
theorem bin_xor : binM P .xor t ox oy (.int k a) (.int k b) = some (.int k (k.wrap (BitVec.ofInt k.bits a ^^^ BitVec.ofInt k.bits b).toNat)) := by simp [binM, fastBin, fastInt]
theorem bin_andNot : binM P .andNot t ox oy (.int k a) (.int k b) = some (.int k (k.wrap (BitVec.ofInt k.bits a &&& ~~~ BitVec.ofInt k.bits b).toNat)) := by simp [binM, fastBin, fastInt]
theorem bin_eql : binM P .eql t ox oy (.int k a) (.int k b) = some (.bool (a == b)) := by simp [binM, fastBin, fastInt]
theorem bin_neq : binM P .neq t ox oy (.int k a) (.int k b) = some (.bool (!(a == b))) := by simp [binM, fastBin, fastInt, bne]
theorem bin_lss : binM P .lss t ox oy (.int k a) (.int k b) = some (.bool (decide (a < b))) := by simp [binM, fastBin, fastInt]
theorem bin_leq : binM P .leq t ox oy (.int k a) (.int k b) = some (.bool (decide (a ≤ b))) := by simp [binM, fastBin, fastInt]
theorem bin_gtr : binM P .gtr t ox oy (.int k a) (.int k b) = some (.bool (decide (b < a))) := by simp [binM, fastBin, fastInt]
theorem bin_geq : binM P .geq t ox oy (.int k a) (.int k b) = some (.bool (decide (b ≤ a))) := by simp [binM, fastBin, fastInt]
theorem bin_shl {k' : IntKind} (h : 0 ≤ b) : binM P .shl t ox oy (.int k a) (.int k' b) = some (.int k (k.wrap (a * 2 ^ (min b.toNat k.bits)))) := by
  have : ¬ b < 0 := by omega
  simp [binM, fastBin, this]
theorem bin_shr {k' : IntKind} (h : 0 ≤ b) : binM P .shr t ox oy (.int k a) (.int k' b) = some (.int k (a.fdiv (2 ^ (min b.toNat k.bits)))) := by
  have : ¬ b < 0 := by omega
  simp [binM, fastBin, this]
/-- comparisons that are told by the type's own equality -/
theorem pureOf_bind {α β : Type} (k : α → Sem β) {s : Sem α} {a : α} (h : pureOf P s = some a) : pureOf P (s >>= k) = pureOf P (k a) := by
  induction s with
  | pure b => simp only [pureOf, Option.some.injEq] at h; subst h; rfl
  | program k' ih => exact ih P h
  | mark _ k' ih => exact ih h
  | load | store | new | shape | freeze | frozen | getObj | setObj | choose | sys | halt => simp [pureOf] at h
theorem pureOf_underlying {t : TypeId} {u : TypeDesc} (h : P.underlying t = some u) : pureOf P (underlying t) = some u := by
  show pureOf P (match P.underlying t with
    | some d => pure d
    | none => _) = some u
  rw [h]
  rfl
theorem bin_eql_of {x y : Value} {c : Bool} (hf : fastBin .eql x y = none) (hb : binOp .eql t x y = (do pure (.bool (← Op.equal t x y)))) (hx : plainV x = true) (hy : plainV y = true) (hg : pureOf P (eqGuard .eql t ox oy x y) = some ()) (h : pureOf P (Op.equal t x y) = some c) : binM P .eql t ox oy x y = some (.bool c) := by
  unfold binM
  rw [hf]
  dsimp only
  rw [if_pos ⟨hx, hy⟩]
  have e : plainOf P (do eqGuard .eql t ox oy x y; binOp .eql t x y) = some (.bool c) := by
    unfold plainOf
    rw [pureOf_bind _ hg]
    have : pureOf P (binOp .eql t x y) = some (.bool c) := by
      rw [hb, pureOf_map, h]
      rfl
    rw [this]
    rfl
  rw [e]
theorem bin_neq_of {x y : Value} {c : Bool} (hf : fastBin .neq x y = none) (hb : binOp .neq t x y = (do pure (.bool (!(← Op.equal t x y))))) (hx : plainV x = true) (hy : plainV y = true) (hg : pureOf P (eqGuard .neq t ox oy x y) = some ()) (h : pureOf P (Op.equal t x y) = some c) : binM P .neq t ox oy x y = some (.bool (!c)) := by
  unfold binM
  rw [hf]
  dsimp only
  rw [if_pos ⟨hx, hy⟩]
  have e : plainOf P (do eqGuard .neq t ox oy x y; binOp .neq t x y) = some (.bool (!c)) := by
    unfold plainOf
    rw [pureOf_bind _ hg]
    have : pureOf P (binOp .neq t x y) = some (.bool (!c)) := by
      rw [hb, pureOf_map, h]
      rfl
    rw [this]
    rfl
  rw [e]
theorem bin_eql_bool (hu : P.underlying t = some .bool) (a b : Bool) : binM P .eql t ox oy (.bool a) (.bool b) = some (.bool (a == b)) :=
  bin_eql_of t ox oy rfl rfl rfl rfl rfl ((pureOf_bind _ (pureOf_underlying hu)).trans rfl)
theorem bin_neq_bool (hu : P.underlying t = some .bool) (a b : Bool) : binM P .neq t ox oy (.bool a) (.bool b) = some (.bool (!(a == b))) :=
  bin_neq_of t ox oy rfl rfl rfl rfl rfl ((pureOf_bind _ (pureOf_underlying hu)).trans rfl)
theorem bin_pure {op : BinOp} {x y v : Value} (hf : fastBin op x y = none) (hx : plainV x = true) (hy : plainV y = true) (hv : plainV v = true) (h : pureOf P (do eqGuard op t ox oy x y; binOp op t x y) = some v) : binM P op t ox oy x y = some v := by
  unfold binM
  rw [hf]
  dsimp only
  rw [if_pos ⟨hx, hy⟩]
  unfold plainOf
  rw [h]
  dsimp only
  rw [if_pos hv]
theorem bin_eql_str (a b : ByteArray) : binM P .eql t ox oy (.string a) (.string b) = some (.bool (a.toList == b.toList)) := bin_pure t ox oy rfl rfl rfl rfl rfl
theorem bin_neq_str (a b : ByteArray) : binM P .neq t ox oy (.string a) (.string b) = some (.bool (!(a.toList == b.toList))) := bin_pure t ox oy rfl rfl rfl rfl rfl
/-! ### comparisons with nil -/
theorem bin_eql_pnil {e : TypeId} (hu : P.underlying t = some (.pointer e)) (a : Addr) : binM P .eql t ox oy (.pointer (some a)) (.pointer none) = some (.bool false) := by
  simp [binM, fastBin, plainV, plain, nilM, hu]
theorem bin_neq_pnil {e : TypeId} (hu : P.underlying t = some (.pointer e)) (a : Addr) : binM P .neq t ox oy (.pointer (some a)) (.pointer none) = some (.bool true) := by
  simp [binM, fastBin, plainV, plain, nilM, hu]
theorem bin_eql_pnn {e : TypeId} (hu : P.underlying t = some (.pointer e)) : binM P .eql t ox oy (.pointer none) (.pointer none) = some (.bool true) :=
  bin_eql_of t ox oy rfl rfl rfl rfl rfl ((pureOf_bind _ (pureOf_underlying hu)).trans rfl)
theorem bin_neq_pnn {e : TypeId} (hu : P.underlying t = some (.pointer e)) : binM P .neq t ox oy (.pointer none) (.pointer none) = some (.bool false) :=
  bin_neq_of (c := true) t ox oy rfl rfl rfl rfl rfl ((pureOf_bind _ (pureOf_underlying hu)).trans rfl)
theorem bin_eql_snil {e : TypeId} (hu : P.underlying t = some (.slice e)) (a : Addr) (l c : Nat) : binM P .eql t ox oy (.slice (some a) l c) (.slice none 0 0) = some (.bool false) := by
  simp [binM, fastBin, plainV, plain, nilM, hu]
theorem bin_neq_snil {e : TypeId} (hu : P.underlying t = some (.slice e)) (a : Addr) (l c : Nat) : binM P .neq t ox oy (.slice (some a) l c) (.slice none 0 0) = some (.bool true) := by
  simp [binM, fastBin, plainV, plain, nilM, hu]
theorem bin_eql_snn {e : TypeId} (hu : P.underlying t = some (.slice e)) : binM P .eql t ox oy (.slice none 0 0) (.slice none 0 0) = some (.bool true) :=
  bin_eql_of t ox oy rfl rfl rfl rfl rfl ((pureOf_bind _ (pureOf_underlying hu)).trans rfl)
theorem bin_neq_snn {e : TypeId} (hu : P.underlying t = some (.slice e)) : binM P .neq t ox oy (.slice none 0 0) (.slice none 0 0) = some (.bool false) :=
  bin_neq_of (c := true) t ox oy rfl rfl rfl rfl rfl ((pureOf_bind _ (pureOf_underlying hu)).trans rfl)
end

end Go.Mini
