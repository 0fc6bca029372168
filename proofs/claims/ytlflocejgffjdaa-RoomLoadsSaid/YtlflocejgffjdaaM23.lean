/-
  Loops, the greater of two, and what a call leaves alone, for the walk. No statement of the seat is proved here; no condition.
-/
import Derived.Test.YtlflocejgffjdaaM22
namespace Go.Mini
open Go.RowKit

variable {P : Program}

/-! ### loops -/
def roundQ (I : Nat → Env → Mem → Prop) (n : Nat) (Q : ExitM → Env → Mem → Prop) (e : ExitM) (g : Env) (μ : Mem) : Prop :=
  match e with
  | .normal => ∃ k, k < n ∧ I k g μ
  | e => Q e g μ
theorem roundQ_normal (I : Nat → Env → Mem → Prop) (n : Nat) (Q : ExitM → Env → Mem → Prop) (g : Env) (μ : Mem) : roundQ I n Q .normal g μ = hold (∃ k, k < n ∧ I k g μ) .mk := rfl
theorem held {A : Prop} {d : Dum A} (h : A) : hold A d := h
theorem roundQ_exit (I : Nat → Env → Mem → Prop) (n i : Nat) (Q : ExitM → Env → Mem → Prop) (g : Env) (μ : Mem) : roundQ I n Q (.exit i) g μ = Q (.exit i) g μ := rfl
theorem roundQ_ret (I : Nat → Env → Mem → Prop) (n : Nat) (Q : ExitM → Env → Mem → Prop) (g : Env) (μ : Mem) : roundQ I n Q .ret g μ = Q .ret g μ := rfl
theorem loop_of (S : Seat) (c : Code) (Q : ExitM → Env → Mem → Prop) (I : Nat → Env → Mem → Prop) (n : Nat) (g : Env) (μ : Mem) (h0 : I n g μ) (h : ∀ n g μ, I n g μ → Run S c g μ (roundQ I n Q)) : Run S (.loop c) g μ Q :=
  loop_rule S c Q I (fun n g μ hi => (h n g μ hi).mono fun e g' μ' hq => by cases e <;> exact hq) n g μ h0

/-! ### max -/
def maxV (P : Program) (a b : Value) : Option Value := plainOf P (Builtin.max_ #[] 0 #[a, b])
theorem o_max_i (S : Seat) (all : Array Oper) (d : Tmp) (ty : TypeId) (pos : String) (af : Array Edge) (g : Env) (μ : Mem) (Q : Env → Mem → Prop) (x y : Operand) (t1 t2 : TypeId) :
    RunO S all ⟨some d, .call ⟨.builtin .max, #[x, y], #[t1, t2]⟩, ty, pos, af, none⟩ g μ Q = bindO (if plainV (evalE g x) && plainV (evalE g y) then maxV S.P (evalE g x) (evalE g y) else none) fun v => Q (upd g d v) μ := by
  rw [runO_op S _ _ g μ Q rfl rfl]
  have e : mop S.P (evalE g) ⟨some d, .call ⟨.builtin .max, #[x, y], #[t1, t2]⟩, ty, pos, af, none⟩ μ = (if plainV (evalE g x) && plainV (evalE g y) then maxV S.P (evalE g x) (evalE g y) else none).map (·, μ) := by
    have hp := plainM_value (P := S.P) (ρ := evalE g) (o := ⟨some d, .call ⟨.builtin .max, #[x, y], #[t1, t2]⟩, ty, pos, af, none⟩) (s := Builtin.max_ #[t1, t2] ty #[evalE g x, evalE g y]) rfl rfl (by simp [execOp, resolve, invoke, builtin])
    have ha : (Op.call ⟨.builtin .max, #[x, y], #[t1, t2]⟩).operands.all (fun x => plainV (evalE g x)) = (plainV (evalE g x) && plainV (evalE g y)) := by simp [Op.operands, Call.operands]
    have hp' : plainM S.P (evalE g) ⟨some d, .call ⟨.builtin .max, #[x, y], #[t1, t2]⟩, ty, pos, af, none⟩ = if (plainV (evalE g x) && plainV (evalE g y)) = true then maxV S.P (evalE g x) (evalE g y) else none := by
      rw [hp]
      by_cases h : (plainV (evalE g x) && plainV (evalE g y)) = true
      · rw [if_pos h, if_pos (ha.trans h)]; rfl
      · rw [if_neg h, if_neg (fun hh => h (ha.symm.trans hh))]
    unfold mop
    rw [hp']
    cases (if (plainV (evalE g x) && plainV (evalE g y)) = true then maxV S.P (evalE g x) (evalE g y) else none) <;> rfl
  rw [e, bindO_map]
  rfl
theorem max_int (k k' : IntKind) (a b : Int) (hk : k = k') : (if plainV (.int k a) && plainV (.int k' b) then maxV P (.int k a) (.int k' b) else none) = some (.int k (if a < b then b else a)) := by
  subst hk
  have h1 : (plainV (.int k a) && plainV (.int k b)) = true := rfl
  rw [if_pos h1]
  unfold maxV Builtin.max_
  simp only [List.foldlM_cons, List.foldlM_nil]
  unfold Builtin.max2
  simp
  rfl

/-! ### what a call leaves alone -/
/-- all rows but one are as they were -/
def But (b : Nat) (μ μ' : Mem) : Prop := μ'.next = μ.next ∧ ∀ m, m ≠ b → μ'.at m = μ.at m
theorem But.refl (b : Nat) (μ : Mem) : But b μ μ := ⟨rfl, fun _ _ => rfl⟩
theorem But.trans {b : Nat} {x y z : Mem} (h : But b x y) (k : But b y z) : But b x z := ⟨k.1.trans h.1, fun m hm => (k.2 m hm).trans (h.2 m hm)⟩
theorem But.set (b : Nat) (μ : Mem) (cells : List Value) (e : TypeId) : But b μ (μ.setRow b cells e) := ⟨rfl, fun _ hm => at_setRow_ne _ _ _ fun h => hm h.symm⟩
theorem But.keeps {b : Nat} {μ μ' : Mem} (h : But b μ μ') {lo : Nat} (hl : lo ≤ b) : Keeps lo μ μ' := ⟨by rw [h.1]; exact Nat.le_refl _, fun k hk => h.2 k (by omega)⟩
end Go.Mini
