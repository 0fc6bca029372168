/-
  More laws for the walk. No statement of the seat is proved here; no condition.
-/
import Derived.Test.YtlflocejgffjdaaM20
namespace Go.Mini
open Go.RowKit
theorem joinP_two' (a b : Value) (k : Value → Prop) : joinP [a, b] k = ifB (isTuple a || isTuple b) (hold False .mk) (hold (k (.tuple #[a, b])) .mk) := by
  unfold joinP
  cases ha : isTuple a <;> cases hb : isTuple b <;> simp [ha, hb, ifB, hold]
theorem joinP_three' (a b c : Value) (k : Value → Prop) : joinP [a, b, c] k = ifB (isTuple a || isTuple b || isTuple c) (hold False .mk) (hold (k (.tuple #[a, b, c])) .mk) := by
  unfold joinP
  cases ha : isTuple a <;> cases hb : isTuple b <;> cases hc : isTuple c <;> simp [ha, hb, hc, ifB, hold]
theorem isTuple_int (k : IntKind) (n : Int) : isTuple (.int k n) = false := rfl
theorem isTuple_bool (b : Bool) : isTuple (.bool b) = false := rfl
theorem isTuple_string (s : ByteArray) : isTuple (.string s) = false := rfl
theorem isTuple_pointer (a : Option Addr) : isTuple (.pointer a) = false := rfl
theorem isTuple_slice (a : Option Addr) (l c : Nat) : isTuple (.slice a l c) = false := rfl
theorem isTuple_map (a : Option Nat) : isTuple (.map a) = false := rfl
theorem isTuple_agg (cs : Array Value) : isTuple (.agg cs) = false := rfl
theorem wrap_i64 (n : Int) (h1 : -9223372036854775808 ≤ n) (h2 : n ≤ 9223372036854775807) : IntKind.i64.wrap n = n := IntWalk.i64_in _ ⟨h1, h2⟩
theorem dec_true {p : Prop} [Decidable p] (h : p) : decide p = true := decide_eq_true h
theorem dec_false {p : Prop} [Decidable p] (h : ¬ p) : decide p = false := decide_eq_false h
theorem beq_int_true (a b : Int) (h : a = b) : (a == b) = true := by simp [h]
theorem beq_int_false (a b : Int) (h : a ≠ b) : (a == b) = false := by simp [h]

/-! ### the same, where a slot is written -/
section
variable (S : Seat) (all : Array Oper) (d : Tmp) (ty : TypeId) (pos : String) (af : Array Edge) (g : Env) (μ : Mem) (Q : Env → Mem → Prop)
theorem o_move_s (x : Operand) : RunO S all ⟨some d, .move x, ty, pos, af, none⟩ g μ Q = letV (evalE g x) fun v => Q (upd g d v) μ := o_move S all (some d) ty pos af g μ Q x
theorem o_assign_s (x : Operand) : RunO S all ⟨some d, .assign x, ty, pos, af, none⟩ g μ Q = letV (evalE g x) fun v => Q (upd g d v) μ := o_assign S all (some d) ty pos af g μ Q x
theorem o_binOp_s (op : BinOp) (t : TypeId) (x y : Operand) (q : TypeId) : RunO S all ⟨some d, .binOp op t x y q, ty, pos, af, none⟩ g μ Q = bindO (binM S.P op t x y (evalE g x) (evalE g y)) fun v => Q (upd g d v) μ := o_binOp S all (some d) ty pos af g μ Q op t x y q
theorem o_unOp_s (op : UnOp) (t : TypeId) (x : Operand) : RunO S all ⟨some d, .unOp op t x, ty, pos, af, none⟩ g μ Q = bindO (oneM S.P (fun x => .unOp op t x) (evalE g x)) fun v => Q (upd g d v) μ := o_unOp S all (some d) ty pos af g μ Q op t x
theorem o_load_s (t : TypeId) (a : Operand) : RunO S all ⟨some d, .load t a, ty, pos, af, none⟩ g μ Q = bindO (loadM S.P t μ (evalE g a)) fun v => Q (upd g d v) μ := o_load S all (some d) ty pos af g μ Q t a
theorem o_fieldAddr_s (s : TypeId) (x : Operand) (f : Nat) : RunO S all ⟨some d, .fieldAddr s x f, ty, pos, af, none⟩ g μ Q = bindO (fieldAddrM S.P s (evalE g x) f) fun v => Q (upd g d v) μ := o_fieldAddr S all (some d) ty pos af g μ Q s x f
theorem o_indexAddr_s (t : TypeId) (x ix : Operand) : RunO S all ⟨some d, .indexAddr t x ix, ty, pos, af, none⟩ g μ Q = bindO (idxM S.P t (evalE g x) (evalE g ix)) fun v => Q (upd g d v) μ := o_indexAddr S all (some d) ty pos af g μ Q t x ix
theorem o_nilCheck_s (x : Operand) : RunO S all ⟨some d, .nilCheck x, ty, pos, af, none⟩ g μ Q = bindO (oneM S.P .nilCheck (evalE g x)) fun v => Q (upd g d v) μ := o_nilCheck S all (some d) ty pos af g μ Q x
theorem o_convert_s (src dst : TypeId) (x : Operand) : RunO S all ⟨some d, .convert src dst x, ty, pos, af, none⟩ g μ Q = bindO (convM S.P src dst (evalE g x) μ) fun r => Q (upd g d r.1) r.2 := o_convert S all (some d) ty pos af g μ Q src dst x
theorem o_index_s (t : TypeId) (x ix : Operand) : RunO S all ⟨some d, .index t x ix, ty, pos, af, none⟩ g μ Q = bindO (idxV S.P t (evalE g x) (evalE g ix)) fun v => Q (upd g d v) μ := o_index S all (some d) ty pos af g μ Q t x ix
theorem o_extract_s (x : Operand) (ix : Nat) : RunO S all ⟨some d, .extract x ix, ty, pos, af, none⟩ g μ Q = bindO (extractM (evalE g x) ix) fun v => Q (upd g d v) μ := o_extract S all (some d) ty pos af g μ Q x ix
theorem o_pick_s (c a b : Operand) : RunO S all ⟨some d, .pick c a b, ty, pos, af, none⟩ g μ Q = bindO (pickM (evalE g c) (evalE g a) (evalE g b)) fun v => Q (upd g d v) μ := o_pick S all (some d) ty pos af g μ Q c a b
theorem o_alloc_s (e : TypeId) : RunO S all ⟨some d, .alloc e, ty, pos, af, none⟩ g μ Q = bindO (allocM S.P e μ) fun r => Q (upd g d r.1) r.2 := o_alloc S all (some d) ty pos af g μ Q e
theorem o_box_s (e : TypeId) (x : Operand) : RunO S all ⟨some d, .box e x, ty, pos, af, none⟩ g μ Q = bindO (boxM e (evalE g x) μ) fun r => Q (upd g d r.1) r.2 := o_box S all (some d) ty pos af g μ Q e x
theorem o_build_s (t : TypeId) (ps : List (Nat × Operand)) : RunO S all ⟨some d, .build t (List.toArray ps), ty, pos, af, none⟩ g μ Q = bindO (buildM S.P t (partsV g ps)) fun v => Q (upd g d v) μ := o_build S all (some d) ty pos af g μ Q t ps
theorem o_buildSlice_s (t : TypeId) (n : Nat) (ps : List (Nat × Operand)) : RunO S all ⟨some d, .buildSlice t n (List.toArray ps), ty, pos, af, none⟩ g μ Q = bindO (buildSliceM S.P t n (partsV g ps) μ) fun r => Q (upd g d r.1) r.2 := o_buildSlice S all (some d) ty pos af g μ Q t n ps
theorem o_makeSlice_s (t : TypeId) (l c : Operand) : RunO S all ⟨some d, .makeSlice t l c, ty, pos, af, none⟩ g μ Q = bindO (if plainV (evalE g l) && plainV (evalE g c) then makeSliceM S.P t (evalE g l) (evalE g c) μ else none) fun r => Q (upd g d r.1) r.2 := o_makeSlice S all (some d) ty pos af g μ Q t l c
theorem o_slice_s (t : TypeId) (x : Operand) (lo hi mx : Option Operand) : RunO S all ⟨some d, .slice t x lo hi mx, ty, pos, af, none⟩ g μ Q = bindO (mop S.P (evalE g) ⟨none, .slice t x lo hi mx, 0, "", #[], none⟩ μ) fun r => Q (upd g d r.1) r.2 := o_slice S all (some d) ty pos af g μ Q t x lo hi mx
theorem o_append_s (s x : Operand) (t tx : TypeId) : RunO S all ⟨some d, .call ⟨.builtin .append, #[s, x], #[t, tx]⟩, ty, pos, af, none⟩ g μ Q = bindO (appV S.P t tx ty (evalE g s) (evalE g x) μ) fun r => Q (upd g d r.1) r.2 := o_append' S all (some d) ty pos af g μ Q s x t tx
theorem o_len_s (x : Operand) (t : TypeId) : RunO S all ⟨some d, .call ⟨.builtin .len, #[x], #[t]⟩, ty, pos, af, none⟩ g μ Q = bindO (lenV S.P t ty (evalE g x) μ) fun v => Q (upd g d v) μ := o_len S all (some d) ty pos af g μ Q x t
theorem o_max_s (x y : Operand) (t1 t2 : TypeId) : RunO S all ⟨some d, .call ⟨.builtin .max, #[x, y], #[t1, t2]⟩, ty, pos, af, none⟩ g μ Q = bindO (mop S.P (evalE g) ⟨none, .call ⟨.builtin .max, #[x, y], #[t1, t2]⟩, ty, "", #[], none⟩ μ) fun r => Q (upd g d r.1) r.2 := o_max S all (some d) ty pos af g μ Q x y t1 t2
theorem o_copy_s (s x : Operand) (t tx : TypeId) : RunO S all ⟨some d, .call ⟨.builtin .copy, #[s, x], #[t, tx]⟩, ty, pos, af, none⟩ g μ Q = bindO (copyV S.P t tx ty (evalE g s) (evalE g x) μ) fun r => Q (upd g d r.1) r.2 := o_copy S all (some d) ty pos af g μ Q s x t tx
theorem o_call_s (f : FuncId) (l : List Operand) (ts : Array TypeId) : RunO S all ⟨some d, .call ⟨.value (.func f), List.toArray l, ts⟩, ty, pos, af, none⟩ g μ Q = GetsK S f (l.map (evalE g)) μ (fun v μ' => Q (upd g d v) μ') .mk := o_call S all (some d) ty pos af g μ Q f l ts
theorem o_guard_s (l : List Oper) (op : Op) (j : Nat) (c : Bool) : RunO S (List.toArray l) ⟨some d, op, ty, pos, af, some (j, c)⟩ g μ Q = guardP (yieldL l g j) c (RunO S (List.toArray l) ⟨some d, op, ty, pos, af, none⟩ g μ Q) (Q (upd g d undef) μ) := o_guard S l (some d) op ty pos af j c g μ Q
theorem o_store_n (t : TypeId) (a x : Operand) : RunO S all ⟨none, .store t a x, ty, pos, af, none⟩ g μ Q = bindO (storeM S.P t μ (evalE g a) (evalE g x)) fun μ' => Q g μ' := o_store S all none ty pos af g μ Q t a x
theorem o_call_n (f : FuncId) (l : List Operand) (ts : Array TypeId) : RunO S all ⟨none, .call ⟨.value (.func f), List.toArray l, ts⟩, ty, pos, af, none⟩ g μ Q = GetsK S f (l.map (evalE g)) μ (fun _ μ' => Q g μ') .mk := o_call S all none ty pos af g μ Q f l ts
end
end Go.Mini
