/-
  The laws of operations on memory, for a step-by-step proof by rewriting. No statement of the seat is proved here; no condition.
-/
import Derived.Test.YtlflocejgffjdaaM17
namespace Go.Mini
open Go.RowKit

variable {P : Program}

/-! ### what is asked of the types -/
def tyOf (P : Program) (t : TypeId) : Option (Bool × Nat) :=
  match P.underlying t, P.info? t with
  | some d, some i => some (d.isRow, i.size)
  | _, _ => none
def fieldOff (P : Program) (s : TypeId) (f : Nat) : Option Nat :=
  match P.underlying s with
  | some (.struct fields) => match fields[f]? with
    | some fd => match P.info? fd.type with
      | some i => if i.size = 0 then none else some fd.offset
      | none => none
    | none => none
  | _ => none
/-- of a slice type: the element's type, its cells, its bytes -/
def elemOf (P : Program) (t : TypeId) : Option (TypeId × Nat × Nat) :=
  match P.underlying t with
  | some (.slice e) => match P.info? e with
    | some i => some (e, i.size, i.bytes)
    | none => none
  | _ => none
/-- of an array type: how many, the element's type, its cells -/
def arrOf (P : Program) (t : TypeId) : Option (Nat × TypeId × Nat) :=
  match P.underlying t with
  | some (.array n e) => match P.info? e with
    | some i => some (n, e, i.size)
    | none => none
  | _ => none
def kindOf (P : Program) (t : TypeId) : Option IntKind :=
  match P.underlying t with
  | some (.int k) => some k
  | _ => none

/-! ### the memory's words -/
def Mem.setRow (μ : Mem) (n : Nat) (cells : List Value) (e : TypeId) : Mem := ⟨μ.hp.set n (some (.row cells e true)), μ.next⟩
def Mem.add (μ : Mem) (cells : List Value) (e : TypeId) : Mem := ⟨μ.hp.set μ.next (some (.row cells e true)), μ.next + 1⟩
def Mem.drop (μ : Mem) (n : Nat) : Mem := ⟨μ.hp.set n none, μ.next⟩
def Mem.at (μ : Mem) (n : Nat) : Option AObj := μ.hp.get n
theorem at_setRow (μ : Mem) (n m : Nat) (cells : List Value) (e : TypeId) : (μ.setRow n cells e).at m = if n = m then some (.row cells e true) else μ.at m := Hp.get_set μ.hp n m (some (.row cells e true))
theorem at_add (μ : Mem) (m : Nat) (cells : List Value) (e : TypeId) : (μ.add cells e).at m = if μ.next = m then some (.row cells e true) else μ.at m := Hp.get_set μ.hp μ.next m (some (.row cells e true))
theorem at_drop (μ : Mem) (n m : Nat) : (μ.drop n).at m = if n = m then none else μ.at m := Hp.get_set μ.hp n m none
theorem at_setRow_same (μ : Mem) (n : Nat) (cells : List Value) (e : TypeId) : (μ.setRow n cells e).at n = some (.row cells e true) := by rw [at_setRow, if_pos rfl]
theorem at_add_same (μ : Mem) (cells : List Value) (e : TypeId) : (μ.add cells e).at μ.next = some (.row cells e true) := by rw [at_add, if_pos rfl]
theorem at_setRow_ne (μ : Mem) {n m : Nat} (cells : List Value) (e : TypeId) (h : n ≠ m) : (μ.setRow n cells e).at m = μ.at m := by rw [at_setRow, if_neg h]
theorem at_add_ne (μ : Mem) {m : Nat} (cells : List Value) (e : TypeId) (h : μ.next ≠ m) : (μ.add cells e).at m = μ.at m := by rw [at_add, if_neg h]
theorem at_drop_ne (μ : Mem) {n m : Nat} (h : n ≠ m) : (μ.drop n).at m = μ.at m := by rw [at_drop, if_neg h]
theorem next_setRow (μ : Mem) (n : Nat) (cells : List Value) (e : TypeId) : (μ.setRow n cells e).next = μ.next := rfl
theorem next_add (μ : Mem) (cells : List Value) (e : TypeId) : (μ.add cells e).next = μ.next + 1 := rfl
theorem next_drop (μ : Mem) (n : Nat) : (μ.drop n).next = μ.next := rfl

/-! ### loads and stores -/
def cellsIn (cells : List Value) (o n : Nat) : Option (List Value) := if ((cells.drop o).take n).length = n then some ((cells.drop o).take n) else none
def loadT (k : Option (Bool × Nat)) (r : Option AObj) (o : Nat) : Option Value :=
  match k, r with
  | some (true, sz), some (.row cells _ _) => (cellsIn cells o sz).map fun cs => .agg cs.toArray
  | some (false, _), some (.row cells _ _) => cells[o]?
  | _, _ => none
theorem loadM_at (t : TypeId) (μ : Mem) (n o : Nat) (s : Option Nat) : loadM P t μ (.pointer (some ⟨n, o, s⟩)) = loadT (tyOf P t) (μ.at n) o := by
  unfold loadM tyOf loadT Mem.at
  dsimp only
  cases hg : μ.hp.get n with
  | none =>
    cases P.underlying t with
    | none => rfl
    | some d => cases P.info? t with
      | none => rfl
      | some i => dsimp only; cases d.isRow <;> rfl
  | some ob =>
    cases ob with
    | map es =>
      cases P.underlying t with
      | none => rfl
      | some d => cases P.info? t with
        | none => rfl
        | some i => dsimp only; cases d.isRow <;> rfl
    | row cells e own =>
      cases P.underlying t with
      | none => rfl
      | some d =>
        cases P.info? t with
        | none => rfl
        | some i =>
          dsimp only
          cases hd : d.isRow with
          | true =>
            simp only [if_true, cellsIn]
            split <;> rfl
          | false => rfl
theorem loadT_cell (sz : Nat) (cells : List Value) (e : TypeId) (own : Bool) (o : Nat) : loadT (some (false, sz)) (some (.row cells e own)) o = cells[o]? := rfl
theorem loadT_row (sz : Nat) (cells : List Value) (e : TypeId) (own : Bool) (o : Nat) : loadT (some (true, sz)) (some (.row cells e own)) o = (cellsIn cells o sz).map fun cs => .agg cs.toArray := rfl

/-- cells with some of them replaced -/
def put1 (cells : List Value) (o : Nat) (v : Value) : List Value := cells.set o v
def szOf (P : Program) (t : TypeId) : Option Nat := (P.info? t).map (·.size)
def storeT (k : Option Nat) (μ : Mem) (n o : Nat) (r : Option AObj) (v : Value) : Option Mem :=
  match k, r with
  | some sz, some (.row cells e true) => if isTuple v = false ∧ v.cells.toList.length = sz ∧ o + sz ≤ cells.length then some (μ.setRow n (splice cells o v.cells.toList) e) else none
  | _, _ => none
theorem storeM_at (t : TypeId) (μ : Mem) (n o : Nat) (s : Option Nat) (v : Value) : storeM P t μ (.pointer (some ⟨n, o, s⟩)) v = storeT (szOf P t) μ n o (μ.at n) v := by
  unfold storeM szOf storeT Mem.at
  dsimp only
  cases hi : P.info? t with
  | none =>
    cases μ.hp.get n with
    | none => rfl
    | some ob =>
      cases ob with
      | map es => rfl
      | row cells e own => cases own <;> rfl
  | some i =>
    dsimp only [Option.map_some]
    cases hg : μ.hp.get n with
    | none => rfl
    | some ob =>
      cases ob with
      | map es => rfl
      | row cells e own =>
        cases own with
        | false => rfl
        | true =>
          dsimp only
          by_cases h : isTuple v = false ∧ v.cells.toList.length = i.size ∧ o + v.cells.toList.length ≤ cells.length
          · rw [if_pos h, if_pos ⟨h.1, h.2.1, by have := h.2.1; omega⟩]
            rfl
          · rw [if_neg h, if_neg (fun hh => h ⟨hh.1, hh.2.1, by have := hh.2.1; omega⟩)]
theorem splice_one (cells : List Value) (o : Nat) (v : Value) (h : o < cells.length) : splice cells o [v] = cells.set o v := by
  unfold splice
  rw [List.set_eq_take_append_cons_drop, if_pos h]
  simp
/-- a store of one cell -/
theorem storeT_cell (μ : Mem) (n o : Nat) (cells : List Value) (e : TypeId) (v : Value) (hv : v.oneCell' = true) (ht : isTuple v = false) (h : o < cells.length) :
    storeT (some 1) μ n o (some (.row cells e true)) v = some (μ.setRow n (cells.set o v) e) := by
  have e : v.cells.toList = [v] := by rw [cells_one hv]
  unfold storeT
  dsimp only
  rw [if_pos ⟨ht, by rw [e]; rfl, by omega⟩, e, splice_one _ _ _ h]
section
variable (μ : Mem) (n o : Nat) (cells : List Value) (e : TypeId) (h : o < cells.length)
include h
theorem storeT_int (k : IntKind) (m : Int) : storeT (some 1) μ n o (some (.row cells e true)) (.int k m) = some (μ.setRow n (cells.set o (.int k m)) e) := storeT_cell μ n o cells e _ rfl rfl h
theorem storeT_bool (b : Bool) : storeT (some 1) μ n o (some (.row cells e true)) (.bool b) = some (μ.setRow n (cells.set o (.bool b)) e) := storeT_cell μ n o cells e _ rfl rfl h
theorem storeT_string (b : ByteArray) : storeT (some 1) μ n o (some (.row cells e true)) (.string b) = some (μ.setRow n (cells.set o (.string b)) e) := storeT_cell μ n o cells e _ rfl rfl h
theorem storeT_pointer (a : Option Addr) : storeT (some 1) μ n o (some (.row cells e true)) (.pointer a) = some (μ.setRow n (cells.set o (.pointer a)) e) := storeT_cell μ n o cells e _ rfl rfl h
theorem storeT_slice (a : Option Addr) (l c : Nat) : storeT (some 1) μ n o (some (.row cells e true)) (.slice a l c) = some (μ.setRow n (cells.set o (.slice a l c)) e) := storeT_cell μ n o cells e _ rfl rfl h
theorem storeT_map (a : Option Nat) : storeT (some 1) μ n o (some (.row cells e true)) (.map a) = some (μ.setRow n (cells.set o (.map a)) e) := storeT_cell μ n o cells e _ rfl rfl h
end
/-- a store of a row of cells -/
theorem storeT_row (sz : Nat) (μ : Mem) (n o : Nat) (cells : List Value) (e : TypeId) (vs : List Value) (hl : vs.length = sz) (h : o + sz ≤ cells.length) :
    storeT (some sz) μ n o (some (.row cells e true)) (.agg vs.toArray) = some (μ.setRow n (splice cells o vs) e) := by
  unfold storeT
  dsimp only
  rw [if_pos ⟨rfl, hl, h⟩]
  rfl

section
variable (S : Seat) (all : Array Oper) (d : Option Tmp) (ty : TypeId) (pos : String) (af : Array Edge) (g : Env) (μ : Mem) (Q : Env → Mem → Prop)
theorem bindO_none {α : Type} (k : α → Prop) : bindO none k = False := by
  apply propext; constructor
  · rintro ⟨_, h, _⟩; cases h
  · exact False.elim
theorem bindO_map {α β : Type} (o : Option α) (f : α → β) (k : β → Prop) : bindO (o.map f) k = bindO o fun a => k (f a) := by
  cases o with
  | none => rw [Option.map_none, bindO_none, bindO_none]
  | some a => rw [Option.map_some, bindO_some, bindO_some]
theorem mop_loud {ρ : Operand → Value} {o : Oper} (hf : fastM P ρ o = none) (hm : mayPlain o.op = false) : plainM P ρ o = none := by
  unfold plainM
  rw [hf]
  simp [hm]
theorem o_load (t : TypeId) (a : Operand) : RunO S all ⟨d, .load t a, ty, pos, af, none⟩ g μ Q = bindO (loadM S.P t μ (evalE g a)) fun v => Q (putE g d v) μ := by
  rw [runO_op S _ _ g μ Q rfl rfl]
  have e : mop S.P (evalE g) ⟨d, .load t a, ty, pos, af, none⟩ μ = (loadM S.P t μ (evalE g a)).map (·, μ) := by
    unfold mop
    rw [mop_loud rfl rfl]
  rw [e, bindO_map]
theorem o_store (t : TypeId) (a x : Operand) : RunO S all ⟨d, .store t a x, ty, pos, af, none⟩ g μ Q = bindO (storeM S.P t μ (evalE g a) (evalE g x)) fun μ' => Q (putE g d undef) μ' := by
  rw [runO_op S _ _ g μ Q rfl rfl]
  have e : mop S.P (evalE g) ⟨d, .store t a x, ty, pos, af, none⟩ μ = (storeM S.P t μ (evalE g a) (evalE g x)).map (undef, ·) := by
    unfold mop
    rw [mop_loud rfl rfl]
  rw [e, bindO_map]
theorem o_fieldAddr (s : TypeId) (x : Operand) (f : Nat) : RunO S all ⟨d, .fieldAddr s x f, ty, pos, af, none⟩ g μ Q = bindO (fieldAddrM S.P s (evalE g x) f) fun v => Q (putE g d v) μ := by
  rw [runO_op S _ _ g μ Q rfl rfl]
  have e : mop S.P (evalE g) ⟨d, .fieldAddr s x f, ty, pos, af, none⟩ μ = (fieldAddrM S.P s (evalE g x) f).map (·, μ) := by
    unfold mop
    rw [mop_loud rfl rfl]
  rw [e, bindO_map]
theorem fieldAddrM_at (s : TypeId) (n o : Nat) (sp : Option Nat) (f : Nat) : fieldAddrM P s (.pointer (some ⟨n, o, sp⟩)) f = (fieldOff P s f).map fun k => .pointer (some ⟨n, o + k, sp⟩) := by
  unfold fieldAddrM fieldOff
  cases P.underlying s with
  | none => rfl
  | some u =>
    cases u with
    | struct fields =>
      dsimp only
      cases fields[f]? with
      | none => rfl
      | some fd =>
        dsimp only
        cases P.info? fd.type with
        | none => rfl
        | some i => dsimp only; split <;> rfl
    | _ => rfl
/-- an index of an array behind a pointer, or of a slice -/
def idxM (P : Program) (t : TypeId) (x ix : Value) : Option Value := if plainV ix = true then indexAddrM P t x ix else none
theorem o_indexAddr (t : TypeId) (x ix : Operand) : RunO S all ⟨d, .indexAddr t x ix, ty, pos, af, none⟩ g μ Q = bindO (idxM S.P t (evalE g x) (evalE g ix)) fun v => Q (putE g d v) μ := by
  rw [runO_op S _ _ g μ Q rfl rfl]
  have e : mop S.P (evalE g) ⟨d, .indexAddr t x ix, ty, pos, af, none⟩ μ = (idxM S.P t (evalE g x) (evalE g ix)).map (·, μ) := by
    unfold mop idxM
    rw [mop_loud rfl rfl]
    dsimp only
    split <;> rfl
  rw [e, bindO_map]
theorem idx_slice (t : TypeId) {e sz by_ : Nat} (h : elemOf P t = some (e, sz, by_)) (n o : Nat) (sp : Option Nat) (l c : Nat) (k : IntKind) (i : Int) (h0 : 0 ≤ i) (h1 : i < l) :
    idxM P t (.slice (some ⟨n, o, sp⟩) l c) (.int k i) = some (.pointer (some ⟨n, o + i.toNat * sz, sp⟩)) := by
  have hp : plainV (.int k i) = true := rfl
  unfold idxM
  rw [if_pos hp]
  unfold elemOf at h
  split at h
  · rename_i e' hu
    split at h
    · rename_i inf hi
      simp only [Option.some.injEq, Prod.mk.injEq] at h
      obtain ⟨rfl, rfl, rfl⟩ := h
      simp [indexAddrM, hu, hi, h0, h1]
    · cases h
  · cases h
theorem idx_array (t : TypeId) {len e sz : Nat} (h : arrOf P t = some (len, e, sz)) (n o : Nat) (sp : Option Nat) (k : IntKind) (i : Int) (h0 : 0 ≤ i) (h1 : i < len) :
    idxM P t (.pointer (some ⟨n, o, sp⟩)) (.int k i) = some (.pointer (some ⟨n, o + i.toNat * sz, sp⟩)) := by
  have hp : plainV (.int k i) = true := rfl
  unfold idxM
  rw [if_pos hp]
  unfold arrOf at h
  split at h
  · rename_i len' e' hu
    split at h
    · rename_i inf hi
      simp only [Option.some.injEq, Prod.mk.injEq] at h
      obtain ⟨rfl, rfl, rfl⟩ := h
      simp [indexAddrM, hu, hi, h0, h1]
    · cases h
  · cases h
/-- an operation on one value that neither reads nor writes -/
def oneM (P : Program) (op : Operand → Op) (v : Value) : Option Value := (mop P (fun _ => v) ⟨none, op (.tmp 0), 0, "", #[], none⟩ ⟨.nil, 0⟩).map (·.1)
theorem o_nilCheck (x : Operand) : RunO S all ⟨d, .nilCheck x, ty, pos, af, none⟩ g μ Q = bindO (oneM S.P .nilCheck (evalE g x)) fun v => Q (putE g d v) μ := by
  rw [runO_op S _ _ g μ Q rfl rfl]
  have e : mop S.P (evalE g) ⟨d, .nilCheck x, ty, pos, af, none⟩ μ = (oneM S.P .nilCheck (evalE g x)).map (·, μ) := by
    have hp : plainM S.P (evalE g) ⟨d, .nilCheck x, ty, pos, af, none⟩ = plainM S.P (fun _ => evalE g x) ⟨none, .nilCheck (.tmp 0), 0, "", #[], none⟩ := by
      unfold plainM
      simp [fastM, mayPlain, Op.operands, execOp]
    unfold oneM mop
    rw [hp]
    cases plainM S.P (fun _ => evalE g x) ⟨none, .nilCheck (.tmp 0), 0, "", #[], none⟩ with
    | some v => rfl
    | none =>
      dsimp only
      cases nilCheckM (evalE g x) <;> rfl
  rw [e, bindO_map]
theorem nilCheck_some (a : Addr) : oneM P .nilCheck (.pointer (some a)) = some (.pointer (some a)) := by
  simp [oneM, mop, plainM, fastM, mayPlain, Op.operands, plainV, plain, nilCheckM]
end
end Go.Mini
