/-
  The laws of the remaining operations and of a function's end, for a step-by-step proof by rewriting. No statement of the seat is proved here; no condition.
-/
import Derived.Test.YtlflocejgffjdaaM18
namespace Go.Mini
open Go.RowKit

variable {P : Program}

section
variable (S : Seat) (all : Array Oper) (d : Option Tmp) (ty : TypeId) (pos : String) (af : Array Edge) (g : Env) (μ : Mem) (Q : Env → Mem → Prop)

/-! ### one value -/
theorem o_unOp (op : UnOp) (t : TypeId) (x : Operand) : RunO S all ⟨d, .unOp op t x, ty, pos, af, none⟩ g μ Q = bindO (oneM S.P (fun x => .unOp op t x) (evalE g x)) fun v => Q (putE g d v) μ := by
  rw [runO_op S _ _ g μ Q rfl rfl]
  have e : mop S.P (evalE g) ⟨d, .unOp op t x, ty, pos, af, none⟩ μ = (oneM S.P (fun x => .unOp op t x) (evalE g x)).map (·, μ) := by
    have hp : plainM S.P (evalE g) ⟨d, .unOp op t x, ty, pos, af, none⟩ = plainM S.P (fun _ => evalE g x) ⟨none, .unOp op t (.tmp 0), 0, "", #[], none⟩ := by
      unfold plainM
      simp [fastM, mayPlain, Op.operands, execOp]
    unfold oneM mop
    rw [hp]
    cases plainM S.P (fun _ => evalE g x) ⟨none, .unOp op t (.tmp 0), 0, "", #[], none⟩ <;> rfl
  rw [e, bindO_map]
theorem not_bool (t : TypeId) (b : Bool) : oneM P (fun x => .unOp .not t x) (.bool b) = some (.bool !b) := by
  have hp : plainM P (fun _ => Value.bool b) ⟨none, .unOp .not t (.tmp 0), 0, "", #[], none⟩ = some (.bool !b) := by
    rw [plainM_value (s := Op.unary .not (.bool b)) rfl rfl rfl, if_pos (by simp [Op.operands, plainV, plain])]
    rfl
  simp [oneM, mop, hp]

/-- a conversion -/
def convM (P : Program) (src dst : TypeId) (v : Value) (μ : Mem) : Option (Value × Mem) := mop P (fun _ => v) ⟨none, .convert src dst (.tmp 0), 0, "", #[], none⟩ μ
theorem o_convert (src dst : TypeId) (x : Operand) : RunO S all ⟨d, .convert src dst x, ty, pos, af, none⟩ g μ Q = bindO (convM S.P src dst (evalE g x) μ) fun r => Q (putE g d r.1) r.2 := by
  rw [runO_op S _ _ g μ Q rfl rfl]
  have e : mop S.P (evalE g) ⟨d, .convert src dst x, ty, pos, af, none⟩ μ = convM S.P src dst (evalE g x) μ := by
    have hp : plainM S.P (evalE g) ⟨d, .convert src dst x, ty, pos, af, none⟩ = plainM S.P (fun _ => evalE g x) ⟨none, .convert src dst (.tmp 0), 0, "", #[], none⟩ := by
      unfold plainM
      simp [fastM, mayPlain, Op.operands, execOp]
    unfold convM mop
    rw [hp]
  rw [e]
def usOf (P : Program) (t : TypeId) : Bool := (P.underlying t).isSome
def convT (P : Program) (src dst : TypeId) (u : Bool) (k : Option IntKind) (j : IntKind) (n : Int) (μ : Mem) : Option (Value × Mem) :=
  match u, k with
  | true, some k => some (.int k (k.wrap n), μ)
  | _, _ => convM P src dst (.int j n) μ
theorem conv_int (src dst : TypeId) (j : IntKind) (n : Int) (μ : Mem) : convM P src dst (.int j n) μ = convT P src dst (usOf P src) (kindOf P dst) j n μ := by
  unfold convT usOf
  split
  · rename_i k hs hk
    have hd : P.underlying dst = some (.int k) := by
      unfold kindOf at hk
      split at hk
      · rename_i k' hu; injection hk with hk; subst hk; exact hu
      · cases hk
    have : plainM P (fun _ => .int j n) ⟨none, .convert src dst (.tmp 0), 0, "", #[], none⟩ = some (.int k (k.wrap n)) := by
      simp [plainM, fastM, hs, fastConv, hd]
    simp [convM, mop, this]
  · rfl
theorem convT_int (src dst : TypeId) (k j : IntKind) (n : Int) (μ : Mem) : convT P src dst true (some k) j n μ = some (.int k (k.wrap n), μ) := rfl
/-- bytes to a string -/
theorem conv_bytes (src dst : TypeId) {e : TypeId} (hs : P.underlying src = some (.slice e)) (hd : P.underlying dst = some .string) (he : P.underlying e = some (.int .u8)) (a : Addr) (l c : Nat) (μ : Mem) {cs : List Value} {xs : List Int} (hc : cellsAt μ a l = some cs) (hx : u8s cs = some xs) (hl : l ≠ 0) :
    convM P src dst (.slice (some a) l c) μ = some (.string (strOfNums xs), μ) := by
  have : plainM P (fun _ => .slice (some a) l c) ⟨none, .convert src dst (.tmp 0), 0, "", #[], none⟩ = none := by
    simp [plainM, fastM, hs, fastConv, mayPlain, Op.operands, plainV, plain]
  simp [convM, mop, this, bytesStrM, hs, hd, he, hl, hc, hx]

/-! ### two values: an index -/
def idxV (P : Program) (t : TypeId) (a b : Value) : Option Value := (mop P (fun o => match o with
  | .tmp 0 => a
  | _ => b) ⟨none, .index t (.tmp 0) (.tmp 1), 0, "", #[], none⟩ ⟨.nil, 0⟩).map (·.1)
theorem o_index (t : TypeId) (x ix : Operand) : RunO S all ⟨d, .index t x ix, ty, pos, af, none⟩ g μ Q = bindO (idxV S.P t (evalE g x) (evalE g ix)) fun v => Q (putE g d v) μ := by
  rw [runO_op S _ _ g μ Q rfl rfl]
  have e : mop S.P (evalE g) ⟨d, .index t x ix, ty, pos, af, none⟩ μ = (idxV S.P t (evalE g x) (evalE g ix)).map (·, μ) := by
    have hp : plainM S.P (evalE g) ⟨d, .index t x ix, ty, pos, af, none⟩ = plainM S.P (fun o => match o with
        | .tmp 0 => evalE g x
        | _ => evalE g ix) ⟨none, .index t (.tmp 0) (.tmp 1), 0, "", #[], none⟩ := by
      unfold plainM
      simp [fastM, mayPlain, Op.operands, execOp]
    unfold idxV mop
    rw [hp]
    cases plainM S.P (fun o => match o with
        | .tmp 0 => evalE g x
        | _ => evalE g ix) ⟨none, .index t (.tmp 0) (.tmp 1), 0, "", #[], none⟩ with
    | some v => rfl
    | none =>
      dsimp only
      cases hh : plainV (evalE g ix) with
      | false => rfl
      | true =>
        simp only [if_true]
        cases indexM S.P t (evalE g x) (evalE g ix) <;> rfl
  rw [e, bindO_map]
theorem plain_run {ρ : Operand → Value} {o : Oper} {v : Value} (h : plainM P ρ o = some v) (w : World) : (execOp ρ o).run P w = .ok (.value v) w ∧ plainV v = true :=
  plainM_does (m := em0) (ρ := ρ) (ρ' := ρ) (o := o) (v := v) (fun x hx => by
    unfold plainM at h
    split at h
    · rename_i u hu
      unfold fastM at hu
      split at hu
      · rename_i op t x1 y1 q hop
        obtain ⟨h1, h2⟩ := fastBin_ints hu
        rw [hop] at hx
        simp [Op.operands] at hx
        rcases hx with rfl | rfl
        · exact VR.of_plain h1
        · exact VR.of_plain h2
      · rename_i src d x1 hop
        split at hu
        · have h1 := fastConv_ints hu
          rw [hop] at hx
          simp [Op.operands] at hx
          subst hx
          exact VR.of_plain h1
        · cases hu
      · cases hu
    · split at h
      · rename_i hc
        exact VR.of_plain (Array.all_eq_true_iff_forall_mem.1 hc.2 x hx)
      · cases h) h w
/-- an element of an array that is a value -/
theorem index_arr (t : TypeId) {n e sz : Nat} (h : arrOf P t = some (n, e, sz)) (cs : Array Value) (k : IntKind) (i : Int) (v : Value) (hv : partM P e cs.toList (i.toNat * sz) = some v) (hp : plainV v = true) (h0 : 0 ≤ i) (h1 : i < n) : idxV P t (.agg cs) (.int k i) = some v := by
  unfold arrOf at h
  split at h
  · rename_i len' e' hu
    split at h
    · rename_i inf hi
      simp only [Option.some.injEq, Prod.mk.injEq] at h
      obtain ⟨rfl, rfl, rfl⟩ := h
      have hm : indexM P t (.agg cs) (.int k i) = some v := by
        simp [indexM, hu, hi, h0, h1, hv]
      unfold idxV mop
      cases hpl : plainM P (fun o => match o with
        | .tmp 0 => .agg cs
        | _ => .int k i) ⟨none, .index t (.tmp 0) (.tmp 1), 0, "", #[], none⟩ with
      | none =>
        have hpi : plainV (Value.int k i) = true := rfl
        show Option.map (fun x => x.1) (if plainV (Value.int k i) = true then (indexM P t (.agg cs) (.int k i)).map (·, (⟨.nil, 0⟩ : Mem)) else none) = _
        rw [if_pos hpi, hm]
        rfl
      | some u =>
        dsimp only
        have r1 := (plain_run hpl default).1
        have hpl2 : plainV (.agg cs) = true := by
          unfold plainM at hpl
          have hf : fastM P (fun o => match o with
            | .tmp 0 => Value.agg cs
            | _ => .int k i) ⟨none, .index t (.tmp 0) (.tmp 1), 0, "", #[], none⟩ = none := rfl
          rw [hf] at hpl
          dsimp only at hpl
          split at hpl
          · rename_i hc
            exact Array.all_eq_true_iff_forall_mem.1 hc.2 (.tmp 0) (by simp [Op.operands])
          · cases hpl
        obtain ⟨v', r2, hvr⟩ := indexM_does (m := em0) (VR.of_plain hpl2) hm (default : World)
        have : v' = v := hvr.plain_eq hp
        subst this
        have r3 : (execOp (fun o => match o with
          | .tmp 0 => Value.agg cs
          | _ => .int k i) ⟨none, .index t (.tmp 0) (.tmp 1), 0, "", #[], none⟩).run P default = .ok (.value v') default := by
          show (do pure (.value (← Instr.index t (.agg cs) (.int k i))) : Sem Next).run P default = _
          rw [Sem.run_bind, r2]
          rfl
        rw [r3] at r1
        injection r1 with r1
        injection r1 with r1
        rw [r1]
        rfl
    · cases h
  · cases h
/-- a byte of a string -/
theorem index_str (t : TypeId) (hu : P.underlying t = some .string) (s : ByteArray) (k : IntKind) (i : Int) (h0 : 0 ≤ i) (h1 : i < s.size) : idxV P t (.string s) (.int k i) = some (.int .u8 (s.data.toList.getD i.toNat 0).toNat) := by
  have hlt : i.toNat < s.size := by omega
  have hp : pureOf P (Instr.index t (.string s) (.int k i)) = some (.int .u8 (s.data.toList.getD i.toNat 0).toNat) := by
    have e1 : Instr.index t (.string s) (.int k i) = (underlying t >>= fun u => match u, Value.string s with
        | TypeDesc.array len elem, Value.agg cs => if 0 ≤ i ∧ i < len then do part elem cs (i.toNat * (← sizeOf elem)) else boundsPanic k i len .index
        | TypeDesc.string, Value.string s => match (if 0 ≤ i then s[i.toNat]? else none) with
          | some b => pure (.int .u8 b.toNat)
          | none => boundsPanic k i s.size .index
        | _, _ => stuck "Index: array or string expected") := rfl
    rw [e1, pureOf_bind _ (pureOf_underlying hu)]
    simp only [if_pos h0]
    have : s[i.toNat]? = some (s.data.toList.getD i.toNat 0) := by
      rw [getElem?_pos s i.toNat hlt]
      congr 1
      rw [List.getD_eq_getElem?_getD, List.getElem?_eq_getElem (by simpa using hlt)]
      rfl
    rw [this]
    rfl
  have : plainM P (fun o => match o with
        | .tmp 0 => Value.string s
        | _ => .int k i) ⟨none, .index t (.tmp 0) (.tmp 1), 0, "", #[], none⟩ = some (.int .u8 (s.data.toList.getD i.toNat 0).toNat) := by
    rw [plainM_value (s := Instr.index t (.string s) (.int k i)) rfl rfl rfl]
    rw [if_pos (by simp [Op.operands, plainV, plain])]
    unfold plainOf
    rw [hp]
    rfl
  simp [idxV, mop, this]

/-! ### parts and picks -/
theorem o_extract (x : Operand) (ix : Nat) : RunO S all ⟨d, .extract x ix, ty, pos, af, none⟩ g μ Q = bindO (extractM (evalE g x) ix) fun v => Q (putE g d v) μ := by
  rw [runO_op S _ _ g μ Q rfl rfl]
  have e : mop S.P (evalE g) ⟨d, .extract x ix, ty, pos, af, none⟩ μ = (extractM (evalE g x) ix).map (·, μ) := by
    have hp : plainM S.P (evalE g) ⟨d, .extract x ix, ty, pos, af, none⟩ = none := by
      rw [plainM_value (s := Instr.extract (evalE g x) ix) rfl rfl rfl]
      split
      · rename_i h
        simp [Op.operands] at h
        unfold plainOf
        cases hv : evalE g x with
        | tuple vs => rw [hv] at h; simp [plainV, plain] at h
        | _ => rfl
      · rfl
    unfold mop
    rw [hp]
  rw [e, bindO_map]
theorem extract_tuple (vs : List Value) (ix : Nat) : extractM (.tuple (List.toArray vs)) ix = vs[ix]? := by simp [extractM]
theorem o_pick (c a b : Operand) : RunO S all ⟨d, .pick c a b, ty, pos, af, none⟩ g μ Q = bindO (pickM (evalE g c) (evalE g a) (evalE g b)) fun v => Q (putE g d v) μ := by
  rw [runO_op S _ _ g μ Q rfl rfl]
  have e : mop S.P (evalE g) ⟨d, .pick c a b, ty, pos, af, none⟩ μ = (pickM (evalE g c) (evalE g a) (evalE g b)).map (·, μ) := by
    have hp : plainM S.P (evalE g) ⟨d, .pick c a b, ty, pos, af, none⟩ = none ∨ plainM S.P (evalE g) ⟨d, .pick c a b, ty, pos, af, none⟩ = pickM (evalE g c) (evalE g a) (evalE g b) := by
      rw [plainM_value (s := do pure (if ← asBool (evalE g c) then evalE g a else evalE g b)) rfl rfl (by simp [execOp])]
      split
      · rename_i h
        simp [Op.operands] at h
        unfold plainOf pickM
        cases evalE g c with
        | bool t =>
          right
          cases t
          · show (if plainV (evalE g b) = true then some (evalE g b) else none) = some (evalE g b)
            rw [if_pos h.2.2]
          · show (if plainV (evalE g a) = true then some (evalE g a) else none) = some (evalE g a)
            rw [if_pos h.2.1]
        | _ => left; rfl
      · exact .inl rfl
    unfold mop
    rcases hp with hp | hp
    · rw [hp]
    · rw [hp]
      cases hh : pickM (evalE g c) (evalE g a) (evalE g b) with
      | some v => rfl
      | none => dsimp only; rw [hh]
  rw [e, bindO_map]
theorem pick_bool (c : Bool) (a b : Value) : pickM (.bool c) a b = some (if c then a else b) := rfl

/-! ### new memory -/
theorem o_alloc (e : TypeId) : RunO S all ⟨d, .alloc e, ty, pos, af, none⟩ g μ Q = bindO (allocM S.P e μ) fun r => Q (putE g d r.1) r.2 := by
  rw [runO_op S _ _ g μ Q rfl rfl]
  unfold mop
  rw [mop_loud rfl rfl]
theorem alloc_at {e : TypeId} {z : Value} (hz : zeroM P e = some z) (μ : Mem) : allocM P e μ = some (.pointer (some ⟨μ.next, 0, none⟩), μ.add z.cells.toList e) := by
  unfold allocM
  rw [hz]
  rfl
theorem o_box (e : TypeId) (x : Operand) : RunO S all ⟨d, .box e x, ty, pos, af, none⟩ g μ Q = bindO (boxM e (evalE g x) μ) fun r => Q (putE g d r.1) r.2 := by
  rw [runO_op S _ _ g μ Q rfl rfl]
  unfold mop
  rw [mop_loud rfl rfl]
theorem box_cell (e : TypeId) (v : Value) (h1 : v.oneCell' = true) (ht : isTuple v = false) (μ : Mem) : boxM e v μ = some (.pointer (some ⟨μ.next, 0, none⟩), μ.add [v] e) := by
  unfold boxM
  rw [ht, cells_one h1]
  rfl
theorem box_agg (e : TypeId) (vs : List Value) (μ : Mem) : boxM e (.agg (List.toArray vs)) μ = some (.pointer (some ⟨μ.next, 0, none⟩), μ.add vs e) := rfl
/-- the values of parts -/
def partsV (g : Env) : List (Nat × Operand) → List (Nat × Value)
  | [] => []
  | (i, x) :: l => (i, evalE g x) :: partsV g l
theorem partsV_nil (g : Env) : partsV g [] = [] := rfl
theorem partsV_cons (g : Env) (i : Nat) (x : Operand) (l : List (Nat × Operand)) : partsV g ((i, x) :: l) = (i, evalE g x) :: partsV g l := rfl
theorem partsV_eq (g : Env) (l : List (Nat × Operand)) : ((List.toArray l).map fun (i, x) => (i, evalE g x)).toList = partsV g l := by
  rw [Array.toList_map]
  induction l with
  | nil => rfl
  | cons p l ih => obtain ⟨i, x⟩ := p; simp only [List.map_cons, partsV] at ih ⊢; rw [ih]
theorem o_build (t : TypeId) (ps : List (Nat × Operand)) : RunO S all ⟨d, .build t (List.toArray ps), ty, pos, af, none⟩ g μ Q = bindO (buildM S.P t (partsV g ps)) fun v => Q (putE g d v) μ := by
  rw [runO_op S _ _ g μ Q rfl rfl]
  have e : mop S.P (evalE g) ⟨d, .build t (List.toArray ps), ty, pos, af, none⟩ μ = (buildM S.P t (partsV g ps)).map (·, μ) := by
    unfold mop
    rw [mop_loud rfl rfl]
    dsimp only
    rw [partsV_eq]
  rw [e, bindO_map]
theorem o_buildSlice (t : TypeId) (n : Nat) (ps : List (Nat × Operand)) : RunO S all ⟨d, .buildSlice t n (List.toArray ps), ty, pos, af, none⟩ g μ Q = bindO (buildSliceM S.P t n (partsV g ps) μ) fun r => Q (putE g d r.1) r.2 := by
  rw [runO_op S _ _ g μ Q rfl rfl]
  unfold mop
  rw [mop_loud rfl rfl]
  dsimp only
  rw [partsV_eq]
/-- a slice of one element -/
theorem buildSlice_one (t : TypeId) {e sz by_ : Nat} (h : elemOf P t = some (e, sz, by_)) {z : Value} (hz : zeroM P e = some z) (hs : z.cells.size = sz) (h0 : sz ≠ 0) (h1 : sz ≤ 16777216) (v : Value) (ht : isTuple v = false) (hv : v.cells.size = sz) (μ : Mem) :
    buildSliceM P t 1 [(0, v)] μ = some (.slice (some ⟨μ.next, 0, none⟩) 1 1, μ.add v.cells.toList e) := by
  unfold elemOf at h
  split at h
  · rename_i e' hu
    split at h
    · rename_i inf hi
      simp only [Option.some.injEq, Prod.mk.injEq] at h
      obtain ⟨rfl, rfl, rfl⟩ := h
      have he : elemZero P e' (1 * inf.size) = some z.cells := by
        unfold elemZero
        rw [if_neg (by omega), hz]
        simp only
        rw [if_neg (by omega)]
      have hzs : (zerosA z.cells inf.size).size = inf.size := by simp [zerosA]
      have hfill : Instr.fill (fun k => some (k * inf.size, inf.size)) (zerosA z.cells (1 * inf.size)) [(0, v)] = some v.cells := by
        have hf := fold_fill v.cells.toList [] (zerosA z.cells inf.size).toList (by simp [hzs, hv])
        simp only [Instr.fill, Nat.one_mul, Nat.zero_mul, Nat.zero_add]
        rw [if_neg (by simp [hzs, hv])]
        congr 1
        have e2 : v.cells.zipIdx.foldl (fun cs x => cs.setIfInBounds x.snd x.fst) (zerosA z.cells inf.size) = v.cells.toList.zipIdx.foldl (fun cs x => cs.setIfInBounds x.snd x.fst) (zerosA z.cells inf.size) := by
          rw [← Array.foldl_toList, Array.toList_zipIdx]
        simp only [List.length_nil, List.nil_append, Array.toArray_toList] at hf
        rw [e2]
        exact hf
      unfold buildSliceM
      rw [if_pos (by simp [noTuples, ht]), hu]
      simp only [hi]
      rw [if_neg (by unfold maxLen; omega), he]
      simp only
      rw [hfill]
      rfl
    · cases h
  · cases h
where
  fold_fill : ∀ (vs pre cs : List Value), cs.length = vs.length → (vs.zipIdx pre.length).foldl (fun (a : Array Value) (p : Value × Nat) => a.setIfInBounds p.2 p.1) (pre ++ cs).toArray = (pre ++ vs).toArray
    | [], pre, cs, h => by
      have : cs = [] := List.length_eq_zero_iff.1 (by simpa using h)
      subst this
      rfl
    | v :: vs, pre, [], h => by simp at h
    | v :: vs, pre, c :: cs, h => by
      simp only [List.zipIdx_cons, List.foldl_cons, List.setIfInBounds_toArray]
      have e : (pre ++ c :: cs).set pre.length v = (pre ++ [v]) ++ cs := by simp
      rw [e]
      have := fold_fill vs (pre ++ [v]) cs (by simpa using h)
      simp only [List.length_append, List.length_cons, List.length_nil] at this
      rw [this]
      simp
/-- a slice of none -/
theorem buildSlice_none (t : TypeId) {e sz by_ : Nat} (h : elemOf P t = some (e, sz, by_)) (μ : Mem) : buildSliceM P t 0 [] μ = some (.slice (some ⟨μ.next, 0, none⟩) 0 0, μ.add [] e) := by
  unfold elemOf at h
  split at h
  · rename_i e' hu
    split at h
    · rename_i inf hi
      simp only [Option.some.injEq, Prod.mk.injEq] at h
      obtain ⟨rfl, rfl, rfl⟩ := h
      simp [buildSliceM, noTuples, hu, hi, maxLen, elemZero, Instr.fill, zerosA, newM, Mem.add]
    · cases h
  · cases h
theorem o_makeSlice (t : TypeId) (l c : Operand) : RunO S all ⟨d, .makeSlice t l c, ty, pos, af, none⟩ g μ Q = bindO (if plainV (evalE g l) && plainV (evalE g c) then makeSliceM S.P t (evalE g l) (evalE g c) μ else none) fun r => Q (putE g d r.1) r.2 := by
  rw [runO_op S _ _ g μ Q rfl rfl]
  unfold mop
  rw [mop_loud rfl rfl]
theorem makeSlice_at (t : TypeId) {e sz by_ : Nat} (h : elemOf P t = some (e, sz, by_)) {z : Value} (hz : zeroM P e = some z) (hs : z.cells.size = sz) (h0 : sz ≠ 0) (k k' : IntKind) (l : Int) (hl : 0 ≤ l) (hb : (by_ : Int) * l ≤ 140737488355328) (hm : l ≤ 1099511627776) (μ : Mem) :
    (if plainV (.int k l) && plainV (.int k' l) then makeSliceM P t (.int k l) (.int k' l) μ else none) = some (.slice (some ⟨μ.next, 0, none⟩) l.toNat l.toNat, μ.add (zerosA z.cells (l.toNat * sz)).toList e) := by
  have hp : (plainV (.int k l) && plainV (.int k' l)) = true := rfl
  rw [if_pos hp]
  unfold elemOf at h
  split at h
  · rename_i e' hu
    split at h
    · rename_i inf hi
      simp only [Option.some.injEq, Prod.mk.injEq] at h
      obtain ⟨rfl, rfl, rfl⟩ := h
      unfold makeSliceM
      simp only [hu, hi]
      rw [if_pos ⟨hl, Int.le_refl _, hm, hb, h0⟩]
      unfold elemZero
      by_cases hn : l.toNat * inf.size = 0
      · rw [if_pos hn, hn]
        simp [zerosA, newM, Mem.add]
      · rw [if_neg hn, hz]
        simp only
        rw [if_neg (by omega)]
        rfl
    · cases h
  · cases h
theorem zerosA_one (v : Value) (n : Nat) : (zerosA #[v] n).toList = List.replicate n v := by
  unfold zerosA
  apply List.ext_getElem
  · simp
  · intro i h1 h2
    simp [Nat.mod_one]

/-! ### cuts -/
theorem o_slice (t : TypeId) (x : Operand) (lo hi mx : Option Operand) : RunO S all ⟨d, .slice t x lo hi mx, ty, pos, af, none⟩ g μ Q = bindO (mop S.P (evalE g) ⟨none, .slice t x lo hi mx, 0, "", #[], none⟩ μ) fun r => Q (putE g d r.1) r.2 := by
  rw [runO_op S _ _ g μ Q rfl rfl]
  rfl
/-- a cut of what is not plain -/
theorem slice_at (ρ : Operand → Value) (t : TypeId) (x : Operand) (lo hi mx : Option Operand) (μ : Mem) (hx : plainV (ρ x) = false) (h1 : optPlain (lo.map ρ) = true) (h2 : optPlain (hi.map ρ) = true) (h3 : optPlain (mx.map ρ) = true) :
    mop P ρ ⟨none, .slice t x lo hi mx, 0, "", #[], none⟩ μ = (cutM P t (ρ x) (lo.map ρ) (hi.map ρ) (mx.map ρ)).map (·, μ) := by
  have hp : plainM P ρ ⟨none, .slice t x lo hi mx, 0, "", #[], none⟩ = none := by
    unfold plainM
    simp only [fastM]
    rw [if_neg]
    intro hh
    have := Array.all_eq_true_iff_forall_mem.1 hh.2 x (by simp [Op.operands])
    rw [hx] at this
    cases this
  unfold mop
  rw [hp]
  simp [h1, h2, h3]

/-! ### built-in functions -/
theorem o_append (s x : Operand) (t tx : TypeId) : RunO S all ⟨d, .call ⟨.builtin .append, #[s, x], #[t, tx]⟩, ty, pos, af, none⟩ g μ Q = bindO (mop S.P (evalE g) ⟨none, .call ⟨.builtin .append, #[s, x], #[t, tx]⟩, ty, "", #[], none⟩ μ) fun r => Q (putE g d r.1) r.2 := by
  rw [runO_op S _ _ g μ Q rfl rfl]
  rfl
end

/-! ### the end of a function -/
def resP (S : Seat) (g : Env) (μ : Mem) : List ResultVar → (List Value → Prop) → Prop
  | [], k => k []
  | .tmp t :: rs, k => letV (g t) fun v => resP S g μ rs fun vs => k (v :: vs)
  | .cell a t :: rs, k => bindO (loadM S.P t μ (g a)) fun v => resP S g μ rs fun vs => k (v :: vs)
def joinP (vs : List Value) (k : Value → Prop) : Prop :=
  match vs with
  | [v] => k v
  | vs => if vs.all (fun v => !isTuple v) = true then k (.tuple vs.toArray) else False
theorem resP_eq (S : Seat) (g : Env) (μ : Mem) : ∀ (rs : List ResultVar) (k : List Value → Prop), resP S g μ rs k = bindO (resultsE S.P g μ rs) k
  | [], k => by simp only [resP, resultsE, bindO_some]
  | .tmp t :: rs, k => by
    simp only [resP, resultsE, resE, letV, resP_eq S g μ rs]
    cases resultsE S.P g μ rs with
    | none => simp only [bindO_none]
    | some vs => simp only [bindO_some]
  | .cell a t :: rs, k => by
    simp only [resP, resultsE, resE, resP_eq S g μ rs]
    cases loadM S.P t μ (g a) with
    | none => simp only [bindO_none]
    | some v =>
      simp only [bindO_some]
      cases resultsE S.P g μ rs with
      | none => simp only [bindO_none]
      | some vs => simp only [bindO_some]
theorem finP_eq (S : Seat) (rs : List ResultVar) (Q : Value → Mem → Prop) (e : ExitM) (he : ∀ i, e ≠ .exit i) (g : Env) (μ : Mem) : finP S rs Q e g μ = resP S g μ rs fun vs => joinP vs fun v => Q v μ := by
  rw [resP_eq]
  have h1 : finE S.P rs e g μ = match resultsE S.P g μ rs with
      | some vs => match joinM vs with
        | some v => some (v, μ)
        | none => none
      | none => none := by
    cases e with
    | exit i => exact absurd rfl (he i)
    | normal => rfl
    | ret => rfl
  unfold finP
  rw [h1]
  cases resultsE S.P g μ rs with
  | none =>
    rw [bindO_none]
    apply propext; constructor
    · rintro ⟨_, _, h, _⟩; cases h
    · exact False.elim
  | some vs =>
    rw [bindO_some]
    have h2 : joinP vs (fun v => Q v μ) = ∃ v, joinM vs = some v ∧ Q v μ := by
      have hmany : ∀ l : List Value, (if l.all (fun v => !isTuple v) = true then Q (.tuple l.toArray) μ else False) = ∃ v, (if l.all (fun v => !isTuple v) = true then some (Value.tuple l.toArray) else none) = some v ∧ Q v μ := fun l => by
        split
        · apply propext; constructor
          · exact fun h => ⟨_, rfl, h⟩
          · rintro ⟨u, h, hq⟩; injection h with h; subst h; exact hq
        · apply propext; constructor
          · exact False.elim
          · rintro ⟨u, h, hq⟩; cases h
      cases vs with
      | nil => exact hmany []
      | cons v l =>
        cases l with
        | nil =>
          apply propext; constructor
          · exact fun h => ⟨v, rfl, h⟩
          · rintro ⟨u, h, hq⟩; injection h with h; subst h; exact hq
        | cons w l => exact hmany (v :: w :: l)
    rw [h2]
    apply propext; constructor
    · rintro ⟨v, μ', h, hq⟩
      dsimp only at h
      split at h
      · rename_i u hj
        simp only [Option.some.injEq, Prod.mk.injEq] at h
        obtain ⟨rfl, rfl⟩ := h
        exact ⟨_, hj, hq⟩
      · cases h
    · rintro ⟨v, hj, hq⟩
      exact ⟨v, μ, by dsimp only; rw [hj], hq⟩
theorem finP_ret (S : Seat) (rs : List ResultVar) (Q : Value → Mem → Prop) (g : Env) (μ : Mem) : finP S rs Q .ret g μ = resP S g μ rs fun vs => joinP vs fun v => Q v μ := finP_eq S rs Q .ret (fun _ h => by cases h) g μ
theorem finP_normal (S : Seat) (rs : List ResultVar) (Q : Value → Mem → Prop) (g : Env) (μ : Mem) : finP S rs Q .normal g μ = resP S g μ rs fun vs => joinP vs fun v => Q v μ := finP_eq S rs Q .normal (fun _ h => by cases h) g μ
theorem resP_nil (S : Seat) (g : Env) (μ : Mem) (k : List Value → Prop) : resP S g μ [] k = k [] := rfl
theorem resP_tmp (S : Seat) (g : Env) (μ : Mem) (t : Tmp) (rs : List ResultVar) (k : List Value → Prop) : resP S g μ (.tmp t :: rs) k = letV (g t) fun v => resP S g μ rs fun vs => k (v :: vs) := rfl
theorem resP_cell (S : Seat) (g : Env) (μ : Mem) (a t : Nat) (rs : List ResultVar) (k : List Value → Prop) : resP S g μ (.cell a t :: rs) k = bindO (loadM S.P t μ (g a)) fun v => resP S g μ rs fun vs => k (v :: vs) := rfl
@[congr] theorem resP_congr {S S' : Seat} {g : Env} {μ : Mem} {rs : List ResultVar} {k : List Value → Prop} (h : True → S = S') : resP S g μ rs k = resP S' g μ rs k := by rw [h trivial]
theorem joinP_one (v : Value) (k : Value → Prop) : joinP [v] k = k v := rfl
theorem joinP_none (k : Value → Prop) : joinP [] k = k (.tuple #[]) := rfl
theorem joinP_two (a b : Value) (k : Value → Prop) (ha : isTuple a = false) (hb : isTuple b = false) : joinP [a, b] k = k (.tuple #[a, b]) := by
  unfold joinP
  simp [ha, hb]
theorem joinP_three (a b c : Value) (k : Value → Prop) (ha : isTuple a = false) (hb : isTuple b = false) (hc : isTuple c = false) : joinP [a, b, c] k = k (.tuple #[a, b, c]) := by
  unfold joinP
  simp [ha, hb, hc]
theorem startE_zero (a : Value) (l : List Value) : startE (a :: l) 0 = a := rfl
theorem startE_succ (a : Value) (l : List Value) (k : Nat) : startE (a :: l) (k + 1) = startE l k := by simp [startE]

end Go.Mini
