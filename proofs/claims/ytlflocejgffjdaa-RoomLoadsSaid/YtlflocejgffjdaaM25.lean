/-
  Rows given by a function, cuts, strings and copies, for the walk. No statement of the seat is proved here; no condition.
-/
import Derived.Test.YtlflocejgffjdaaM24
namespace Go.Mini
open Go.RowKit

variable {P : Program}

/-! ### rows given by a function -/
def rowF (k : IntKind) (n : Nat) (F : Nat → Nat) : List Value := nums k ((List.range n).map F)
theorem rowF_length (k : IntKind) (n : Nat) (F : Nat → Nat) : (rowF k n F).length = n := by simp [rowF, nums]
theorem rowF_get (k : IntKind) (n : Nat) (F : Nat → Nat) (i : Nat) (h : i < n) : (rowF k n F)[i]? = some (.int k (F i : Nat)) := by
  simp [rowF, nums, h]
theorem rowF_congr {k : IntKind} {n : Nat} {F G : Nat → Nat} (h : ∀ x, x < n → F x = G x) : rowF k n F = rowF k n G := by
  unfold rowF
  congr 1
  exact List.map_congr_left fun x hx => h x (List.mem_range.1 hx)
theorem rowF_set (k : IntKind) (n : Nat) (F : Nat → Nat) (q v : Nat) : (rowF k n F).set q (.int k (v : Int)) = rowF k n (fun x => if x = q then v else F x) := by
  apply List.ext_getElem?
  intro i
  by_cases hi : i < n
  · rw [rowF_get _ _ _ _ hi, List.getElem?_set]
    split
    · rename_i h
      subst h
      rw [if_pos (by rw [rowF_length]; exact hi), if_pos rfl]
    · rename_i h
      rw [rowF_get _ _ _ _ hi, if_neg (fun e => h e.symm)]
  · rw [List.getElem?_eq_none (by rw [List.length_set, rowF_length]; omega), List.getElem?_eq_none (by rw [rowF_length]; omega)]
theorem rowF_zero (k : IntKind) (n : Nat) : List.replicate n (Value.int k 0) = rowF k n (fun _ => 0) := by
  rw [show (Value.int k 0) = Value.int k ((0 : Nat) : Int) from rfl, nums_replicate]
  unfold rowF
  congr 1
  apply List.ext_getElem <;> simp
theorem rowF_cut (k : IntKind) (n : Nat) (F : Nat → Nat) (o m : Nat) (h : o + m ≤ n) : ((rowF k n F).drop o).take m = rowF k m (fun x => F (o + x)) := by
  apply List.ext_getElem?
  intro i
  by_cases hi : i < m
  · rw [List.getElem?_take_of_lt hi, List.getElem?_drop, rowF_get _ _ _ _ (by omega), rowF_get _ _ _ _ hi]
  · rw [List.getElem?_eq_none (by simp [rowF_length]; omega), List.getElem?_eq_none (by rw [rowF_length]; omega)]
theorem rowF_cells (k : IntKind) (n : Nat) (F : Nat → Nat) (o m : Nat) (h : o + m ≤ n) : cellsIn (rowF k n F) o m = some (rowF k m (fun x => F (o + x))) := by
  unfold cellsIn
  rw [rowF_cut k n F o m h, if_pos (rowF_length _ _ _)]
theorem rowF_at (μ : Mem) (b : Nat) (k : IntKind) (n : Nat) (F : Nat → Nat) {e : TypeId} {own : Bool} (hb : μ.at b = some (.row (rowF k n F) e own)) (sp : Option Nat) (o m : Nat) (h : o + m ≤ n) : cellsAt μ ⟨b, o, sp⟩ m = some (rowF k m (fun x => F (o + x))) := by
  unfold Mem.at at hb
  unfold cellsAt
  rw [hb]
  dsimp only
  rw [rowF_cut k n F o m h, if_pos (rowF_length _ _ _)]
theorem rowF_splice (k : IntKind) (n : Nat) (F : Nat → Nat) (o m : Nat) (G : Nat → Nat) (h : o + m ≤ n) : splice (rowF k n F) o (rowF k m G) = rowF k n (fun x => if o ≤ x ∧ x < o + m then G (x - o) else F x) := by
  unfold splice
  apply List.ext_getElem?
  intro i
  have l1 : ((rowF k n F).take o).length = o := by rw [List.length_take, rowF_length]; omega
  by_cases hi : i < n
  · rw [rowF_get _ _ _ _ hi, List.append_assoc]
    by_cases h1 : i < o
    · rw [List.getElem?_append_left (by rw [l1]; exact h1), List.getElem?_take_of_lt h1, rowF_get _ _ _ _ hi, if_neg (by omega)]
    · rw [List.getElem?_append_right (by rw [l1]; omega), l1]
      by_cases h2 : i < o + m
      · rw [List.getElem?_append_left (by rw [rowF_length]; omega), rowF_get _ _ _ _ (by omega), if_pos (by omega)]
      · rw [List.getElem?_append_right (by rw [rowF_length]; omega), rowF_length, List.getElem?_drop, rowF_get _ _ _ _ (by omega), if_neg (by omega)]
        rw [show o + m + (i - o - m) = i by omega]
  · rw [List.getElem?_eq_none (by simp only [List.length_append, List.length_drop, l1, rowF_length]; omega), List.getElem?_eq_none (by rw [rowF_length]; omega)]
theorem nums_rowF (k : IntKind) (l : List Nat) : nums k l = rowF k l.length (fun x => l.getD x 0) := by
  unfold rowF
  congr 1
  apply List.ext_getElem
  · simp
  · intro i h1 h2
    simp [h1]
/-- two functions, up to a bound -/
def eqF (n : Nat) (F G : Nat → Nat) : Bool := (List.range n).all fun x => F x == G x
theorem eqF_iff (n : Nat) (F G : Nat → Nat) : eqF n F G = true ↔ ∀ x, x < n → F x = G x := by simp [eqF]
theorem eqF_true {n : Nat} {F G : Nat → Nat} (h : ∀ x, x < n → F x = G x) : eqF n F G = true := (eqF_iff n F G).2 h
theorem eqF_false {n : Nat} {F G : Nat → Nat} (h : ¬ ∀ x, x < n → F x = G x) : eqF n F G = false := by
  cases hh : eqF n F G with
  | false => rfl
  | true => exact absurd ((eqF_iff n F G).1 hh) h
theorem rowF_beq (n : Nat) (F G : Nat → Nat) : ((List.range n).map F == (List.range n).map G) = eqF n F G := by
  rw [Bool.eq_iff_iff, eqF_iff]
  simp [List.map_inj_left]
theorem cells_agg (l : List Value) : (Value.agg (List.toArray l)).cells.toList = l := rfl
theorem cells_int (k : IntKind) (n : Int) : (Value.int k n).cells.toList = [.int k n] := rfl
theorem cells_bool (b : Bool) : (Value.bool b).cells.toList = [.bool b] := rfl
theorem cells_slice (a : Option Addr) (l c : Nat) : (Value.slice a l c).cells.toList = [.slice a l c] := rfl
theorem cells_pointer (a : Option Addr) : (Value.pointer a).cells.toList = [.pointer a] := rfl

/-! ### numbers -/
theorem wrap_u8_nat (n : Nat) : IntKind.u8.wrap (n : Int) = ((n % 256 : Nat) : Int) := by rw [wrap_u8_mod]; omega
theorem shr_u64 (t : TypeId) (ox oy : Operand) (a b : Int) {k : IntKind} (ha : 0 ≤ a) (hb : 0 ≤ b) (hb1 : b ≤ 64) : binM P .shr t ox oy (.int .u64 a) (.int k b) = some (.int .u64 (a.toNat >>> b.toNat : Nat)) := by
  rw [bin_shr _ _ _ _ _ _ hb, shr_nat a b IntKind.u64.bits ha (show b.toNat ≤ 64 by omega)]

/-! ### cuts -/
def sliceV (P : Program) (t : TypeId) (x : Value) (lo hi mx : Option Value) : Option Value :=
  match (if plainV x && optPlain lo && optPlain hi && optPlain mx then plainOf P (Instr.sliceAt t x lo hi mx) else none) with
  | some v => some v
  | none => if optPlain lo && optPlain hi && optPlain mx then cutM P t x lo hi mx else none
theorem o_slice_v (S : Seat) (all : Array Oper) (d : Tmp) (ty : TypeId) (pos : String) (af : Array Edge) (g : Env) (μ : Mem) (Q : Env → Mem → Prop) (t : TypeId) (x : Operand) (lo hi mx : Option Operand) :
    RunO S all ⟨some d, .slice t x lo hi mx, ty, pos, af, none⟩ g μ Q = bindO (sliceV S.P t (evalE g x) (lo.map (evalE g)) (hi.map (evalE g)) (mx.map (evalE g))) fun v => Q (upd g d v) μ := by
  rw [runO_op S _ _ g μ Q rfl rfl]
  have e : mop S.P (evalE g) ⟨some d, .slice t x lo hi mx, ty, pos, af, none⟩ μ = (sliceV S.P t (evalE g x) (lo.map (evalE g)) (hi.map (evalE g)) (mx.map (evalE g))).map (·, μ) := by
    have hp := plainM_value (P := S.P) (ρ := evalE g) (o := ⟨some d, .slice t x lo hi mx, ty, pos, af, none⟩) (s := Instr.sliceAt t (evalE g x) (lo.map (evalE g)) (hi.map (evalE g)) (mx.map (evalE g))) rfl rfl rfl
    have ho : ∀ z : Option Operand, z.toArray.all (fun x => plainV (evalE g x)) = optPlain (z.map (evalE g)) := fun z => by cases z <;> simp [optPlain]
    have ha : (Op.slice t x lo hi mx).operands.all (fun x => plainV (evalE g x)) = (plainV (evalE g x) && optPlain (lo.map (evalE g)) && optPlain (hi.map (evalE g)) && optPlain (mx.map (evalE g))) := by
      simp only [Op.operands, Array.all_append, ho]
      simp
    have hp' : plainM S.P (evalE g) ⟨some d, .slice t x lo hi mx, ty, pos, af, none⟩ = if (plainV (evalE g x) && optPlain (lo.map (evalE g)) && optPlain (hi.map (evalE g)) && optPlain (mx.map (evalE g))) = true then plainOf S.P (Instr.sliceAt t (evalE g x) (lo.map (evalE g)) (hi.map (evalE g)) (mx.map (evalE g))) else none := by
      rw [hp]
      by_cases h : (plainV (evalE g x) && optPlain (lo.map (evalE g)) && optPlain (hi.map (evalE g)) && optPlain (mx.map (evalE g))) = true
      · rw [if_pos h, if_pos (ha.trans h)]
      · rw [if_neg h, if_neg (fun hh => h (ha.symm.trans hh))]
    unfold mop sliceV
    rw [hp']
    cases (if (plainV (evalE g x) && optPlain (lo.map (evalE g)) && optPlain (hi.map (evalE g)) && optPlain (mx.map (evalE g))) = true then plainOf S.P (Instr.sliceAt t (evalE g x) (lo.map (evalE g)) (hi.map (evalE g)) (mx.map (evalE g))) else none) with
    | some v => rfl
    | none =>
      dsimp only
      split <;> rfl
  rw [e, bindO_map]
  rfl
theorem cut_loud (t : TypeId) (x : Value) (lo hi mx : Option Value) (h : plainV x = false) (h1 : optPlain lo = true) (h2 : optPlain hi = true) (h3 : optPlain mx = true) : sliceV P t x lo hi mx = cutM P t x lo hi mx := by
  unfold sliceV
  rw [h, h1, h2, h3]
  rfl
/-- a whole array -/
theorem cut_arr (t : TypeId) {len e sz : Nat} (h : arrOf P t = some (len, e, sz)) (hs : sz ≠ 0) (hl : len ≤ 1099511627776) (n o : Nat) (sp : Option Nat) : sliceV P t (.pointer (some ⟨n, o, sp⟩)) none none none = some (.slice (some ⟨n, o, sp⟩) len len) := by
  rw [cut_loud _ _ _ _ _ rfl rfl rfl rfl]
  unfold arrOf at h
  split at h
  · rename_i len' e' hu
    split at h
    · rename_i inf hi
      simp only [Option.some.injEq, Prod.mk.injEq] at h
      obtain ⟨rfl, rfl, rfl⟩ := h
      unfold cutM
      simp only [hu, hi]
      rw [if_neg (by omega)]
      simp [boundsM, boundM]
    · cases h
  · cases h

/-! ### strings and bytes -/
theorem bin_add_str (t : TypeId) (ox oy : Operand) (a b : ByteArray) (h : a.size + b.size ≤ 9223372036854775807) : binM P .add t ox oy (.string a) (.string b) = some (.string (a ++ b)) := by
  refine bin_pure t ox oy rfl rfl rfl rfl ?_
  show pureOf P (if ((a.size + b.size : Nat) : Int) > IntKind.i64.max then _ else pure (Value.string (a ++ b))) = _
  rw [if_neg]
  · rfl
  · show ¬ ((a.size + b.size : Nat) : Int) > 9223372036854775807
    omega
theorem u8s_rowF (n : Nat) (F : Nat → Nat) : u8s (rowF .u8 n F) = some ((List.range n).map fun x => (F x : Int)) := by
  unfold rowF
  generalize List.range n = l
  induction l with
  | nil => rfl
  | cons a l ih =>
    simp only [nums, List.map_cons] at ih ⊢
    simp only [u8s, ih, Option.map_some]
/-- the bytes of a function, as a string -/
def strF (n : Nat) (F : Nat → Nat) : ByteArray := strOfNums ((List.range n).map fun x => (F x : Int))
theorem strF_size (n : Nat) (F : Nat → Nat) : (strF n F).size = n := by simp [strF, strOfNums_size]
theorem byteCells_strF (n : Nat) (F : Nat → Nat) (h : ∀ x, x < n → F x < 256) : byteCells (strF n F) = rowF .u8 n F := by
  unfold byteCells strF rowF nums
  rw [strOfNums_data, List.map_map, List.map_map, List.map_map]
  refine List.map_congr_left fun x hx => ?_
  have := h x (List.mem_range.1 hx)
  simp only [Function.comp_apply, Int.toNat_natCast]
  rw [UInt8.toNat_ofNat']
  congr 1
  omega
theorem conv_strF (src dst : TypeId) {e : TypeId} (hs : P.underlying src = some (.slice e)) (hd : P.underlying dst = some .string) (he : P.underlying e = some (.int .u8)) (μ : Mem) (b o l c : Nat) (sp : Option Nat) (N : Nat) (F : Nat → Nat) {e' : TypeId} {own : Bool} (hb : μ.at b = some (.row (rowF .u8 N F) e' own)) (h : o + l ≤ N) (hl : l ≠ 0) :
    convM P src dst (.slice (some ⟨b, o, sp⟩) l c) μ = some (.string (strF l (fun x => F (o + x))), μ) :=
  conv_bytes src dst hs hd he ⟨b, o, sp⟩ l c μ (rowF_at μ b .u8 N F hb sp o l h) (u8s_rowF _ _) hl
theorem byteCells_append (a b : ByteArray) : byteCells (a ++ b) = byteCells a ++ byteCells b := by
  unfold byteCells
  rw [ByteArray.data_append, Array.toList_append, List.map_append]
theorem rowF_append (k : IntKind) (n m : Nat) (F G : Nat → Nat) : rowF k n F ++ rowF k m G = rowF k (n + m) (fun x => if x < n then F x else G (x - n)) := by
  apply List.ext_getElem?
  intro i
  by_cases hi : i < n
  · rw [List.getElem?_append_left (by rw [rowF_length]; exact hi), rowF_get _ _ _ _ hi, rowF_get _ _ _ _ (by omega), if_pos hi]
  · by_cases h2 : i < n + m
    · rw [List.getElem?_append_right (by rw [rowF_length]; omega), rowF_length, rowF_get _ _ _ _ (by omega), rowF_get _ _ _ _ h2, if_neg hi]
    · rw [List.getElem?_eq_none (by simp only [List.length_append, rowF_length]; omega), List.getElem?_eq_none (by rw [rowF_length]; omega)]
/-- a string copied into bytes -/
theorem copy_str (t tx ty : TypeId) {e by_ : Nat} (h : elemOf P t = some (e, 1, by_)) (μ : Mem) (b o l c : Nat) (sp : Option Nat) (s : ByteArray) (n : Nat) (G : Nat → Nat) (hs : byteCells s = rowF .u8 n G) (hn : s.size = n) (h0 : n ≠ 0) (hnl : n ≤ l) (N : Nat) (F : Nat → Nat) {e' : TypeId} (hb : μ.at b = some (.row (rowF .u8 N F) e' true)) (ho : o + n ≤ N) :
    copyV P t tx ty (.slice (some ⟨b, o, sp⟩) l c) (.string s) μ = some (.int .i64 n, μ.setRow b (rowF .u8 N (fun x => if o ≤ x ∧ x < o + n then G (x - o) else F x)) e') := by
  rw [copy_loud _ _ _ _ _ _ rfl]
  unfold elemOf at h
  split at h
  · rename_i e2 hu
    split at h
    · rename_i inf hi
      simp only [Option.some.injEq, Prod.mk.injEq] at h
      obtain ⟨rfl, h1, rfl⟩ := h
      have hmin : Nat.min n l = n := Nat.min_eq_left hnl
      unfold Mem.at at hb
      unfold copyM
      simp only [hu, hi, lenSrc, hn, hmin]
      rw [if_neg h0]
      have ht : (byteCells s).take n = rowF .u8 n G := by rw [hs, List.take_of_length_le (by rw [rowF_length]; exact Nat.le_refl n)]
      simp only [srcCells, h1, if_true, ht, hb]
      rw [if_pos ⟨by rw [rowF_length, Nat.mul_one], by rw [rowF_length, rowF_length]; exact ho⟩, rowF_splice _ _ _ _ _ _ ho]
      rfl
    · cases h
  · cases h
/-- a store of a whole row -/
theorem splice_all (cells vs : List Value) (h : cells.length = vs.length) : splice cells 0 vs = vs := by
  unfold splice
  rw [List.take_zero, List.nil_append, List.drop_of_length_le (by omega), List.append_nil]
theorem storeT_full (sz : Nat) (μ : Mem) (n : Nat) (cells : List Value) (e : TypeId) (vs : List Value) (hl : vs.length = sz) (h : cells.length = sz) : storeT (some sz) μ n 0 (some (.row cells e true)) (.agg (List.toArray vs)) = some (μ.setRow n vs e) := by
  have := storeT_row sz μ n 0 cells e vs hl (by omega)
  rw [splice_all cells vs (by omega)] at this
  exact this
theorem zerosA_rep (s : Nat) (v : Value) (n : Nat) (hs : s ≠ 0) : (zerosA (List.toArray (List.replicate s v)) n).toList = List.replicate n v := by
  unfold zerosA
  apply List.ext_getElem
  · simp
  · intro i h1 h2
    have : i % s < s := Nat.mod_lt _ (by omega)
    simp [this]
/-! ### slices of one element -/
theorem buildSlice_agg {t e sz by_ : Nat} {z : Value} (h : Elem P t e sz by_ z) (hm : sz ≤ 16777216) (vs : List Value) (hv : vs.length = sz) (μ : Mem) : buildSliceM P t 1 [(0, .agg (List.toArray vs))] μ = some (.slice (some ⟨μ.next, 0, none⟩) 1 1, μ.add vs e) :=
  buildSlice_one t h.el h.zero h.zsz h.sz0 hm (.agg (List.toArray vs)) rfl (by simpa [Value.cells] using hv) μ
section
variable {t e by_ : Nat} {z : Value} (h : Elem P t e 1 by_ z) (μ : Mem)
include h
theorem buildSlice_int (k : IntKind) (n : Int) : buildSliceM P t 1 [(0, .int k n)] μ = some (.slice (some ⟨μ.next, 0, none⟩) 1 1, μ.add [.int k n] e) := buildSlice_one t h.el h.zero h.zsz h.sz0 (by omega) _ rfl rfl μ
theorem buildSlice_bool (b : Bool) : buildSliceM P t 1 [(0, .bool b)] μ = some (.slice (some ⟨μ.next, 0, none⟩) 1 1, μ.add [.bool b] e) := buildSlice_one t h.el h.zero h.zsz h.sz0 (by omega) _ rfl rfl μ
theorem buildSlice_string (s : ByteArray) : buildSliceM P t 1 [(0, .string s)] μ = some (.slice (some ⟨μ.next, 0, none⟩) 1 1, μ.add [.string s] e) := buildSlice_one t h.el h.zero h.zsz h.sz0 (by omega) _ rfl rfl μ
end
end Go.Mini
