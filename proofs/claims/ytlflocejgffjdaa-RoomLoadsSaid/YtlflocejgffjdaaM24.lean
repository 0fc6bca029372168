/-
  Equality of arrays of whole numbers, for the walk. No statement of the seat is proved here; no condition.
-/
import Derived.Test.YtlflocejgffjdaaM23
namespace Go.Mini
open Go.RowKit

variable {P : Program}

theorem all_range_eqN : ∀ (xs ys : List Nat), xs.length = ys.length → ((List.range xs.length).all fun i => xs.getD i 0 == ys.getD i 0) = (xs == ys)
  | [], [], _ => rfl
  | x :: xs, y :: ys, h => by
    have ih := all_range_eqN xs ys (by simpa using h)
    rw [List.length_cons, List.range_succ_eq_map, List.all_cons, List.all_map]
    simp only [List.getD_cons_zero, Function.comp_def, List.getD_cons_succ, ih]
    simp [List.cons_beq_cons]
  | [], _ :: _, h => by simp at h
  | _ :: _, [], h => by simp at h
theorem pureOf_agg {t : TypeId} {u : TypeDesc} (h : P.underlying t = some u) : pureOf P (isAgg t) = some u.isRow := by
  unfold isAgg
  rw [pureOf_bind _ (pureOf_underlying h)]
  cases u <;> rfl
theorem pureOf_size {t : TypeId} {i : TypeInfo} (h : P.info? t = some i) : pureOf P (sizeOf t) = some i.size := by
  show pureOf P (do pure (← typeInfo t).size) = _
  rw [pureOf_map (fun i : TypeInfo => i.size)]
  have : pureOf P (typeInfo t) = some i := by
    show pureOf P (match P.info? t with
      | some i => pure i
      | none => _) = some i
    rw [h]
    rfl
  rw [this]
  rfl
theorem pureOf_equal_nums {t e n : Nat} {k : IntKind} {i : TypeInfo} (hu : P.underlying t = some (.array n e)) (hi : P.info? e = some i) (hs : i.size = 1) (he : P.underlying e = some (.int k)) (xs ys : List Nat) (hx : xs.length = n) (hy : ys.length = n) :
    pureOf P (Op.equal t (.agg (List.toArray (nums k xs))) (.agg (List.toArray (nums k ys)))) = some (xs == ys) := by
  rw [← all_range_eqN xs ys (hx.trans hy.symm), hx, List.range_eq_range']
  show pureOf P (Op.equalIn (9999 + 1) t _ _) = _
  unfold Op.equalIn
  rw [pureOf_bind _ (pureOf_underlying hu)]
  dsimp only
  have hsz := pureOf_size (P := P) hi
  rw [hs] at hsz
  rw [pureOf_bind _ hsz]
  have part_at : ∀ zs : List Nat, zs.length = n → ∀ j, j < n → pureOf P (part e (List.toArray (nums k zs)) (j * 1)) = some (.int k (zs.getD j 0 : Nat)) := fun zs hz j hj => by
    unfold part
    rw [pureOf_bind _ (pureOf_agg he)]
    have : (List.toArray (nums k zs))[j * 1]? = some (.int k (zs.getD j 0 : Nat)) := by
      rw [Nat.mul_one, List.getElem?_toArray, nums_get k zs j (by omega)]
    show pureOf P (match (List.toArray (nums k zs))[j * 1]? with
      | some v => pure v
      | none => _) = _
    rw [this]
    rfl
  simp only [Std.Legacy.Range.forIn_eq_forIn_range', Std.Legacy.Range.size, Nat.sub_zero, Nat.add_sub_cancel, Nat.div_one]
  have hl : ∀ j ∈ List.range' 0 n 1, j < n := fun j hj => by simpa using (List.mem_range'_1.1 hj).2
  generalize List.range' 0 n 1 = l at hl ⊢
  induction l with
  | nil => rfl
  | cons j l ih =>
    have hj : j < n := hl j (by simp)
    have px := part_at xs hx j hj
    have py := part_at ys hy j hj
    have pe : pureOf P (Op.equalIn 9999 e (.int k (xs.getD j 0 : Nat)) (.int k (ys.getD j 0 : Nat))) = some (xs.getD j 0 == ys.getD j 0) := by
      show pureOf P (Op.equalIn (9998 + 1) e _ _) = _
      unfold Op.equalIn
      rw [pureOf_bind _ (pureOf_underlying he)]
      dsimp only
      rw [if_pos rfl]
      show some (((xs.getD j 0 : Nat) : Int) == ((ys.getD j 0 : Nat) : Int)) = _
      congr 1
      rw [Bool.eq_iff_iff]
      simp
      omega
    simp only [List.forIn_cons, List.all_cons, bind_assoc]
    rw [pureOf_bind _ px, pureOf_bind _ py, pureOf_bind _ pe]
    cases hb : (xs.getD j 0 == ys.getD j 0) with
    | false => rfl
    | true => exact ih fun m hm => hl m (by simp [hm])
theorem eqGuard_arr {op : BinOp} {t : TypeId} {x y : Operand} {a b : Array Value} (hop : op = .eql ∨ op = .neq) (h : P.eqGuardType P.depth t = false) : pureOf P (eqGuard op t x y (.agg a) (.agg b)) = some () := by
  rcases hop with rfl | rfl
  · show pureOf P (if (!(P.eqGuardType P.depth t)) = true then pure () else _) = some ()
    rw [h]
    rfl
  · show pureOf P (if (!(P.eqGuardType P.depth t)) = true then pure () else _) = some ()
    rw [h]
    rfl
theorem plainV_nums (k : IntKind) (l : List Nat) : plainV (.agg (List.toArray (nums k l))) = true := by
  simp [plainV, nums_plain]
section
variable {t e n : Nat} {k : IntKind} {i : TypeInfo} (ox oy : Operand) (hg : P.eqGuardType P.depth t = false) (hu : P.underlying t = some (.array n e)) (hi : P.info? e = some i) (hs : i.size = 1) (he : P.underlying e = some (.int k)) (xs ys : List Nat) (hx : xs.length = n) (hy : ys.length = n)
include hg hu hi hs he hx hy
theorem bin_eql_nums : binM P .eql t ox oy (.agg (List.toArray (nums k xs))) (.agg (List.toArray (nums k ys))) = some (.bool (xs == ys)) :=
  bin_eql_of t ox oy rfl rfl (plainV_nums k xs) (plainV_nums k ys) (eqGuard_arr (.inl rfl) hg) (pureOf_equal_nums hu hi hs he xs ys hx hy)
theorem bin_neq_nums : binM P .neq t ox oy (.agg (List.toArray (nums k xs))) (.agg (List.toArray (nums k ys))) = some (.bool (!(xs == ys))) :=
  bin_neq_of t ox oy rfl rfl (plainV_nums k xs) (plainV_nums k ys) (eqGuard_arr (.inr rfl) hg) (pureOf_equal_nums hu hi hs he xs ys hx hy)
end
end Go.Mini
