/-
  Whole numbers as natural ones, and rows of bytes, for the walk. No statement of the seat is proved here; no condition.
-/
import Derived.Test.YtlflocejgffjdaaM21
namespace Go.Mini
open Go.RowKit

variable {P : Program}

theorem wrap_u8 (n : Int) (h1 : 0 ≤ n) (h2 : n ≤ 255) : IntKind.u8.wrap n = n := IntWalk.u8_in _ ⟨h1, h2⟩
theorem wrap_u32 (n : Int) (h1 : 0 ≤ n) (h2 : n ≤ 4294967295) : IntKind.u32.wrap n = n := IntWalk.u32_in _ ⟨h1, h2⟩
theorem wrap_u64 (n : Int) (h1 : 0 ≤ n) (h2 : n ≤ 18446744073709551615) : IntKind.u64.wrap n = n := IntWalk.u64_in _ ⟨h1, h2⟩
theorem wrap_u8_mod (n : Int) : IntKind.u8.wrap n = n % 256 := by rw [IntKind.wrap_u8]
theorem wrap_u32_mod (n : Int) : IntKind.u32.wrap n = n % 4294967296 := by rw [IntKind.wrap_u32]
theorem wrap_u64_mod (n : Int) : IntKind.u64.wrap n = n % 18446744073709551616 := by simp [IntKind.wrap, IntKind.bits, IntKind.signed]

/-! ### bits of natural numbers -/
theorem bv_nat (w : Nat) (a : Int) (h0 : 0 ≤ a) (h1 : a < 2 ^ w) : (BitVec.ofInt w a).toNat = a.toNat := by
  rw [BitVec.toNat_ofInt]
  have : a % (2 ^ w : Nat) = a := Int.emod_eq_of_lt h0 (by push_cast; exact h1)
  rw [this]
theorem and_nat (w : Nat) (a b : Int) (ha : 0 ≤ a) (ha1 : a < 2 ^ w) (hb : 0 ≤ b) (hb1 : b < 2 ^ w) : (BitVec.ofInt w a &&& BitVec.ofInt w b).toNat = a.toNat &&& b.toNat := by
  rw [BitVec.toNat_and, bv_nat w a ha ha1, bv_nat w b hb hb1]
theorem or_nat (w : Nat) (a b : Int) (ha : 0 ≤ a) (ha1 : a < 2 ^ w) (hb : 0 ≤ b) (hb1 : b < 2 ^ w) : (BitVec.ofInt w a ||| BitVec.ofInt w b).toNat = a.toNat ||| b.toNat := by
  rw [BitVec.toNat_or, bv_nat w a ha ha1, bv_nat w b hb hb1]
theorem xor_nat (w : Nat) (a b : Int) (ha : 0 ≤ a) (ha1 : a < 2 ^ w) (hb : 0 ≤ b) (hb1 : b < 2 ^ w) : (BitVec.ofInt w a ^^^ BitVec.ofInt w b).toNat = a.toNat ^^^ b.toNat := by
  rw [BitVec.toNat_xor, bv_nat w a ha ha1, bv_nat w b hb hb1]
theorem andNot_nat (w : Nat) (a b : Int) (ha : 0 ≤ a) (ha1 : a < 2 ^ w) (hb : 0 ≤ b) (hb1 : b < 2 ^ w) : (BitVec.ofInt w a &&& ~~~ BitVec.ofInt w b).toNat = a.toNat &&& (2 ^ w - 1 - b.toNat) := by
  rw [BitVec.toNat_and, BitVec.toNat_not, bv_nat w a ha ha1, bv_nat w b hb hb1]
theorem shr_nat (a b : Int) (w : Nat) (ha : 0 ≤ a) (hb : b.toNat ≤ w) : a.fdiv (2 ^ (min b.toNat w)) = ((a.toNat >>> b.toNat : Nat) : Int) := by
  rw [Nat.min_eq_left hb, Nat.shiftRight_eq_div_pow]
  have e : a = (a.toNat : Int) := by omega
  have e2 : ((2 : Int) ^ b.toNat) = ((2 ^ b.toNat : Nat) : Int) := by push_cast; rfl
  rw [e2]
  conv => lhs; rw [e]
  rw [Int.fdiv_eq_ediv_of_nonneg _ (Int.natCast_nonneg _)]
  rfl
section
variable (t : TypeId) (ox oy : Operand) (a b : Int)
theorem and_i64 (ha : 0 ≤ a) (ha1 : a ≤ 9223372036854775807) (hb : 0 ≤ b) (hb1 : b ≤ 9223372036854775807) : binM P .and t ox oy (.int .i64 a) (.int .i64 b) = some (.int .i64 (a.toNat &&& b.toNat : Nat)) := by
  rw [bin_and]
  have e := and_nat IntKind.i64.bits a b ha (show a < 2 ^ 64 by omega) hb (show b < 2 ^ 64 by omega)
  have hlt : a.toNat &&& b.toNat < 2 ^ 63 := Nat.and_lt_two_pow _ (by omega)
  rw [e, wrap_i64 _ (by omega) (by omega)]
theorem and_u8 (ha : 0 ≤ a) (ha1 : a ≤ 255) (hb : 0 ≤ b) (hb1 : b ≤ 255) : binM P .and t ox oy (.int .u8 a) (.int .u8 b) = some (.int .u8 (a.toNat &&& b.toNat : Nat)) := by
  rw [bin_and]
  have e := and_nat IntKind.u8.bits a b ha (show a < 2 ^ 8 by omega) hb (show b < 2 ^ 8 by omega)
  have hlt : a.toNat &&& b.toNat < 2 ^ 8 := Nat.and_lt_two_pow _ (by omega)
  rw [e, wrap_u8 _ (by omega) (by omega)]
theorem or_u8 (ha : 0 ≤ a) (ha1 : a ≤ 255) (hb : 0 ≤ b) (hb1 : b ≤ 255) : binM P .or t ox oy (.int .u8 a) (.int .u8 b) = some (.int .u8 (a.toNat ||| b.toNat : Nat)) := by
  rw [bin_or]
  have e := or_nat IntKind.u8.bits a b ha (show a < 2 ^ 8 by omega) hb (show b < 2 ^ 8 by omega)
  have hlt : a.toNat ||| b.toNat < 2 ^ 8 := Nat.or_lt_two_pow (by omega) (by omega)
  rw [e, wrap_u8 _ (by omega) (by omega)]
theorem xor_u8 (ha : 0 ≤ a) (ha1 : a ≤ 255) (hb : 0 ≤ b) (hb1 : b ≤ 255) : binM P .xor t ox oy (.int .u8 a) (.int .u8 b) = some (.int .u8 (a.toNat ^^^ b.toNat : Nat)) := by
  rw [bin_xor]
  have e := xor_nat IntKind.u8.bits a b ha (show a < 2 ^ 8 by omega) hb (show b < 2 ^ 8 by omega)
  have hlt : a.toNat ^^^ b.toNat < 2 ^ 8 := Nat.xor_lt_two_pow (by omega) (by omega)
  rw [e, wrap_u8 _ (by omega) (by omega)]
theorem andNot_u8 (ha : 0 ≤ a) (ha1 : a ≤ 255) (hb : 0 ≤ b) (hb1 : b ≤ 255) : binM P .andNot t ox oy (.int .u8 a) (.int .u8 b) = some (.int .u8 (a.toNat &&& (255 - b.toNat) : Nat)) := by
  show _ = some (Value.int .u8 ((a.toNat &&& (2 ^ 8 - 1 - b.toNat) : Nat) : Int))
  rw [bin_andNot]
  have e : (BitVec.ofInt IntKind.u8.bits a &&& ~~~BitVec.ofInt IntKind.u8.bits b).toNat = a.toNat &&& (2 ^ 8 - 1 - b.toNat) := andNot_nat IntKind.u8.bits a b ha (show a < 2 ^ 8 by omega) hb (show b < 2 ^ 8 by omega)
  have hlt : a.toNat &&& (2 ^ 8 - 1 - b.toNat) < 2 ^ 8 := Nat.and_lt_two_pow _ (by omega)
  rw [e, wrap_u8 _ (by omega) (by omega)]
theorem shr_i64 {k : IntKind} (ha : 0 ≤ a) (hb : 0 ≤ b) (hb1 : b ≤ 63) : binM P .shr t ox oy (.int .i64 a) (.int k b) = some (.int .i64 (a.toNat >>> b.toNat : Nat)) := by
  rw [bin_shr _ _ _ _ _ _ hb]
  rw [shr_nat a b IntKind.i64.bits ha (show b.toNat ≤ 64 by omega)]
theorem shr_u8 {k : IntKind} (ha : 0 ≤ a) (hb : 0 ≤ b) (hb1 : b ≤ 8) : binM P .shr t ox oy (.int .u8 a) (.int k b) = some (.int .u8 (a.toNat >>> b.toNat : Nat)) := by
  rw [bin_shr _ _ _ _ _ _ hb]
  rw [shr_nat a b IntKind.u8.bits ha (show b.toNat ≤ 8 by omega)]
theorem shl_nat (w : Nat) (ha : 0 ≤ a) (hw : b.toNat ≤ w) : a * 2 ^ (min b.toNat w) = ((a.toNat <<< b.toNat : Nat) : Int) := by
  rw [Nat.min_eq_left hw, Nat.shiftLeft_eq]
  push_cast
  rw [Int.toNat_of_nonneg ha]
theorem shl_u8 {k : IntKind} (ha : 0 ≤ a) (hb : 0 ≤ b) (hb1 : b ≤ 8) : binM P .shl t ox oy (.int .u8 a) (.int k b) = some (.int .u8 ((a.toNat <<< b.toNat) % 256 : Nat)) := by
  rw [bin_shl _ _ _ _ _ _ hb]
  rw [shl_nat a b IntKind.u8.bits ha (show b.toNat ≤ 8 by omega), wrap_u8_mod]
  exact congrArg (fun n => some (Value.int .u8 n)) (Int.natCast_emod (a.toNat <<< b.toNat) 256).symm
theorem shl_i64 {k : IntKind} (ha : 0 ≤ a) (hb : 0 ≤ b) (hb1 : b ≤ 63) (hr : a.toNat <<< b.toNat < 2 ^ 63) : binM P .shl t ox oy (.int .i64 a) (.int k b) = some (.int .i64 (a.toNat <<< b.toNat : Nat)) := by
  rw [bin_shl _ _ _ _ _ _ hb]
  rw [shl_nat a b IntKind.i64.bits ha (show b.toNat ≤ 64 by omega)]
  generalize a.toNat <<< b.toNat = n at hr
  rw [wrap_i64 _ (by omega) (by omega)]
theorem quo_i64 (ha : 0 ≤ a) (ha1 : a ≤ 9223372036854775807) (hb : 1 ≤ b) : binM P .quo t ox oy (.int .i64 a) (.int .i64 b) = some (.int .i64 (a / b)) := by
  rw [bin_quo _ _ _ _ _ _ (by omega), IntWalk.i64_quo a b ⟨ha, ha1, hb⟩]
theorem rem_i64 (ha : 0 ≤ a) (hb : 1 ≤ b) : binM P .rem t ox oy (.int .i64 a) (.int .i64 b) = some (.int .i64 (a % b)) := by
  rw [bin_rem _ _ _ _ _ _ (by omega), IntWalk.rem_in a b ha]
theorem quo_u64 (ha : 0 ≤ a) (ha1 : a ≤ 18446744073709551615) (hb : 1 ≤ b) : binM P .quo t ox oy (.int .u64 a) (.int .u64 b) = some (.int .u64 (a / b)) := by
  rw [bin_quo _ _ _ _ _ _ (by omega), IntWalk.u64_quo a b ⟨ha, ha1, hb⟩]
end

/-! ### rows of bytes and numbers -/
def nums (k : IntKind) (l : List Nat) : List Value := l.map fun (n : Nat) => .int k (n : Int)
theorem nums_length (k : IntKind) (l : List Nat) : (nums k l).length = l.length := by simp [nums]
theorem nums_get (k : IntKind) (l : List Nat) (i : Nat) (h : i < l.length) : (nums k l)[i]? = some (.int k ((l.getD i 0 : Nat) : Int)) := by
  simp [nums, List.getElem?_eq_getElem h]
theorem nums_set (k : IntKind) (l : List Nat) (i n : Nat) : (nums k l).set i (.int k (n : Int)) = nums k (l.set i n) := by
  simp [nums, List.map_set]
theorem nums_append (k : IntKind) (l l' : List Nat) : nums k (l ++ l') = nums k l ++ nums k l' := by simp [nums]
theorem nums_take (k : IntKind) (l : List Nat) (n : Nat) : (nums k l).take n = nums k (l.take n) := by simp [nums, List.map_take]
theorem nums_drop (k : IntKind) (l : List Nat) (n : Nat) : (nums k l).drop n = nums k (l.drop n) := by simp [nums, List.map_drop]
theorem nums_replicate (k : IntKind) (n m : Nat) : List.replicate n (Value.int k (m : Int)) = nums k (List.replicate n m) := by simp [nums]
theorem nums_plain (k : IntKind) (l : List Nat) : (nums k l).all plain = true := by
  simp [nums, plain]
theorem nums_inj {k : IntKind} {l l' : List Nat} (h : nums k l = nums k l') : l = l' := by
  unfold nums at h
  refine (List.map_inj_right ?_).1 h
  intro a b h
  injection h with _ h
  exact Int.ofNat.inj h
def bools (l : List Bool) : List Value := l.map Value.bool
theorem bools_length (l : List Bool) : (bools l).length = l.length := by simp [bools]
theorem bools_get (l : List Bool) (i : Nat) (h : i < l.length) : (bools l)[i]? = some (.bool (l.getD i false)) := by
  simp [bools, List.getElem?_eq_getElem h]
theorem bools_set (l : List Bool) (i : Nat) (b : Bool) : (bools l).set i (.bool b) = bools (l.set i b) := by
  simp [bools, List.map_set]
theorem bools_replicate (n : Nat) (b : Bool) : List.replicate n (Value.bool b) = bools (List.replicate n b) := by simp [bools]
theorem put_one (v : Value) (n : Nat) (h : v.cells = #[v]) : (zerosA v.cells n).toList = List.replicate n v := by rw [h]; exact zerosA_one v n
theorem ofNat_0 : ((0 : Nat) : Int) = 0 := rfl
end Go.Mini
