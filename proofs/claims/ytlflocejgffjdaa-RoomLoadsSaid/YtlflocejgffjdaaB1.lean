/-
  Maps of bits: how a list of bools is packed into bytes. Plain; no statement of the seat is proved here; no condition.
-/
import Derived.Test.YtlflocejgffjdaaM22
namespace Go.Mini.Bits

def bN (b : Bool) : Nat := cond b 1 0
def byte8 (a b c d e f g h : Bool) : Nat := bN a + 2 * bN b + 4 * bN c + 8 * bN d + 16 * bN e + 32 * bN f + 64 * bN g + 128 * bN h
def byteAt (k : List Bool) (j : Nat) : Nat := byte8 (k.getD (8 * j) false) (k.getD (8 * j + 1) false) (k.getD (8 * j + 2) false) (k.getD (8 * j + 3) false) (k.getD (8 * j + 4) false) (k.getD (8 * j + 5) false) (k.getD (8 * j + 6) false) (k.getD (8 * j + 7) false)
def pack (k : List Bool) : List Nat := (List.range ((k.length + 7) / 8)).map (byteAt k)
theorem pack_length (k : List Bool) : (pack k).length = (k.length + 7) / 8 := by simp [pack]
theorem byte8_lt (a b c d e f g h : Bool) : byte8 a b c d e f g h < 256 := by
  revert a b c d e f g h; decide
theorem byteAt_lt (k : List Bool) (j : Nat) : byteAt k j < 256 := byte8_lt ..
theorem pack_get (k : List Bool) (j : Nat) (h : j < (k.length + 7) / 8) : (pack k).getD j 0 = byteAt k j := by
  simp [pack, List.getD_eq_getElem?_getD, List.getElem?_range h]
theorem pack_lt (k : List Bool) (j : Nat) : (pack k).getD j 0 < 256 := by
  by_cases h : j < (k.length + 7) / 8
  · rw [pack_get k j h]; exact byteAt_lt k j
  · rw [List.getD_eq_getElem?_getD, List.getElem?_eq_none (by rw [pack_length]; omega)]; decide

theorem bit_0 (a b c d e f g h : Bool) : (byte8 a b c d e f g h >>> 0) &&& 1 = bN a := by revert a b c d e f g h; decide
theorem bit_1 (a b c d e f g h : Bool) : (byte8 a b c d e f g h >>> 1) &&& 1 = bN b := by revert a b c d e f g h; decide
theorem bit_2 (a b c d e f g h : Bool) : (byte8 a b c d e f g h >>> 2) &&& 1 = bN c := by revert a b c d e f g h; decide
theorem bit_3 (a b c d e f g h : Bool) : (byte8 a b c d e f g h >>> 3) &&& 1 = bN d := by revert a b c d e f g h; decide
theorem bit_4 (a b c d e f g h : Bool) : (byte8 a b c d e f g h >>> 4) &&& 1 = bN e := by revert a b c d e f g h; decide
theorem bit_5 (a b c d e f g h : Bool) : (byte8 a b c d e f g h >>> 5) &&& 1 = bN f := by revert a b c d e f g h; decide
theorem bit_6 (a b c d e f g h : Bool) : (byte8 a b c d e f g h >>> 6) &&& 1 = bN g := by revert a b c d e f g h; decide
theorem bit_7 (a b c d e f g h : Bool) : (byte8 a b c d e f g h >>> 7) &&& 1 = bN h := by revert a b c d e f g h; decide
theorem lt8 {i : Nat} (h : i < 8) : i = 0 ∨ i = 1 ∨ i = 2 ∨ i = 3 ∨ i = 4 ∨ i = 5 ∨ i = 6 ∨ i = 7 := by omega
/-- a bit of a byte -/
theorem byteAt_bit (k : List Bool) (j i : Nat) (h : i < 8) : (byteAt k j >>> i) &&& 1 = bN (k.getD (8 * j + i) false) := by
  rcases lt8 h with rfl | rfl | rfl | rfl | rfl | rfl | rfl | rfl
  · exact bit_0 ..
  · exact bit_1 ..
  · exact bit_2 ..
  · exact bit_3 ..
  · exact bit_4 ..
  · exact bit_5 ..
  · exact bit_6 ..
  · exact bit_7 ..
theorem set_0 (a b c d e f g h : Bool) : byte8 a b c d e f g h ||| 1 = byte8 true b c d e f g h := by revert a b c d e f g h; decide
theorem set_1 (a b c d e f g h : Bool) : byte8 a b c d e f g h ||| 2 = byte8 a true c d e f g h := by revert a b c d e f g h; decide
theorem set_2 (a b c d e f g h : Bool) : byte8 a b c d e f g h ||| 4 = byte8 a b true d e f g h := by revert a b c d e f g h; decide
theorem set_3 (a b c d e f g h : Bool) : byte8 a b c d e f g h ||| 8 = byte8 a b c true e f g h := by revert a b c d e f g h; decide
theorem set_4 (a b c d e f g h : Bool) : byte8 a b c d e f g h ||| 16 = byte8 a b c d true f g h := by revert a b c d e f g h; decide
theorem set_5 (a b c d e f g h : Bool) : byte8 a b c d e f g h ||| 32 = byte8 a b c d e true g h := by revert a b c d e f g h; decide
theorem set_6 (a b c d e f g h : Bool) : byte8 a b c d e f g h ||| 64 = byte8 a b c d e f true h := by revert a b c d e f g h; decide
theorem set_7 (a b c d e f g h : Bool) : byte8 a b c d e f g h ||| 128 = byte8 a b c d e f g true := by revert a b c d e f g h; decide
theorem clr_0 (a b c d e f g h : Bool) : byte8 a b c d e f g h &&& 254 = byte8 false b c d e f g h := by revert a b c d e f g h; decide
theorem clr_1 (a b c d e f g h : Bool) : byte8 a b c d e f g h &&& 253 = byte8 a false c d e f g h := by revert a b c d e f g h; decide
theorem clr_2 (a b c d e f g h : Bool) : byte8 a b c d e f g h &&& 251 = byte8 a b false d e f g h := by revert a b c d e f g h; decide
theorem clr_3 (a b c d e f g h : Bool) : byte8 a b c d e f g h &&& 247 = byte8 a b c false e f g h := by revert a b c d e f g h; decide
theorem clr_4 (a b c d e f g h : Bool) : byte8 a b c d e f g h &&& 239 = byte8 a b c d false f g h := by revert a b c d e f g h; decide
theorem clr_5 (a b c d e f g h : Bool) : byte8 a b c d e f g h &&& 223 = byte8 a b c d e false g h := by revert a b c d e f g h; decide
theorem clr_6 (a b c d e f g h : Bool) : byte8 a b c d e f g h &&& 191 = byte8 a b c d e f false h := by revert a b c d e f g h; decide
theorem clr_7 (a b c d e f g h : Bool) : byte8 a b c d e f g h &&& 127 = byte8 a b c d e f g false := by revert a b c d e f g h; decide
theorem getD_set (k : List Bool) (x m : Nat) (v : Bool) (hx : x < k.length) : (k.set x v).getD m false = if x = m then v else k.getD m false := by
  have _ := hx
  simp only [List.getD_eq_getElem?_getD, List.getElem?_set]
  split
  · rename_i h; subst h; simp
  · rfl
theorem byteAt_other (k : List Bool) (x j : Nat) (v : Bool) (h : x / 8 ≠ j) : byteAt (k.set x v) j = byteAt k j := by
  have e : ∀ i, i < 8 → (k.set x v).getD (8 * j + i) false = k.getD (8 * j + i) false := fun i hi => by
    simp only [List.getD_eq_getElem?_getD]
    rw [List.getElem?_set_ne (by omega)]
  unfold byteAt
  have e0 := e 0 (by omega)
  rw [Nat.add_zero] at e0
  rw [e0, e 1 (by omega), e 2 (by omega), e 3 (by omega), e 4 (by omega), e 5 (by omega), e 6 (by omega), e 7 (by omega)]
theorem byteAt_set (k : List Bool) (j i : Nat) (h : i < 8) (hx : 8 * j + i < k.length) : byteAt k j ||| ((1 <<< i) % 256) = byteAt (k.set (8 * j + i) true) j := by
  have e := fun m => getD_set k (8 * j + i) m true hx
  unfold byteAt
  rw [e, e, e, e, e, e, e, e]
  rcases lt8 h with rfl | rfl | rfl | rfl | rfl | rfl | rfl | rfl
  · rw [if_pos (by omega), if_neg (by omega), if_neg (by omega), if_neg (by omega), if_neg (by omega), if_neg (by omega), if_neg (by omega), if_neg (by omega)]; exact set_0 ..
  · rw [if_neg (by omega), if_pos (by omega), if_neg (by omega), if_neg (by omega), if_neg (by omega), if_neg (by omega), if_neg (by omega), if_neg (by omega)]; exact set_1 ..
  · rw [if_neg (by omega), if_neg (by omega), if_pos (by omega), if_neg (by omega), if_neg (by omega), if_neg (by omega), if_neg (by omega), if_neg (by omega)]; exact set_2 ..
  · rw [if_neg (by omega), if_neg (by omega), if_neg (by omega), if_pos (by omega), if_neg (by omega), if_neg (by omega), if_neg (by omega), if_neg (by omega)]; exact set_3 ..
  · rw [if_neg (by omega), if_neg (by omega), if_neg (by omega), if_neg (by omega), if_pos (by omega), if_neg (by omega), if_neg (by omega), if_neg (by omega)]; exact set_4 ..
  · rw [if_neg (by omega), if_neg (by omega), if_neg (by omega), if_neg (by omega), if_neg (by omega), if_pos (by omega), if_neg (by omega), if_neg (by omega)]; exact set_5 ..
  · rw [if_neg (by omega), if_neg (by omega), if_neg (by omega), if_neg (by omega), if_neg (by omega), if_neg (by omega), if_pos (by omega), if_neg (by omega)]; exact set_6 ..
  · rw [if_neg (by omega), if_neg (by omega), if_neg (by omega), if_neg (by omega), if_neg (by omega), if_neg (by omega), if_neg (by omega), if_pos (by omega)]; exact set_7 ..
theorem byteAt_clr (k : List Bool) (j i : Nat) (h : i < 8) (hx : 8 * j + i < k.length) : byteAt k j &&& (255 - (1 <<< i) % 256) = byteAt (k.set (8 * j + i) false) j := by
  have e := fun m => getD_set k (8 * j + i) m false hx
  unfold byteAt
  rw [e, e, e, e, e, e, e, e]
  rcases lt8 h with rfl | rfl | rfl | rfl | rfl | rfl | rfl | rfl
  · rw [if_pos (by omega), if_neg (by omega), if_neg (by omega), if_neg (by omega), if_neg (by omega), if_neg (by omega), if_neg (by omega), if_neg (by omega)]; exact clr_0 ..
  · rw [if_neg (by omega), if_pos (by omega), if_neg (by omega), if_neg (by omega), if_neg (by omega), if_neg (by omega), if_neg (by omega), if_neg (by omega)]; exact clr_1 ..
  · rw [if_neg (by omega), if_neg (by omega), if_pos (by omega), if_neg (by omega), if_neg (by omega), if_neg (by omega), if_neg (by omega), if_neg (by omega)]; exact clr_2 ..
  · rw [if_neg (by omega), if_neg (by omega), if_neg (by omega), if_pos (by omega), if_neg (by omega), if_neg (by omega), if_neg (by omega), if_neg (by omega)]; exact clr_3 ..
  · rw [if_neg (by omega), if_neg (by omega), if_neg (by omega), if_neg (by omega), if_pos (by omega), if_neg (by omega), if_neg (by omega), if_neg (by omega)]; exact clr_4 ..
  · rw [if_neg (by omega), if_neg (by omega), if_neg (by omega), if_neg (by omega), if_neg (by omega), if_pos (by omega), if_neg (by omega), if_neg (by omega)]; exact clr_5 ..
  · rw [if_neg (by omega), if_neg (by omega), if_neg (by omega), if_neg (by omega), if_neg (by omega), if_neg (by omega), if_pos (by omega), if_neg (by omega)]; exact clr_6 ..
  · rw [if_neg (by omega), if_neg (by omega), if_neg (by omega), if_neg (by omega), if_neg (by omega), if_neg (by omega), if_neg (by omega), if_pos (by omega)]; exact clr_7 ..
theorem pack_set_of (k : List Bool) (x : Nat) (v : Bool) (b : Nat) (hb : b = byteAt (k.set x v) (x / 8)) : (pack k).set (x / 8) b = pack (k.set x v) := by
  apply List.ext_getElem
  · simp [pack]
  · intro j h1 h2
    have hj : j < (k.length + 7) / 8 := by simpa [pack] using h1
    rw [List.getElem_set]
    simp only [pack, List.getElem_map, List.getElem_range]
    split
    · rename_i h; rw [hb, h]
    · rename_i h; rw [byteAt_other _ _ _ _ h]
theorem pack_true (k : List Bool) (x : Nat) (hx : x < k.length) : (pack k).set (x / 8) ((pack k).getD (x / 8) 0 ||| ((1 <<< (x % 8)) % 256)) = pack (k.set x true) := by
  refine pack_set_of k x true _ ?_
  rw [pack_get k _ (by omega), byteAt_set k (x / 8) (x % 8) (by omega) (by omega), show 8 * (x / 8) + x % 8 = x by omega]
theorem pack_false (k : List Bool) (x : Nat) (hx : x < k.length) : (pack k).set (x / 8) ((pack k).getD (x / 8) 0 &&& (255 - (1 <<< (x % 8)) % 256)) = pack (k.set x false) := by
  refine pack_set_of k x false _ ?_
  rw [pack_get k _ (by omega), byteAt_clr k (x / 8) (x % 8) (by omega) (by omega), show 8 * (x / 8) + x % 8 = x by omega]
theorem pack_bit (k : List Bool) (x : Nat) (hx : x < k.length) : ((pack k).getD (x / 8) 0 >>> (x % 8)) &&& 1 = bN (k.getD x false) := by
  rw [pack_get k _ (by omega), byteAt_bit k _ _ (by omega), show 8 * (x / 8) + x % 8 = x by omega]
theorem and_7 (x : Nat) : x &&& 7 = x % 8 := Nat.and_two_pow_sub_one_eq_mod x 3
theorem shr_3 (x : Nat) : x >>> 3 = x / 8 := by rw [Nat.shiftRight_eq_div_pow]
theorem bN_one (b : Bool) : ((bN b : Nat) == 1) = b := by cases b <;> rfl
theorem byteAt_zero (n j : Nat) : byteAt (List.replicate n false) j = 0 := by
  have e : ∀ i, (List.replicate n false).getD i false = false := fun i => by
    rw [List.getD_eq_getElem?_getD, List.getElem?_replicate]
    split <;> rfl
  unfold byteAt
  rw [e, e, e, e, e, e, e, e]
  rfl
theorem pack_zero (n : Nat) : pack (List.replicate n false) = List.replicate ((n + 7) / 8) 0 := by
  unfold pack
  rw [List.length_replicate]
  apply List.ext_getElem
  · simp
  · intro i h1 h2
    simp [byteAt_zero]
end Go.Mini.Bits
