/-
  Package bits' Leaves. No statement of the seat is proved here; no condition.
-/
import Derived.Test.YtlflocejgffjdaaB5
set_option linter.unusedSimpArgs false
namespace Go.Mini.Bits
open Go.Proofs

/-- the first bytes of a leaf -/
def hdrF (j x : Nat) : Nat := if x < 4 then [98, 105, 116, 115].getD x 0 else le j (x - 4)
/-- the bytes of a leaf, and of all leaves -/
def leafF (k : List Bool) (j y : Nat) : Nat := if y < 8 then hdrF j y else if y < 128 then 0 else byteAt k (128 * j + (y - 128))
def leavesF (k : List Bool) (q : Nat) : Nat := leafF k (q / 256) (q % 256)
def nLeaves (n : Nat) : Nat := (n + 1023) / 1024
theorem leaves_c (n : Nat) (hn : n ≤ 1000000) (μ : Mem) (Q : Value → Mem → Prop) : Gets S 57 [.int .i64 n] μ Q = Q (.int .i64 (nLeaves n : Nat)) μ := by
  refine propext (Gets.iff ?_ Q)
  refine Gets.enter (fn := Try.f57) Try.func57 rfl rfl rfl (Nat.le_of_ble_eq_true rfl) ?_
  have e : ((n : Int) + 1024 - 1) / 1024 = (nLeaves n : Nat) := by unfold nLeaves; omega
  simp -implicitDefEqProofs -dsimp (disch := first | omega | (simp only [lens, List.length_set, List.length_cons, List.length_nil, List.length_append, List.length_replicate]; done) | (simp only [lens, List.length_set, List.length_cons, List.length_nil, List.length_append, List.length_replicate]; omega)) only [↓walkA, walkB, coreB, Nat.reduceEqDiff, Nat.reduceAdd, ↓reduceIte, List.toList_toArray, List.map_cons, List.map_nil, List.getElem?_cons_zero, List.getElem?_cons_succ, Option.map_some, Option.map_none, Option.isSome_some, decide_true, decide_false, typesT, S_P, Try.f57, quo_i64, e]
theorem le_lt (n x : Nat) : le n x < 256 := Nat.mod_lt _ (by omega)
theorem bits_cells : byteCells ⟨#[98, 105, 116, 115]⟩ = rowF .u8 4 (fun x => [98, 105, 116, 115].getD x 0) := rfl
theorem hdr_cells (j : Nat) (F : Nat → Nat) (h : ∀ x, x < 4 → F x = le j x) : byteCells (⟨#[98, 105, 116, 115]⟩ ++ strF 4 F) = rowF .u8 8 (hdrF j) := by
  rw [byteCells_append, bits_cells, byteCells_strF 4 F (fun x hx => by rw [h x hx]; exact le_lt _ _), rowF_append]
  refine rowF_congr fun x hx => ?_
  unfold hdrF
  by_cases h4 : x < 4
  · rw [if_pos h4, if_pos h4]
  · rw [if_neg h4, if_neg h4, h _ (by omega)]
theorem row_congr {l l' : List Value} {e : TypeId} {o : Bool} (h : l = l') : some (AObj.row l e o) = some (AObj.row l' e o) := by rw [h]
theorem byteAt_high (k : List Bool) (j : Nat) (h : k.length ≤ 8 * j) : byteAt k j = 0 := by
  have e : ∀ i, k.getD (8 * j + i) false = false := fun i => by
    rw [List.getD_eq_getElem?_getD, List.getElem?_eq_none (by omega)]; rfl
  unfold byteAt
  have e0 := e 0
  rw [Nat.add_zero] at e0
  rw [e0, e 1, e 2, e 3, e 4, e 5, e 6, e 7]
  rfl
theorem leavesOf_c {μ : Mem} {p b c : Nat} {k : List Bool} (h : IsMap μ p b c k) : Gets S 16 [.pointer (some ⟨p, 0, none⟩)] μ fun v μ' =>
    v = .slice (some ⟨μ.next, 0, none⟩) (nLeaves k.length) (nLeaves k.length) ∧ μ'.at μ.next = some (.row (rowF .u8 (256 * nLeaves k.length) (leavesF k)) 38 true) ∧ μ.next < μ'.next ∧ Keeps μ.next μ μ' := by
  have h0 := h.st
  have h1 := h.by_
  have hlp := h.lp
  have hlb := h.lb
  have hl := h.le
  have hpos := h.pos
  have hpl := pack_length k
  refine Gets.enter (fn := Try.f16) Try.func16 rfl rfl rfl (Nat.le_of_ble_eq_true rfl) ?_
  obtain ⟨m, hm⟩ : ∃ m, nLeaves k.length = m := ⟨_, rfl⟩
  have hm1 : m ≤ 8 := by rw [← hm]; unfold nLeaves; omega
  have ez : (zerosA (List.toArray (List.replicate 256 (Value.int .u8 0))) (m * 256)).toList = rowF .u8 (256 * m) (fun _ => 0) := by
    rw [zerosA_rep _ _ _ (by omega), rowF_zero, Nat.mul_comm]
  have ez2 : (zerosA (Value.agg (List.toArray (List.replicate 256 (Value.int .u8 0)))).cells (m * 256)).toList = rowF .u8 (256 * m) (fun _ => 0) := ez
  simp -implicitDefEqProofs -dsimp (disch := first | omega | (simp only [lens, List.length_set, List.length_cons, List.length_nil, List.length_append, List.length_replicate]; done) | (simp only [lens, List.length_set, List.length_cons, List.length_nil, List.length_append, List.length_replicate]; omega)) only [↓walkA, walkB, coreB, Nat.reduceEqDiff, Nat.reduceAdd, ↓reduceIte, List.toList_toArray, List.map_cons, List.map_nil, List.getElem?_cons_zero, List.getElem?_cons_succ, Option.map_some, Option.map_none, Option.isSome_some, decide_true, decide_false, typesT, S_P, Try.f16, h0, bin_eql_pnil _ _ _ Try.underlying29, leaves_c, hm, makeSlice_at 33 el33 zero38 elem33.zsz elem33.sz0, Int.toNat_natCast, ez2, len_slice Try.underlying33]
  refine loop_of S _ _ (fun j g μ' => ∃ i : Nat, i + j = m ∧ Keeps μ.next μ μ' ∧ μ.next < μ'.next ∧ μ'.at μ.next = some (.row (rowF .u8 (256 * m) (fun q => if q / 256 < i ∧ q % 256 < 8 then hdrF (q / 256) (q % 256) else 0)) 38 true) ∧ g 0 = .pointer (some ⟨p, 0, none⟩) ∧ g 3 = .slice (some ⟨μ.next, 0, none⟩) m m ∧ g 17 = .int .i64 m ∧ g 18 = .int .i64 i) m _ _ ⟨0, by omega, (Keeps.refl _ _).add (Nat.le_refl _) _ _, by rw [next_add]; omega, ?_, rfl, rfl, rfl, rfl⟩ ?_
  · rw [at_add_same]
    refine row_congr ?_
    exact rowF_congr fun x _ => (if_neg (by omega)).symm
  rintro j g μ' ⟨i, h2, h3, h4, h5, g0, g3, g17, g18⟩
  by_cases hi : i < m
  · have e2 : ((i : Int) + 1) = ((i + 1 : Nat) : Int) := by omega
    simp -implicitDefEqProofs -dsimp (disch := first | omega | (simp only [lens, List.length_set, List.length_cons, List.length_nil, List.length_append, List.length_replicate]; done) | (simp only [lens, List.length_set, List.length_cons, List.length_nil, List.length_append, List.length_replicate]; omega)) only [↓walkA, walkB, coreB, Nat.reduceEqDiff, Nat.reduceAdd, ↓reduceIte, List.toList_toArray, List.map_cons, List.map_nil, List.getElem?_cons_zero, List.getElem?_cons_succ, Option.map_some, Option.map_none, Option.isSome_some, decide_true, decide_false, Try.f16, typesT, S_P, g0, g3, g17, g18, wrap_u32]
    refine (bytes32_c (n := i) (by omega)).mono ?_
    rintro v μ2 ⟨rfl, k1, k2⟩
    have h6 := k1.2 μ.next h4
    rw [h5] at h6
    have k3 := h3.1
    have hs8 : (⟨#[98, 105, 116, 115]⟩ ++ strF 4 (fun x => le i x) : ByteArray).size = 8 := by
      rw [ByteArray.size_append, strF_size]; rfl
    have hcp : ∀ ty μ5, μ5.at μ.next = some (.row (rowF .u8 (256 * m) (fun q => if q / 256 < i ∧ q % 256 < 8 then hdrF (q / 256) (q % 256) else 0)) 38 true) → copyV Try.prog 100 9 ty (.slice (some ⟨μ.next, i * 256, none⟩) 256 256) (.string (⟨#[98, 105, 116, 115]⟩ ++ strF 4 (fun x => le i x))) μ5 = _ := fun ty μ5 h7 => copy_str 100 9 ty el100 μ5 μ.next (i * 256) 256 256 none _ 8 (hdrF i) (hdr_cells i _ fun x hx => rfl) hs8 (by omega) (by omega) (256 * m) _ h7 (by omega)
    have hlt2 : μ.next < μ2.next := by omega
    obtain ⟨μ3, hμ3⟩ : ∃ μ3, (μ2.add (rowF .u8 4 fun _ => 0) 109).setRow μ2.next (rowF .u8 4 (le i)) 109 = μ3 := ⟨_, rfl⟩
    have a1 : μ3.at μ2.next = some (.row (rowF .u8 4 (le i)) 109 true) := by rw [← hμ3, at_setRow_same]
    have a2 : μ3.at μ.next = μ2.at μ.next := by rw [← hμ3, at_setRow_ne _ _ _ (by omega), at_add_ne _ _ _ (by omega)]
    have a3 : Keeps μ.next μ μ3 := by
      rw [← hμ3]
      exact ((h3.trans (k1.le k3)).add (by omega) _ _).set (by omega) _ _
    have a4 : μ3.next = μ2.next + 1 := by rw [← hμ3, next_setRow, next_add]
    rw [h6] at a2
    have hcv := conv_strF 100 9 Try.underlying100 Try.underlying9 Try.underlying5 μ3 μ2.next 0 4 4 none 4 (le i) a1 (by omega) (by omega)
    simp only [Nat.zero_add] at hcv
    have hadd := fun ox oy => bin_add_str (P := Try.prog) 9 ox oy ⟨#[98, 105, 116, 115]⟩ (strF 4 (fun x => le i x)) (by rw [strF_size]; decide)
    have hcp2 := fun ty => hcp ty μ3 a2
    simp -implicitDefEqProofs -dsimp (disch := first | omega | (simp only [lens, List.length_set, List.length_cons, List.length_nil, List.length_append, List.length_replicate]; done) | (simp only [lens, List.length_set, List.length_cons, List.length_nil, List.length_append, List.length_replicate]; omega)) only [↓walkA, walkB, coreB, Nat.reduceEqDiff, Nat.reduceAdd, ↓reduceIte, List.toList_toArray, List.map_cons, List.map_nil, List.getElem?_cons_zero, List.getElem?_cons_succ, Option.map_some, Option.map_none, Option.isSome_some, decide_true, decide_false, Try.f16, typesT, S_P, g0, g3, g17, g18, alloc_at zero109, rowF_zero, idx_slice _ el33, Int.toNat_natCast, cut_arr 38 arr38, cut_arr 109 arr109, hμ3, hcv, hadd, hcp2, e2]
    refine held ⟨j - 1, by omega, i + 1, by omega, a3.set (Nat.le_refl _) _ _, by show μ.next < μ3.next; omega, ?_, g0, g3, g17, rfl⟩
    rw [at_setRow_same]
    refine row_congr ?_
    refine rowF_congr fun x hx => ?_
    by_cases hx1 : i * 256 ≤ x ∧ x < i * 256 + 8
    · rw [if_pos hx1, if_pos (by omega), show x / 256 = i by omega, show x % 256 = x - i * 256 by omega]
    · rw [if_neg hx1]
      by_cases hx2 : x / 256 < i ∧ x % 256 < 8
      · rw [if_pos hx2, if_pos (by omega)]
      · rw [if_neg hx2, if_neg (by omega)]
  · have hp' : μ'.at p = μ.at p := h3.2 p hlp
    have hb' : μ'.at b = μ.at b := h3.2 b hlb
    rw [h0] at hp'
    rw [h1] at hb'
    have him : i = m := by omega
    subst him
    simp -implicitDefEqProofs -dsimp (disch := first | omega | (simp only [lens, List.length_set, List.length_cons, List.length_nil, List.length_append, List.length_replicate]; done) | (simp only [lens, List.length_set, List.length_cons, List.length_nil, List.length_append, List.length_replicate]; omega)) only [↓walkA, walkB, coreB, Nat.reduceEqDiff, Nat.reduceAdd, ↓reduceIte, List.toList_toArray, List.map_cons, List.map_nil, List.getElem?_cons_zero, List.getElem?_cons_succ, Option.map_some, Option.map_none, Option.isSome_some, decide_true, decide_false, Try.f16, typesT, S_P, g0, g3, g17, g18, hp', len_slice Try.underlying100]
    refine loop_of S _ _ (fun j g μ2 => ∃ t : Nat, t + j = (k.length + 7) / 8 ∧ Keeps μ.next μ μ2 ∧ μ.next < μ2.next ∧ μ2.at b = some (.row (nums .u8 (pack k)) 5 true) ∧ μ2.at μ.next = some (.row (rowF .u8 (256 * i) (fun q => if q % 256 < 8 then hdrF (q / 256) (q % 256) else if 128 ≤ q % 256 ∧ 128 * (q / 256) + (q % 256 - 128) < t then byteAt k (128 * (q / 256) + (q % 256 - 128)) else 0)) 38 true) ∧ g 3 = .slice (some ⟨μ.next, 0, none⟩) i i ∧ g 36 = .slice (some ⟨b, 0, none⟩) ((k.length + 7) / 8) c ∧ g 37 = .int .i64 ((k.length + 7) / 8 : Nat) ∧ g 38 = .int .i64 t) ((k.length + 7) / 8) _ _ ⟨0, by omega, h3, h4, hb', ?_, g3, rfl, rfl, rfl⟩ ?_
    · rw [h5]
      refine row_congr ?_
      refine rowF_congr fun x hx => ?_
      by_cases h8 : x % 256 < 8
      · rw [if_pos ⟨by omega, h8⟩, if_pos h8]
      · rw [if_neg (fun hh => h8 hh.2), if_neg h8, if_neg (by omega)]
    rintro j g μ2 ⟨t, k1, k2, k3, k4, k5, g3, g36, g37, g38⟩
    by_cases ht : t < (k.length + 7) / 8
    · have e2 : ((t : Int) + 1) = ((t + 1 : Nat) : Int) := by omega
      have hg := pack_get k t ht
      have hlt := byteAt_lt k t
      have em : i = nLeaves k.length := hm.symm
      unfold nLeaves at em
      have e5 : (128 + (t : Int) % 128).toNat = 128 + t % 128 := by omega
      have e6 : ((t : Int) / 128).toNat = t / 128 := by omega
      simp -implicitDefEqProofs -dsimp (disch := first | omega | (simp only [lens, List.length_set, List.length_cons, List.length_nil, List.length_append, List.length_replicate]; done) | (simp only [lens, List.length_set, List.length_cons, List.length_nil, List.length_append, List.length_replicate]; omega)) only [↓walkA, walkB, coreB, Nat.reduceEqDiff, Nat.reduceAdd, ↓reduceIte, List.toList_toArray, List.map_cons, List.map_nil, List.getElem?_cons_zero, List.getElem?_cons_succ, Option.map_some, Option.map_none, Option.isSome_some, decide_true, decide_false, Try.f16, typesT, S_P, g3, g36, g37, g38, k4, k5, idx_slice _ el100, idx_slice _ el33, idx_array _ arr38, quo_i64, rem_i64, nums_get, hg, Int.toNat_natCast, Nat.mul_one, e5, e6, rowF_set, e2]
      refine held ⟨j - 1, by omega, t + 1, by omega, k2.set (Nat.le_refl _) _ _, k3, ?_, ?_, g3, g36, g37, rfl⟩
      · rw [at_setRow_ne _ _ _ (by omega)]; exact k4
      · rw [at_setRow_same]
        refine row_congr ?_
        refine rowF_congr fun x hx => ?_
        by_cases hx1 : x = t / 128 * 256 + (128 + t % 128)
        · have q1 : x / 256 = t / 128 := by omega
          have q2 : x % 256 = 128 + t % 128 := by omega
          rw [if_pos hx1, q1, q2, if_neg (by omega), if_pos (by omega), show 128 * (t / 128) + (128 + t % 128 - 128) = t by omega]
        · rw [if_neg hx1]
          by_cases h8 : x % 256 < 8
          · rw [if_pos h8, if_pos h8]
          · rw [if_neg h8, if_neg h8]
            by_cases h9 : 128 ≤ x % 256 ∧ 128 * (x / 256) + (x % 256 - 128) < t
            · rw [if_pos h9, if_pos (by omega)]
            · rw [if_neg h9, if_neg (by omega)]
    · simp -implicitDefEqProofs -dsimp (disch := first | omega | (simp only [lens, List.length_set, List.length_cons, List.length_nil, List.length_append, List.length_replicate]; done) | (simp only [lens, List.length_set, List.length_cons, List.length_nil, List.length_append, List.length_replicate]; omega)) only [↓walkA, walkB, coreB, Nat.reduceEqDiff, Nat.reduceAdd, ↓reduceIte, List.toList_toArray, List.map_cons, List.map_nil, List.getElem?_cons_zero, List.getElem?_cons_succ, Option.map_some, Option.map_none, Option.isSome_some, decide_true, decide_false, Try.f16, typesT, S_P, g3, g36, g37, g38]
      refine ⟨?_, k3, k2⟩
      rw [k5]
      refine row_congr ?_
      refine rowF_congr fun x hx => ?_
      unfold leavesF leafF
      by_cases h8 : x % 256 < 8
      · rw [if_pos h8, if_pos h8]
      · rw [if_neg h8, if_neg h8]
        by_cases h9 : x % 256 < 128
        · rw [if_neg (by omega), if_pos h9]
        · rw [if_neg h9]
          by_cases h10 : 128 * (x / 256) + (x % 256 - 128) < t
          · rw [if_pos ⟨by omega, h10⟩]
          · rw [if_neg (fun hh => h10 hh.2), byteAt_high k _ (by omega)]
end Go.Mini.Bits
