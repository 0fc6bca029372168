/-
  Maps of bits in memory, and what the functions of package bits come to: in, Size, Has, Set, Clear, New. No statement of the seat is proved here; no condition.
-/
import Derived.Test.YtlflocejgffjdaaB0
import Derived.Test.YtlflocejgffjdaaB1x
set_option linter.unusedSimpArgs false
namespace Go.Mini.Bits
open Go.Proofs

noncomputable def S : Seat := ⟨Try.prog, good, extClone⟩
theorem S_P : S.P = Try.prog := rfl
theorem beq_bN (b : Bool) : (((bN b : Nat) : Int) == 1) = b := by cases b <;> rfl
def ptr (p : Nat) : Value := .pointer (some ⟨p, 0, none⟩)
section
variable {μ : Mem} {p b c : Nat} {k : List Bool} (h : IsMap μ p b c k)
include h
theorem size_c (Q : Value → Mem → Prop) : Gets S 62 [.pointer (some ⟨p, 0, none⟩)] μ Q = Q (.int .i64 (k.length : Nat)) μ := by
  refine propext (Gets.iff ?_ Q)
  have h0 := h.st
  refine Gets.enter (fn := Try.f62) Try.func62 rfl rfl rfl (Nat.le_of_ble_eq_true rfl) ?_
  simp -implicitDefEqProofs -dsimp (disch := first | omega | (simp only [lens, List.length_set, List.length_cons, List.length_nil, List.length_append, List.length_replicate]; done) | (simp only [lens, List.length_set, List.length_cons, List.length_nil, List.length_append, List.length_replicate]; omega)) only [↓walkA, walkB, coreB, Nat.reduceEqDiff, Nat.reduceAdd, ↓reduceIte, List.toList_toArray, List.map_cons, List.map_nil, List.getElem?_cons_zero, List.getElem?_cons_succ, Option.map_some, Option.map_none, Option.isSome_some, decide_true, decide_false, typesT, S_P, Try.f62, h0, bin_eql_pnil _ _ _ Try.underlying29]
theorem in_c (x : Int) (Q : Value → Mem → Prop) : Gets S 71 [.pointer (some ⟨p, 0, none⟩), .int .i64 x] μ Q = Q (.bool (decide (0 ≤ x ∧ x < k.length))) μ := by
  refine propext (Gets.iff ?_ Q)
  refine Gets.enter (fn := Try.f71) Try.func71 rfl rfl rfl (Nat.le_of_ble_eq_true rfl) ?_
  by_cases hx : 0 ≤ x
  · simp -implicitDefEqProofs -dsimp (disch := first | omega | (simp only [lens, List.length_set, List.length_cons, List.length_nil, List.length_append, List.length_replicate]; done) | (simp only [lens, List.length_set, List.length_cons, List.length_nil, List.length_append, List.length_replicate]; omega)) only [↓walkA, walkB, coreB, Nat.reduceEqDiff, Nat.reduceAdd, ↓reduceIte, List.toList_toArray, List.map_cons, List.map_nil, List.getElem?_cons_zero, List.getElem?_cons_succ, Option.map_some, Option.map_none, Option.isSome_some, decide_true, decide_false, typesT, S_P, Try.f71, size_c h, hx]
  · simp -implicitDefEqProofs -dsimp (disch := first | omega | (simp only [lens, List.length_set, List.length_cons, List.length_nil, List.length_append, List.length_replicate]; done) | (simp only [lens, List.length_set, List.length_cons, List.length_nil, List.length_append, List.length_replicate]; omega)) only [↓walkA, walkB, coreB, Nat.reduceEqDiff, Nat.reduceAdd, ↓reduceIte, List.toList_toArray, List.map_cons, List.map_nil, List.getElem?_cons_zero, List.getElem?_cons_succ, Option.map_some, Option.map_none, Option.isSome_some, decide_true, decide_false, typesT, S_P, Try.f71, size_c h, hx]
theorem has_c (x : Int) (Q : Value → Mem → Prop) : Gets S 24 [.pointer (some ⟨p, 0, none⟩), .int .i64 x] μ Q = Q (.bool (decide (0 ≤ x ∧ x < k.length) && k.getD x.toNat false)) μ := by
  refine propext (Gets.iff ?_ Q)
  refine Gets.enter (fn := Try.f24) Try.func24 rfl rfl rfl (Nat.le_of_ble_eq_true rfl) ?_
  have h0 := h.st
  have h1 := h.by_
  by_cases hx : 0 ≤ x ∧ x < k.length
  · have hl := h.le
    obtain ⟨n, rfl⟩ : ∃ n : Nat, x = n := ⟨x.toNat, by omega⟩
    have hn : n < k.length := by omega
    have hb := pack_bit k n hn
    have hlt := pack_lt k (n / 8)
    have hpl := pack_length k
    have hsr : (pack k).getD (n / 8) 0 >>> (n % 8) ≤ 255 := Nat.le_trans (Nat.shiftRight_le _ _) (by omega)
    obtain ⟨y, hy⟩ : ∃ y, (pack k).getD (n / 8) 0 >>> (n % 8) = y := ⟨_, rfl⟩
    rw [hy] at hb hsr
    simp -implicitDefEqProofs -dsimp (disch := first | omega | (simp only [lens, List.length_set, List.length_cons, List.length_nil, List.length_append, List.length_replicate]; done) | (simp only [lens, List.length_set, List.length_cons, List.length_nil, List.length_append, List.length_replicate]; omega)) only [↓walkA, walkB, coreB, Nat.reduceEqDiff, Nat.reduceAdd, ↓reduceIte, List.toList_toArray, List.map_cons, List.map_nil, List.getElem?_cons_zero, List.getElem?_cons_succ, Option.map_some, Option.map_none, Option.isSome_some, decide_true, decide_false, typesT, S_P, Try.f24, in_c h, h0, h1, shr_i64, and_i64, idx_slice _ el100, nums_get, shr_u8, and_u8, Int.toNat_natCast, Int.reduceToNat, shr_3, and_7, Nat.mul_one, hy, hb, beq_bN]
  · simp -implicitDefEqProofs -dsimp (disch := first | omega | (simp only [lens, List.length_set, List.length_cons, List.length_nil, List.length_append, List.length_replicate]; done) | (simp only [lens, List.length_set, List.length_cons, List.length_nil, List.length_append, List.length_replicate]; omega)) only [↓walkA, walkB, coreB, Nat.reduceEqDiff, Nat.reduceAdd, ↓reduceIte, List.toList_toArray, List.map_cons, List.map_nil, List.getElem?_cons_zero, List.getElem?_cons_succ, Option.map_some, Option.map_none, Option.isSome_some, decide_true, decide_false, typesT, S_P, Try.f24, in_c h, hx]
/-- the value of a memory in which one row is another one -/
theorem IsMap.put {k' : List Bool} (hl : k'.length = k.length) : IsMap (μ.setRow b (nums .u8 (pack k')) 5) p b c k' :=
  ⟨by rw [at_setRow_ne _ _ _ (fun e => h.ne e.symm), h.st, hl], at_setRow_same _ _ _ _, h.ne, h.lp, h.lb, by rw [hl]; exact h.pos, by rw [hl]; exact h.le⟩
/-- bit x becomes v -/
def setM (μ : Mem) (b : Nat) (k : List Bool) (x : Int) (v : Bool) : Mem := if 0 ≤ x ∧ x < k.length then μ.setRow b (nums .u8 (pack (k.set x.toNat v))) 5 else μ
theorem set_c (x : Int) (Q : Value → Mem → Prop) : Gets S 53 [.pointer (some ⟨p, 0, none⟩), .int .i64 x] μ Q = if (0 ≤ x ∧ x < k.length) ∧ k.getD x.toNat false = false then Q (.bool true) (μ.setRow b (nums .u8 (pack (k.set x.toNat true))) 5) else Q (.bool false) μ := by
  have h0 := h.st
  have h1 := h.by_
  by_cases hx : 0 ≤ x ∧ x < k.length
  · have hl := h.le
    obtain ⟨n, rfl⟩ : ∃ n : Nat, x = n := ⟨x.toNat, by omega⟩
    have hn : n < k.length := by omega
    rw [Int.toNat_natCast]
    cases hb : k.getD n false with
    | true =>
      rw [if_neg (fun hh => by cases hh.2)]
      refine propext (Gets.iff ?_ Q)
      refine Gets.enter (fn := Try.f53) Try.func53 rfl rfl rfl (Nat.le_of_ble_eq_true rfl) ?_
      simp -implicitDefEqProofs -dsimp (disch := first | omega | (simp only [lens, List.length_set, List.length_cons, List.length_nil, List.length_append, List.length_replicate]; done) | (simp only [lens, List.length_set, List.length_cons, List.length_nil, List.length_append, List.length_replicate]; omega)) only [↓walkA, walkB, coreB, Nat.reduceEqDiff, Nat.reduceAdd, ↓reduceIte, List.toList_toArray, List.map_cons, List.map_nil, List.getElem?_cons_zero, List.getElem?_cons_succ, Option.map_some, Option.map_none, Option.isSome_some, decide_true, decide_false, typesT, S_P, Try.f53, in_c h, has_c h, Int.toNat_natCast, hb]
    | false =>
      rw [if_pos ⟨hx, rfl⟩]
      refine propext (Gets.iff ?_ Q)
      refine Gets.enter (fn := Try.f53) Try.func53 rfl rfl rfl (Nat.le_of_ble_eq_true rfl) ?_
      have hlt := pack_lt k (n / 8)
      have hpl := pack_length k
      have ht := pack_true k n hn
      have hsh : (1 <<< (n % 8)) % 256 ≤ 255 := by omega
      simp -implicitDefEqProofs -dsimp (disch := first | omega | (simp only [lens, List.length_set, List.length_cons, List.length_nil, List.length_append, List.length_replicate]; done) | (simp only [lens, List.length_set, List.length_cons, List.length_nil, List.length_append, List.length_replicate]; omega)) only [↓walkA, walkB, coreB, Nat.reduceEqDiff, Nat.reduceAdd, ↓reduceIte, List.toList_toArray, List.map_cons, List.map_nil, List.getElem?_cons_zero, List.getElem?_cons_succ, Option.map_some, Option.map_none, Option.isSome_some, decide_true, decide_false, typesT, S_P, Try.f53, in_c h, has_c h, h0, h1, shr_i64, and_i64, idx_slice _ el100, nums_get, shl_u8, or_u8, Int.toNat_natCast, Int.reduceToNat, shr_3, and_7, Nat.mul_one, hb, nums_set, ht]
  · rw [if_neg (fun hh => hx hh.1)]
    refine propext (Gets.iff ?_ Q)
    refine Gets.enter (fn := Try.f53) Try.func53 rfl rfl rfl (Nat.le_of_ble_eq_true rfl) ?_
    simp -implicitDefEqProofs -dsimp (disch := first | omega | (simp only [lens, List.length_set, List.length_cons, List.length_nil, List.length_append, List.length_replicate]; done) | (simp only [lens, List.length_set, List.length_cons, List.length_nil, List.length_append, List.length_replicate]; omega)) only [↓walkA, walkB, coreB, Nat.reduceEqDiff, Nat.reduceAdd, ↓reduceIte, List.toList_toArray, List.map_cons, List.map_nil, List.getElem?_cons_zero, List.getElem?_cons_succ, Option.map_some, Option.map_none, Option.isSome_some, decide_true, decide_false, typesT, S_P, Try.f53, in_c h, hx]
end
end Go.Mini.Bits
