/-
  Package bits' Same and Leaves, with word.Bytes32. No statement of the seat is proved here; no condition.
-/
import Derived.Test.YtlflocejgffjdaaB4
set_option linter.unusedSimpArgs false
namespace Go.Mini.Bits
open Go.Proofs

/-! ### equality of bytes -/
theorem eqb_c {μ : Mem} {b1 b2 c1 c2 n1 n2 : Nat} {x y : List Nat} {e1 e2 : TypeId} {o1 o2 : Bool} (h1 : μ.at b1 = some (.row (nums .u8 x) e1 o1)) (h2 : μ.at b2 = some (.row (nums .u8 y) e2 o2)) (hn1 : n1 = x.length) (hn2 : n2 = y.length) (hm : x.length ≤ 1000000) (Q : Value → Mem → Prop) :
    Gets S 61 [.slice (some ⟨b1, 0, none⟩) n1 c1, .slice (some ⟨b2, 0, none⟩) n2 c2] μ Q = Q (.bool (decide (x = y))) μ := by
  subst hn1 hn2
  refine propext (Gets.iff ?_ Q)
  refine Gets.enter (fn := Try.f61) Try.func61 rfl rfl rfl (Nat.le_of_ble_eq_true rfl) ?_
  by_cases hl : x.length = y.length
  · simp -implicitDefEqProofs -dsimp (disch := first | omega | (simp only [lens, List.length_set, List.length_cons, List.length_nil, List.length_append, List.length_replicate]; done) | (simp only [lens, List.length_set, List.length_cons, List.length_nil, List.length_append, List.length_replicate]; omega)) only [↓walkA, walkB, coreB, Nat.reduceEqDiff, Nat.reduceAdd, ↓reduceIte, List.toList_toArray, List.map_cons, List.map_nil, List.getElem?_cons_zero, List.getElem?_cons_succ, Option.map_some, Option.map_none, Option.isSome_some, decide_true, decide_false, typesT, S_P, Try.f61, len_slice Try.underlying100, beq_int_true]
    refine loop_of S _ _ (fun j g μ' => ∃ i : Nat, i + j = x.length ∧ μ' = μ ∧ (∀ m, m < i → x.getD m 0 = y.getD m 0) ∧ g 0 = .slice (some ⟨b1, 0, none⟩) x.length c1 ∧ g 1 = .slice (some ⟨b2, 0, none⟩) y.length c2 ∧ g 12 = .int .i64 x.length ∧ g 13 = .int .i64 i) x.length _ _ ⟨0, by omega, rfl, fun m hm => by omega, rfl, rfl, rfl, rfl⟩ ?_
    rintro j g μ' ⟨i, h3, rfl, h4, g0, g1, g12, g13⟩
    by_cases hi : i < x.length
    · have e2 : ((i : Int) + 1) = ((i + 1 : Nat) : Int) := by omega
      by_cases hxy : x.getD i 0 = y.getD i 0
      · simp -implicitDefEqProofs -dsimp (disch := first | omega | (simp only [lens, List.length_set, List.length_cons, List.length_nil, List.length_append, List.length_replicate]; done) | (simp only [lens, List.length_set, List.length_cons, List.length_nil, List.length_append, List.length_replicate]; omega)) only [↓walkA, walkB, coreB, Nat.reduceEqDiff, Nat.reduceAdd, ↓reduceIte, List.toList_toArray, List.map_cons, List.map_nil, List.getElem?_cons_zero, List.getElem?_cons_succ, Option.map_some, Option.map_none, Option.isSome_some, decide_true, decide_false, Try.f61, typesT, S_P, g0, g1, g12, g13, h1, h2, idx_slice _ el100, nums_get, Int.toNat_natCast, Nat.mul_one, hxy, beq_int_true, e2]
        refine held ⟨j - 1, by omega, i + 1, by omega, rfl, fun m hm => ?_, g0, g1, g12, rfl⟩
        by_cases e : m = i
        · subst e; exact hxy
        · exact h4 m (by omega)
      · have hne : ((x.getD i 0 : Nat) : Int) ≠ ((y.getD i 0 : Nat) : Int) := by omega
        simp -implicitDefEqProofs -dsimp (disch := first | omega | (simp only [lens, List.length_set, List.length_cons, List.length_nil, List.length_append, List.length_replicate]; done) | (simp only [lens, List.length_set, List.length_cons, List.length_nil, List.length_append, List.length_replicate]; omega)) only [↓walkA, walkB, coreB, Nat.reduceEqDiff, Nat.reduceAdd, ↓reduceIte, List.toList_toArray, List.map_cons, List.map_nil, List.getElem?_cons_zero, List.getElem?_cons_succ, Option.map_some, Option.map_none, Option.isSome_some, decide_true, decide_false, Try.f61, typesT, S_P, g0, g1, g12, g13, h1, h2, idx_slice _ el100, nums_get, Int.toNat_natCast, Nat.mul_one, beq_int_false]
        have : x ≠ y := fun e => hxy (by rw [e])
        rw [decide_eq_false this]
    · simp -implicitDefEqProofs -dsimp (disch := first | omega | (simp only [lens, List.length_set, List.length_cons, List.length_nil, List.length_append, List.length_replicate]; done) | (simp only [lens, List.length_set, List.length_cons, List.length_nil, List.length_append, List.length_replicate]; omega)) only [↓walkA, walkB, coreB, Nat.reduceEqDiff, Nat.reduceAdd, ↓reduceIte, List.toList_toArray, List.map_cons, List.map_nil, List.getElem?_cons_zero, List.getElem?_cons_succ, Option.map_some, Option.map_none, Option.isSome_some, decide_true, decide_false, Try.f61, typesT, S_P, g0, g1, g12, g13]
      have : x = y := by
        apply List.ext_getElem hl
        intro m a b
        have := h4 m (by omega)
        simpa [List.getD_eq_getElem?_getD, a, b] using this
      rw [decide_eq_true this]
  · have hne : (x.length : Int) ≠ (y.length : Int) := by omega
    simp -implicitDefEqProofs -dsimp (disch := first | omega | (simp only [lens, List.length_set, List.length_cons, List.length_nil, List.length_append, List.length_replicate]; done) | (simp only [lens, List.length_set, List.length_cons, List.length_nil, List.length_append, List.length_replicate]; omega)) only [↓walkA, walkB, coreB, Nat.reduceEqDiff, Nat.reduceAdd, ↓reduceIte, List.toList_toArray, List.map_cons, List.map_nil, List.getElem?_cons_zero, List.getElem?_cons_succ, Option.map_some, Option.map_none, Option.isSome_some, decide_true, decide_false, typesT, S_P, Try.f61, len_slice Try.underlying100, beq_int_false]
    have : x ≠ y := fun e => hl (by rw [e])
    rw [decide_eq_false this]
theorem same_c {μ : Mem} {p b c p' b' c' : Nat} {k k' : List Bool} (h : IsMap μ p b c k) (h' : IsMap μ p' b' c' k') (hl : k.length = k'.length) (Q : Value → Mem → Prop) : Gets S 19 [.pointer (some ⟨p, 0, none⟩), .pointer (some ⟨p', 0, none⟩)] μ Q = Q (.bool (decide (pack k = pack k'))) μ := by
  refine propext (Gets.iff ?_ Q)
  refine Gets.enter (fn := Try.f19) Try.func19 rfl rfl rfl (Nat.le_of_ble_eq_true rfl) ?_
  have h0 := h.st
  have h0' := h'.st
  have hle := h.le
  have hpl := pack_length k
  simp -implicitDefEqProofs -dsimp (disch := first | omega | (simp only [lens, List.length_set, List.length_cons, List.length_nil, List.length_append, List.length_replicate]; done) | (simp only [lens, List.length_set, List.length_cons, List.length_nil, List.length_append, List.length_replicate]; omega)) only [↓walkA, walkB, coreB, Nat.reduceEqDiff, Nat.reduceAdd, ↓reduceIte, List.toList_toArray, List.map_cons, List.map_nil, List.getElem?_cons_zero, List.getElem?_cons_succ, Option.map_some, Option.map_none, Option.isSome_some, decide_true, decide_false, typesT, S_P, Try.f19, h0, h0', bin_eql_pnil _ _ _ Try.underlying29, beq_int_true, eqb_c h.by_ h'.by_ (n1 := (k.length + 7) / 8) (n2 := (k'.length + 7) / 8) (by rw [pack_length]) (by rw [pack_length]) (by omega)]

/-! ### words -/
def le (n x : Nat) : Nat := (n >>> (8 * x)) % 256
theorem put_c {μ : Mem} {b o m c N n : Nat} {F : Nat → Nat} {e : TypeId} (hb : μ.at b = some (.row (rowF .u8 N F) e true)) (ho : o + m ≤ N) (hm : m ≤ 8) (hn : n < 18446744073709551616) :
    Gets S 83 [.slice (some ⟨b, o, none⟩) m c, .int .u64 n] μ fun v μ' => v = .tuple #[] ∧ But b μ μ' ∧ μ'.at b = some (.row (rowF .u8 N (fun x => if o ≤ x ∧ x < o + m then le n (x - o) else F x)) e true) := by
  refine Gets.enter (fn := Try.f83) Try.func83 rfl rfl rfl (Nat.le_of_ble_eq_true rfl) ?_
  simp -implicitDefEqProofs -dsimp (disch := first | omega | (simp only [lens, List.length_set, List.length_cons, List.length_nil, List.length_append, List.length_replicate]; done) | (simp only [lens, List.length_set, List.length_cons, List.length_nil, List.length_append, List.length_replicate]; omega)) only [↓walkA, walkB, coreB, Nat.reduceEqDiff, Nat.reduceAdd, ↓reduceIte, List.toList_toArray, List.map_cons, List.map_nil, List.getElem?_cons_zero, List.getElem?_cons_succ, Option.map_some, Option.map_none, Option.isSome_some, decide_true, decide_false, typesT, S_P, Try.f83, len_slice Try.underlying100]
  refine loop_of S _ _ (fun j g μ' => ∃ i : Nat, i + j = m ∧ But b μ μ' ∧ μ'.at b = some (.row (rowF .u8 N (fun x => if o ≤ x ∧ x < o + i then le n (x - o) else F x)) e true) ∧ g 0 = .slice (some ⟨b, o, none⟩) m c ∧ g 1 = .int .u64 n ∧ g 6 = .int .i64 m ∧ g 7 = .int .i64 i) m _ _ ⟨0, by omega, But.refl _ _, ?_, rfl, rfl, rfl, rfl⟩ ?_
  · rw [hb]
    congr 2
    exact rowF_congr fun x _ => (if_neg (by omega)).symm
  rintro j g μ' ⟨i, h3, h4, h5, g0, g1, g6, g7⟩
  by_cases hi : i < m
  · have e2 : ((i : Int) + 1) = ((i + 1 : Nat) : Int) := by omega
    have e3 : (8 * (i : Int)).toNat = 8 * i := by omega
    simp -implicitDefEqProofs -dsimp (disch := first | omega | (simp only [lens, List.length_set, List.length_cons, List.length_nil, List.length_append, List.length_replicate]; done) | (simp only [lens, List.length_set, List.length_cons, List.length_nil, List.length_append, List.length_replicate]; omega)) only [↓walkA, walkB, coreB, Nat.reduceEqDiff, Nat.reduceAdd, ↓reduceIte, List.toList_toArray, List.map_cons, List.map_nil, List.getElem?_cons_zero, List.getElem?_cons_succ, Option.map_some, Option.map_none, Option.isSome_some, decide_true, decide_false, Try.f83, typesT, S_P, g0, g1, g6, g7, h5, shr_u64, idx_slice _ el100, Int.toNat_natCast, Nat.mul_one, e3, wrap_u8_nat, rowF_set, e2]
    refine held ⟨j - 1, by omega, i + 1, by omega, h4.trans (But.set ..), ?_, g0, g1, g6, rfl⟩
    rw [at_setRow_same]
    congr 2
    refine rowF_congr fun x _ => ?_
    by_cases hx : x = o + i
    · rw [if_pos hx, if_pos (by omega), hx]
      unfold le
      rw [show o + i - o = i by omega]
    · rw [if_neg hx]
      by_cases hx2 : o ≤ x ∧ x < o + i
      · rw [if_pos hx2, if_pos (by omega)]
      · rw [if_neg hx2, if_neg (by omega)]
  · simp -implicitDefEqProofs -dsimp (disch := first | omega | (simp only [lens, List.length_set, List.length_cons, List.length_nil, List.length_append, List.length_replicate]; done) | (simp only [lens, List.length_set, List.length_cons, List.length_nil, List.length_append, List.length_replicate]; omega)) only [↓walkA, walkB, coreB, Nat.reduceEqDiff, Nat.reduceAdd, ↓reduceIte, List.toList_toArray, List.map_cons, List.map_nil, List.getElem?_cons_zero, List.getElem?_cons_succ, Option.map_some, Option.map_none, Option.isSome_some, decide_true, decide_false, Try.f83, typesT, S_P, g0, g1, g6, g7]
    have : i = m := by omega
    subst this
    exact ⟨h4, h5⟩
theorem bytes32_c {μ : Mem} {n : Nat} (hn : n < 4294967296) :
    Gets S 58 [.int .u32 n] μ fun v μ' => v = .agg (List.toArray (rowF .u8 4 (le n))) ∧ Keeps μ.next μ μ' ∧ μ'.next = μ.next + 2 := by
  refine Gets.enter (fn := Try.f58) Try.func58 rfl rfl rfl (Nat.le_of_ble_eq_true rfl) ?_
  simp -implicitDefEqProofs -dsimp (disch := first | omega | (simp only [lens, List.length_set, List.length_cons, List.length_nil, List.length_append, List.length_replicate]; done) | (simp only [lens, List.length_set, List.length_cons, List.length_nil, List.length_append, List.length_replicate]; omega)) only [↓walkA, walkB, coreB, Nat.reduceEqDiff, Nat.reduceAdd, ↓reduceIte, List.toList_toArray, List.map_cons, List.map_nil, List.getElem?_cons_zero, List.getElem?_cons_succ, Option.map_some, Option.map_none, Option.isSome_some, decide_true, decide_false, typesT, S_P, Try.f58, alloc_at zero109, rowF_zero, cut_arr 109 arr109]
  have h1 : ((μ.add (rowF .u8 4 fun _ => 0) 109).add (rowF .u8 4 fun _ => 0) 109).at (μ.next + 1) = some (.row (rowF .u8 4 fun _ => 0) 109 true) := at_add_same (μ.add (rowF .u8 4 fun _ => 0) 109) _ _
  have h2 : ((μ.add (rowF .u8 4 fun _ => 0) 109).add (rowF .u8 4 fun _ => 0) 109).at μ.next = some (.row (rowF .u8 4 fun _ => 0) 109 true) := by
    rw [at_add_ne _ _ _ (by rw [next_add]; omega)]
    exact at_add_same μ _ _
  refine (put_c (o := 0) (m := 4) (n := n) h1 (by omega) (by omega) (by omega)).mono ?_
  rintro v μ' ⟨rfl, h3, h4⟩
  have h5 := h3.2 μ.next (by omega)
  rw [h2] at h5
  simp -implicitDefEqProofs -dsimp (disch := first | omega | (simp only [lens, List.length_set, List.length_cons, List.length_nil, List.length_append, List.length_replicate]; done) | (simp only [lens, List.length_set, List.length_cons, List.length_nil, List.length_append, List.length_replicate]; omega)) only [↓walkA, walkB, coreB, Nat.reduceEqDiff, Nat.reduceAdd, ↓reduceIte, List.toList_toArray, List.map_cons, List.map_nil, List.getElem?_cons_zero, List.getElem?_cons_succ, Option.map_some, Option.map_none, Option.isSome_some, decide_true, decide_false, Try.f58, typesT, S_P, h4, h5, rowF_cells]
  refine ⟨?_, ?_, ?_⟩
  · refine congrArg (fun l => Value.agg (List.toArray l)) (rowF_congr fun x hx => ?_)
    rw [if_pos (by omega), Nat.sub_zero]
  · exact (((Keeps.refl _ _).add (Nat.le_refl _) _ _).add (by rw [next_add]; omega) _ _).trans ((h3.keeps (Nat.le_succ _)).set (Nat.le_refl _) _ _)
  · exact h3.1
end Go.Mini.Bits
