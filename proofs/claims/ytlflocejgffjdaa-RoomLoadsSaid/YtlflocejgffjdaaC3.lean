/-
  What room.Leaves, room.Load and the law RoomLoads come to. No statement of the seat is proved here; no condition.
-/
import Derived.Test.YtlflocejgffjdaaC2
set_option linter.unusedSimpArgs false
namespace Go.Mini.Bits
open Go.Proofs

/-- the same blocks? -/
theorem blocksEq_c {μ : Mem} {b1 b2 c1 c2 n1 n2 : Nat} {F G : Nat → Nat} {e1 e2 : TypeId} {o1 o2 : Bool} (h1 : μ.at b1 = some (.row (rowF .u8 (256 * n1) F) e1 o1)) (h2 : μ.at b2 = some (.row (rowF .u8 (256 * n2) G) e2 o2)) (hm : n1 ≤ 1000000) (Q : Value → Mem → Prop) :
    Gets S 29 [.slice (some ⟨b1, 0, none⟩) n1 c1, .slice (some ⟨b2, 0, none⟩) n2 c2] μ Q = Q (.bool (decide (n1 = n2) && eqF (256 * n1) F G)) μ := by
  refine propext (Gets.iff ?_ Q)
  refine Gets.enter (fn := Try.f29) Try.func29 rfl rfl rfl (Nat.le_of_ble_eq_true rfl) ?_
  by_cases hl : n1 = n2
  · subst hl
    simp -implicitDefEqProofs -dsimp (disch := first | omega | (simp only [lens, List.length_set, List.length_cons, List.length_nil, List.length_append, List.length_replicate]; done) | (simp only [lens, List.length_set, List.length_cons, List.length_nil, List.length_append, List.length_replicate]; omega)) only [↓walkA, walkB, coreB, Nat.reduceEqDiff, Nat.reduceAdd, Int.reduceBEq, ↓reduceIte, List.toList_toArray, List.map_cons, List.map_nil, List.getElem?_cons_zero, List.getElem?_cons_succ, Option.map_some, Option.map_none, Option.isSome_some, decide_true, decide_false, typesT, S_P, Try.f29, len_slice Try.underlying33, beq_int_true]
    refine loop_of S _ _ (fun j g μ' => ∃ i : Nat, i + j = n1 ∧ μ' = μ ∧ (∀ m, m < 256 * i → F m = G m) ∧ g 0 = .slice (some ⟨b1, 0, none⟩) n1 c1 ∧ g 1 = .slice (some ⟨b2, 0, none⟩) n1 c2 ∧ g 12 = .int .i64 n1 ∧ g 13 = .int .i64 i) n1 _ _ ⟨0, by omega, rfl, fun m hm => by omega, rfl, rfl, rfl, rfl⟩ ?_
    rintro j g μ' ⟨i, h3, rfl, h4, g0, g1, g12, g13⟩
    by_cases hi : i < n1
    · have e2 : ((i : Int) + 1) = ((i + 1 : Nat) : Int) := by omega
      by_cases hxy : ∀ x, x < 256 → F (i * 256 + x) = G (i * 256 + x)
      · have hd : eqF 256 (fun x => F (i * 256 + x)) (fun x => G (i * 256 + x)) = true := eqF_true hxy
        simp -implicitDefEqProofs -dsimp (disch := first | omega | (simp only [lens, List.length_set, List.length_cons, List.length_nil, List.length_append, List.length_replicate]; done) | (simp only [lens, List.length_set, List.length_cons, List.length_nil, List.length_append, List.length_replicate]; omega)) only [↓walkA, walkB, coreB, Nat.reduceEqDiff, Nat.reduceAdd, Int.reduceBEq, ↓reduceIte, List.toList_toArray, List.map_cons, List.map_nil, List.getElem?_cons_zero, List.getElem?_cons_succ, Option.map_some, Option.map_none, Option.isSome_some, decide_true, decide_false, Try.f29, typesT, S_P, g0, g1, g12, g13, h1, h2, idx_slice _ el33, rowF_cells, Int.toNat_natCast, neq38, hd, e2]
        refine held ⟨j - 1, by omega, i + 1, by omega, rfl, fun m hm => ?_, g0, g1, g12, rfl⟩
        by_cases e : m < 256 * i
        · exact h4 m e
        · have := hxy (m - 256 * i) (by omega)
          rw [show i * 256 + (m - 256 * i) = m by omega] at this
          exact this
      · have hd : eqF 256 (fun x => F (i * 256 + x)) (fun x => G (i * 256 + x)) = false := eqF_false hxy
        simp -implicitDefEqProofs -dsimp (disch := first | omega | (simp only [lens, List.length_set, List.length_cons, List.length_nil, List.length_append, List.length_replicate]; done) | (simp only [lens, List.length_set, List.length_cons, List.length_nil, List.length_append, List.length_replicate]; omega)) only [↓walkA, walkB, coreB, Nat.reduceEqDiff, Nat.reduceAdd, Int.reduceBEq, ↓reduceIte, List.toList_toArray, List.map_cons, List.map_nil, List.getElem?_cons_zero, List.getElem?_cons_succ, Option.map_some, Option.map_none, Option.isSome_some, decide_true, decide_false, Try.f29, typesT, S_P, g0, g1, g12, g13, h1, h2, idx_slice _ el33, rowF_cells, Int.toNat_natCast, neq38, hd]
        have : ¬ ∀ x, x < 256 * n1 → F x = G x := fun h => hxy fun x hx => h _ (by omega)
        rw [eqF_false this]
    · simp -implicitDefEqProofs -dsimp (disch := first | omega | (simp only [lens, List.length_set, List.length_cons, List.length_nil, List.length_append, List.length_replicate]; done) | (simp only [lens, List.length_set, List.length_cons, List.length_nil, List.length_append, List.length_replicate]; omega)) only [↓walkA, walkB, coreB, Nat.reduceEqDiff, Nat.reduceAdd, Int.reduceBEq, ↓reduceIte, List.toList_toArray, List.map_cons, List.map_nil, List.getElem?_cons_zero, List.getElem?_cons_succ, Option.map_some, Option.map_none, Option.isSome_some, decide_true, decide_false, Try.f29, typesT, S_P, g0, g1, g12, g13]
      have : ∀ x, x < 256 * n1 → F x = G x := fun x hx => h4 x (by omega)
      rw [eqF_true this]
  · have hne : (n1 : Int) ≠ (n2 : Int) := by omega
    simp -implicitDefEqProofs -dsimp (disch := first | omega | (simp only [lens, List.length_set, List.length_cons, List.length_nil, List.length_append, List.length_replicate]; done) | (simp only [lens, List.length_set, List.length_cons, List.length_nil, List.length_append, List.length_replicate]; omega)) only [↓walkA, walkB, coreB, Nat.reduceEqDiff, Nat.reduceAdd, Int.reduceBEq, ↓reduceIte, List.toList_toArray, List.map_cons, List.map_nil, List.getElem?_cons_zero, List.getElem?_cons_succ, Option.map_some, Option.map_none, Option.isSome_some, decide_true, decide_false, typesT, S_P, Try.f29, len_slice Try.underlying33, beq_int_false, hl]

/-! ### Leaves -/
/-- is it in use behind a swing? -/
def inUse (F : Nat → Nat) (x : Nat) : Bool := F x == 2 || F x == 3
/-- the bits of what is in use, up to i -/
def useBits (F : Nat → Nat) (n i : Nat) : List Bool := (List.range n).map fun x => decide (x < i) && inUse F x
theorem useBits_length (F : Nat → Nat) (n i : Nat) : (useBits F n i).length = n := by simp [useBits]
theorem useBits_get (F : Nat → Nat) (n i x : Nat) (hx : x < n) : (useBits F n i).getD x false = (decide (x < i) && inUse F x) := by
  rw [List.getD_eq_getElem?_getD, List.getElem?_eq_getElem (by rw [useBits_length]; exact hx)]
  simp [useBits]
theorem useBits_zero (F : Nat → Nat) (n : Nat) : useBits F n 0 = List.replicate n false := by
  apply List.ext_getElem
  · simp [useBits]
  · intro x h1 h2
    simp [useBits]
theorem useBits_next (F : Nat → Nat) (n i : Nat) (hi : i < n) : useBits F n (i + 1) = if inUse F i = true then (useBits F n i).set i true else useBits F n i := by
  split
  · rename_i h
    apply List.ext_getElem
    · simp [useBits]
    · intro x h1 h2
      rw [List.getElem_set]
      simp only [useBits, List.getElem_map, List.getElem_range]
      split
      · rename_i e
        subst e
        simp [h]
      · rename_i e
        rw [show decide (x < i + 1) = decide (x < i) from by apply decide_eq_decide.2; omega]
  · rename_i h
    apply List.ext_getElem
    · simp [useBits]
    · intro x h1 h2
      simp only [useBits, List.getElem_map, List.getElem_range]
      by_cases e : x = i
      · subst e
        simp [h]
      · rw [show decide (x < i + 1) = decide (x < i) from by apply decide_eq_decide.2; omega]
theorem inUse_int (F : Nat → Nat) (x : Nat) : ((((F x : Nat) : Int) == 2) || (((F x : Nat) : Int) == 3)) = inUse F x := by
  unfold inUse
  congr 1
  · rw [Bool.eq_iff_iff]; simp; omega
  · rw [Bool.eq_iff_iff]; simp; omega
section
variable {μ : Mem} {p b c n : Nat} {F : Nat → Nat} (h : IsRoom μ p b c n F)
include h
theorem roomLeaves_c : Gets S 30 [.pointer (some ⟨p, 0, none⟩)] μ fun v μ' => Keeps μ.next μ μ' ∧ ∃ q, v = .slice (some ⟨q, 0, none⟩) (nLeaves n) (nLeaves n) ∧ μ'.at q = some (.row (rowF .u8 (256 * nLeaves n) (leavesF (useBits F n n))) 38 true) ∧ μ.next ≤ q ∧ q < μ'.next := by
  have h0 := h.st
  have hl := h.le
  have hg := h.ge
  have hn : (1 : Int) ≤ n ∧ (n : Int) ≤ 8192 := by omega
  refine Gets.enter (fn := Try.f30) Try.func30 rfl rfl rfl (Nat.le_of_ble_eq_true rfl) ?_
  obtain ⟨μ1, hμ1⟩ : ∃ μ1, newMap μ (List.replicate n false) = μ1 := ⟨_, rfl⟩
  have hM := newMap_is μ (List.replicate n false) (by simp; omega) (by simp; omega)
  have hk1 := newMap_keeps μ (List.replicate n false)
  rw [hμ1] at hM hk1
  simp only [List.length_replicate] at hM
  have h01 := (hk1.2 p h.lp).trans h0
  simp -implicitDefEqProofs -dsimp (disch := first | omega | (simp only [lens, List.length_set, List.length_cons, List.length_nil, List.length_append, List.length_replicate]; done) | (simp only [lens, List.length_set, List.length_cons, List.length_nil, List.length_append, List.length_replicate]; omega)) only [↓walkA, walkB, coreB, Nat.reduceEqDiff, Nat.reduceAdd, Int.reduceBEq, ↓reduceIte, List.toList_toArray, List.map_cons, List.map_nil, List.getElem?_cons_zero, List.getElem?_cons_succ, Option.map_some, Option.map_none, Option.isSome_some, decide_true, decide_false, typesT, S_P, Try.f30, h0, bin_eql_pnil _ _ _ Try.underlying47, len_slice Try.underlying62, new_c, hn, Int.toNat_natCast, hμ1, h01]
  refine loop_of S _ _ (fun j g μ2 => ∃ i : Nat, i + j = n ∧ Keeps μ.next μ μ2 ∧ IsMap μ2 (μ.next + 1) μ.next ((n + 7) / 8) (useBits F n i) ∧ g 3 = .pointer (some ⟨μ.next + 1, 0, none⟩) ∧ g 21 = .slice (some ⟨b, 0, none⟩) n c ∧ g 22 = .int .i64 n ∧ g 23 = .int .i64 i) n _ _ ⟨0, by omega, hk1, by rw [useBits_zero]; exact hM, rfl, rfl, rfl, rfl⟩ ?_
  rintro j g μ2 ⟨i, q1, q2, q3, g3, g21, g22, g23⟩
  have hb := (h.keeps q2).by_
  by_cases hi : i < n
  · have e2 : ((i : Int) + 1) = ((i + 1 : Nat) : Int) := by omega
    have hu := inUse_int F i
    have hnx := useBits_next F n i hi
    cases hiu : inUse F i with
    | true =>
      rw [hiu] at hu hnx
      rw [if_pos rfl] at hnx
      have hcond : ((0 : Int) ≤ (i : Int) ∧ (i : Int) < ((useBits F n i).length : Nat)) ∧ (useBits F n i).getD (i : Int).toNat false = false := by
        rw [useBits_length, Int.toNat_natCast, useBits_get _ _ _ _ hi]
        exact ⟨by omega, by simp⟩
      have hset := fun Q => (set_c q3 (i : Int) Q).trans (if_pos hcond)
      have hput := q3.put (k' := (useBits F n i).set i true) (by simp)
      simp only [Int.toNat_natCast] at hset
      by_cases h2 : F i = 2
      · have hb2 : (((F i : Nat) : Int) == 2) = true := by rw [h2]; rfl
        simp -implicitDefEqProofs -dsimp (disch := first | omega | (simp only [lens, List.length_set, List.length_cons, List.length_nil, List.length_append, List.length_replicate]; done) | (simp only [lens, List.length_set, List.length_cons, List.length_nil, List.length_append, List.length_replicate]; omega)) only [↓walkA, walkB, coreB, Nat.reduceEqDiff, Nat.reduceAdd, Int.reduceBEq, ↓reduceIte, List.toList_toArray, List.map_cons, List.map_nil, List.getElem?_cons_zero, List.getElem?_cons_succ, Option.map_some, Option.map_none, Option.isSome_some, decide_true, decide_false, Try.f30, typesT, S_P, g3, g21, g22, g23, hb, idx_slice _ el62, Int.toNat_natCast, Nat.mul_one, rowF_get, hb2, hset, e2]
        refine held ⟨j - 1, by omega, i + 1, by omega, q2.set (Nat.le_refl _) _ _, ?_, g3, g21, g22, rfl⟩
        rw [hnx]
        exact hput
      · have hb2 : (((F i : Nat) : Int) == 2) = false := by rw [beq_eq_false_iff_ne]; omega
        have hb3 : (((F i : Nat) : Int) == 3) = true := by rw [hb2] at hu; simpa using hu
        simp -implicitDefEqProofs -dsimp (disch := first | omega | (simp only [lens, List.length_set, List.length_cons, List.length_nil, List.length_append, List.length_replicate]; done) | (simp only [lens, List.length_set, List.length_cons, List.length_nil, List.length_append, List.length_replicate]; omega)) only [↓walkA, walkB, coreB, Nat.reduceEqDiff, Nat.reduceAdd, Int.reduceBEq, ↓reduceIte, List.toList_toArray, List.map_cons, List.map_nil, List.getElem?_cons_zero, List.getElem?_cons_succ, Option.map_some, Option.map_none, Option.isSome_some, decide_true, decide_false, Try.f30, typesT, S_P, g3, g21, g22, g23, hb, idx_slice _ el62, Int.toNat_natCast, Nat.mul_one, rowF_get, hb2, hb3, hset, e2]
        refine held ⟨j - 1, by omega, i + 1, by omega, q2.set (Nat.le_refl _) _ _, ?_, g3, g21, g22, rfl⟩
        rw [hnx]
        exact hput
    | false =>
      rw [hiu] at hu hnx
      rw [if_neg (by decide)] at hnx
      rw [Bool.or_eq_false_iff] at hu
      simp -implicitDefEqProofs -dsimp (disch := first | omega | (simp only [lens, List.length_set, List.length_cons, List.length_nil, List.length_append, List.length_replicate]; done) | (simp only [lens, List.length_set, List.length_cons, List.length_nil, List.length_append, List.length_replicate]; omega)) only [↓walkA, walkB, coreB, Nat.reduceEqDiff, Nat.reduceAdd, Int.reduceBEq, ↓reduceIte, List.toList_toArray, List.map_cons, List.map_nil, List.getElem?_cons_zero, List.getElem?_cons_succ, Option.map_some, Option.map_none, Option.isSome_some, decide_true, decide_false, Try.f30, typesT, S_P, g3, g21, g22, g23, hb, idx_slice _ el62, Int.toNat_natCast, Nat.mul_one, rowF_get, hu.1, hu.2, e2]
      refine held ⟨j - 1, by omega, i + 1, by omega, q2, ?_, g3, g21, g22, rfl⟩
      rw [hnx]
      exact q3
  · have : i = n := by omega
    subst this
    simp -implicitDefEqProofs -dsimp (disch := first | omega | (simp only [lens, List.length_set, List.length_cons, List.length_nil, List.length_append, List.length_replicate]; done) | (simp only [lens, List.length_set, List.length_cons, List.length_nil, List.length_append, List.length_replicate]; omega)) only [↓walkA, walkB, coreB, Nat.reduceEqDiff, Nat.reduceAdd, Int.reduceBEq, ↓reduceIte, List.toList_toArray, List.map_cons, List.map_nil, List.getElem?_cons_zero, List.getElem?_cons_succ, Option.map_some, Option.map_none, Option.isSome_some, decide_true, decide_false, Try.f30, typesT, S_P, g3, g21, g22, g23]
    refine (leavesOf_c q3).mono ?_
    rintro v μ3 ⟨rfl, t1, t2, t3⟩
    rw [useBits_length] at t1 ⊢
    have hkn := q2.1
    simp -implicitDefEqProofs -dsimp (disch := first | omega | (simp only [lens, List.length_set, List.length_cons, List.length_nil, List.length_append, List.length_replicate]; done) | (simp only [lens, List.length_set, List.length_cons, List.length_nil, List.length_append, List.length_replicate]; omega)) only [↓walkA, walkB, coreB, Nat.reduceEqDiff, Nat.reduceAdd, Int.reduceBEq, ↓reduceIte, List.toList_toArray, List.map_cons, List.map_nil, List.getElem?_cons_zero, List.getElem?_cons_succ, Option.map_some, Option.map_none, Option.isSome_some, decide_true, decide_false, Try.f30, typesT, S_P]
    exact ⟨q2.trans (t3.le hkn), _, rfl, t1, hkn, t2⟩
end
end Go.Mini.Bits
