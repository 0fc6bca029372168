/-
  The law's own comparison of a map and a list of bits: it says yes where they are alike. No statement of the seat is proved here; no condition.
-/
import Derived.Test.YtlflocejgffjdaaB11
set_option linter.unusedSimpArgs false
namespace Go.Mini.Bits
open Go.Proofs

theorem runCells_get : ∀ (R : List (Nat × Nat)) (t : Nat) (h : t < R.length), (runCells R)[t * 2]? = some (.int .i64 ((R[t]).1 : Nat)) ∧ (runCells R)[t * 2 + 1]? = some (.int .i64 ((R[t]).2 : Nat))
  | [], t, h => absurd h (Nat.not_lt_zero t)
  | r :: R, 0, _ => ⟨rfl, rfl⟩
  | r :: R, t + 1, h => by
    have ih := runCells_get R t (by simpa using h)
    have e : runCells (r :: R) = .int .i64 (r.1 : Nat) :: .int .i64 (r.2 : Nat) :: runCells R := rfl
    rw [e, show (t + 1) * 2 = t * 2 + 1 + 1 by omega, show t * 2 + 1 + 1 + 1 = (t * 2 + 1) + 1 + 1 by omega]
    simp only [List.getElem?_cons_succ, List.getElem_cons_succ]
    exact ih
theorem runCells_fst (R : List (Nat × Nat)) (t : Nat) (h : t < R.length) : ∃ A : Nat, (runCells R)[t * 2]? = some (.int .i64 A) := ⟨_, (runCells_get R t h).1⟩
theorem runCells_snd (R : List (Nat × Nat)) (t : Nat) (h : t < R.length) : ∃ A : Nat, (runCells R)[t * 2 + 1]? = some (.int .i64 A) := ⟨_, (runCells_get R t h).2⟩
theorem says_c {μ : Mem} {p b c kb kc n : Nat} {k : List Bool} {own : Bool} (h : IsMap μ p b c k) (hb : μ.at kb = some (.row (bools k) 4 own)) (hn : n = k.length) (hlt : kb < μ.next) (x : Int) :
    Gets S 21 [.pointer (some ⟨p, 0, none⟩), .slice (some ⟨kb, 0, none⟩) n kc, .int .i64 x] μ fun v μ' => v = .bool true ∧ Keeps μ.next μ μ' := by
  subst hn
  have hl := h.le
  have hpos := h.pos
  refine Gets.enter (fn := Try.f21) Try.func21 rfl rfl rfl (Nat.le_of_ble_eq_true rfl) ?_
  simp -implicitDefEqProofs -dsimp (disch := first | omega | (simp only [lens, List.length_set, List.length_cons, List.length_nil, List.length_append, List.length_replicate]; done) | (simp only [lens, List.length_set, List.length_cons, List.length_nil, List.length_append, List.length_replicate]; omega)) only [↓walkA, walkB, coreB, Nat.reduceEqDiff, Nat.reduceAdd, ↓reduceIte, List.toList_toArray, List.map_cons, List.map_nil, List.getElem?_cons_zero, List.getElem?_cons_succ, Option.map_some, Option.map_none, Option.isSome_some, decide_true, decide_false, typesT, S_P, Try.f21, size_c h, count_c h, free_c h, next_c h, refcount_c hb rfl, refnext_c hb rfl, len_slice Try.underlying30, beq_int_true]
  refine loop_of S _ _ (fun j g μ' => ∃ i : Int, i + j = k.length + 1 ∧ -1 ≤ i ∧ μ' = μ ∧ g 0 = .pointer (some ⟨p, 0, none⟩) ∧ g 1 = .slice (some ⟨kb, 0, none⟩) k.length kc ∧ g 7 = .int .i64 i) (k.length + 2) _ _ ⟨-1, by omega, by omega, rfl, rfl, rfl, rfl⟩ ?_
  rintro j g μ' ⟨i, k1, k2, rfl, g0, g1, g7⟩
  by_cases hi : i ≤ k.length
  · by_cases hi2 : 0 ≤ i ∧ i < k.length
    · obtain ⟨q, rfl⟩ : ∃ q : Nat, i = q := ⟨i.toNat, by omega⟩
      have hq : q < k.length := by omega
      cases hv : k.getD q false with
      | true =>
        simp -implicitDefEqProofs -dsimp (disch := first | omega | (simp only [lens, List.length_set, List.length_cons, List.length_nil, List.length_append, List.length_replicate]; done) | (simp only [lens, List.length_set, List.length_cons, List.length_nil, List.length_append, List.length_replicate]; omega)) only [↓walkA, walkB, coreB, Nat.reduceEqDiff, Nat.reduceAdd, ↓reduceIte, List.toList_toArray, List.map_cons, List.map_nil, List.getElem?_cons_zero, List.getElem?_cons_succ, Option.map_some, Option.map_none, Option.isSome_some, decide_true, decide_false, Try.f21, typesT, S_P, g0, g1, g7, has_c h, hi2, hb, len_slice Try.underlying30, idx_slice _ el30, bools_get, Int.toNat_natCast, Nat.mul_one, hv, bin_neq_bool 4 _ _ Try.underlying4, BEq.rfl]
        exact held ⟨j - 1, by omega, (q : Int) + 1, by omega, by omega, rfl, g0, g1, rfl⟩
      | false =>
        simp -implicitDefEqProofs -dsimp (disch := first | omega | (simp only [lens, List.length_set, List.length_cons, List.length_nil, List.length_append, List.length_replicate]; done) | (simp only [lens, List.length_set, List.length_cons, List.length_nil, List.length_append, List.length_replicate]; omega)) only [↓walkA, walkB, coreB, Nat.reduceEqDiff, Nat.reduceAdd, ↓reduceIte, List.toList_toArray, List.map_cons, List.map_nil, List.getElem?_cons_zero, List.getElem?_cons_succ, Option.map_some, Option.map_none, Option.isSome_some, decide_true, decide_false, Try.f21, typesT, S_P, g0, g1, g7, has_c h, hi2, hb, len_slice Try.underlying30, idx_slice _ el30, bools_get, Int.toNat_natCast, Nat.mul_one, hv, bin_neq_bool 4 _ _ Try.underlying4, BEq.rfl]
        exact held ⟨j - 1, by omega, (q : Int) + 1, by omega, by omega, rfl, g0, g1, rfl⟩
    · by_cases hneg : 0 ≤ i
      · simp -implicitDefEqProofs -dsimp (disch := first | omega | (simp only [lens, List.length_set, List.length_cons, List.length_nil, List.length_append, List.length_replicate]; done) | (simp only [lens, List.length_set, List.length_cons, List.length_nil, List.length_append, List.length_replicate]; omega)) only [↓walkA, walkB, coreB, Nat.reduceEqDiff, Nat.reduceAdd, ↓reduceIte, List.toList_toArray, List.map_cons, List.map_nil, List.getElem?_cons_zero, List.getElem?_cons_succ, Option.map_some, Option.map_none, Option.isSome_some, decide_true, decide_false, Try.f21, typesT, S_P, g0, g1, g7, has_c h, hi2, len_slice Try.underlying30, bin_neq_bool 4 _ _ Try.underlying4, BEq.rfl]
        exact held ⟨j - 1, by omega, i + 1, by omega, by omega, rfl, g0, g1, rfl⟩
      · simp -implicitDefEqProofs -dsimp (disch := first | omega | (simp only [lens, List.length_set, List.length_cons, List.length_nil, List.length_append, List.length_replicate]; done) | (simp only [lens, List.length_set, List.length_cons, List.length_nil, List.length_append, List.length_replicate]; omega)) only [↓walkA, walkB, coreB, Nat.reduceEqDiff, Nat.reduceAdd, ↓reduceIte, List.toList_toArray, List.map_cons, List.map_nil, List.getElem?_cons_zero, List.getElem?_cons_succ, Option.map_some, Option.map_none, Option.isSome_some, decide_true, decide_false, Try.f21, typesT, S_P, g0, g1, g7, has_c h, hi2, len_slice Try.underlying30, bin_neq_bool 4 _ _ Try.underlying4, BEq.rfl]
        exact held ⟨j - 1, by omega, i + 1, by omega, by omega, rfl, g0, g1, rfl⟩
  · simp -implicitDefEqProofs -dsimp (disch := first | omega | (simp only [lens, List.length_set, List.length_cons, List.length_nil, List.length_append, List.length_replicate]; done) | (simp only [lens, List.length_set, List.length_cons, List.length_nil, List.length_append, List.length_replicate]; omega)) only [↓walkA, walkB, coreB, Nat.reduceEqDiff, Nat.reduceAdd, ↓reduceIte, List.toList_toArray, List.map_cons, List.map_nil, List.getElem?_cons_zero, List.getElem?_cons_succ, Option.map_some, Option.map_none, Option.isSome_some, decide_true, decide_false, Try.f21, typesT, S_P, g0, g1, g7, len_slice Try.underlying30]
    refine (runs_c h).mono ?_
    rintro v1 μ1 ⟨h1, h2⟩
    have hb1 : μ1.at kb = some (.row (bools k) 4 own) := (h2.2 kb hlt).trans hb
    have h21 := h2.1
    simp -implicitDefEqProofs -dsimp (disch := first | omega | (simp only [lens, List.length_set, List.length_cons, List.length_nil, List.length_append, List.length_replicate]; done) | (simp only [lens, List.length_set, List.length_cons, List.length_nil, List.length_append, List.length_replicate]; omega)) only [↓walkA, walkB, coreB, Nat.reduceEqDiff, Nat.reduceAdd, ↓reduceIte, List.toList_toArray, List.map_cons, List.map_nil, List.getElem?_cons_zero, List.getElem?_cons_succ, Option.map_some, Option.map_none, Option.isSome_some, decide_true, decide_false, Try.f21, typesT, S_P, g0, g1, g7]
    refine (refruns_c hb1 rfl (by omega) (by omega)).mono ?_
    rintro v2 μ2 ⟨h3, h4⟩
    have h1' := h1.keeps h4
    have h41 := h4.1
    have hK : Keeps μ'.next μ' μ2 := h2.trans (h4.le h21)
    have hlen1 := fun ty m => len_runs h1' Try.underlying74 ty m
    have hlen2 := fun ty m => len_runs h3 Try.underlying117 ty m
    obtain ⟨R, hR⟩ : ∃ R, runsU k k.length = R := ⟨_, rfl⟩
    have hRl := runsU_length k k.length
    rw [hR] at h1' h3 hlen1 hlen2 hRl
    have hRc := runCells_length R
    simp -implicitDefEqProofs -dsimp (disch := first | omega | (simp only [lens, List.length_set, List.length_cons, List.length_nil, List.length_append, List.length_replicate]; done) | (simp only [lens, List.length_set, List.length_cons, List.length_nil, List.length_append, List.length_replicate]; omega)) only [↓walkA, walkB, coreB, Nat.reduceEqDiff, Nat.reduceAdd, ↓reduceIte, List.toList_toArray, List.map_cons, List.map_nil, List.getElem?_cons_zero, List.getElem?_cons_succ, Option.map_some, Option.map_none, Option.isSome_some, decide_true, decide_false, Try.f21, typesT, S_P, hlen1, hlen2, beq_int_true]
    refine loop_of S _ _ (fun j g μ3 => ∃ t : Nat, t + j = R.length ∧ μ3 = μ2 ∧ g 8 = v1 ∧ g 9 = v2 ∧ g 10 = .int .i64 t) R.length _ _ ⟨0, by omega, rfl, rfl, rfl, rfl⟩ ?_
    rintro j2 g μ3 ⟨t, t1, rfl, g8, g9, g10⟩
    by_cases ht : t < R.length
    · have e2 : ((t : Int) + 1) = ((t + 1 : Nat) : Int) := by omega
      have hne : runCells R ≠ [] := fun e => by have := congrArg List.length e; rw [hRc, List.length_nil] at this; omega
      obtain ⟨m1, L1, rfl, q1, q2, q3, q4, q5⟩ := Grows.some_of h1' hne
      obtain ⟨m2, L2, rfl, s1, s2, s3, s4, s5⟩ := Grows.some_of h3 hne
      obtain rfl : L1 = R.length := by omega
      obtain rfl : L2 = R.length := by omega
      obtain ⟨A, hA⟩ : ∃ A : Nat, (runCells R)[t * 2]? = some (.int .i64 A) := runCells_fst R t ht
      obtain ⟨B, hB⟩ : ∃ B : Nat, (runCells R)[t * 2 + 1]? = some (.int .i64 B) := runCells_snd R t ht
      simp -implicitDefEqProofs -dsimp (disch := first | omega | (simp only [lens, List.length_set, List.length_cons, List.length_nil, List.length_append, List.length_replicate]; done) | (simp only [lens, List.length_set, List.length_cons, List.length_nil, List.length_append, List.length_replicate]; omega)) only [↓walkA, walkB, coreB, Nat.reduceEqDiff, Nat.reduceAdd, ↓reduceIte, List.toList_toArray, List.map_cons, List.map_nil, List.getElem?_cons_zero, List.getElem?_cons_succ, Option.map_some, Option.map_none, Option.isSome_some, decide_true, decide_false, Try.f21, typesT, S_P, g8, g9, g10, hlen1, hlen2, q3, s3, idx_slice _ el74, idx_slice _ el117, Int.toNat_natCast, hA, hB, beq_int_true, e2]
      exact held ⟨j2 - 1, by omega, t + 1, by omega, rfl, g8, g9, rfl⟩
    · simp -implicitDefEqProofs -dsimp (disch := first | omega | (simp only [lens, List.length_set, List.length_cons, List.length_nil, List.length_append, List.length_replicate]; done) | (simp only [lens, List.length_set, List.length_cons, List.length_nil, List.length_append, List.length_replicate]; omega)) only [↓walkA, walkB, coreB, Nat.reduceEqDiff, Nat.reduceAdd, ↓reduceIte, List.toList_toArray, List.map_cons, List.map_nil, List.getElem?_cons_zero, List.getElem?_cons_succ, Option.map_some, Option.map_none, Option.isSome_some, decide_true, decide_false, Try.f21, typesT, S_P, g8, g9, g10, hlen1, hlen2]
      exact hK
end Go.Mini.Bits
