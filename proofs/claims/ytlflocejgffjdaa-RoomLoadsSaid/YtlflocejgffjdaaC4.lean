/-
  What room.Load and the law RoomLoads come to. No statement of the seat is proved here; no condition.
-/
import Derived.Test.YtlflocejgffjdaaC3
set_option linter.unusedSimpArgs false
namespace Go.Mini.Bits
open Go.Proofs

theorem load_bad {n : Int} (hn : ¬ (16 ≤ n ∧ n ≤ 8192)) (v : Value) (μ : Mem) (Q : Value → Mem → Prop) : Gets S 23 [.int .i64 n, v] μ Q = Q (.tuple #[.pointer none, .int .i64 120]) μ := by
  refine propext (Gets.iff ?_ Q)
  refine Gets.enter (fn := Try.f23) Try.func23 rfl rfl rfl (Nat.le_of_ble_eq_true rfl) ?_
  simp -implicitDefEqProofs -dsimp (disch := first | omega | (simp only [lens, List.length_set, List.length_cons, List.length_nil, List.length_append, List.length_replicate]; done) | (simp only [lens, List.length_set, List.length_cons, List.length_nil, List.length_append, List.length_replicate]; omega)) only [↓walkA, walkB, coreB, Nat.reduceEqDiff, Nat.reduceAdd, Int.reduceBEq, ↓reduceIte, List.toList_toArray, List.map_cons, List.map_nil, List.getElem?_cons_zero, List.getElem?_cons_succ, Option.map_some, Option.map_none, Option.isSome_some, decide_true, decide_false, typesT, S_P, Try.f23, empty_bad hn]
theorem load_len {n : Nat} (h1 : 16 ≤ n) (h2 : n ≤ 8192) {v : Value} {ln : Nat} (hv : ∀ ty μ, lenV Try.prog 33 ty v μ = some (.int .i64 ln)) (hne : ln ≠ nLeaves n) (μ : Mem) : Gets S 23 [.int .i64 n, v] μ fun r μ' => Keeps μ.next μ μ' ∧ r = .tuple #[.pointer none, .int .i64 122] := by
  refine Gets.enter (fn := Try.f23) Try.func23 rfl rfl rfl (Nat.le_of_ble_eq_true rfl) ?_
  simp -implicitDefEqProofs -dsimp (disch := first | omega | (simp only [lens, List.length_set, List.length_cons, List.length_nil, List.length_append, List.length_replicate]; done) | (simp only [lens, List.length_set, List.length_cons, List.length_nil, List.length_append, List.length_replicate]; omega)) only [↓walkA, walkB, coreB, Nat.reduceEqDiff, Nat.reduceAdd, Int.reduceBEq, ↓reduceIte, List.toList_toArray, List.map_cons, List.map_nil, List.getElem?_cons_zero, List.getElem?_cons_succ, Option.map_some, Option.map_none, Option.isSome_some, decide_true, decide_false, typesT, S_P, Try.f23]
  refine (empty_c h1 h2 μ).mono ?_
  rintro r μ1 ⟨rfl, k1, k2, k3⟩
  simp -implicitDefEqProofs -dsimp (disch := first | omega | (simp only [lens, List.length_set, List.length_cons, List.length_nil, List.length_append, List.length_replicate]; done) | (simp only [lens, List.length_set, List.length_cons, List.length_nil, List.length_append, List.length_replicate]; omega)) only [↓walkA, walkB, coreB, Nat.reduceEqDiff, Nat.reduceAdd, Int.reduceBEq, ↓reduceIte, List.toList_toArray, List.map_cons, List.map_nil, List.getElem?_cons_zero, List.getElem?_cons_succ, Option.map_some, Option.map_none, Option.isSome_some, decide_true, decide_false, Try.f23, typesT, S_P]
  refine (fromLeaves_len (by omega) h2 hv hne μ1).mono ?_
  rintro r μ2 ⟨rfl, q⟩
  simp -implicitDefEqProofs -dsimp (disch := first | omega | (simp only [lens, List.length_set, List.length_cons, List.length_nil, List.length_append, List.length_replicate]; done) | (simp only [lens, List.length_set, List.length_cons, List.length_nil, List.length_append, List.length_replicate]; omega)) only [↓walkA, walkB, coreB, Nat.reduceEqDiff, Nat.reduceAdd, Int.reduceBEq, ↓reduceIte, List.toList_toArray, List.map_cons, List.map_nil, List.getElem?_cons_zero, List.getElem?_cons_succ, Option.map_some, Option.map_none, Option.isSome_some, decide_true, decide_false, Try.f23, typesT, S_P]
  exact k2.trans (q.le (by omega))
/-- the states of a room out of a map -/
def loadF (k : List Bool) (i x : Nat) : Nat := if x < i ∧ k.getD x false = true then 2 else freshF x
theorem loadF_zero (k : List Bool) : loadF k 0 = freshF := by
  funext x
  simp [loadF]
theorem load_c {n : Nat} (h1 : 16 ≤ n) (h2 : n ≤ 8192) {μ : Mem} {b c : Nat} {F : Nat → Nat} {e : TypeId} {own : Bool} (hb : μ.at b = some (.row (rowF .u8 (256 * nLeaves n) F) e own)) (hlt : b < μ.next) (hF : ∀ x, x < 256 * nLeaves n → F x < 256) :
    Gets S 23 [.int .i64 n, .slice (some ⟨b, 0, none⟩) (nLeaves n) c] μ fun r μ' => Keeps μ.next μ μ' ∧ if eqF (256 * nLeaves n) (leavesF (bitsOf (leafB F) n)) F = true ∧ (bitsOf (leafB F) n).getD 0 false = false then r = .tuple #[.pointer (some ⟨μ.next + 1, 0, none⟩), .int .i64 0] ∧ IsRoom μ' (μ.next + 1) μ.next n n (loadF (bitsOf (leafB F) n) n) else r = .tuple #[.pointer none, .int .i64 122] := by
  refine Gets.enter (fn := Try.f23) Try.func23 rfl rfl rfl (Nat.le_of_ble_eq_true rfl) ?_
  simp -implicitDefEqProofs -dsimp (disch := first | omega | (simp only [lens, List.length_set, List.length_cons, List.length_nil, List.length_append, List.length_replicate]; done) | (simp only [lens, List.length_set, List.length_cons, List.length_nil, List.length_append, List.length_replicate]; omega)) only [↓walkA, walkB, coreB, Nat.reduceEqDiff, Nat.reduceAdd, Int.reduceBEq, ↓reduceIte, List.toList_toArray, List.map_cons, List.map_nil, List.getElem?_cons_zero, List.getElem?_cons_succ, Option.map_some, Option.map_none, Option.isSome_some, decide_true, decide_false, typesT, S_P, Try.f23]
  refine (empty_c h1 h2 μ).mono ?_
  rintro r μ1 ⟨rfl, k1, k2, k3⟩
  have hb1 := (k2.2 b hlt).trans hb
  simp -implicitDefEqProofs -dsimp (disch := first | omega | (simp only [lens, List.length_set, List.length_cons, List.length_nil, List.length_append, List.length_replicate]; done) | (simp only [lens, List.length_set, List.length_cons, List.length_nil, List.length_append, List.length_replicate]; omega)) only [↓walkA, walkB, coreB, Nat.reduceEqDiff, Nat.reduceAdd, Int.reduceBEq, ↓reduceIte, List.toList_toArray, List.map_cons, List.map_nil, List.getElem?_cons_zero, List.getElem?_cons_succ, Option.map_some, Option.map_none, Option.isSome_some, decide_true, decide_false, Try.f23, typesT, S_P]
  refine (fromLeaves_c (by omega) h2 (c := c) hb1 (by omega) hF).mono ?_
  obtain ⟨k, hk⟩ : ∃ k, bitsOf (leafB F) n = k := ⟨_, rfl⟩
  have hkn : k.length = n := by rw [← hk, bitsOf_length]
  rw [hk]
  rintro r μ2 ⟨q1, q2⟩
  have hk12 : Keeps μ.next μ μ2 := k2.trans (q1.le (by omega))
  by_cases he : eqF (256 * nLeaves n) (leavesF k) F = true
  · rw [if_pos he] at q2
    obtain ⟨rfl, hM⟩ := q2
    have hh := fun Q => has_c hM 0 Q
    have hz : (decide ((0 : Int) ≤ 0 ∧ (0 : Int) < (k.length : Nat))) = true := by
      rw [hkn]; apply decide_eq_true; omega
    have hR := k1.keeps q1
    simp only [hz, Bool.true_and, show (0 : Int).toNat = 0 from rfl] at hh
    cases h0 : k.getD 0 false with
    | true =>
      rw [h0] at hh
      simp -implicitDefEqProofs -dsimp (disch := first | omega | (simp only [lens, List.length_set, List.length_cons, List.length_nil, List.length_append, List.length_replicate]; done) | (simp only [lens, List.length_set, List.length_cons, List.length_nil, List.length_append, List.length_replicate]; omega)) only [↓walkA, walkB, coreB, Nat.reduceEqDiff, Nat.reduceAdd, Int.reduceBEq, ↓reduceIte, List.toList_toArray, List.map_cons, List.map_nil, List.getElem?_cons_zero, List.getElem?_cons_succ, Option.map_some, Option.map_none, Option.isSome_some, decide_true, decide_false, Try.f23, typesT, S_P, hh]
      rw [if_neg (fun h => by cases h.2)]
      exact ⟨hk12, trivial⟩
    | false =>
      rw [h0] at hh
      have b1 := hR.st
      simp -implicitDefEqProofs -dsimp (disch := first | omega | (simp only [lens, List.length_set, List.length_cons, List.length_nil, List.length_append, List.length_replicate]; done) | (simp only [lens, List.length_set, List.length_cons, List.length_nil, List.length_append, List.length_replicate]; omega)) only [↓walkA, walkB, coreB, Nat.reduceEqDiff, Nat.reduceAdd, Int.reduceBEq, ↓reduceIte, List.toList_toArray, List.map_cons, List.map_nil, List.getElem?_cons_zero, List.getElem?_cons_succ, Option.map_some, Option.map_none, Option.isSome_some, decide_true, decide_false, Try.f23, typesT, S_P, hh, b1, len_slice Try.underlying62]
      refine loop_of S _ _ (fun j g μ3 => ∃ i : Nat, i + j = n ∧ But μ.next μ2 μ3 ∧ IsRoom μ3 (μ.next + 1) μ.next n n (loadF k i) ∧ g 6 = .pointer (some ⟨μ.next + 1, 0, none⟩) ∧ g 8 = .pointer (some ⟨μ1.next + 1, 0, none⟩) ∧ g 34 = .int .i64 n ∧ g 35 = .int .i64 i) n _ _ ⟨0, by omega, But.refl _ _, by rw [loadF_zero]; exact hR, rfl, rfl, rfl, rfl⟩ ?_
      rintro j g μ3 ⟨i, r1, r2, r3, g6, g8, g34, g35⟩
      have hM3 : IsMap μ3 (μ1.next + 1) μ1.next ((n + 7) / 8) k := hM.frame (r2.2 _ (by omega)) (r2.2 _ (by omega)) (by rw [r2.1]; exact Nat.le_refl _)
      by_cases hi : i < n
      · have e2 : ((i : Int) + 1) = ((i + 1 : Nat) : Int) := by omega
        have hhi := fun Q => has_c hM3 (i : Int) Q
        have hzi : (decide ((0 : Int) ≤ (i : Int) ∧ (i : Int) < (k.length : Nat))) = true := by
          rw [hkn]; apply decide_eq_true; omega
        simp only [hzi, Bool.true_and, Int.toNat_natCast] at hhi
        have c1 := r3.st
        have c2 := r3.by_
        have hnx : ∀ x, loadF k (i + 1) x = if x = i ∧ k.getD i false = true then 2 else loadF k i x := by
          intro x
          unfold loadF
          by_cases hx : x = i
          · subst hx
            by_cases hb : k.getD x false = true
            · simp [hb]
            · simp [hb]
          · by_cases hx2 : x < i
            · simp [hx, hx2, show x < i + 1 by omega]
            · simp [hx, hx2, show ¬ x < i + 1 by omega]
        cases hki : k.getD i false with
        | true =>
          rw [hki] at hhi
          have hset : (rowF .i64 n (loadF k i)).set i (.int .i64 2) = _ := rowF_set .i64 n (loadF k i) i 2
          simp -implicitDefEqProofs -dsimp (disch := first | omega | (simp only [lens, List.length_set, List.length_cons, List.length_nil, List.length_append, List.length_replicate]; done) | (simp only [lens, List.length_set, List.length_cons, List.length_nil, List.length_append, List.length_replicate]; omega)) only [↓walkA, walkB, coreB, Nat.reduceEqDiff, Nat.reduceAdd, Int.reduceBEq, ↓reduceIte, List.toList_toArray, List.map_cons, List.map_nil, List.getElem?_cons_zero, List.getElem?_cons_succ, Option.map_some, Option.map_none, Option.isSome_some, decide_true, decide_false, Try.f23, typesT, S_P, g6, g8, g34, g35, hhi, c1, c2, idx_slice _ el62, Int.toNat_natCast, Nat.mul_one, hset, e2]
          refine held ⟨j - 1, by omega, i + 1, by omega, r2.trans (But.set ..), ?_, g6, g8, g34, rfl⟩
          have := r3.put (loadF k (i + 1))
          rw [show rowF .i64 n (loadF k (i + 1)) = rowF .i64 n (fun x => if x = i then 2 else loadF k i x) from rowF_congr fun x _ => by rw [hnx x, hki]; simp] at this
          exact this
        | false =>
          rw [hki] at hhi
          simp -implicitDefEqProofs -dsimp (disch := first | omega | (simp only [lens, List.length_set, List.length_cons, List.length_nil, List.length_append, List.length_replicate]; done) | (simp only [lens, List.length_set, List.length_cons, List.length_nil, List.length_append, List.length_replicate]; omega)) only [↓walkA, walkB, coreB, Nat.reduceEqDiff, Nat.reduceAdd, Int.reduceBEq, ↓reduceIte, List.toList_toArray, List.map_cons, List.map_nil, List.getElem?_cons_zero, List.getElem?_cons_succ, Option.map_some, Option.map_none, Option.isSome_some, decide_true, decide_false, Try.f23, typesT, S_P, g6, g8, g34, g35, hhi, e2]
          refine held ⟨j - 1, by omega, i + 1, by omega, r2, ?_, g6, g8, g34, rfl⟩
          rw [show loadF k (i + 1) = loadF k i from funext fun x => by rw [hnx x, hki]; simp]
          exact r3
      · have : i = n := by omega
        subst this
        simp -implicitDefEqProofs -dsimp (disch := first | omega | (simp only [lens, List.length_set, List.length_cons, List.length_nil, List.length_append, List.length_replicate]; done) | (simp only [lens, List.length_set, List.length_cons, List.length_nil, List.length_append, List.length_replicate]; omega)) only [↓walkA, walkB, coreB, Nat.reduceEqDiff, Nat.reduceAdd, Int.reduceBEq, ↓reduceIte, List.toList_toArray, List.map_cons, List.map_nil, List.getElem?_cons_zero, List.getElem?_cons_succ, Option.map_some, Option.map_none, Option.isSome_some, decide_true, decide_false, Try.f23, typesT, S_P, g6, g8, g34, g35]
        exact ⟨hk12.trans (r2.keeps (Nat.le_refl _)), by first | exact r3 | (rw [if_pos he]; first | exact r3 | exact ⟨rfl, r3⟩ | exact ⟨trivial, r3⟩)⟩
  · rw [if_neg he] at q2
    subst q2
    simp -implicitDefEqProofs -dsimp (disch := first | omega | (simp only [lens, List.length_set, List.length_cons, List.length_nil, List.length_append, List.length_replicate]; done) | (simp only [lens, List.length_set, List.length_cons, List.length_nil, List.length_append, List.length_replicate]; omega)) only [↓walkA, walkB, coreB, Nat.reduceEqDiff, Nat.reduceAdd, Int.reduceBEq, ↓reduceIte, List.toList_toArray, List.map_cons, List.map_nil, List.getElem?_cons_zero, List.getElem?_cons_succ, Option.map_some, Option.map_none, Option.isSome_some, decide_true, decide_false, Try.f23, typesT, S_P]
    rw [if_neg (fun h => he h.1)]
    exact ⟨hk12, trivial⟩

/-! ### counts -/
theorem freshF_cases (x : Nat) : freshF x = 0 ∧ x = 0 ∨ freshF x = 1 ∧ x ≠ 0 := by
  unfold freshF
  by_cases h : x = 0
  · exact .inl ⟨if_pos h, h⟩
  · exact .inr ⟨if_neg h, h⟩
theorem loadF_in (k : List Bool) (n x : Nat) (hx : x < n) : loadF k n x = if k.getD x false = true then 2 else freshF x := by
  unfold loadF
  by_cases h : k.getD x false = true
  · rw [if_pos ⟨hx, h⟩, if_pos h]
  · rw [if_neg (fun hh => h hh.2), if_neg h]
theorem count_used (k : List Bool) (n : Nat) : ∀ i, i ≤ n → (listN (loadF k n) 2 i).length = cntN k i
  | 0, _ => rfl
  | i + 1, h => by
    rw [listN, List.length_append, count_used k n i (by omega), cntN, loadF_in k n i (by omega)]
    cases hk : k.getD i false with
    | true => rfl
    | false =>
      simp only [Bool.false_eq_true, if_false]
      rcases freshF_cases i with ⟨e, _⟩ | ⟨e, _⟩ <;> rw [e] <;> rfl
theorem count_free (k : List Bool) (h0 : k.getD 0 false = false) (n : Nat) : ∀ i, i < n → (listN (loadF k n) 1 (i + 1)).length + cntN k (i + 1) = i
  | 0, h => by
    rw [listN, listN, cntN, cntN, loadF_in k n 0 h, h0]
    rfl
  | i + 1, h => by
    have ih := count_free k h0 n i (by omega)
    rw [listN, List.length_append, cntN, loadF_in k n (i + 1) h]
    cases hk : k.getD (i + 1) false with
    | true =>
      rw [if_pos rfl]
      simp only [show ¬ (((2 : Nat) : Int) = 1) by decide, if_false, List.length_nil, bN]
      simp
      omega
    | false =>
      simp only [Bool.false_eq_true, if_false]
      rcases freshF_cases (i + 1) with ⟨e, he⟩ | ⟨e, _⟩
      · omega
      · rw [e]
        simp only [show (((1 : Nat) : Int) = 1) by decide, if_true, List.length_cons, List.length_nil, bN]
        simp
        omega
theorem listN_mem {F : Nat → Nat} {s : Int} : ∀ {n : Nat} {x : Nat}, x ∈ listN F s n → x < n ∧ ((F x : Nat) : Int) = s
  | n + 1, x, h => by
    rw [listN, List.mem_append] at h
    rcases h with h | h
    · have := listN_mem h
      exact ⟨by omega, this.2⟩
    · split at h
      · rename_i hs
        simp at h
        subst h
        exact ⟨by omega, hs⟩
      · cases h
theorem useBits_load (k : List Bool) : useBits (loadF k k.length) k.length k.length = k := by
  apply List.ext_getElem
  · rw [useBits_length]
  · intro x h1 h2
    have hg : k.getD x false = k[x] := by rw [List.getD_eq_getElem?_getD, List.getElem?_eq_getElem h2]; rfl
    simp only [useBits, List.getElem_map, List.getElem_range]
    rw [decide_eq_true h2, Bool.true_and, inUse, loadF_in k _ x h2, hg]
    cases k[x] with
    | true => rfl
    | false => rcases freshF_cases x with ⟨e, _⟩ | ⟨e, _⟩ <;> rw [if_neg (by decide), e] <;> rfl

/-! ### the law -/
theorem law6_bad {n : Int} (hn : ¬ (16 ≤ n ∧ n ≤ 8192)) (μ : Mem) (v : Value) : Gets S 6 [.int .i64 n, v] μ fun r _ => r = .bool true := by
  refine Gets.enter (fn := Try.f6) Try.func6 rfl rfl rfl (Nat.le_of_ble_eq_true rfl) ?_
  simp -implicitDefEqProofs -dsimp (disch := first | omega | (simp only [lens, List.length_set, List.length_cons, List.length_nil, List.length_append, List.length_replicate]; done) | (simp only [lens, List.length_set, List.length_cons, List.length_nil, List.length_append, List.length_replicate]; omega)) only [↓walkA, walkB, coreB, Nat.reduceEqDiff, Nat.reduceAdd, Int.reduceBEq, ↓reduceIte, List.toList_toArray, List.map_cons, List.map_nil, List.getElem?_cons_zero, List.getElem?_cons_succ, Option.map_some, Option.map_none, Option.isSome_some, decide_true, decide_false, Try.f6, typesT, S_P]
  refine (awake_r μ).mono ?_
  rintro r μ1 ⟨rfl, hk⟩
  by_cases h1 : n < 16
  · simp -implicitDefEqProofs -dsimp (disch := first | omega | (simp only [lens, List.length_set, List.length_cons, List.length_nil, List.length_append, List.length_replicate]; done) | (simp only [lens, List.length_set, List.length_cons, List.length_nil, List.length_append, List.length_replicate]; omega)) only [↓walkA, walkB, coreB, Nat.reduceEqDiff, Nat.reduceAdd, Int.reduceBEq, ↓reduceIte, List.toList_toArray, List.map_cons, List.map_nil, List.getElem?_cons_zero, List.getElem?_cons_succ, Option.map_some, Option.map_none, Option.isSome_some, decide_true, decide_false, Try.f6, typesT, S_P, load_bad hn, bin_eql_pnil _ _ _ Try.underlying47, bin_eql_pnn _ _ _ Try.underlying47]
  · simp -implicitDefEqProofs -dsimp (disch := first | omega | (simp only [lens, List.length_set, List.length_cons, List.length_nil, List.length_append, List.length_replicate]; done) | (simp only [lens, List.length_set, List.length_cons, List.length_nil, List.length_append, List.length_replicate]; omega)) only [↓walkA, walkB, coreB, Nat.reduceEqDiff, Nat.reduceAdd, Int.reduceBEq, ↓reduceIte, List.toList_toArray, List.map_cons, List.map_nil, List.getElem?_cons_zero, List.getElem?_cons_succ, Option.map_some, Option.map_none, Option.isSome_some, decide_true, decide_false, Try.f6, typesT, S_P, load_bad hn, bin_eql_pnil _ _ _ Try.underlying47, bin_eql_pnn _ _ _ Try.underlying47]
theorem law6_len {n : Nat} (h1 : 16 ≤ n) (h2 : n ≤ 8192) {v : Value} {ln : Nat} (hv : ∀ ty μ, lenV Try.prog 33 ty v μ = some (.int .i64 ln)) (hne : ln ≠ nLeaves n) (μ : Mem) : Gets S 6 [.int .i64 n, v] μ fun r _ => r = .bool true := by
  refine Gets.enter (fn := Try.f6) Try.func6 rfl rfl rfl (Nat.le_of_ble_eq_true rfl) ?_
  simp -implicitDefEqProofs -dsimp (disch := first | omega | (simp only [lens, List.length_set, List.length_cons, List.length_nil, List.length_append, List.length_replicate]; done) | (simp only [lens, List.length_set, List.length_cons, List.length_nil, List.length_append, List.length_replicate]; omega)) only [↓walkA, walkB, coreB, Nat.reduceEqDiff, Nat.reduceAdd, Int.reduceBEq, ↓reduceIte, List.toList_toArray, List.map_cons, List.map_nil, List.getElem?_cons_zero, List.getElem?_cons_succ, Option.map_some, Option.map_none, Option.isSome_some, decide_true, decide_false, Try.f6, typesT, S_P]
  refine (awake_r μ).mono ?_
  rintro r μ1 ⟨rfl, hk⟩
  simp -implicitDefEqProofs -dsimp (disch := first | omega | (simp only [lens, List.length_set, List.length_cons, List.length_nil, List.length_append, List.length_replicate]; done) | (simp only [lens, List.length_set, List.length_cons, List.length_nil, List.length_append, List.length_replicate]; omega)) only [↓walkA, walkB, coreB, Nat.reduceEqDiff, Nat.reduceAdd, Int.reduceBEq, ↓reduceIte, List.toList_toArray, List.map_cons, List.map_nil, List.getElem?_cons_zero, List.getElem?_cons_succ, Option.map_some, Option.map_none, Option.isSome_some, decide_true, decide_false, Try.f6, typesT, S_P]
  refine (load_len h1 h2 hv hne μ1).mono ?_
  rintro r μ2 ⟨q, rfl⟩
  simp -implicitDefEqProofs -dsimp (disch := first | omega | (simp only [lens, List.length_set, List.length_cons, List.length_nil, List.length_append, List.length_replicate]; done) | (simp only [lens, List.length_set, List.length_cons, List.length_nil, List.length_append, List.length_replicate]; omega)) only [↓walkA, walkB, coreB, Nat.reduceEqDiff, Nat.reduceAdd, Int.reduceBEq, ↓reduceIte, List.toList_toArray, List.map_cons, List.map_nil, List.getElem?_cons_zero, List.getElem?_cons_succ, Option.map_some, Option.map_none, Option.isSome_some, decide_true, decide_false, Try.f6, typesT, S_P]
  refine (fromLeaves_len (by omega) h2 hv hne μ2).mono ?_
  rintro r μ3 ⟨rfl, q2⟩
  simp -implicitDefEqProofs -dsimp (disch := first | omega | (simp only [lens, List.length_set, List.length_cons, List.length_nil, List.length_append, List.length_replicate]; done) | (simp only [lens, List.length_set, List.length_cons, List.length_nil, List.length_append, List.length_replicate]; omega)) only [↓walkA, walkB, coreB, Nat.reduceEqDiff, Nat.reduceAdd, Int.reduceBEq, ↓reduceIte, List.toList_toArray, List.map_cons, List.map_nil, List.getElem?_cons_zero, List.getElem?_cons_succ, Option.map_some, Option.map_none, Option.isSome_some, decide_true, decide_false, Try.f6, typesT, S_P, bin_eql_pnil _ _ _ Try.underlying47, bin_eql_pnn _ _ _ Try.underlying47]
theorem law6_good {n : Nat} (h1 : 16 ≤ n) (h2 : n ≤ 8192) {μ : Mem} {b c : Nat} {F : Nat → Nat} {e : TypeId} {own : Bool} (hb : μ.at b = some (.row (rowF .u8 (256 * nLeaves n) F) e own)) (hlt : b < μ.next) (hF : ∀ x, x < 256 * nLeaves n → F x < 256) : Gets S 6 [.int .i64 n, .slice (some ⟨b, 0, none⟩) (nLeaves n) c] μ fun r _ => r = .bool true := by
  refine Gets.enter (fn := Try.f6) Try.func6 rfl rfl rfl (Nat.le_of_ble_eq_true rfl) ?_
  simp -implicitDefEqProofs -dsimp (disch := first | omega | (simp only [lens, List.length_set, List.length_cons, List.length_nil, List.length_append, List.length_replicate]; done) | (simp only [lens, List.length_set, List.length_cons, List.length_nil, List.length_append, List.length_replicate]; omega)) only [↓walkA, walkB, coreB, Nat.reduceEqDiff, Nat.reduceAdd, Int.reduceBEq, ↓reduceIte, List.toList_toArray, List.map_cons, List.map_nil, List.getElem?_cons_zero, List.getElem?_cons_succ, Option.map_some, Option.map_none, Option.isSome_some, decide_true, decide_false, Try.f6, typesT, S_P]
  refine (awake_r μ).mono ?_
  rintro r μ1 ⟨rfl, hk1⟩
  have hb1 := (hk1.2 b hlt).trans hb
  have hlt1 : b < μ1.next := by have := hk1.1; omega
  simp -implicitDefEqProofs -dsimp (disch := first | omega | (simp only [lens, List.length_set, List.length_cons, List.length_nil, List.length_append, List.length_replicate]; done) | (simp only [lens, List.length_set, List.length_cons, List.length_nil, List.length_append, List.length_replicate]; omega)) only [↓walkA, walkB, coreB, Nat.reduceEqDiff, Nat.reduceAdd, Int.reduceBEq, ↓reduceIte, List.toList_toArray, List.map_cons, List.map_nil, List.getElem?_cons_zero, List.getElem?_cons_succ, Option.map_some, Option.map_none, Option.isSome_some, decide_true, decide_false, Try.f6, typesT, S_P]
  refine (load_c h1 h2 (c := c) hb1 hlt1 hF).mono ?_
  obtain ⟨k, hk⟩ : ∃ k, bitsOf (leafB F) n = k := ⟨_, rfl⟩
  have hkn : k.length = n := by rw [← hk, bitsOf_length]
  rw [hk]
  rintro r μ2 ⟨q1, q2⟩
  have hb2 := (q1.2 b hlt1).trans hb1
  have hlt2 : b < μ2.next := by have := q1.1; omega
  have hfrom := fromLeaves_c (n := n) (by omega) h2 (c := c) hb2 hlt2 hF
  rw [hk] at hfrom
  by_cases he : eqF (256 * nLeaves n) (leavesF k) F = true
  · simp only [he, if_true] at hfrom
    have hz : (decide ((0 : Int) ≤ 0 ∧ (0 : Int) < (k.length : Nat))) = true := by
      rw [hkn]; apply decide_eq_true; omega
    cases h0 : k.getD 0 false with
    | true =>
      rw [if_neg (fun h => by rw [h0] at h; cases h.2)] at q2
      subst q2
      simp -implicitDefEqProofs -dsimp (disch := first | omega | (simp only [lens, List.length_set, List.length_cons, List.length_nil, List.length_append, List.length_replicate]; done) | (simp only [lens, List.length_set, List.length_cons, List.length_nil, List.length_append, List.length_replicate]; omega)) only [↓walkA, walkB, coreB, Nat.reduceEqDiff, Nat.reduceAdd, Int.reduceBEq, ↓reduceIte, List.toList_toArray, List.map_cons, List.map_nil, List.getElem?_cons_zero, List.getElem?_cons_succ, Option.map_some, Option.map_none, Option.isSome_some, decide_true, decide_false, Try.f6, typesT, S_P]
      refine hfrom.mono ?_
      rintro r μ3 ⟨t1, rfl, hM⟩
      have hh := fun Q => has_c hM 0 Q
      simp only [hz, Bool.true_and, show (0 : Int).toNat = 0 from rfl, h0] at hh
      simp -implicitDefEqProofs -dsimp (disch := first | omega | (simp only [lens, List.length_set, List.length_cons, List.length_nil, List.length_append, List.length_replicate]; done) | (simp only [lens, List.length_set, List.length_cons, List.length_nil, List.length_append, List.length_replicate]; omega)) only [↓walkA, walkB, coreB, Nat.reduceEqDiff, Nat.reduceAdd, Int.reduceBEq, ↓reduceIte, List.toList_toArray, List.map_cons, List.map_nil, List.getElem?_cons_zero, List.getElem?_cons_succ, Option.map_some, Option.map_none, Option.isSome_some, decide_true, decide_false, Try.f6, typesT, S_P, hh, bin_eql_pnil _ _ _ Try.underlying47, bin_eql_pnn _ _ _ Try.underlying47]
    | false =>
      rw [if_pos ⟨he, h0⟩] at q2
      obtain ⟨rfl, hR⟩ := q2
      have hn2 := hR.lp
      simp -implicitDefEqProofs -dsimp (disch := first | omega | (simp only [lens, List.length_set, List.length_cons, List.length_nil, List.length_append, List.length_replicate]; done) | (simp only [lens, List.length_set, List.length_cons, List.length_nil, List.length_append, List.length_replicate]; omega)) only [↓walkA, walkB, coreB, Nat.reduceEqDiff, Nat.reduceAdd, Int.reduceBEq, ↓reduceIte, List.toList_toArray, List.map_cons, List.map_nil, List.getElem?_cons_zero, List.getElem?_cons_succ, Option.map_some, Option.map_none, Option.isSome_some, decide_true, decide_false, Try.f6, typesT, S_P]
      refine hfrom.mono ?_
      rintro r μ3 ⟨t1, rfl, hM⟩
      have hR3 := hR.keeps t1
      have hh := fun Q => has_c hM 0 Q
      simp only [hz, Bool.true_and, show (0 : Int).toNat = 0 from rfl, h0] at hh
      simp -implicitDefEqProofs -dsimp (disch := first | omega | (simp only [lens, List.length_set, List.length_cons, List.length_nil, List.length_append, List.length_replicate]; done) | (simp only [lens, List.length_set, List.length_cons, List.length_nil, List.length_append, List.length_replicate]; omega)) only [↓walkA, walkB, coreB, Nat.reduceEqDiff, Nat.reduceAdd, Int.reduceBEq, ↓reduceIte, List.toList_toArray, List.map_cons, List.map_nil, List.getElem?_cons_zero, List.getElem?_cons_succ, Option.map_some, Option.map_none, Option.isSome_some, decide_true, decide_false, Try.f6, typesT, S_P, hh, bin_eql_pnil _ _ _ Try.underlying47, bin_eql_pnn _ _ _ Try.underlying47, blocks_c hR3, beq_int_true]
      have e1 := count_used k n n (Nat.le_refl _)
      have e2 := count_free k h0 n (n - 1) (by omega)
      rw [show n - 1 + 1 = n by omega] at e2
      have e3 := cntN_le k n
      refine (count_r hR3 2).mono ?_
      rintro r μ4 ⟨rfl, t2⟩
      have hM4 := hM.keeps t2
      have hR4 := hR3.keeps t2
      have hc4 := fun Q => count_c hM4 Q
      rw [hkn] at hc4
      simp -implicitDefEqProofs -dsimp (disch := first | omega | (simp only [lens, List.length_set, List.length_cons, List.length_nil, List.length_append, List.length_replicate]; done) | (simp only [lens, List.length_set, List.length_cons, List.length_nil, List.length_append, List.length_replicate]; omega)) only [↓walkA, walkB, coreB, Nat.reduceEqDiff, Nat.reduceAdd, Int.reduceBEq, ↓reduceIte, List.toList_toArray, List.map_cons, List.map_nil, List.getElem?_cons_zero, List.getElem?_cons_succ, Option.map_some, Option.map_none, Option.isSome_some, decide_true, decide_false, Try.f6, typesT, S_P, hc4, beq_int_true]
      refine (count_r hR4 1).mono ?_
      rintro r μ5 ⟨rfl, t3⟩
      have hM5 := hM4.keeps t3
      have hR5 := hR4.keeps t3
      have hc5 := fun Q => count_c hM5 Q
      rw [hkn] at hc5
      simp -implicitDefEqProofs -dsimp (disch := first | omega | (simp only [lens, List.length_set, List.length_cons, List.length_nil, List.length_append, List.length_replicate]; done) | (simp only [lens, List.length_set, List.length_cons, List.length_nil, List.length_append, List.length_replicate]; omega)) only [↓walkA, walkB, coreB, Nat.reduceEqDiff, Nat.reduceAdd, Int.reduceBEq, ↓reduceIte, List.toList_toArray, List.map_cons, List.map_nil, List.getElem?_cons_zero, List.getElem?_cons_succ, Option.map_some, Option.map_none, Option.isSome_some, decide_true, decide_false, Try.f6, typesT, S_P, hc5, beq_int_true]
      refine (list_c hR5 2).mono ?_
      rintro v μ6 ⟨t4, t5⟩
      have hM6 := hM5.keeps t5
      have hR6 := hR5.keeps t5
      have hv6 := NumsAt.of_grows t4
      obtain ⟨l, hl⟩ : ∃ l, listN (loadF k n) 2 n = l := ⟨_, rfl⟩
      rw [hl] at hv6 e1
      have hlen := fun ty m => NumsAt.len hv6 Try.underlying53 ty m
      simp -implicitDefEqProofs -dsimp (disch := first | omega | (simp only [lens, List.length_set, List.length_cons, List.length_nil, List.length_append, List.length_replicate]; done) | (simp only [lens, List.length_set, List.length_cons, List.length_nil, List.length_append, List.length_replicate]; omega)) only [↓walkA, walkB, coreB, Nat.reduceEqDiff, Nat.reduceAdd, Int.reduceBEq, ↓reduceIte, List.toList_toArray, List.map_cons, List.map_nil, List.getElem?_cons_zero, List.getElem?_cons_succ, Option.map_some, Option.map_none, Option.isSome_some, decide_true, decide_false, Try.f6, typesT, S_P, hlen]
      refine loop_of S _ _ (fun j g μ' => ∃ i : Nat, i + j = l.length ∧ μ' = μ6 ∧ g 1 = .slice (some ⟨b, 0, none⟩) (nLeaves n) c ∧ g 5 = .pointer (some ⟨μ1.next + 1, 0, none⟩) ∧ g 7 = .pointer (some ⟨μ2.next + 1, 0, none⟩) ∧ g 79 = v ∧ g 80 = .int .i64 l.length ∧ g 81 = .int .i64 i) l.length _ _ ⟨0, by omega, rfl, rfl, rfl, rfl, rfl, rfl, rfl⟩ ?_
      rintro j g μ' ⟨i, r1, rfl, g1, g5, g7, g79, g80, g81⟩
      by_cases hi : i < l.length
      · obtain ⟨m, cc, cells, e', own', rfl, m2, m3⟩ := hv6.get hi
        have e4 : ((i : Int) + 1) = ((i + 1 : Nat) : Int) := by omega
        obtain ⟨x, hx⟩ : ∃ x, l.getD i 0 = x := ⟨_, rfl⟩
        rw [hx] at m3
        have hmem : x ∈ listN (loadF k n) 2 n := by
          rw [hl, ← hx, List.getD_eq_getElem?_getD, List.getElem?_eq_getElem hi]
          exact List.getElem_mem hi
        obtain ⟨x1, x2⟩ := listN_mem hmem
        rw [loadF_in k n x x1] at x2
        have hkx : k.getD x false = true := by
          cases hb : k.getD x false with
          | true => rfl
          | false =>
            rw [hb] at x2
            simp only [Bool.false_eq_true, if_false] at x2
            rcases freshF_cases x with ⟨e, _⟩ | ⟨e, _⟩ <;> rw [e] at x2 <;> cases x2
        have hhx := fun Q => has_c hM6 (x : Int) Q
        have hzx : (decide ((0 : Int) ≤ (x : Int) ∧ (x : Int) < (k.length : Nat))) = true := by
          rw [hkn]; apply decide_eq_true; omega
        simp only [hzx, Bool.true_and, Int.toNat_natCast, hkx] at hhx
        simp -implicitDefEqProofs -dsimp (disch := first | omega | (simp only [lens, List.length_set, List.length_cons, List.length_nil, List.length_append, List.length_replicate]; done) | (simp only [lens, List.length_set, List.length_cons, List.length_nil, List.length_append, List.length_replicate]; omega)) only [↓walkA, walkB, coreB, Nat.reduceEqDiff, Nat.reduceAdd, Int.reduceBEq, ↓reduceIte, List.toList_toArray, List.map_cons, List.map_nil, List.getElem?_cons_zero, List.getElem?_cons_succ, Option.map_some, Option.map_none, Option.isSome_some, decide_true, decide_false, Try.f6, typesT, S_P, g1, g5, g7, g79, g80, g81, m2, m3, idx_slice _ el53, Int.toNat_natCast, Nat.mul_one, hhx, e4]
        exact held ⟨j - 1, by omega, i + 1, by omega, rfl, g1, g5, g7, g79, g80, rfl⟩
      · simp -implicitDefEqProofs -dsimp (disch := first | omega | (simp only [lens, List.length_set, List.length_cons, List.length_nil, List.length_append, List.length_replicate]; done) | (simp only [lens, List.length_set, List.length_cons, List.length_nil, List.length_append, List.length_replicate]; omega)) only [↓walkA, walkB, coreB, Nat.reduceEqDiff, Nat.reduceAdd, Int.reduceBEq, ↓reduceIte, List.toList_toArray, List.map_cons, List.map_nil, List.getElem?_cons_zero, List.getElem?_cons_succ, Option.map_some, Option.map_none, Option.isSome_some, decide_true, decide_false, Try.f6, typesT, S_P, g1, g5, g7, g79, g80, g81]
        refine (roomLeaves_c hR6).mono ?_
        rintro r μ7 ⟨t6, q, rfl, t7, t8, t9⟩
        have hb7 := (((t1.trans (t2.le t1.1)).trans (t3.le (Nat.le_trans t1.1 t2.1))).trans (t5.le (Nat.le_trans t1.1 (Nat.le_trans t2.1 t3.1)))).2 b hlt2
        have hb8 := (t6.2 b (by have := t1.1; have := t2.1; have := t3.1; have := t5.1; omega)).trans (hb7.trans hb2)
        have huse : useBits (loadF k n) n n = k := by
          rw [← hkn]; exact useBits_load k
        rw [huse] at t7
        have hq : decide (nLeaves n = nLeaves n) = true := decide_eq_true rfl
        have hnl : nLeaves n ≤ 1000000 := by unfold nLeaves; omega
        simp -implicitDefEqProofs -dsimp (disch := first | omega | (simp only [lens, List.length_set, List.length_cons, List.length_nil, List.length_append, List.length_replicate]; done) | (simp only [lens, List.length_set, List.length_cons, List.length_nil, List.length_append, List.length_replicate]; omega)) only [↓walkA, walkB, coreB, Nat.reduceEqDiff, Nat.reduceAdd, Int.reduceBEq, ↓reduceIte, List.toList_toArray, List.map_cons, List.map_nil, List.getElem?_cons_zero, List.getElem?_cons_succ, Option.map_some, Option.map_none, Option.isSome_some, decide_true, decide_false, Try.f6, typesT, S_P, g1, blocksEq_c t7 hb8 hnl, he, hq]
  · have he' : eqF (256 * nLeaves n) (leavesF k) F = false := by simpa using he
    rw [if_neg (fun h => he h.1)] at q2
    subst q2
    simp only [he', Bool.false_eq_true, if_false] at hfrom
    simp -implicitDefEqProofs -dsimp (disch := first | omega | (simp only [lens, List.length_set, List.length_cons, List.length_nil, List.length_append, List.length_replicate]; done) | (simp only [lens, List.length_set, List.length_cons, List.length_nil, List.length_append, List.length_replicate]; omega)) only [↓walkA, walkB, coreB, Nat.reduceEqDiff, Nat.reduceAdd, Int.reduceBEq, ↓reduceIte, List.toList_toArray, List.map_cons, List.map_nil, List.getElem?_cons_zero, List.getElem?_cons_succ, Option.map_some, Option.map_none, Option.isSome_some, decide_true, decide_false, Try.f6, typesT, S_P]
    refine hfrom.mono ?_
    rintro r μ3 ⟨t1, rfl⟩
    simp -implicitDefEqProofs -dsimp (disch := first | omega | (simp only [lens, List.length_set, List.length_cons, List.length_nil, List.length_append, List.length_replicate]; done) | (simp only [lens, List.length_set, List.length_cons, List.length_nil, List.length_append, List.length_replicate]; omega)) only [↓walkA, walkB, coreB, Nat.reduceEqDiff, Nat.reduceAdd, Int.reduceBEq, ↓reduceIte, List.toList_toArray, List.map_cons, List.map_nil, List.getElem?_cons_zero, List.getElem?_cons_succ, Option.map_some, Option.map_none, Option.isSome_some, decide_true, decide_false, Try.f6, typesT, S_P, bin_eql_pnil _ _ _ Try.underlying47, bin_eql_pnn _ _ _ Try.underlying47]
end Go.Mini.Bits
