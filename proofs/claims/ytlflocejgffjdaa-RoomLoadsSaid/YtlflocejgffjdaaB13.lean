/-
  The law's own player of a script on a map, and its wake-up call. No statement of the seat is proved here; no condition.
-/
import Derived.Test.YtlflocejgffjdaaB12
set_option linter.unusedSimpArgs false
namespace Go.Mini.Bits
open Go.Proofs

/-! ### awake -/
theorem awake_c (μ : Mem) : Gets S 15 [] μ fun v μ' => v = .bool true ∧ Keeps μ.next μ μ' := by
  refine Gets.enter (fn := Try.f15) Try.func15 rfl rfl rfl (Nat.le_of_ble_eq_true rfl) ?_
  have hM := newMap_is μ (List.replicate 16 false) (by decide) (by decide)
  have hK := newMap_keeps μ (List.replicate 16 false)
  obtain ⟨μ1, hμ1⟩ : ∃ μ1, newMap μ (List.replicate 16 false) = μ1 := ⟨_, rfl⟩
  rw [hμ1] at hM hK
  have hM2 := hM.put (k' := (List.replicate 16 false).set 3 true) (by simp)
  have h16 : (1 : Int) ≤ 16 ∧ (16 : Int) ≤ 8192 := by omega
  have hc : cntN ((List.replicate 16 false).set 3 true) ((List.replicate 16 false).set 3 true).length = 1 := by decide
  have hg : ((List.replicate 16 false).set 3 true).getD 3 false = true := by decide
  have hg0 : (List.replicate 16 false).getD 3 false = false := by decide
  have h3 : (0 : Int) ≤ 3 ∧ (3 : Int) < ((List.replicate 16 false).length : Nat) := by simp
  have h3' : (0 : Int) ≤ 3 ∧ (3 : Int) < (((List.replicate 16 false).set 3 true).length : Nat) := by simp
  have r1 : Int.toNat 16 = 16 := rfl
  have r3 : Int.toNat 3 = 3 := rfl
  have s1 : ∀ Q, Gets S 53 [.pointer (some ⟨μ.next + 1, 0, none⟩), .int .i64 3] μ1 Q = Q (.bool true) (μ1.setRow μ.next (nums .u8 (pack ((List.replicate 16 false).set 3 true))) 5) := fun Q => by
    rw [set_c hM, if_pos ⟨h3, by rw [r3]; exact hg0⟩, r3]
  have s2 : ∀ Q, Gets S 24 [.pointer (some ⟨μ.next + 1, 0, none⟩), .int .i64 3] (μ1.setRow μ.next (nums .u8 (pack ((List.replicate 16 false).set 3 true))) 5) Q = Q (.bool true) _ := fun Q => by
    rw [has_c hM2, decide_eq_true h3', r3, hg]
    rfl
  have s3 : ∀ Q, Gets S 27 [.pointer (some ⟨μ.next + 1, 0, none⟩)] (μ1.setRow μ.next (nums .u8 (pack ((List.replicate 16 false).set 3 true))) 5) Q = Q (.int .i64 1) _ := fun Q => by
    rw [count_c hM2, hc]
    rfl
  have s0 : ∀ Q, Gets S 52 [.int .i64 16] μ Q = Q (.tuple #[.pointer (some ⟨μ.next + 1, 0, none⟩), .int .i64 0]) μ1 := fun Q => by
    rw [new_c, if_pos h16, r1, hμ1]
  simp -implicitDefEqProofs -dsimp (disch := first | omega | (simp only [lens, List.length_set, List.length_cons, List.length_nil, List.length_append, List.length_replicate]; done) | (simp only [lens, List.length_set, List.length_cons, List.length_nil, List.length_append, List.length_replicate]; omega)) only [↓walkA, walkB, coreB, Nat.reduceEqDiff, Nat.reduceAdd, ↓reduceIte, List.toList_toArray, List.map_cons, List.map_nil, List.getElem?_cons_zero, List.getElem?_cons_succ, Option.map_some, Option.map_none, Option.isSome_some, decide_true, decide_false, typesT, S_P, Try.f15, s0, s1, s2, s3, beq_int_true, bin_neq_pnil _ _ _ Try.underlying29]
  exact hK.set (Nat.le_refl _) _ _

/-! ### played -/
structure ActV where
  z : Int
  a : Int
  b : Int
def actCells (l : List ActV) : List Value := l.flatMap fun r => [.int .i64 r.z, .int .i64 r.a, .int .i64 r.b]
theorem actCells_get : ∀ (R : List ActV) (t : Nat) (h : t < R.length), (actCells R)[t * 3]? = some (.int .i64 (R[t]).z) ∧ (actCells R)[t * 3 + 1]? = some (.int .i64 (R[t]).a) ∧ (actCells R)[t * 3 + 2]? = some (.int .i64 (R[t]).b)
  | [], t, h => absurd h (Nat.not_lt_zero t)
  | r :: R, 0, _ => ⟨rfl, rfl, rfl⟩
  | r :: R, t + 1, h => by
    have ih := actCells_get R t (by simpa using h)
    have e : actCells (r :: R) = .int .i64 r.z :: .int .i64 r.a :: .int .i64 r.b :: actCells R := rfl
    rw [e, show (t + 1) * 3 = t * 3 + 1 + 1 + 1 by omega, show t * 3 + 1 + 1 + 1 + 1 = (t * 3 + 1) + 1 + 1 + 1 by omega, show t * 3 + 1 + 1 + 1 + 2 = (t * 3 + 2) + 1 + 1 + 1 by omega]
    simp only [List.getElem?_cons_succ, List.getElem_cons_succ]
    exact ih
/-- a script that lies in memory, or none -/
def ActsAt (μ : Mem) (v : Value) (l : List ActV) : Prop := (v = .slice none 0 0 ∧ l = []) ∨ ∃ n c own, v = .slice (some ⟨n, 0, none⟩) l.length c ∧ μ.at n = some (.row (actCells l) 104 own) ∧ n < μ.next
theorem ActsAt.keeps {μ μ' : Mem} {v : Value} {l : List ActV} (h : ActsAt μ v l) (hk : Keeps μ.next μ μ') : ActsAt μ' v l := by
  rcases h with h | ⟨n, c, own, h1, h2, h3⟩
  · exact .inl h
  · exact .inr ⟨n, c, own, h1, (hk.2 n h3).trans h2, by have := hk.1; omega⟩
theorem ActsAt.len {μ : Mem} {v : Value} {l : List ActV} (h : ActsAt μ v l) (ty : TypeId) (μ' : Mem) : lenV Try.prog 28 ty v μ' = some (.int .i64 (l.length : Nat)) := by
  rcases h with ⟨rfl, rfl⟩ | ⟨n, c, own, rfl, _, _⟩
  · exact len_nil Try.underlying28 ty μ'
  · exact len_slice Try.underlying28 ty _ _ _ μ'
/-- how a map and its bits stand behind a script's first steps -/
structure PlayI (μ0 μ' : Mem) (n p b c kb : Nat) (k : List Bool) : Prop where
  map : IsMap μ' p b c k
  bits : μ'.at kb = some (.row (bools k) 4 true)
  len : k.length = n
  lp : μ0.next ≤ p
  lb : μ0.next ≤ b
  lk : μ0.next ≤ kb
  pk : p ≠ kb
  bk : b ≠ kb
  kl : kb < μ'.next
  keeps : Keeps μ0.next μ0 μ'
theorem PlayI.both {μ0 μ' : Mem} {n p b c kb : Nat} {k : List Bool} (h : PlayI μ0 μ' n p b c kb k) {k' : List Bool} (hl : k'.length = k.length) : PlayI μ0 ((μ'.setRow b (nums .u8 (pack k')) 5).setRow kb (bools k') 4) n p b c kb k' := by
  have hM := h.map.put hl
  refine ⟨hM.frame (at_setRow_ne _ _ _ (fun e => h.pk e.symm)) (at_setRow_ne _ _ _ (fun e => h.bk e.symm)) (Nat.le_refl _), at_setRow_same _ _ _ _, hl.trans h.len, h.lp, h.lb, h.lk, h.pk, h.bk, h.kl, (h.keeps.set h.lb _ _).set h.lk _ _⟩
theorem PlayI.same {μ0 μ' : Mem} {n p b c kb : Nat} {k : List Bool} (h : PlayI μ0 μ' n p b c kb k) : PlayI μ0 (μ'.setRow kb (bools k) 4) n p b c kb k := by
  refine ⟨h.map.frame (at_setRow_ne _ _ _ (fun e => h.pk e.symm)) (at_setRow_ne _ _ _ (fun e => h.bk e.symm)) (Nat.le_refl _), at_setRow_same _ _ _ _, h.len, h.lp, h.lb, h.lk, h.pk, h.bk, h.kl, h.keeps.set h.lk _ _⟩
theorem set_false_same (k : List Bool) (n : Nat) (hb : k.getD n false = false) : k.set n false = k := by
  apply List.ext_getElem
  · simp
  · intro i h1 h2
    rw [List.getElem_set]
    split
    · rename_i h; subst h
      rw [List.getD_eq_getElem?_getD, List.getElem?_eq_getElem h2] at hb
      exact hb.symm
    · rfl
theorem played_bad {n : Int} (hn : ¬ (1 ≤ n ∧ n ≤ 8192)) (μ : Mem) (v : Value) : Gets S 14 [.int .i64 n, v] μ fun r μ' => r = .tuple #[.pointer none, .slice none 0 0, .bool true] ∧ μ' = μ := by
  refine Gets.enter (fn := Try.f14) Try.func14 rfl rfl rfl (Nat.le_of_ble_eq_true rfl) ?_
  have s0 : ∀ Q, Gets S 52 [.int .i64 n] μ Q = Q (.tuple #[.pointer none, .int .i64 1]) μ := fun Q => by rw [new_c, if_neg hn]
  by_cases h1 : n < 1
  · simp -implicitDefEqProofs -dsimp (disch := first | omega | (simp only [lens, List.length_set, List.length_cons, List.length_nil, List.length_append, List.length_replicate]; done) | (simp only [lens, List.length_set, List.length_cons, List.length_nil, List.length_append, List.length_replicate]; omega)) only [↓walkA, walkB, coreB, Nat.reduceEqDiff, Nat.reduceAdd, ↓reduceIte, List.toList_toArray, List.map_cons, List.map_nil, List.getElem?_cons_zero, List.getElem?_cons_succ, Option.map_some, Option.map_none, Option.isSome_some, decide_true, decide_false, typesT, S_P, Try.f14, s0, beq_int_true, bin_eql_pnn _ _ _ Try.underlying29]
  · simp -implicitDefEqProofs -dsimp (disch := first | omega | (simp only [lens, List.length_set, List.length_cons, List.length_nil, List.length_append, List.length_replicate]; done) | (simp only [lens, List.length_set, List.length_cons, List.length_nil, List.length_append, List.length_replicate]; omega)) only [↓walkA, walkB, coreB, Nat.reduceEqDiff, Nat.reduceAdd, ↓reduceIte, List.toList_toArray, List.map_cons, List.map_nil, List.getElem?_cons_zero, List.getElem?_cons_succ, Option.map_some, Option.map_none, Option.isSome_some, decide_true, decide_false, typesT, S_P, Try.f14, s0, beq_int_true, bin_eql_pnn _ _ _ Try.underlying29]
theorem played_c {n : Nat} (h1 : 1 ≤ n) (h2 : n ≤ 8192) {μ : Mem} {v : Value} {l : List ActV} (hv : ActsAt μ v l) (hll : l.length ≤ 9223372036854775807) :
    Gets S 14 [.int .i64 n, v] μ fun r μ' => ∃ p b c kb k, r = .tuple #[.pointer (some ⟨p, 0, none⟩), .slice (some ⟨kb, 0, none⟩) n n, .bool true] ∧ PlayI μ μ' n p b c kb k := by
  refine Gets.enter (fn := Try.f14) Try.func14 rfl rfl rfl (Nat.le_of_ble_eq_true rfl) ?_
  have hn : (1 : Int) ≤ n ∧ (n : Int) ≤ 8192 := by omega
  obtain ⟨μ1, hμ1⟩ : ∃ μ1, newMap μ (List.replicate n false) = μ1 := ⟨_, rfl⟩
  have hM := newMap_is μ (List.replicate n false) (by simpa using h1) (by simpa using h2)
  have hk1 := newMap_keeps μ (List.replicate n false)
  have hn1 := newMap_next μ (List.replicate n false)
  rw [hμ1] at hM hk1 hn1
  have s0 : ∀ Q, Gets S 52 [.int .i64 n] μ Q = Q (.tuple #[.pointer (some ⟨μ.next + 1, 0, none⟩), .int .i64 0]) μ1 := fun Q => by rw [new_c, if_pos hn, Int.toNat_natCast, hμ1]
  have ez : (zerosA (Value.bool false).cells (n * 1)).toList = bools (List.replicate n false) := by
    rw [put_one _ _ rfl, Nat.mul_one, bools_replicate]
  simp -implicitDefEqProofs -dsimp (disch := first | omega | (simp only [lens, List.length_set, List.length_cons, List.length_nil, List.length_append, List.length_replicate]; done) | (simp only [lens, List.length_set, List.length_cons, List.length_nil, List.length_append, List.length_replicate]; omega)) only [↓walkA, walkB, coreB, Nat.reduceEqDiff, Nat.reduceAdd, ↓reduceIte, List.toList_toArray, List.map_cons, List.map_nil, List.getElem?_cons_zero, List.getElem?_cons_succ, Option.map_some, Option.map_none, Option.isSome_some, decide_true, decide_false, typesT, S_P, Try.f14, s0, beq_int_true, bin_eql_pnil _ _ _ Try.underlying29, makeSlice_at 30 el30 zero4 rfl (by decide), Int.toNat_natCast, ez]
  have hI0 : PlayI μ (μ1.add (bools (List.replicate n false)) 4) n (μ.next + 1) μ.next ((n + 7) / 8) μ1.next (List.replicate n false) := by
    have hM' : IsMap μ1 (μ.next + 1) μ.next ((n + 7) / 8) (List.replicate n false) := by simpa using hM
    refine ⟨hM'.keeps ((Keeps.refl _ _).add (Nat.le_refl _) _ _), at_add_same _ _ _, List.length_replicate, by omega, by omega, by omega, by omega, by omega, by rw [next_add]; omega, hk1.add (by omega) _ _⟩
  refine loop_of S _ _ (fun j g μ' => ∃ (i p b c : Nat) (k : List Bool), i + j = l.length ∧ PlayI μ μ' n p b c μ1.next k ∧ g 0 = .int .i64 n ∧ g 1 = v ∧ g 7 = .pointer (some ⟨p, 0, none⟩) ∧ g 9 = .slice (some ⟨μ1.next, 0, none⟩) n n ∧ g 10 = .int .i64 i) l.length _ _ ⟨0, _, _, _, _, by omega, hI0, rfl, rfl, rfl, rfl, rfl⟩ ?_
  rintro j g μ' ⟨i, p, b, c, k, k1, hI, g0, g1, g7, g9, g10⟩
  have hv' := hv.keeps hI.keeps
  have hlen := fun ty m => ActsAt.len hv' ty m
  have hkn := hI.len
  have hbits := hI.bits
  by_cases hi : i < l.length
  · have e2 : ((i : Int) + 1) = ((i + 1 : Nat) : Int) := by omega
    rcases hv' with ⟨_, hz⟩ | ⟨ab, ac, own, rfl, hat, _⟩
    · rw [hz] at hi; exact absurd hi (Nat.not_lt_zero _)
    obtain ⟨c1, c2, c3⟩ := actCells_get l i hi
    obtain ⟨z, hz⟩ : ∃ z, (l[i]).z = z := ⟨_, rfl⟩
    obtain ⟨x, hx⟩ : ∃ x, (l[i]).a = x := ⟨_, rfl⟩
    obtain ⟨y, hy⟩ : ∃ y, (l[i]).b = y := ⟨_, rfl⟩
    rw [hz] at c1
    rw [hx] at c2
    rw [hy] at c3
    by_cases hz0 : z = 0
    · by_cases hin : 0 ≤ x ∧ x < n
      · obtain ⟨q, rfl⟩ : ∃ q : Nat, x = q := ⟨x.toNat, by omega⟩
        have hq : q < k.length := by omega
        have hqk : (0 : Int) ≤ q ∧ (q : Int) < (k.length : Nat) := by omega
        cases hb : k.getD q false with
        | false =>
          have s1 : ∀ Q, Gets S 53 [.pointer (some ⟨p, 0, none⟩), .int .i64 q] μ' Q = Q (.bool true) (μ'.setRow b (nums .u8 (pack (k.set q true))) 5) := fun Q => by
            rw [set_c hI.map, if_pos ⟨hqk, by rw [Int.toNat_natCast]; exact hb⟩, Int.toNat_natCast]
          have hb2 : (μ'.setRow b (nums .u8 (pack (k.set q true))) 5).at μ1.next = some (.row (bools k) 4 true) := by rw [at_setRow_ne _ _ _ hI.bk]; exact hbits
          simp -implicitDefEqProofs -dsimp (disch := first | omega | (simp only [lens, List.length_set, List.length_cons, List.length_nil, List.length_append, List.length_replicate]; done) | (simp only [lens, List.length_set, List.length_cons, List.length_nil, List.length_append, List.length_replicate]; omega)) only [↓walkA, walkB, coreB, Nat.reduceEqDiff, Nat.reduceAdd, ↓reduceIte, List.toList_toArray, List.map_cons, List.map_nil, List.getElem?_cons_zero, List.getElem?_cons_succ, Option.map_some, Option.map_none, Option.isSome_some, decide_true, decide_false, Try.f14, typesT, S_P, g0, g1, g7, g9, g10, hlen, hat, idx_slice _ el28, idx_slice _ el30, Int.toNat_natCast, Nat.mul_one, c1, c2, c3, beq_int_true, s1, hb2, bools_get, hb, bin_neq_bool 4 _ _ Try.underlying4, BEq.rfl, bools_set, e2]
          exact held ⟨j - 1, by omega, i + 1, p, b, c, k.set q true, by omega, hI.both (by simp), g0, g1, g7, g9, rfl⟩
        | true =>
          have s1 : ∀ Q, Gets S 53 [.pointer (some ⟨p, 0, none⟩), .int .i64 q] μ' Q = Q (.bool false) μ' := fun Q => by
            rw [set_c hI.map, if_neg (fun hh => by rw [Int.toNat_natCast, hb] at hh; cases hh.2)]
          have hks := set_true_same k q hb
          simp -implicitDefEqProofs -dsimp (disch := first | omega | (simp only [lens, List.length_set, List.length_cons, List.length_nil, List.length_append, List.length_replicate]; done) | (simp only [lens, List.length_set, List.length_cons, List.length_nil, List.length_append, List.length_replicate]; omega)) only [↓walkA, walkB, coreB, Nat.reduceEqDiff, Nat.reduceAdd, ↓reduceIte, List.toList_toArray, List.map_cons, List.map_nil, List.getElem?_cons_zero, List.getElem?_cons_succ, Option.map_some, Option.map_none, Option.isSome_some, decide_true, decide_false, Try.f14, typesT, S_P, g0, g1, g7, g9, g10, hlen, hat, idx_slice _ el28, idx_slice _ el30, Int.toNat_natCast, Nat.mul_one, c1, c2, c3, beq_int_true, s1, hbits, bools_get, hb, bin_neq_bool 4 _ _ Try.underlying4, BEq.rfl, bools_set, hks, e2]
          exact held ⟨j - 1, by omega, i + 1, p, b, c, k, by omega, hI.same, g0, g1, g7, g9, rfl⟩
      · have s1 : ∀ Q, Gets S 53 [.pointer (some ⟨p, 0, none⟩), .int .i64 x] μ' Q = Q (.bool false) μ' := fun Q => by
          rw [set_c hI.map, if_neg (fun hh => hin (by rw [hkn] at hh; exact hh.1))]
        by_cases hx0 : 0 ≤ x
        · simp -implicitDefEqProofs -dsimp (disch := first | omega | (simp only [lens, List.length_set, List.length_cons, List.length_nil, List.length_append, List.length_replicate]; done) | (simp only [lens, List.length_set, List.length_cons, List.length_nil, List.length_append, List.length_replicate]; omega)) only [↓walkA, walkB, coreB, Nat.reduceEqDiff, Nat.reduceAdd, ↓reduceIte, List.toList_toArray, List.map_cons, List.map_nil, List.getElem?_cons_zero, List.getElem?_cons_succ, Option.map_some, Option.map_none, Option.isSome_some, decide_true, decide_false, Try.f14, typesT, S_P, g0, g1, g7, g9, g10, hlen, hat, idx_slice _ el28, Int.toNat_natCast, Nat.mul_one, c1, c2, c3, beq_int_true, s1, bin_neq_bool 4 _ _ Try.underlying4, BEq.rfl, e2]
          exact held ⟨j - 1, by omega, i + 1, p, b, c, k, by omega, hI, g0, g1, g7, g9, rfl⟩
        · simp -implicitDefEqProofs -dsimp (disch := first | omega | (simp only [lens, List.length_set, List.length_cons, List.length_nil, List.length_append, List.length_replicate]; done) | (simp only [lens, List.length_set, List.length_cons, List.length_nil, List.length_append, List.length_replicate]; omega)) only [↓walkA, walkB, coreB, Nat.reduceEqDiff, Nat.reduceAdd, ↓reduceIte, List.toList_toArray, List.map_cons, List.map_nil, List.getElem?_cons_zero, List.getElem?_cons_succ, Option.map_some, Option.map_none, Option.isSome_some, decide_true, decide_false, Try.f14, typesT, S_P, g0, g1, g7, g9, g10, hlen, hat, idx_slice _ el28, Int.toNat_natCast, Nat.mul_one, c1, c2, c3, beq_int_true, s1, bin_neq_bool 4 _ _ Try.underlying4, BEq.rfl, e2]
          exact held ⟨j - 1, by omega, i + 1, p, b, c, k, by omega, hI, g0, g1, g7, g9, rfl⟩
    by_cases hz1 : z = 1
    · by_cases hin : 0 ≤ x ∧ x < n
      · obtain ⟨q, rfl⟩ : ∃ q : Nat, x = q := ⟨x.toNat, by omega⟩
        have hq : q < k.length := by omega
        have hqk : (0 : Int) ≤ q ∧ (q : Int) < (k.length : Nat) := by omega
        cases hb : k.getD q false with
        | true =>
          have s1 : ∀ Q, Gets S 54 [.pointer (some ⟨p, 0, none⟩), .int .i64 q] μ' Q = Q (.bool true) (μ'.setRow b (nums .u8 (pack (k.set q false))) 5) := fun Q => by
            rw [clear_c hI.map, if_pos ⟨hqk, by rw [Int.toNat_natCast]; exact hb⟩, Int.toNat_natCast]
          have hb2 : (μ'.setRow b (nums .u8 (pack (k.set q false))) 5).at μ1.next = some (.row (bools k) 4 true) := by rw [at_setRow_ne _ _ _ hI.bk]; exact hbits
          simp -implicitDefEqProofs -dsimp (disch := first | omega | (simp only [lens, List.length_set, List.length_cons, List.length_nil, List.length_append, List.length_replicate]; done) | (simp only [lens, List.length_set, List.length_cons, List.length_nil, List.length_append, List.length_replicate]; omega)) only [↓walkA, walkB, coreB, Nat.reduceEqDiff, Nat.reduceAdd, ↓reduceIte, List.toList_toArray, List.map_cons, List.map_nil, List.getElem?_cons_zero, List.getElem?_cons_succ, Option.map_some, Option.map_none, Option.isSome_some, decide_true, decide_false, Try.f14, typesT, S_P, g0, g1, g7, g9, g10, hlen, hat, idx_slice _ el28, idx_slice _ el30, Int.toNat_natCast, Nat.mul_one, c1, c2, c3, beq_int_true, beq_int_false, bin_neq_bool 4 _ _ Try.underlying4, BEq.rfl, e2, s1, hb2, bools_get, hb, bools_set]
          exact held ⟨j - 1, by omega, i + 1, p, b, c, k.set q false, by omega, hI.both (by simp), g0, g1, g7, g9, rfl⟩
        | false =>
          have s1 : ∀ Q, Gets S 54 [.pointer (some ⟨p, 0, none⟩), .int .i64 q] μ' Q = Q (.bool false) μ' := fun Q => by
            rw [clear_c hI.map, if_neg (fun hh => by rw [Int.toNat_natCast, hb] at hh; cases hh.2)]
          have hks := set_false_same k q hb
          simp -implicitDefEqProofs -dsimp (disch := first | omega | (simp only [lens, List.length_set, List.length_cons, List.length_nil, List.length_append, List.length_replicate]; done) | (simp only [lens, List.length_set, List.length_cons, List.length_nil, List.length_append, List.length_replicate]; omega)) only [↓walkA, walkB, coreB, Nat.reduceEqDiff, Nat.reduceAdd, ↓reduceIte, List.toList_toArray, List.map_cons, List.map_nil, List.getElem?_cons_zero, List.getElem?_cons_succ, Option.map_some, Option.map_none, Option.isSome_some, decide_true, decide_false, Try.f14, typesT, S_P, g0, g1, g7, g9, g10, hlen, hat, idx_slice _ el28, idx_slice _ el30, Int.toNat_natCast, Nat.mul_one, c1, c2, c3, beq_int_true, beq_int_false, bin_neq_bool 4 _ _ Try.underlying4, BEq.rfl, e2, s1, hbits, bools_get, hb, bools_set, hks]
          exact held ⟨j - 1, by omega, i + 1, p, b, c, k, by omega, hI.same, g0, g1, g7, g9, rfl⟩
      · have s1 : ∀ Q, Gets S 54 [.pointer (some ⟨p, 0, none⟩), .int .i64 x] μ' Q = Q (.bool false) μ' := fun Q => by
          rw [clear_c hI.map, if_neg (fun hh => hin (by rw [hkn] at hh; exact hh.1))]
        by_cases hx0 : 0 ≤ x
        · simp -implicitDefEqProofs -dsimp (disch := first | omega | (simp only [lens, List.length_set, List.length_cons, List.length_nil, List.length_append, List.length_replicate]; done) | (simp only [lens, List.length_set, List.length_cons, List.length_nil, List.length_append, List.length_replicate]; omega)) only [↓walkA, walkB, coreB, Nat.reduceEqDiff, Nat.reduceAdd, ↓reduceIte, List.toList_toArray, List.map_cons, List.map_nil, List.getElem?_cons_zero, List.getElem?_cons_succ, Option.map_some, Option.map_none, Option.isSome_some, decide_true, decide_false, Try.f14, typesT, S_P, g0, g1, g7, g9, g10, hlen, hat, idx_slice _ el28, idx_slice _ el30, Int.toNat_natCast, Nat.mul_one, c1, c2, c3, beq_int_true, beq_int_false, bin_neq_bool 4 _ _ Try.underlying4, BEq.rfl, e2, s1]
          exact held ⟨j - 1, by omega, i + 1, p, b, c, k, by omega, hI, g0, g1, g7, g9, rfl⟩
        · simp -implicitDefEqProofs -dsimp (disch := first | omega | (simp only [lens, List.length_set, List.length_cons, List.length_nil, List.length_append, List.length_replicate]; done) | (simp only [lens, List.length_set, List.length_cons, List.length_nil, List.length_append, List.length_replicate]; omega)) only [↓walkA, walkB, coreB, Nat.reduceEqDiff, Nat.reduceAdd, ↓reduceIte, List.toList_toArray, List.map_cons, List.map_nil, List.getElem?_cons_zero, List.getElem?_cons_succ, Option.map_some, Option.map_none, Option.isSome_some, decide_true, decide_false, Try.f14, typesT, S_P, g0, g1, g7, g9, g10, hlen, hat, idx_slice _ el28, idx_slice _ el30, Int.toNat_natCast, Nat.mul_one, c1, c2, c3, beq_int_true, beq_int_false, bin_neq_bool 4 _ _ Try.underlying4, BEq.rfl, e2, s1]
          exact held ⟨j - 1, by omega, i + 1, p, b, c, k, by omega, hI, g0, g1, g7, g9, rfl⟩
    by_cases hz2 : z = 2
    · by_cases hok : 0 ≤ x ∧ x ≤ y ∧ y ≤ n
      · obtain ⟨q, rfl⟩ : ∃ q : Nat, x = q := ⟨x.toNat, by omega⟩
        obtain ⟨r, rfl⟩ : ∃ r : Nat, y = r := ⟨y.toNat, by omega⟩
        by_cases hqn : (q : Int) < n
        all_goals
          simp -implicitDefEqProofs -dsimp (disch := first | omega | (simp only [lens, List.length_set, List.length_cons, List.length_nil, List.length_append, List.length_replicate]; done) | (simp only [lens, List.length_set, List.length_cons, List.length_nil, List.length_append, List.length_replicate]; omega)) only [↓walkA, walkB, coreB, Nat.reduceEqDiff, Nat.reduceAdd, ↓reduceIte, List.toList_toArray, List.map_cons, List.map_nil, List.getElem?_cons_zero, List.getElem?_cons_succ, Option.map_some, Option.map_none, Option.isSome_some, decide_true, decide_false, Try.f14, typesT, S_P, g0, g1, g7, g9, g10, hlen, hat, idx_slice _ el28, idx_slice _ el30, Int.toNat_natCast, Nat.mul_one, c1, c2, c3, beq_int_true, beq_int_false, bin_neq_bool 4 _ _ Try.underlying4, BEq.rfl, e2]
          refine (fill_c hI.map q r).mono ?_
          intro w μ2 hw
          rw [if_pos (by rw [hkn]; exact hok)] at hw
          obtain ⟨rfl, w2, w3⟩ := hw
          rw [Int.toNat_natCast, show ((r : Int) - q).toNat = r - q by omega] at w2
          have hfl := fillL_length (r - q) q k
          have w4 : μ2.at μ1.next = some (.row (bools k) 4 true) := (w3.2 _ (fun e => hI.bk e.symm)).trans hbits
          simp -implicitDefEqProofs -dsimp (disch := first | omega | (simp only [lens, List.length_set, List.length_cons, List.length_nil, List.length_append, List.length_replicate]; done) | (simp only [lens, List.length_set, List.length_cons, List.length_nil, List.length_append, List.length_replicate]; omega)) only [↓walkA, walkB, coreB, Nat.reduceEqDiff, Nat.reduceAdd, ↓reduceIte, List.toList_toArray, List.map_cons, List.map_nil, List.getElem?_cons_zero, List.getElem?_cons_succ, Option.map_some, Option.map_none, Option.isSome_some, decide_true, decide_false, Try.f14, typesT, S_P, g0, g1, g7, g9, g10, hlen, hat, idx_slice _ el28, idx_slice _ el30, Int.toNat_natCast, Nat.mul_one, c1, c2, c3, beq_int_true, beq_int_false, bin_neq_bool 4 _ _ Try.underlying4, BEq.rfl, e2]
          refine loop_of S _ _ (fun j2 g μ3 => ∃ (t : Nat) (k' : List Bool), t + j2 = r ∧ q ≤ t ∧ k'.length = k.length ∧ fillL k' t j2 = fillL k q (r - q) ∧ But μ1.next μ2 μ3 ∧ μ3.at μ1.next = some (.row (bools k') 4 true) ∧ g 0 = .int .i64 n ∧ g 1 = .slice (some ⟨ab, 0, none⟩) l.length ac ∧ g 7 = .pointer (some ⟨p, 0, none⟩) ∧ g 9 = .slice (some ⟨μ1.next, 0, none⟩) n n ∧ g 10 = .int .i64 i ∧ g 12 = .int .i64 r ∧ g 14 = .bool true ∧ g 15 = .int .i64 t) (r - q) _ _ ⟨q, k, by omega, Nat.le_refl _, rfl, rfl, But.refl _ _, w4, g0, g1, g7, g9, g10, rfl, rfl, rfl⟩ ?_
          rintro j2 g μ3 ⟨t, k', u1, u2, u3, u4, u5, u6, g0, g1, g7, g9, g10, g12, g14, g15⟩
          by_cases ht : t < r
          · have e3 : ((t : Int) + 1) = ((t + 1 : Nat) : Int) := by omega
            simp -implicitDefEqProofs -dsimp (disch := first | omega | (simp only [lens, List.length_set, List.length_cons, List.length_nil, List.length_append, List.length_replicate]; done) | (simp only [lens, List.length_set, List.length_cons, List.length_nil, List.length_append, List.length_replicate]; omega)) only [↓walkA, walkB, coreB, Nat.reduceEqDiff, Nat.reduceAdd, ↓reduceIte, List.toList_toArray, List.map_cons, List.map_nil, List.getElem?_cons_zero, List.getElem?_cons_succ, Option.map_some, Option.map_none, Option.isSome_some, decide_true, decide_false, Try.f14, typesT, S_P, g0, g1, g7, g9, g10, g12, g14, g15, u6, idx_slice _ el30, Int.toNat_natCast, Nat.mul_one, bools_set, e3]
            refine held ⟨j2 - 1, by omega, t + 1, k'.set t true, by omega, by omega, by simpa using u3, ?_, u5.trans (But.set ..), at_setRow_same _ _ _ _, g0, g1, g7, g9, g10, g12, g14, rfl⟩
            rw [← u4]
            conv => rhs; rw [show j2 = (j2 - 1) + 1 by omega]
            rfl
          · simp -implicitDefEqProofs -dsimp (disch := first | omega | (simp only [lens, List.length_set, List.length_cons, List.length_nil, List.length_append, List.length_replicate]; done) | (simp only [lens, List.length_set, List.length_cons, List.length_nil, List.length_append, List.length_replicate]; omega)) only [↓walkA, walkB, coreB, Nat.reduceEqDiff, Nat.reduceAdd, ↓reduceIte, List.toList_toArray, List.map_cons, List.map_nil, List.getElem?_cons_zero, List.getElem?_cons_succ, Option.map_some, Option.map_none, Option.isSome_some, decide_true, decide_false, Try.f14, typesT, S_P, g0, g1, g7, g9, g10, g12, g14, g15, e2]
            have hj2 : j2 = 0 := by omega
            subst hj2
            have hkk : k' = fillL k q (r - q) := u4
            subst hkk
            refine held ⟨j - 1, by omega, i + 1, p, b, c, fillL k q (r - q), by omega, ⟨w2.frame (u5.2 _ hI.pk) (u5.2 _ hI.bk) (by rw [u5.1]; exact Nat.le_refl _), u6, hfl.trans hkn, hI.lp, hI.lb, hI.lk, hI.pk, hI.bk, by rw [u5.1, w3.1]; exact hI.kl, (hI.keeps.trans (w3.keeps hI.lb)).trans (u5.keeps hI.lk)⟩, g0, g1, g7, g9, rfl⟩
      · have fin : ∀ (w : Value) (μ2 : Mem), (if 0 ≤ x ∧ x ≤ y ∧ y ≤ (k.length : Nat) then w = .int .i64 0 ∧ IsMap μ2 p b c (fillL k x.toNat (y - x).toNat) ∧ But b μ' μ2 else w = .int .i64 90 ∧ μ2 = μ') → w = .int .i64 90 ∧ μ2 = μ' := fun w μ2 hw => by
          rwa [if_neg (by rw [hkn]; exact hok)] at hw
        by_cases hxn : 0 ≤ x ∧ x < n
        all_goals by_cases hx0 : 0 ≤ x
        all_goals by_cases hxy : x ≤ y
        all_goals by_cases hyn : y ≤ n
        all_goals try (exfalso; omega)
        all_goals
          simp -implicitDefEqProofs -dsimp (disch := first | omega | (simp only [lens, List.length_set, List.length_cons, List.length_nil, List.length_append, List.length_replicate]; done) | (simp only [lens, List.length_set, List.length_cons, List.length_nil, List.length_append, List.length_replicate]; omega)) only [↓walkA, walkB, coreB, Nat.reduceEqDiff, Nat.reduceAdd, ↓reduceIte, List.toList_toArray, List.map_cons, List.map_nil, List.getElem?_cons_zero, List.getElem?_cons_succ, Option.map_some, Option.map_none, Option.isSome_some, decide_true, decide_false, Try.f14, typesT, S_P, g0, g1, g7, g9, g10, hlen, hat, idx_slice _ el28, idx_slice _ el30, Int.toNat_natCast, Nat.mul_one, c1, c2, c3, beq_int_true, beq_int_false, bin_neq_bool 4 _ _ Try.underlying4, BEq.rfl, e2]
          refine (fill_c hI.map x y).mono ?_
          intro w μ2 hw
          obtain ⟨rfl, rfl⟩ := fin w μ2 hw
          simp -implicitDefEqProofs -dsimp (disch := first | omega | (simp only [lens, List.length_set, List.length_cons, List.length_nil, List.length_append, List.length_replicate]; done) | (simp only [lens, List.length_set, List.length_cons, List.length_nil, List.length_append, List.length_replicate]; omega)) only [↓walkA, walkB, coreB, Nat.reduceEqDiff, Nat.reduceAdd, ↓reduceIte, List.toList_toArray, List.map_cons, List.map_nil, List.getElem?_cons_zero, List.getElem?_cons_succ, Option.map_some, Option.map_none, Option.isSome_some, decide_true, decide_false, Try.f14, typesT, S_P, g0, g1, g7, g9, g10, hlen, hat, idx_slice _ el28, idx_slice _ el30, Int.toNat_natCast, Nat.mul_one, c1, c2, c3, beq_int_true, beq_int_false, bin_neq_bool 4 _ _ Try.underlying4, BEq.rfl, e2]
          refine loop_of S _ _ (fun j2 g μ3 => μ3 = μ2 ∧ g 0 = .int .i64 n ∧ g 1 = .slice (some ⟨ab, 0, none⟩) l.length ac ∧ g 7 = .pointer (some ⟨p, 0, none⟩) ∧ g 9 = .slice (some ⟨μ1.next, 0, none⟩) n n ∧ g 10 = .int .i64 i ∧ g 12 = .int .i64 y ∧ g 14 = .bool false ∧ g 15 = .int .i64 x) 0 _ _ ⟨rfl, g0, g1, g7, g9, g10, rfl, rfl, rfl⟩ ?_
          rintro j2 g μ3 ⟨rfl, g0, g1, g7, g9, g10, g12, g14, g15⟩
          by_cases hxy2 : x < y
          all_goals
            simp -implicitDefEqProofs -dsimp (disch := first | omega | (simp only [lens, List.length_set, List.length_cons, List.length_nil, List.length_append, List.length_replicate]; done) | (simp only [lens, List.length_set, List.length_cons, List.length_nil, List.length_append, List.length_replicate]; omega)) only [↓walkA, walkB, coreB, Nat.reduceEqDiff, Nat.reduceAdd, ↓reduceIte, List.toList_toArray, List.map_cons, List.map_nil, List.getElem?_cons_zero, List.getElem?_cons_succ, Option.map_some, Option.map_none, Option.isSome_some, decide_true, decide_false, Try.f14, typesT, S_P, g0, g1, g7, g9, g10, g12, g14, g15, e2]
            exact held ⟨j - 1, by omega, i + 1, p, b, c, k, by omega, hI, g0, g1, g7, g9, rfl⟩
    by_cases hz3 : z = 3
    · by_cases hx0 : 0 ≤ x
      all_goals by_cases hxn : x < n
      all_goals try (exfalso; omega)
      all_goals
        simp -implicitDefEqProofs -dsimp (disch := first | omega | (simp only [lens, List.length_set, List.length_cons, List.length_nil, List.length_append, List.length_replicate]; done) | (simp only [lens, List.length_set, List.length_cons, List.length_nil, List.length_append, List.length_replicate]; omega)) only [↓walkA, walkB, coreB, Nat.reduceEqDiff, Nat.reduceAdd, ↓reduceIte, List.toList_toArray, List.map_cons, List.map_nil, List.getElem?_cons_zero, List.getElem?_cons_succ, Option.map_some, Option.map_none, Option.isSome_some, decide_true, decide_false, Try.f14, typesT, S_P, g0, g1, g7, g9, g10, hlen, hat, idx_slice _ el28, idx_slice _ el30, Int.toNat_natCast, Nat.mul_one, c1, c2, c3, beq_int_true, beq_int_false, bin_neq_bool 4 _ _ Try.underlying4, BEq.rfl, e2]
        refine (clone_c hI.map).mono ?_
        rintro w μ2 ⟨rfl, w1, w2, w3⟩
        have hMo := hI.map.keeps w2
        have hlp := hI.map.lp
        have hlb := hI.map.lb
        have hbk2 : μ2.at μ1.next = some (.row (bools k) 4 true) := (w2.2 _ hI.kl).trans hbits
        have hsz := hI.keeps.1
        have hkl := hI.kl
        have hlb2 := hI.lb
        have fin : ∀ μ3, But b μ2 μ3 → PlayI μ μ3 n (μ'.next + 2) (μ'.next + 1) INF μ1.next k := fun μ3 hB => by
          refine ⟨w1.frame (hB.2 _ (by omega)) (hB.2 _ (by omega)) (by rw [hB.1]; exact Nat.le_refl _), (hB.2 _ (fun e => hI.bk e.symm)).trans hbk2, hkn, by omega, by omega, hI.lk, by omega, by omega, by rw [hB.1]; omega, (hI.keeps.trans (w2.le hsz)).trans (hB.keeps hlb2)⟩
        have s1 : ∀ Q, Gets S 53 [.pointer (some ⟨p, 0, none⟩), .int .i64 0] μ2 Q = if (0 ≤ (0 : Int) ∧ (0 : Int) < (k.length : Nat)) ∧ k.getD (0 : Int).toNat false = false then Q (.bool true) (μ2.setRow b (nums .u8 (pack (k.set (0 : Int).toNat true))) 5) else Q (.bool false) μ2 := fun Q => set_c hMo 0 Q
        by_cases hs : (0 ≤ (0 : Int) ∧ (0 : Int) < (k.length : Nat)) ∧ k.getD (0 : Int).toNat false = false
        · have s2 : ∀ Q, Gets S 53 [.pointer (some ⟨p, 0, none⟩), .int .i64 0] μ2 Q = Q (.bool true) (μ2.setRow b (nums .u8 (pack (k.set (0 : Int).toNat true))) 5) := fun Q => by rw [s1, if_pos hs]
          clear s1 hs
          simp -implicitDefEqProofs -dsimp (disch := first | omega | (simp only [lens, List.length_set, List.length_cons, List.length_nil, List.length_append, List.length_replicate]; done) | (simp only [lens, List.length_set, List.length_cons, List.length_nil, List.length_append, List.length_replicate]; omega)) only [↓walkA, walkB, coreB, Nat.reduceEqDiff, Nat.reduceAdd, ↓reduceIte, List.toList_toArray, List.map_cons, List.map_nil, List.getElem?_cons_zero, List.getElem?_cons_succ, Option.map_some, Option.map_none, Option.isSome_some, decide_true, decide_false, Try.f14, typesT, S_P, g0, g1, g7, g9, g10, s2, e2]
          exact held ⟨j - 1, by omega, i + 1, _, _, _, k, by omega, fin _ (But.set ..), g0, g1, rfl, g9, rfl⟩
        · have s2 : ∀ Q, Gets S 53 [.pointer (some ⟨p, 0, none⟩), .int .i64 0] μ2 Q = Q (.bool false) μ2 := fun Q => by rw [s1, if_neg hs]
          clear s1 hs
          simp -implicitDefEqProofs -dsimp (disch := first | omega | (simp only [lens, List.length_set, List.length_cons, List.length_nil, List.length_append, List.length_replicate]; done) | (simp only [lens, List.length_set, List.length_cons, List.length_nil, List.length_append, List.length_replicate]; omega)) only [↓walkA, walkB, coreB, Nat.reduceEqDiff, Nat.reduceAdd, ↓reduceIte, List.toList_toArray, List.map_cons, List.map_nil, List.getElem?_cons_zero, List.getElem?_cons_succ, Option.map_some, Option.map_none, Option.isSome_some, decide_true, decide_false, Try.f14, typesT, S_P, g0, g1, g7, g9, g10, s2, e2]
          exact held ⟨j - 1, by omega, i + 1, _, _, _, k, by omega, fin _ (But.refl ..), g0, g1, rfl, g9, rfl⟩
    · by_cases hx0 : 0 ≤ x
      all_goals by_cases hxn : x < n
      all_goals try (exfalso; omega)
      all_goals
        simp -implicitDefEqProofs -dsimp (disch := first | omega | (simp only [lens, List.length_set, List.length_cons, List.length_nil, List.length_append, List.length_replicate]; done) | (simp only [lens, List.length_set, List.length_cons, List.length_nil, List.length_append, List.length_replicate]; omega)) only [↓walkA, walkB, coreB, Nat.reduceEqDiff, Nat.reduceAdd, ↓reduceIte, List.toList_toArray, List.map_cons, List.map_nil, List.getElem?_cons_zero, List.getElem?_cons_succ, Option.map_some, Option.map_none, Option.isSome_some, decide_true, decide_false, Try.f14, typesT, S_P, g0, g1, g7, g9, g10, hlen, hat, idx_slice _ el28, idx_slice _ el30, Int.toNat_natCast, Nat.mul_one, c1, c2, c3, beq_int_true, beq_int_false, bin_neq_bool 4 _ _ Try.underlying4, BEq.rfl, e2]
        exact held ⟨j - 1, by omega, i + 1, p, b, c, k, by omega, hI, g0, g1, g7, g9, rfl⟩
  · simp -implicitDefEqProofs -dsimp (disch := first | omega | (simp only [lens, List.length_set, List.length_cons, List.length_nil, List.length_append, List.length_replicate]; done) | (simp only [lens, List.length_set, List.length_cons, List.length_nil, List.length_append, List.length_replicate]; omega)) only [↓walkA, walkB, coreB, Nat.reduceEqDiff, Nat.reduceAdd, ↓reduceIte, List.toList_toArray, List.map_cons, List.map_nil, List.getElem?_cons_zero, List.getElem?_cons_succ, Option.map_some, Option.map_none, Option.isSome_some, decide_true, decide_false, Try.f14, typesT, S_P, g0, g1, g7, g9, g10, hlen, bin_neq_pnil _ _ _ Try.underlying29]
    exact ⟨p, b, c, μ1.next, k, rfl, hI⟩
end Go.Mini.Bits
