/-
  What room.New, Take and the waking check of its laws come to. No statement of the seat is proved here; no condition.
-/
import Derived.Test.YtlflocejgffjdaaC1
set_option linter.unusedSimpArgs false
namespace Go.Mini.Bits
open Go.Proofs

/-- a slice of numbers that lies in memory, or an empty one -/
def NumsAt (μ : Mem) (v : Value) (k : IntKind) (l : List Nat) : Prop :=
  (l = [] ∧ (v = .slice none 0 0 ∨ ∃ a c, v = .slice (some a) 0 c)) ∨ ∃ n c cells e own, v = .slice (some ⟨n, 0, none⟩) l.length c ∧ μ.at n = some (.row cells e own) ∧ n < μ.next ∧ ∀ j, j < l.length → cells[j]? = some (.int k (l.getD j 0 : Nat))
theorem NumsAt.keeps {μ μ' : Mem} {v : Value} {k : IntKind} {l : List Nat} (h : NumsAt μ v k l) (hk : Keeps μ.next μ μ') : NumsAt μ' v k l := by
  rcases h with h | ⟨n, c, cells, e, own, h1, h2, h3, h4⟩
  · exact .inl h
  · exact .inr ⟨n, c, cells, e, own, h1, (hk.2 n h3).trans h2, by have := hk.1; omega, h4⟩
theorem NumsAt.of_grows {μ : Mem} {lo : Nat} {v : Value} {k : IntKind} {l : List Nat} {e : TypeId} (h : Grows μ lo v (nums k l) 1 e) : NumsAt μ v k l := by
  rcases h with ⟨h1, h2⟩ | ⟨n, len, h1, h2, h3, h4, h5, h6⟩
  · have : l = [] := by cases l with
      | nil => rfl
      | cons x l => cases h1
    rcases h2 with rfl | ⟨a, rfl⟩
    · exact .inl ⟨this, .inl rfl⟩
    · exact .inl ⟨this, .inr ⟨_, _, rfl⟩⟩
  · rw [nums_length, Nat.mul_one] at h3
    subst h3
    exact .inr ⟨n, _, _, _, _, h1, h4, h6, fun j hj => nums_get k l j hj⟩
theorem NumsAt.len {μ : Mem} {v : Value} {k : IntKind} {l : List Nat} (h : NumsAt μ v k l) {t e : TypeId} (hu : Try.prog.underlying t = some (.slice e)) (ty : TypeId) (μ' : Mem) : lenV Try.prog t ty v μ' = some (.int .i64 (l.length : Nat)) := by
  rcases h with ⟨rfl, rfl | ⟨a, c, rfl⟩⟩ | ⟨n, c, cells, e, own, rfl, _⟩
  · exact len_nil hu _ _
  · exact len_slice hu _ _ _ _ _
  · exact len_slice hu _ _ _ _ _
/-- one of them is read -/
theorem NumsAt.get {μ : Mem} {v : Value} {k : IntKind} {l : List Nat} (h : NumsAt μ v k l) {j : Nat} (hj : j < l.length) : ∃ n c cells e own, v = .slice (some ⟨n, 0, none⟩) l.length c ∧ μ.at n = some (.row cells e own) ∧ cells[j]? = some (.int k (l.getD j 0 : Nat)) := by
  rcases h with ⟨rfl, _⟩ | ⟨n, c, cells, e, own, h1, h2, h3, h4⟩
  · exact absurd hj (Nat.not_lt_zero j)
  · exact ⟨n, c, cells, e, own, h1, h2, h4 j hj⟩

/-! ### New -/
/-- the states when the first i of l are used -/
def usedF (l : List Nat) (i x : Nat) : Nat := if x ∈ l.take i then 2 else freshF x
/-- may the i-th of l be used? -/
def useOk (n : Nat) (l : List Nat) (i : Nat) : Prop := l.getD i 0 < n ∧ l.getD i 0 ≠ 0 ∧ l.getD i 0 ∉ l.take i
theorem usedF_zero (l : List Nat) : usedF l 0 = freshF := by
  funext x
  simp [usedF]
theorem usedF_one (n : Nat) (l : List Nat) (i : Nat) : ((if l.getD i 0 < n then usedF l i (l.getD i 0) else 0) = 1) ↔ useOk n l i := by
  obtain ⟨a, ha⟩ : ∃ a, l.getD i 0 = a := ⟨_, rfl⟩
  rw [useOk, ha]
  by_cases h1 : a < n
  · rw [if_pos h1]
    unfold usedF freshF
    by_cases h2 : a ∈ l.take i
    · rw [if_pos h2]
      exact ⟨fun h => (by cases h), fun h => absurd h2 h.2.2⟩
    · rw [if_neg h2]
      by_cases h3 : a = 0
      · rw [if_pos h3]
        exact ⟨fun h => (by cases h), fun h => absurd h3 h.2.1⟩
      · rw [if_neg h3]
        exact ⟨fun _ => ⟨h1, h3, h2⟩, fun _ => rfl⟩
  · rw [if_neg h1]
    exact ⟨fun h => (by cases h), fun h => absurd h.1 h1⟩
theorem usedF_next (l : List Nat) (i : Nat) (hi : i < l.length) (x : Nat) : usedF l (i + 1) x = if x = l.getD i 0 then 2 else usedF l i x := by
  obtain ⟨a, ha⟩ : ∃ a, l.getD i 0 = a := ⟨_, rfl⟩
  have e : l.take (i + 1) = l.take i ++ [a] := by
    rw [List.take_add_one, ← ha, List.getD_eq_getElem?_getD, List.getElem?_eq_getElem hi]
    rfl
  unfold usedF
  rw [e, ha]
  simp only [List.mem_append, List.mem_singleton]
  by_cases hx : x = a
  · simp [hx]
  · simp [hx]
theorem new_bad {n : Int} (hn : ¬ (16 ≤ n ∧ n ≤ 8192)) (v : Value) (μ : Mem) (Q : Value → Mem → Prop) : Gets S 31 [.int .i64 n, v] μ Q = Q (.tuple #[.pointer none, .int .i64 0, .int .i64 120]) μ := by
  refine propext (Gets.iff ?_ Q)
  refine Gets.enter (fn := Try.f31) Try.func31 rfl rfl rfl (Nat.le_of_ble_eq_true rfl) ?_
  simp -implicitDefEqProofs -dsimp (disch := first | omega | (simp only [lens, List.length_set, List.length_cons, List.length_nil, List.length_append, List.length_replicate]; done) | (simp only [lens, List.length_set, List.length_cons, List.length_nil, List.length_append, List.length_replicate]; omega)) only [↓walkA, walkB, coreB, Nat.reduceEqDiff, Nat.reduceAdd, Int.reduceBEq, ↓reduceIte, List.toList_toArray, List.map_cons, List.map_nil, List.getElem?_cons_zero, List.getElem?_cons_succ, Option.map_some, Option.map_none, Option.isSome_some, decide_true, decide_false, typesT, S_P, Try.f31, empty_bad hn, Int.reduceBEq]
theorem rnew_c {n : Nat} (h1 : 16 ≤ n) (h2 : n ≤ 8192) {μ : Mem} {v : Value} {l : List Nat} (hv : NumsAt μ v .u32 l) (hl : l.length ≤ 9223372036854775807) (hx : ∀ j, j < l.length → l.getD j 0 < 4294967296) :
    Gets S 31 [.int .i64 n, v] μ fun r μ' => Keeps μ.next μ μ' ∧ ((∃ i, i < l.length ∧ (∀ j, j < i → useOk n l j) ∧ ¬ useOk n l i ∧ r = .tuple #[.pointer none, .int .i64 (i : Nat), .int .i64 121]) ∨
      ((∀ j, j < l.length → useOk n l j) ∧ r = .tuple #[.pointer (some ⟨μ.next + 1, 0, none⟩), .int .i64 0, .int .i64 0] ∧ IsRoom μ' (μ.next + 1) μ.next n n (usedF l l.length) ∧ μ'.next = μ.next + 2)) := by
  refine Gets.enter (fn := Try.f31) Try.func31 rfl rfl rfl (Nat.le_of_ble_eq_true rfl) ?_
  simp -implicitDefEqProofs -dsimp (disch := first | omega | (simp only [lens, List.length_set, List.length_cons, List.length_nil, List.length_append, List.length_replicate]; done) | (simp only [lens, List.length_set, List.length_cons, List.length_nil, List.length_append, List.length_replicate]; omega)) only [↓walkA, walkB, coreB, Nat.reduceEqDiff, Nat.reduceAdd, Int.reduceBEq, ↓reduceIte, List.toList_toArray, List.map_cons, List.map_nil, List.getElem?_cons_zero, List.getElem?_cons_succ, Option.map_some, Option.map_none, Option.isSome_some, decide_true, decide_false, typesT, S_P, Try.f31]
  refine (empty_c h1 h2 μ).mono ?_
  rintro r μ1 ⟨rfl, k1, k2, k3⟩
  have hv1 := hv.keeps k2
  have hlen := fun ty m => NumsAt.len hv1 Try.underlying53 ty m
  simp -implicitDefEqProofs -dsimp (disch := first | omega | (simp only [lens, List.length_set, List.length_cons, List.length_nil, List.length_append, List.length_replicate]; done) | (simp only [lens, List.length_set, List.length_cons, List.length_nil, List.length_append, List.length_replicate]; omega)) only [↓walkA, walkB, coreB, Nat.reduceEqDiff, Nat.reduceAdd, Int.reduceBEq, ↓reduceIte, List.toList_toArray, List.map_cons, List.map_nil, List.getElem?_cons_zero, List.getElem?_cons_succ, Option.map_some, Option.map_none, Option.isSome_some, decide_true, decide_false, Try.f31, typesT, S_P, hlen]
  refine loop_of S _ _ (fun j g μ2 => ∃ i : Nat, i + j = l.length ∧ But μ.next μ1 μ2 ∧ (∀ j, j < i → useOk n l j) ∧ IsRoom μ2 (μ.next + 1) μ.next n n (usedF l i) ∧ g 7 = .pointer (some ⟨μ.next + 1, 0, none⟩) ∧ g 19 = v ∧ g 20 = .int .i64 l.length ∧ g 21 = .int .i64 i) l.length _ _ ⟨0, by omega, But.refl _ _, fun j hj => absurd hj (Nat.not_lt_zero j), by rw [usedF_zero]; exact k1, rfl, rfl, rfl, rfl⟩ ?_
  rintro j g μ2 ⟨i, q1, q2, q3, q4, g7, g19, g20, g21⟩
  have hv2 : NumsAt μ2 v .u32 l := by
    rcases hv with hv | ⟨m, c, cells, e, own, m1, m2, m3, m4⟩
    · exact .inl hv
    · exact .inr ⟨m, c, cells, e, own, m1, (q2.2 m (by omega)).trans ((k2.2 m m3).trans m2), by rw [q2.1]; omega, m4⟩
  have hk12 : Keeps μ.next μ μ2 := k2.trans (q2.keeps (Nat.le_refl _))
  by_cases hi : i < l.length
  · obtain ⟨m, c, cells, e, own, rfl, m2, m3⟩ := hv2.get hi
    have hxi := hx i hi
    have e2 : ((i : Int) + 1) = ((i + 1 : Nat) : Int) := by omega
    obtain ⟨a, ha⟩ : ∃ a, l.getD i 0 = a := ⟨_, rfl⟩
    have hone := usedF_one n l i
    rw [ha] at m3 hxi hone
    by_cases hok : useOk n l i
    · have hst := hone.2 hok
      have han : a < n := by
        by_cases h : a < n
        · exact h
        · rw [if_neg h] at hst; cases hst
      have hstb : (((if a < n then usedF l i a else 0 : Nat) : Int) == 1) = true := by rw [hst]; rfl
      have b1 := q4.st
      have b2 := q4.by_
      have hset : (rowF .i64 n (usedF l i)).set a (.int .i64 2) = _ := rowF_set .i64 n (usedF l i) a 2
      simp -implicitDefEqProofs -dsimp (disch := first | omega | (simp only [lens, List.length_set, List.length_cons, List.length_nil, List.length_append, List.length_replicate]; done) | (simp only [lens, List.length_set, List.length_cons, List.length_nil, List.length_append, List.length_replicate]; omega)) only [↓walkA, walkB, coreB, Nat.reduceEqDiff, Nat.reduceAdd, Int.reduceBEq, ↓reduceIte, List.toList_toArray, List.map_cons, List.map_nil, List.getElem?_cons_zero, List.getElem?_cons_succ, Option.map_some, Option.map_none, Option.isSome_some, decide_true, decide_false, Try.f31, typesT, S_P, g7, g19, g20, g21, m2, m3, idx_slice _ el53, idx_slice _ el62, Int.toNat_natCast, Nat.mul_one, state_c q4, hxi, hstb, b1, b2, hset, e2]
      refine held ⟨j - 1, by omega, i + 1, by omega, q2.trans (But.set ..), ?_, ?_, g7, g19, g20, rfl⟩
      · intro t ht
        by_cases h : t = i
        · rw [h]; exact hok
        · exact q3 t (by omega)
      · have := q4.put (usedF l (i + 1))
        rw [show rowF .i64 n (usedF l (i + 1)) = rowF .i64 n (fun x => if x = a then 2 else usedF l i x) from rowF_congr fun x _ => by rw [usedF_next l i hi, ha]] at this
        exact this
    · have hst : ¬ (if a < n then usedF l i a else 0) = 1 := fun h => hok (hone.1 h)
      have hstb : (((if a < n then usedF l i a else 0 : Nat) : Int) == 1) = false := by
        rw [beq_eq_false_iff_ne]; omega
      simp -implicitDefEqProofs -dsimp (disch := first | omega | (simp only [lens, List.length_set, List.length_cons, List.length_nil, List.length_append, List.length_replicate]; done) | (simp only [lens, List.length_set, List.length_cons, List.length_nil, List.length_append, List.length_replicate]; omega)) only [↓walkA, walkB, coreB, Nat.reduceEqDiff, Nat.reduceAdd, Int.reduceBEq, ↓reduceIte, List.toList_toArray, List.map_cons, List.map_nil, List.getElem?_cons_zero, List.getElem?_cons_succ, Option.map_some, Option.map_none, Option.isSome_some, decide_true, decide_false, Try.f31, typesT, S_P, g7, g19, g20, g21, m2, m3, idx_slice _ el53, idx_slice _ el62, Int.toNat_natCast, Nat.mul_one, state_c q4, hxi, hstb, e2]
      exact ⟨hk12, .inl ⟨i, hi, q3, hok, rfl⟩⟩
  · have : i = l.length := by omega
    subst this
    simp -implicitDefEqProofs -dsimp (disch := first | omega | (simp only [lens, List.length_set, List.length_cons, List.length_nil, List.length_append, List.length_replicate]; done) | (simp only [lens, List.length_set, List.length_cons, List.length_nil, List.length_append, List.length_replicate]; omega)) only [↓walkA, walkB, coreB, Nat.reduceEqDiff, Nat.reduceAdd, Int.reduceBEq, ↓reduceIte, List.toList_toArray, List.map_cons, List.map_nil, List.getElem?_cons_zero, List.getElem?_cons_succ, Option.map_some, Option.map_none, Option.isSome_some, decide_true, decide_false, Try.f31, typesT, S_P, g7, g19, g20, g21]
    exact ⟨hk12, .inr ⟨q3, q4, by rw [q2.1, k3]⟩⟩

/-! ### Take -/
/-- the least of the first n that has the state s -/
def idxF (F : Nat → Nat) (s : Int) (n : Nat) : Int :=
  match (List.range n).find? fun i => ((F i : Nat) : Int) == s with
  | some i => i
  | none => -1
theorem idxF_some {F : Nat → Nat} {s : Int} {n i : Nat} (hi : i < n) (hs : ((F i : Nat) : Int) = s) (hn : ∀ j, j < i → ((F j : Nat) : Int) ≠ s) : idxF F s n = i := by
  have : (List.range n).find? (fun i => ((F i : Nat) : Int) == s) = some i := by
    rw [List.find?_range_eq_some]
    exact ⟨by simpa using hs, List.mem_range.2 hi, fun j hj => by simpa using hn j hj⟩
  rw [idxF, this]
theorem idxF_none {F : Nat → Nat} {s : Int} {n : Nat} (hn : ∀ j, j < n → ((F j : Nat) : Int) ≠ s) : idxF F s n = -1 := by
  have : (List.range n).find? (fun i => ((F i : Nat) : Int) == s) = none := by
    rw [List.find?_range_eq_none]
    exact fun j hj => by simpa using hn j hj
  rw [idxF, this]
theorem idxF_spec (F : Nat → Nat) (s : Int) (n : Nat) : (idxF F s n = -1 ∧ ∀ j, j < n → ((F j : Nat) : Int) ≠ s) ∨ ∃ i : Nat, idxF F s n = i ∧ i < n ∧ ((F i : Nat) : Int) = s ∧ ∀ j, j < i → ((F j : Nat) : Int) ≠ s := by
  unfold idxF
  cases hf : (List.range n).find? (fun i => ((F i : Nat) : Int) == s) with
  | none =>
    rw [List.find?_range_eq_none] at hf
    exact .inl ⟨rfl, fun j hj => by simpa using hf j hj⟩
  | some i =>
    rw [List.find?_range_eq_some] at hf
    obtain ⟨h1, h2, h3⟩ := hf
    exact .inr ⟨i, rfl, List.mem_range.1 h2, by simpa using h1, fun j hj => by simpa using h3 j hj⟩
theorem index_c {μ : Mem} {b c n : Nat} {F : Nat → Nat} {e : TypeId} {own : Bool} (hb : μ.at b = some (.row (rowF .i64 n F) e own)) (hn : n ≤ 9223372036854775806) (s : Int) (Q : Value → Mem → Prop) : Gets S 75 [.slice (some ⟨b, 0, none⟩) n c, .int .i64 s] μ Q = Q (.int .i64 (idxF F s n)) μ := by
  refine propext (Gets.iff ?_ Q)
  refine Gets.enter (fn := Try.f75) Try.func75 rfl rfl rfl (Nat.le_of_ble_eq_true rfl) ?_
  simp -implicitDefEqProofs -dsimp (disch := first | omega | (simp only [lens, List.length_set, List.length_cons, List.length_nil, List.length_append, List.length_replicate]; done) | (simp only [lens, List.length_set, List.length_cons, List.length_nil, List.length_append, List.length_replicate]; omega)) only [↓walkA, walkB, coreB, Nat.reduceEqDiff, Nat.reduceAdd, Int.reduceBEq, ↓reduceIte, List.toList_toArray, List.map_cons, List.map_nil, List.getElem?_cons_zero, List.getElem?_cons_succ, Option.map_some, Option.map_none, Option.isSome_some, decide_true, decide_false, typesT, S_P, Try.f75, len_slice Try.underlying62]
  refine loop_of S _ _ (fun j g μ' => ∃ i : Nat, i + j = n ∧ μ' = μ ∧ (∀ y, y < i → ((F y : Nat) : Int) ≠ s) ∧ g 0 = .slice (some ⟨b, 0, none⟩) n c ∧ g 1 = .int .i64 s ∧ g 7 = .int .i64 n ∧ g 8 = .int .i64 i) n _ _ ⟨0, by omega, rfl, fun y hy => absurd hy (Nat.not_lt_zero y), rfl, rfl, rfl, rfl⟩ ?_
  rintro j g μ' ⟨i, k1, rfl, k2, g0, g1, g7, g8⟩
  by_cases hi : i < n
  · have e2 : ((i : Int) + 1) = ((i + 1 : Nat) : Int) := by omega
    by_cases hs : ((F i : Nat) : Int) = s
    · have hsb : (s == ((F i : Nat) : Int)) = true := by simp [hs]
      simp -implicitDefEqProofs -dsimp (disch := first | omega | (simp only [lens, List.length_set, List.length_cons, List.length_nil, List.length_append, List.length_replicate]; done) | (simp only [lens, List.length_set, List.length_cons, List.length_nil, List.length_append, List.length_replicate]; omega)) only [↓walkA, walkB, coreB, Nat.reduceEqDiff, Nat.reduceAdd, Int.reduceBEq, ↓reduceIte, List.toList_toArray, List.map_cons, List.map_nil, List.getElem?_cons_zero, List.getElem?_cons_succ, Option.map_some, Option.map_none, Option.isSome_some, decide_true, decide_false, Try.f75, typesT, S_P, g0, g1, g7, g8, hb, idx_slice _ el62, Int.toNat_natCast, Nat.mul_one, rowF_get, hsb]
      rw [idxF_some hi hs k2]
    · have hsb : (s == ((F i : Nat) : Int)) = false := by
        rw [beq_eq_false_iff_ne]
        exact fun h => hs h.symm
      simp -implicitDefEqProofs -dsimp (disch := first | omega | (simp only [lens, List.length_set, List.length_cons, List.length_nil, List.length_append, List.length_replicate]; done) | (simp only [lens, List.length_set, List.length_cons, List.length_nil, List.length_append, List.length_replicate]; omega)) only [↓walkA, walkB, coreB, Nat.reduceEqDiff, Nat.reduceAdd, Int.reduceBEq, ↓reduceIte, List.toList_toArray, List.map_cons, List.map_nil, List.getElem?_cons_zero, List.getElem?_cons_succ, Option.map_some, Option.map_none, Option.isSome_some, decide_true, decide_false, Try.f75, typesT, S_P, g0, g1, g7, g8, hb, idx_slice _ el62, Int.toNat_natCast, Nat.mul_one, rowF_get, hsb, e2]
      refine held ⟨j - 1, by omega, i + 1, by omega, rfl, ?_, g0, g1, g7, rfl⟩
      intro y hy
      by_cases h : y = i
      · rw [h]; exact hs
      · exact k2 y (by omega)
  · have : i = n := by omega
    subst this
    simp -implicitDefEqProofs -dsimp (disch := first | omega | (simp only [lens, List.length_set, List.length_cons, List.length_nil, List.length_append, List.length_replicate]; done) | (simp only [lens, List.length_set, List.length_cons, List.length_nil, List.length_append, List.length_replicate]; omega)) only [↓walkA, walkB, coreB, Nat.reduceEqDiff, Nat.reduceAdd, Int.reduceBEq, ↓reduceIte, List.toList_toArray, List.map_cons, List.map_nil, List.getElem?_cons_zero, List.getElem?_cons_succ, Option.map_some, Option.map_none, Option.isSome_some, decide_true, decide_false, Try.f75, typesT, S_P, g0, g1, g7, g8]
    rw [idxF_none k2]
section
variable {μ : Mem} {p b c n : Nat} {F : Nat → Nat} (h : IsRoom μ p b c n F)
include h
theorem take_c (Q : Value → Mem → Prop) : Gets S 43 [.pointer (some ⟨p, 0, none⟩)] μ Q = if idxF F 1 n < 0 then Q (.tuple #[.int .u32 0, .int .i64 3]) μ else Q (.tuple #[.int .u32 (idxF F 1 n), .int .i64 0]) (μ.setRow b (rowF .i64 n (fun x => if x = (idxF F 1 n).toNat then 3 else F x)) 3) := by
  have h0 := h.st
  have h1 := h.by_
  have hl := h.le
  rcases idxF_spec F 1 n with ⟨e, _⟩ | ⟨i, e, hi, _⟩
  · rw [e, if_pos (by decide)]
    refine propext (Gets.iff ?_ Q)
    refine Gets.enter (fn := Try.f43) Try.func43 rfl rfl rfl (Nat.le_of_ble_eq_true rfl) ?_
    simp -implicitDefEqProofs -dsimp (disch := first | omega | (simp only [lens, List.length_set, List.length_cons, List.length_nil, List.length_append, List.length_replicate]; done) | (simp only [lens, List.length_set, List.length_cons, List.length_nil, List.length_append, List.length_replicate]; omega)) only [↓walkA, walkB, coreB, Nat.reduceEqDiff, Nat.reduceAdd, Int.reduceBEq, ↓reduceIte, List.toList_toArray, List.map_cons, List.map_nil, List.getElem?_cons_zero, List.getElem?_cons_succ, Option.map_some, Option.map_none, Option.isSome_some, decide_true, decide_false, typesT, S_P, Try.f43, h0, bin_eql_pnil _ _ _ Try.underlying47, index_c h1, e]
  · rw [e, if_neg (by omega), Int.toNat_natCast]
    refine propext (Gets.iff ?_ Q)
    refine Gets.enter (fn := Try.f43) Try.func43 rfl rfl rfl (Nat.le_of_ble_eq_true rfl) ?_
    have hset : (rowF .i64 n F).set i (.int .i64 3) = _ := rowF_set .i64 n F i 3
    simp -implicitDefEqProofs -dsimp (disch := first | omega | (simp only [lens, List.length_set, List.length_cons, List.length_nil, List.length_append, List.length_replicate]; done) | (simp only [lens, List.length_set, List.length_cons, List.length_nil, List.length_append, List.length_replicate]; omega)) only [↓walkA, walkB, coreB, Nat.reduceEqDiff, Nat.reduceAdd, Int.reduceBEq, ↓reduceIte, List.toList_toArray, List.map_cons, List.map_nil, List.getElem?_cons_zero, List.getElem?_cons_succ, Option.map_some, Option.map_none, Option.isSome_some, decide_true, decide_false, typesT, S_P, Try.f43, h0, h1, bin_eql_pnil _ _ _ Try.underlying47, index_c h1, e, idx_slice _ el62, Int.toNat_natCast, Nat.mul_one, hset, wrap_u32]
end
theorem two_u32 (μ : Mem) (x y : Int) : buildSliceM Try.prog 53 2 [(0, .int .u32 x), (1, .int .u32 y)] μ = some (.slice (some ⟨μ.next, 0, none⟩) 2 2, μ.add [.int .u32 x, .int .u32 y] 55) := by kernel_rfl
instance (n : Nat) (l : List Nat) (i : Nat) : Decidable (useOk n l i) := by unfold useOk; infer_instance
theorem awake_r (μ : Mem) : Gets S 22 [] μ fun v μ' => v = .bool true ∧ Keeps μ.next μ μ' := by
  refine Gets.enter (fn := Try.f22) Try.func22 rfl rfl rfl (Nat.le_of_ble_eq_true rfl) ?_
  obtain ⟨μ1, hμ1⟩ : ∃ μ1, μ.add [.int .u32 1, .int .u32 2] 55 = μ1 := ⟨_, rfl⟩
  have hk1 : Keeps μ.next μ μ1 := by
    rw [← hμ1]
    exact (Keeps.refl _ _).add (Nat.le_refl _) _ _
  have hv : NumsAt μ1 (.slice (some ⟨μ.next, 0, none⟩) 2 2) .u32 [1, 2] := by
    rw [← hμ1]
    refine .inr ⟨μ.next, 2, _, _, _, rfl, at_add_same μ _ _, by rw [next_add]; omega, ?_⟩
    intro j hj
    have : j = 0 ∨ j = 1 := by simp at hj; omega
    rcases this with rfl | rfl <;> rfl
  have hnew := rnew_c (n := 16) (by decide) (by decide) hv (by decide) (by decide)
  simp -implicitDefEqProofs -dsimp (disch := first | omega | (simp only [lens, List.length_set, List.length_cons, List.length_nil, List.length_append, List.length_replicate]; done) | (simp only [lens, List.length_set, List.length_cons, List.length_nil, List.length_append, List.length_replicate]; omega)) only [↓walkA, walkB, coreB, Nat.reduceEqDiff, Nat.reduceAdd, Int.reduceBEq, ↓reduceIte, List.toList_toArray, List.map_cons, List.map_nil, List.getElem?_cons_zero, List.getElem?_cons_succ, Option.map_some, Option.map_none, Option.isSome_some, decide_true, decide_false, typesT, S_P, Try.f22, two_u32, hμ1]
  refine hnew.mono ?_
  rintro r μ2 ⟨k1, ⟨i, hi, _, hbad, _⟩ | ⟨_, rfl, hM, hn2⟩⟩
  · exfalso
    have : i = 0 ∨ i = 1 := by simp at hi; omega
    rcases this with rfl | rfl
    · exact hbad (by decide)
    · exact hbad (by decide)
  · have e3 : idxF (usedF [1, 2] 2) 1 16 = 3 := by decide
    have hM' : IsRoom μ2 (μ1.next + 1) μ1.next 16 16 (usedF [1, 2] 2) := hM
    have hM2 := hM'.put (fun x => if x = 3 then 3 else usedF [1, 2] 2 x)
    have hs := fun Q => state_c hM2 3 (by decide) Q
    simp only [Nat.reduceLT, if_true] at hs
    have ht := fun Q => take_c hM' Q
    rw [e3] at ht
    simp only [show ¬ ((3 : Int) < 0) by decide, if_false, show (3 : Int).toNat = 3 from rfl] at ht
    have hs' : ∀ Q, Gets S 69 [.pointer (some ⟨μ1.next + 1, 0, none⟩), .int .u32 3] (μ2.setRow μ1.next (rowF .i64 16 (fun x => if x = 3 then 3 else usedF [1, 2] 2 x)) 3) Q = Q (.int .i64 3) (μ2.setRow μ1.next (rowF .i64 16 (fun x => if x = 3 then 3 else usedF [1, 2] 2 x)) 3) := hs
    simp -implicitDefEqProofs -dsimp (disch := first | omega | (simp only [lens, List.length_set, List.length_cons, List.length_nil, List.length_append, List.length_replicate]; done) | (simp only [lens, List.length_set, List.length_cons, List.length_nil, List.length_append, List.length_replicate]; omega)) only [↓walkA, walkB, coreB, Nat.reduceEqDiff, Nat.reduceAdd, Int.reduceBEq, ↓reduceIte, List.toList_toArray, List.map_cons, List.map_nil, List.getElem?_cons_zero, List.getElem?_cons_succ, Option.map_some, Option.map_none, Option.isSome_some, decide_true, decide_false, Try.f22, typesT, S_P, bin_eql_pnil _ _ _ Try.underlying47, ht, hs']
    exact (hk1.trans (k1.le hk1.1)).set hk1.1 _ _
end Go.Mini.Bits
