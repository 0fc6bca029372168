/-
  The reference's counts, places and stretches of bits, and package bits' stretches. No statement of the seat is proved here; no condition.
-/
import Derived.Test.YtlflocejgffjdaaB7
set_option linter.unusedSimpArgs false
namespace Go.Mini.Bits
open Go.Proofs

theorem refcount_c {μ : Mem} {b c n : Nat} {k : List Bool} {own : Bool} (hb : μ.at b = some (.row (bools k) 4 own)) (hn : n = k.length) (hl : k.length ≤ 1000000) (Q : Value → Mem → Prop) : Gets S 63 [.slice (some ⟨b, 0, none⟩) n c] μ Q = Q (.int .i64 (cntN k k.length : Nat)) μ := by
  subst hn
  refine propext (Gets.iff ?_ Q)
  refine Gets.enter (fn := Try.f63) Try.func63 rfl rfl rfl (Nat.le_of_ble_eq_true rfl) ?_
  simp -implicitDefEqProofs -dsimp (disch := first | omega | (simp only [lens, List.length_set, List.length_cons, List.length_nil, List.length_append, List.length_replicate]; done) | (simp only [lens, List.length_set, List.length_cons, List.length_nil, List.length_append, List.length_replicate]; omega)) only [↓walkA, walkB, coreB, Nat.reduceEqDiff, Nat.reduceAdd, ↓reduceIte, List.toList_toArray, List.map_cons, List.map_nil, List.getElem?_cons_zero, List.getElem?_cons_succ, Option.map_some, Option.map_none, Option.isSome_some, decide_true, decide_false, typesT, S_P, Try.f63]
  refine loop_of S _ _ (fun j g μ' => ∃ i : Nat, i + j = k.length ∧ μ' = μ ∧ g 0 = .slice (some ⟨b, 0, none⟩) k.length c ∧ g 3 = .int .i64 (cntN k i : Nat) ∧ g 4 = .int .i64 i) k.length _ _ ⟨0, by omega, rfl, rfl, rfl, rfl⟩ ?_
  rintro j g μ' ⟨i, h1, rfl, g0, g3, g4⟩
  by_cases hi : i < k.length
  · have e2 : ((i : Int) + 1) = ((i + 1 : Nat) : Int) := by omega
    have hc := cntN_le k i
    have hs : cntN k (i + 1) = cntN k i + bN (k.getD i false) := rfl
    cases hv : k.getD i false with
    | true =>
      rw [hv] at hs
      have e3 : ((cntN k i : Nat) : Int) + 1 = (cntN k (i + 1) : Nat) := by rw [hs]; rfl
      simp -implicitDefEqProofs -dsimp (disch := first | omega | (simp only [lens, List.length_set, List.length_cons, List.length_nil, List.length_append, List.length_replicate]; done) | (simp only [lens, List.length_set, List.length_cons, List.length_nil, List.length_append, List.length_replicate]; omega)) only [↓walkA, walkB, coreB, Nat.reduceEqDiff, Nat.reduceAdd, ↓reduceIte, List.toList_toArray, List.map_cons, List.map_nil, List.getElem?_cons_zero, List.getElem?_cons_succ, Option.map_some, Option.map_none, Option.isSome_some, decide_true, decide_false, Try.f63, typesT, S_P, g0, g3, g4, hb, len_slice Try.underlying30, idx_slice _ el30, bools_get, Int.toNat_natCast, Nat.mul_one, hv, e2, e3]
      exact held ⟨j - 1, by omega, i + 1, by omega, rfl, g0, rfl, rfl⟩
    | false =>
      rw [hv] at hs
      have e3 : cntN k (i + 1) = cntN k i := hs
      simp -implicitDefEqProofs -dsimp (disch := first | omega | (simp only [lens, List.length_set, List.length_cons, List.length_nil, List.length_append, List.length_replicate]; done) | (simp only [lens, List.length_set, List.length_cons, List.length_nil, List.length_append, List.length_replicate]; omega)) only [↓walkA, walkB, coreB, Nat.reduceEqDiff, Nat.reduceAdd, ↓reduceIte, List.toList_toArray, List.map_cons, List.map_nil, List.getElem?_cons_zero, List.getElem?_cons_succ, Option.map_some, Option.map_none, Option.isSome_some, decide_true, decide_false, Try.f63, typesT, S_P, g0, g3, g4, hb, len_slice Try.underlying30, idx_slice _ el30, bools_get, Int.toNat_natCast, Nat.mul_one, hv, e2]
      exact held ⟨j - 1, by omega, i + 1, by omega, rfl, g0, by rw [e3]; exact g3, rfl⟩
  · have : i = k.length := by omega
    subst this
    simp -implicitDefEqProofs -dsimp (disch := first | omega | (simp only [lens, List.length_set, List.length_cons, List.length_nil, List.length_append, List.length_replicate]; done) | (simp only [lens, List.length_set, List.length_cons, List.length_nil, List.length_append, List.length_replicate]; omega)) only [↓walkA, walkB, coreB, Nat.reduceEqDiff, Nat.reduceAdd, ↓reduceIte, List.toList_toArray, List.map_cons, List.map_nil, List.getElem?_cons_zero, List.getElem?_cons_succ, Option.map_some, Option.map_none, Option.isSome_some, decide_true, decide_false, Try.f63, typesT, S_P, g0, g3, g4, len_slice Try.underlying30]
theorem refnext_c {μ : Mem} {b c n : Nat} {k : List Bool} {own : Bool} (hb : μ.at b = some (.row (bools k) 4 own)) (hn : n = k.length) (hl : k.length ≤ 1000000) (x : Int) (one : Bool) (Q : Value → Mem → Prop) : Gets S 65 [.slice (some ⟨b, 0, none⟩) n c, .int .i64 x, .bool one] μ Q = Q (.int .i64 (nextL k x one)) μ := by
  subst hn
  refine propext (Gets.iff ?_ Q)
  refine Gets.enter (fn := Try.f65) Try.func65 rfl rfl rfl (Nat.le_of_ble_eq_true rfl) ?_
  simp -implicitDefEqProofs -dsimp (disch := first | omega | (simp only [lens, List.length_set, List.length_cons, List.length_nil, List.length_append, List.length_replicate]; done) | (simp only [lens, List.length_set, List.length_cons, List.length_nil, List.length_append, List.length_replicate]; omega)) only [↓walkA, walkB, coreB, Nat.reduceEqDiff, Nat.reduceAdd, ↓reduceIte, List.toList_toArray, List.map_cons, List.map_nil, List.getElem?_cons_zero, List.getElem?_cons_succ, Option.map_some, Option.map_none, Option.isSome_some, decide_true, decide_false, typesT, S_P, Try.f65]
  refine loop_of S _ _ (fun j g μ' => ∃ i : Nat, i + j = k.length ∧ μ' = μ ∧ (∀ m : Nat, m < i → predN k x one m = false) ∧ g 0 = .slice (some ⟨b, 0, none⟩) k.length c ∧ g 1 = .int .i64 x ∧ g 2 = .bool one ∧ g 7 = .int .i64 i) k.length _ _ ⟨0, by omega, rfl, fun m hm => by omega, rfl, rfl, rfl, rfl⟩ ?_
  rintro j g μ' ⟨i, h1, rfl, h2, g0, g1, g2, g7⟩
  by_cases hi : i < k.length
  · have e2 : ((i : Int) + 1) = ((i + 1 : Nat) : Int) := by omega
    by_cases hx : x ≤ i
    · cases hv : (k.getD i false == one) with
      | true =>
        simp -implicitDefEqProofs -dsimp (disch := first | omega | (simp only [lens, List.length_set, List.length_cons, List.length_nil, List.length_append, List.length_replicate]; done) | (simp only [lens, List.length_set, List.length_cons, List.length_nil, List.length_append, List.length_replicate]; omega)) only [↓walkA, walkB, coreB, Nat.reduceEqDiff, Nat.reduceAdd, ↓reduceIte, List.toList_toArray, List.map_cons, List.map_nil, List.getElem?_cons_zero, List.getElem?_cons_succ, Option.map_some, Option.map_none, Option.isSome_some, decide_true, decide_false, Try.f65, typesT, S_P, g0, g1, g2, g7, hb, len_slice Try.underlying30, idx_slice _ el30, bools_get, Int.toNat_natCast, Nat.mul_one, bin_eql_bool 4 _ _ Try.underlying4, hv]
        rw [nextL_some k x one i hi (by unfold predN; rw [hv, Bool.and_true]; exact decide_eq_true hx) h2]
      | false =>
        simp -implicitDefEqProofs -dsimp (disch := first | omega | (simp only [lens, List.length_set, List.length_cons, List.length_nil, List.length_append, List.length_replicate]; done) | (simp only [lens, List.length_set, List.length_cons, List.length_nil, List.length_append, List.length_replicate]; omega)) only [↓walkA, walkB, coreB, Nat.reduceEqDiff, Nat.reduceAdd, ↓reduceIte, List.toList_toArray, List.map_cons, List.map_nil, List.getElem?_cons_zero, List.getElem?_cons_succ, Option.map_some, Option.map_none, Option.isSome_some, decide_true, decide_false, Try.f65, typesT, S_P, g0, g1, g2, g7, hb, len_slice Try.underlying30, idx_slice _ el30, bools_get, Int.toNat_natCast, Nat.mul_one, bin_eql_bool 4 _ _ Try.underlying4, hv, e2]
        refine held ⟨j - 1, by omega, i + 1, by omega, rfl, fun m hm => ?_, g0, g1, g2, rfl⟩
        by_cases e : m = i
        · subst e; unfold predN; rw [hv, Bool.and_false]
        · exact h2 m (by omega)
    · simp -implicitDefEqProofs -dsimp (disch := first | omega | (simp only [lens, List.length_set, List.length_cons, List.length_nil, List.length_append, List.length_replicate]; done) | (simp only [lens, List.length_set, List.length_cons, List.length_nil, List.length_append, List.length_replicate]; omega)) only [↓walkA, walkB, coreB, Nat.reduceEqDiff, Nat.reduceAdd, ↓reduceIte, List.toList_toArray, List.map_cons, List.map_nil, List.getElem?_cons_zero, List.getElem?_cons_succ, Option.map_some, Option.map_none, Option.isSome_some, decide_true, decide_false, Try.f65, typesT, S_P, g0, g1, g2, g7, hb, len_slice Try.underlying30, e2]
      refine held ⟨j - 1, by omega, i + 1, by omega, rfl, fun m hm => ?_, g0, g1, g2, rfl⟩
      by_cases e : m = i
      · subst e; unfold predN; rw [decide_eq_false hx, Bool.false_and]
      · exact h2 m (by omega)
  · simp -implicitDefEqProofs -dsimp (disch := first | omega | (simp only [lens, List.length_set, List.length_cons, List.length_nil, List.length_append, List.length_replicate]; done) | (simp only [lens, List.length_set, List.length_cons, List.length_nil, List.length_append, List.length_replicate]; omega)) only [↓walkA, walkB, coreB, Nat.reduceEqDiff, Nat.reduceAdd, ↓reduceIte, List.toList_toArray, List.map_cons, List.map_nil, List.getElem?_cons_zero, List.getElem?_cons_succ, Option.map_some, Option.map_none, Option.isSome_some, decide_true, decide_false, Try.f65, typesT, S_P, g0, g1, g2, g7, len_slice Try.underlying30]
    rw [nextL_none k x one (fun m hm => h2 m (by omega))]

/-! ### stretches -/
/-- one more one, at i -/
def runAdd (l : List (Nat × Nat)) (i : Nat) : List (Nat × Nat) :=
  match l.getLast? with
  | some (f, t) => if t + 1 = i then l.dropLast ++ [(f, i)] else l ++ [(i, i)]
  | none => l ++ [(i, i)]
/-- the stretches of the first n bits -/
def runsU (k : List Bool) : Nat → List (Nat × Nat)
  | 0 => []
  | n + 1 => if k.getD n false then runAdd (runsU k n) n else runsU k n
theorem runAdd_last (l : List (Nat × Nat)) (i : Nat) : ∃ l' f, runAdd l i = l' ++ [(f, i)] := by
  unfold runAdd
  split
  · split
    · exact ⟨_, _, rfl⟩
    · exact ⟨_, _, rfl⟩
  · exact ⟨_, _, rfl⟩
theorem runsU_bound (k : List Bool) : ∀ n r, r ∈ runsU k n → r.2 < n
  | 0, r, h => by cases h
  | n + 1, r, h => by
    simp only [runsU] at h
    split at h
    · unfold runAdd at h
      split at h
      · split at h
        · rw [List.mem_append] at h
          rcases h with h | h
          · have := runsU_bound k n r (List.dropLast_subset _ h); omega
          · simp at h; subst h; simp
        · rw [List.mem_append] at h
          rcases h with h | h
          · have := runsU_bound k n r h; omega
          · simp at h; subst h; simp
      · rw [List.mem_append] at h
        rcases h with h | h
        · have := runsU_bound k n r h; omega
        · simp at h; subst h; simp
    · have := runsU_bound k n r h; omega
theorem runsU_zeros (k : List Bool) (a : Nat) : ∀ d, (∀ x, a ≤ x → x < a + d → k.getD x false = false) → runsU k (a + d) = runsU k a
  | 0, _ => rfl
  | d + 1, h => by
    rw [← Nat.add_assoc]
    simp only [runsU]
    rw [h (a + d) (by omega) (by omega), if_neg (by simp)]
    exact runsU_zeros k a d fun x h1 h2 => h x h1 (by omega)
/-- no stretch ends just ahead of n -/
def Fresh (l : List (Nat × Nat)) (n : Nat) : Prop := ∀ r, l.getLast? = some r → r.2 + 1 ≠ n
theorem runsU_ones (k : List Bool) (a : Nat) (hf : Fresh (runsU k a) a) : ∀ d, (∀ x, a ≤ x → x < a + d + 1 → k.getD x false = true) → runsU k (a + d + 1) = runsU k a ++ [(a, a + d)]
  | 0, h => by
    show (if k.getD a false then runAdd (runsU k a) a else runsU k a) = _
    rw [h a (by omega) (by omega), if_pos rfl]
    unfold runAdd
    split
    · rename_i f t ht
      rw [if_neg (hf _ ht)]
      rfl
    · rfl
  | d + 1, h => by
    have ih := runsU_ones k a hf d fun x h1 h2 => h x h1 (by omega)
    show (if k.getD (a + (d + 1)) false then runAdd (runsU k (a + (d + 1))) (a + (d + 1)) else runsU k (a + (d + 1))) = _
    rw [h (a + (d + 1)) (by omega) (by omega), if_pos rfl, ← Nat.add_assoc, ih]
    unfold runAdd
    rw [List.getLast?_concat]
    simp only [if_true]
    rw [List.dropLast_concat]
theorem fresh_of_zero (k : List Bool) (n : Nat) (h : n = 0 ∨ k.getD (n - 1) false = false) : Fresh (runsU k n) n := by
  intro r hr
  rcases h with rfl | h
  · cases hr
  · cases n with
    | zero => cases hr
    | succ n =>
      have e : runsU k (n + 1) = runsU k n := by
        show (if k.getD n false then _ else _) = _
        rw [show k.getD n false = false from h, if_neg (by simp)]
      rw [e] at hr
      have := runsU_bound k n r (List.mem_of_getLast? hr)
      omega
def runCells (l : List (Nat × Nat)) : List Value := l.flatMap fun r => [.int .i64 (r.1 : Nat), .int .i64 (r.2 : Nat)]
theorem runCells_length (l : List (Nat × Nat)) : (runCells l).length = l.length * 2 := by
  induction l with
  | nil => rfl
  | cons a l ih => simp only [runCells, List.flatMap_cons, List.length_append, List.length_cons, List.length_nil] at ih ⊢; omega
theorem runCells_append (l l' : List (Nat × Nat)) : runCells (l ++ l') = runCells l ++ runCells l' := by simp [runCells]
theorem runsU_length (k : List Bool) : ∀ n, (runsU k n).length ≤ n
  | 0 => Nat.le_refl _
  | n + 1 => by
    have ih := runsU_length k n
    simp only [runsU]
    split
    · unfold runAdd
      split
      · split
        · simp; omega
        · simp; omega
      · simp; omega
    · omega
theorem nextL_spec (k : List Bool) (x : Nat) (one : Bool) : (nextL k x one = -1 ∧ ∀ y, x ≤ y → y < k.length → k.getD y false = !one) ∨ ∃ q : Nat, nextL k x one = q ∧ x ≤ q ∧ q < k.length ∧ k.getD q false = one ∧ ∀ y, x ≤ y → y < q → k.getD y false = !one := by
  have hneg : ∀ y : Nat, x ≤ y → predN k x one y = false → k.getD y false = !one := fun y hy hp => by
    unfold predN at hp
    rw [show decide ((x : Int) ≤ y) = true from decide_eq_true (by omega), Bool.true_and] at hp
    generalize k.getD y false = b at hp ⊢
    cases b <;> cases one <;> first | rfl | cases hp
  unfold nextL
  cases hf : (List.range k.length).find? (predN k x one) with
  | none =>
    rw [List.find?_range_eq_none] at hf
    exact .inl ⟨rfl, fun y h1 h2 => hneg y h1 (by simpa using hf y h2)⟩
  | some q =>
    rw [List.find?_range_eq_some] at hf
    obtain ⟨h1, h2, h3⟩ := hf
    have hp := h1
    unfold predN at hp
    rw [Bool.and_eq_true] at hp
    exact .inr ⟨q, rfl, by have := of_decide_eq_true hp.1; omega, List.mem_range.1 h2, by simpa using hp.2, fun y h4 h5 => hneg y h4 (by simpa using h3 y h5)⟩
theorem runCells_at (l : List (Nat × Nat)) (f t : Nat) : (runCells (l ++ [(f, t)]))[(l ++ [(f, t)]).length * 2 - 1]? = some (.int .i64 (t : Nat)) := by
  rw [runCells_append, List.getElem?_append_right (by rw [runCells_length]; simp; omega), runCells_length]
  simp only [List.length_append, List.length_cons, List.length_nil]
  rw [show (l.length + (0 + 1)) * 2 - 1 - l.length * 2 = 1 by omega]
  rfl
theorem runCells_set (l : List (Nat × Nat)) (f t i : Nat) : (runCells (l ++ [(f, t)])).set ((l ++ [(f, t)]).length * 2 - 1) (.int .i64 (i : Nat)) = runCells (l ++ [(f, i)]) := by
  rw [runCells_append, runCells_append, List.set_append_right _ _ (by rw [runCells_length]; simp; omega), runCells_length]
  simp only [List.length_append, List.length_cons, List.length_nil]
  rw [show (l.length + (0 + 1)) * 2 - 1 - l.length * 2 = 1 by omega]
  rfl
theorem len_runs {t e : TypeId} {μ : Mem} {lo : Nat} {v : Value} {l : List (Nat × Nat)} (h : Grows μ lo v (runCells l) 2 e) (hu : Try.prog.underlying t = some (.slice e)) (ty : TypeId) (μ' : Mem) : lenV Try.prog t ty v μ' = some (.int .i64 (l.length : Nat)) := by
  have := len_grows h (by omega) hu ty μ'
  rw [this, runCells_length, Nat.mul_div_cancel _ (by omega)]
/-- one stretch more -/
theorem push_run {t e : TypeId} (hE : Elem Try.prog t e 2 16 (.agg (List.toArray [.int .i64 0, .int .i64 0]))) (hu : Try.prog.underlying t = some (.slice e)) {μ : Mem} {lo : Nat} {v : Value} {l : List (Nat × Nat)} (h : Grows μ lo v (runCells l) 2 e) (hlo : lo ≤ μ.next) (hl : l.length ≤ 1000000) (ty : TypeId) (f z : Nat) (c : Nat) :
    ∃ v' μ', appV Try.prog t t ty v (.slice (some ⟨μ.next, 0, none⟩) 1 c) (μ.add [.int .i64 (f : Nat), .int .i64 (z : Nat)] e) = some (v', μ') ∧ Grows μ' lo v' (runCells (l ++ [(f, z)])) 2 e ∧ Keeps lo μ μ' ∧ μ.next ≤ μ'.next := by
  have hg := h.add [.int .i64 (f : Nat), .int .i64 (z : Nat)] e
  have hat : (μ.add [.int .i64 (f : Nat), .int .i64 (z : Nat)] e).at μ.next = some (.row [.int .i64 (f : Nat), .int .i64 (z : Nat)] e true) := at_add_same μ _ _
  obtain ⟨v', μ', h1, h2, h3, h4⟩ := Grows.push (cs := [.int .i64 (f : Nat), .int .i64 (z : Nat)]) (sp := none) (c := c) hE hu ty hg (by rw [next_add]; omega) hat rfl (by rw [runCells_length, Nat.mul_div_cancel _ (by omega)]; omega) (by rw [runCells_length, Nat.mul_div_cancel _ (by omega)]; omega)
  refine ⟨v', μ', h1, ?_, ((Keeps.refl _ _).add hlo _ _).trans h3, by rw [h4, next_add]; omega⟩
  rw [runCells_append]
  exact h2
theorem runs_c {μ : Mem} {p b c : Nat} {k : List Bool} (h : IsMap μ p b c k) : Gets S 67 [.pointer (some ⟨p, 0, none⟩)] μ fun v μ' => Grows μ' μ.next v (runCells (runsU k k.length)) 2 78 ∧ Keeps μ.next μ μ' := by
  have hl := h.le
  refine Gets.enter (fn := Try.f67) Try.func67 rfl rfl rfl (Nat.le_of_ble_eq_true rfl) ?_
  simp -implicitDefEqProofs -dsimp (disch := first | omega | (simp only [lens, List.length_set, List.length_cons, List.length_nil, List.length_append, List.length_replicate]; done) | (simp only [lens, List.length_set, List.length_cons, List.length_nil, List.length_append, List.length_replicate]; omega)) only [↓walkA, walkB, coreB, Nat.reduceEqDiff, Nat.reduceAdd, ↓reduceIte, List.toList_toArray, List.map_cons, List.map_nil, List.getElem?_cons_zero, List.getElem?_cons_succ, Option.map_some, Option.map_none, Option.isSome_some, decide_true, decide_false, typesT, S_P, Try.f67, next_c h]
  refine loop_of S _ _ (fun j g μ' => ∃ x : Nat, x + j = k.length ∧ (x = 0 ∨ k.getD x false = false) ∧ Keeps μ.next μ μ' ∧ Grows μ' μ.next (g 3) (runCells (runsU k x)) 2 78 ∧ g 0 = .pointer (some ⟨p, 0, none⟩) ∧ g 4 = .int .i64 (nextL k x true)) k.length _ _ ⟨0, by omega, .inl rfl, Keeps.refl _ _, Grows.nil _ _ _ _, rfl, rfl⟩ ?_
  rintro j g μ' ⟨x, h1, h2, h3, h4, g0, g4⟩
  have hM := h.keeps h3
  obtain ⟨out, hout⟩ : ∃ out, g 3 = out := ⟨_, rfl⟩
  rw [hout] at h4
  have hrl := runsU_length k
  rcases nextL_spec k x true with ⟨hq, hz⟩ | ⟨q, hq, hxq, hqk, hq1, hz⟩
  · rw [hq] at g4
    simp -implicitDefEqProofs -dsimp (disch := first | omega | (simp only [lens, List.length_set, List.length_cons, List.length_nil, List.length_append, List.length_replicate]; done) | (simp only [lens, List.length_set, List.length_cons, List.length_nil, List.length_append, List.length_replicate]; omega)) only [↓walkA, walkB, coreB, Nat.reduceEqDiff, Nat.reduceAdd, ↓reduceIte, List.toList_toArray, List.map_cons, List.map_nil, List.getElem?_cons_zero, List.getElem?_cons_succ, Option.map_some, Option.map_none, Option.isSome_some, decide_true, decide_false, Try.f67, typesT, S_P, g0, g4, hout]
    have : runsU k k.length = runsU k x := by
      have := runsU_zeros k x (k.length - x) (fun y a b => hz y a (by omega))
      rwa [show x + (k.length - x) = k.length by omega] at this
    rw [this]
    exact ⟨h4, h3⟩
  · rw [hq] at g4
    have e1 : runsU k q = runsU k x := by
      have := runsU_zeros k x (q - x) (fun y a b => hz y a (by omega))
      rwa [show x + (q - x) = q by omega] at this
    have hfresh : Fresh (runsU k q) q := by
      refine fresh_of_zero k q ?_
      by_cases hqx : q = x
      · subst hqx
        rcases h2 with h2 | h2
        · exact .inl h2
        · rw [h2] at hq1; cases hq1
      · exact .inr (hz (q - 1) (by omega) (by omega))
    have hk3 := h3.1
    -- the end of the stretch
    obtain ⟨r, hr1, hr2, hr3, hr4⟩ : ∃ r : Nat, (if nextL k q false < 0 then (k.length : Int) else nextL k q false) = r ∧ q < r ∧ r ≤ k.length ∧ (∀ y, q ≤ y → y < r → k.getD y false = true) ∧ k.getD r false = false := by
      rcases nextL_spec k q false with ⟨s1, s2⟩ | ⟨r, s1, s2, s3, s4, s5⟩
      · refine ⟨k.length, by rw [s1]; rfl, hqk, Nat.le_refl _, fun y a b => s2 y a b, ?_⟩
        rw [List.getD_eq_getElem?_getD, List.getElem?_eq_none (Nat.le_refl _)]; rfl
      · refine ⟨r, by rw [s1, if_neg (by omega)], ?_, by omega, fun y a b => s5 y a b, s4⟩
        by_cases e : q = r
        · subst e; rw [s4] at hq1; cases hq1
        · omega
    have hrun : runsU k r = runsU k x ++ [(q, r - 1)] := by
      have := runsU_ones k q hfresh (r - 1 - q) (fun y a b => hr4.1 y a (by omega))
      rw [show q + (r - 1 - q) + 1 = r by omega, e1, show q + (r - 1 - q) = r - 1 by omega] at this
      exact this
    have hlx := hrl x
    obtain ⟨v', μ2, p1, p2, p3, p4⟩ := push_run elem74 Try.underlying74 h4 hk3 (by omega) 74 q (r - 1) 1
    have hM2 := h.keeps (h3.trans p3)
    have e5 : ((r : Nat) : Int) - 1 = ((r - 1 : Nat) : Int) := by omega
    by_cases hneg : nextL k q false < 0
    · rw [if_pos hneg] at hr1
      simp -implicitDefEqProofs -dsimp (disch := first | omega | (simp only [lens, List.length_set, List.length_cons, List.length_nil, List.length_append, List.length_replicate]; done) | (simp only [lens, List.length_set, List.length_cons, List.length_nil, List.length_append, List.length_replicate]; omega)) only [↓walkA, walkB, coreB, Nat.reduceEqDiff, Nat.reduceAdd, ↓reduceIte, List.toList_toArray, List.map_cons, List.map_nil, List.getElem?_cons_zero, List.getElem?_cons_succ, Option.map_some, Option.map_none, Option.isSome_some, decide_true, decide_false, Try.f67, typesT, S_P, g0, g4, hout, free_c hM, size_c hM, hr1, e5, buildSlice_agg elem74 (by omega), p1, next_c hM2]
      refine held ⟨k.length - r, by omega, r, by omega, .inr hr4.2, h3.trans p3, ?_, g0, rfl⟩
      rw [hrun]
      exact p2
    · rw [if_neg hneg] at hr1
      simp -implicitDefEqProofs -dsimp (disch := first | omega | (simp only [lens, List.length_set, List.length_cons, List.length_nil, List.length_append, List.length_replicate]; done) | (simp only [lens, List.length_set, List.length_cons, List.length_nil, List.length_append, List.length_replicate]; omega)) only [↓walkA, walkB, coreB, Nat.reduceEqDiff, Nat.reduceAdd, ↓reduceIte, List.toList_toArray, List.map_cons, List.map_nil, List.getElem?_cons_zero, List.getElem?_cons_succ, Option.map_some, Option.map_none, Option.isSome_some, decide_true, decide_false, Try.f67, typesT, S_P, g0, g4, hout, free_c hM, hr1, e5, buildSlice_agg elem74 (by omega), p1, next_c hM2]
      refine held ⟨k.length - r, by omega, r, by omega, .inr hr4.2, h3.trans p3, ?_, g0, rfl⟩
      rw [hrun]
      exact p2
end Go.Mini.Bits
