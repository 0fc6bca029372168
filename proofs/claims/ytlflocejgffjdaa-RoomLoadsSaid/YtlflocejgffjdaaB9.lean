/-
  The reference's stretches, bytes and leaves. No statement of the seat is proved here; no condition.
-/
import Derived.Test.YtlflocejgffjdaaB8
set_option linter.unusedSimpArgs false
namespace Go.Mini.Bits
open Go.Proofs

theorem refruns_c {μ : Mem} {b c n : Nat} {k : List Bool} {own : Bool} (hb : μ.at b = some (.row (bools k) 4 own)) (hn : n = k.length) (hlt : b < μ.next) (hl : k.length ≤ 1000000) : Gets S 68 [.slice (some ⟨b, 0, none⟩) n c] μ fun v μ' => Grows μ' μ.next v (runCells (runsU k k.length)) 2 119 ∧ Keeps μ.next μ μ' := by
  subst hn
  refine Gets.enter (fn := Try.f68) Try.func68 rfl rfl rfl (Nat.le_of_ble_eq_true rfl) ?_
  simp -implicitDefEqProofs -dsimp (disch := first | omega | (simp only [lens, List.length_set, List.length_cons, List.length_nil, List.length_append, List.length_replicate]; done) | (simp only [lens, List.length_set, List.length_cons, List.length_nil, List.length_append, List.length_replicate]; omega)) only [↓walkA, walkB, coreB, Nat.reduceEqDiff, Nat.reduceAdd, ↓reduceIte, List.toList_toArray, List.map_cons, List.map_nil, List.getElem?_cons_zero, List.getElem?_cons_succ, Option.map_some, Option.map_none, Option.isSome_some, decide_true, decide_false, typesT, S_P, Try.f68, buildSlice_none 117 el117]
  refine loop_of S _ _ (fun j g μ' => ∃ i : Nat, i + j = k.length ∧ Keeps μ.next μ μ' ∧ Grows μ' μ.next (g 3) (runCells (runsU k i)) 2 119 ∧ g 0 = .slice (some ⟨b, 0, none⟩) k.length c ∧ g 4 = .int .i64 i) k.length _ _ ⟨0, by omega, (Keeps.refl _ _).add (Nat.le_refl _) _ _, .inl ⟨rfl, .inr ⟨_, rfl⟩⟩, rfl, rfl⟩ ?_
  rintro j g μ' ⟨i, h1, h2, h3, g0, g4⟩
  have hb' : μ'.at b = some (.row (bools k) 4 own) := (h2.2 b hlt).trans hb
  obtain ⟨out, hout⟩ : ∃ out, g 3 = out := ⟨_, rfl⟩
  rw [hout] at h3
  have hk2 := h2.1
  by_cases hi : i < k.length
  · have e2 : ((i : Int) + 1) = ((i + 1 : Nat) : Int) := by omega
    have hrl := runsU_length k i
    cases hv : k.getD i false with
    | false =>
      have e3 : runsU k (i + 1) = runsU k i := by
        show (if k.getD i false then _ else _) = _
        rw [hv]; rfl
      simp -implicitDefEqProofs -dsimp (disch := first | omega | (simp only [lens, List.length_set, List.length_cons, List.length_nil, List.length_append, List.length_replicate]; done) | (simp only [lens, List.length_set, List.length_cons, List.length_nil, List.length_append, List.length_replicate]; omega)) only [↓walkA, walkB, coreB, Nat.reduceEqDiff, Nat.reduceAdd, ↓reduceIte, List.toList_toArray, List.map_cons, List.map_nil, List.getElem?_cons_zero, List.getElem?_cons_succ, Option.map_some, Option.map_none, Option.isSome_some, decide_true, decide_false, Try.f68, typesT, S_P, g0, g4, hout, hb', len_slice Try.underlying30, idx_slice _ el30, bools_get, Int.toNat_natCast, Nat.mul_one, hv, e2]
      refine held ⟨j - 1, by omega, i + 1, by omega, h2, ?_, g0, rfl⟩
      rw [e3]
      show Grows μ' μ.next (g 3) _ _ _
      rw [hout]
      exact h3
    | true =>
      have e3 : runsU k (i + 1) = runAdd (runsU k i) i := by
        show (if k.getD i false then _ else _) = _
        rw [hv]; rfl
      have hlen := fun ty μ2 => len_runs h3 Try.underlying117 ty μ2
      -- the last stretch
      rcases List.eq_nil_or_concat (runsU k i) with hnil | ⟨l', ⟨f, t⟩, hcat⟩
      · rw [hnil] at hlen h3
        have e4 : runAdd (runsU k i) i = [] ++ [(i, i)] := by rw [hnil]; rfl
        obtain ⟨v', μ2, p1, p2, p3, p4⟩ := push_run elem117 Try.underlying117 h3 hk2 (by simp) 117 i i 1
        simp -implicitDefEqProofs -dsimp (disch := first | omega | (simp only [lens, List.length_set, List.length_cons, List.length_nil, List.length_append, List.length_replicate]; done) | (simp only [lens, List.length_set, List.length_cons, List.length_nil, List.length_append, List.length_replicate]; omega)) only [↓walkA, walkB, coreB, Nat.reduceEqDiff, Nat.reduceAdd, ↓reduceIte, List.toList_toArray, List.map_cons, List.map_nil, List.getElem?_cons_zero, List.getElem?_cons_succ, Option.map_some, Option.map_none, Option.isSome_some, decide_true, decide_false, Try.f68, typesT, S_P, g0, g4, hout, hb', len_slice Try.underlying30, idx_slice _ el30, bools_get, Int.toNat_natCast, Nat.mul_one, hv, e2, hlen, buildSlice_agg elem117 (by omega), p1, List.length_nil]
        refine held ⟨j - 1, by omega, i + 1, by omega, h2.trans p3, ?_, g0, rfl⟩
        rw [e3, e4]
        exact p2
      · rw [List.concat_eq_append] at hcat
        have hL : (runsU k i).length = l'.length + 1 := by rw [hcat]; simp
        have hcl := runCells_at l' f t
        have hcs := runCells_set l' f t i
        rw [← hcat, hL] at hcl hcs
        have hln := runCells_length (runsU k i)
        -- its place
        rcases h3 with ⟨hz, _⟩ | ⟨m, L, rfl, q1, q2, q3, q4, q5⟩
        · rw [hcat, runCells_append] at hz
          simp [runCells] at hz
        · have hLL : L = l'.length + 1 := by omega
          subst hLL
          have hG : Grows μ' μ.next (.slice (some ⟨m, 0, none⟩) (l'.length + 1) INF) (runCells (runsU k i)) 2 119 := .inr ⟨m, _, rfl, q1, q2, q3, q4, q5⟩
          have e5 : ((l'.length + 1 : Nat) : Int) - 1 = (l'.length : Nat) := by omega
          have hcl' : (runCells (runsU k i))[l'.length * 2 + 1]? = some (.int .i64 (t : Nat)) := by
            rw [show l'.length * 2 + 1 = (l'.length + 1) * 2 - 1 by omega]; exact hcl
          have hcs' : (runCells (runsU k i)).set (l'.length * 2 + 1) (.int .i64 (i : Nat)) = runCells (l' ++ [(f, i)]) := by
            rw [show l'.length * 2 + 1 = (l'.length + 1) * 2 - 1 by omega]; exact hcs
          rw [hL] at hlen
          have hgl : (runsU k i).getLast? = some (f, t) := by rw [hcat, List.getLast?_concat]
          have hdl : (runsU k i).dropLast = l' := by rw [hcat, List.dropLast_concat]
          have hlt2 : l'.length * 2 + 1 < (runCells (runsU k i)).length := by omega
          by_cases ht : t + 1 = i
          · have e4 : runAdd (runsU k i) i = l' ++ [(f, i)] := by
              unfold runAdd
              rw [hgl]
              simp only
              rw [if_pos ht, hdl]
            have e6 : ((t : Nat) : Int) = (i : Int) - 1 := by omega
            simp -implicitDefEqProofs -dsimp (disch := first | omega | (simp only [lens, List.length_set, List.length_cons, List.length_nil, List.length_append, List.length_replicate]; done) | (simp only [lens, List.length_set, List.length_cons, List.length_nil, List.length_append, List.length_replicate]; omega)) only [↓walkA, walkB, coreB, Nat.reduceEqDiff, Nat.reduceAdd, ↓reduceIte, List.toList_toArray, List.map_cons, List.map_nil, List.getElem?_cons_zero, List.getElem?_cons_succ, Option.map_some, Option.map_none, Option.isSome_some, decide_true, decide_false, Try.f68, typesT, S_P, g0, g4, hout, hb', q3, len_slice Try.underlying30, idx_slice _ el30, idx_slice _ el117, bools_get, Int.toNat_natCast, Nat.mul_one, hv, e2, hlen, e5, hcl', beq_int_true, hcs']
            refine held ⟨j - 1, by omega, i + 1, by omega, h2.set (by omega) _ _, ?_, g0, rfl⟩
            rw [e3, e4]
            show Grows _ μ.next (g 3) _ _ _
            rw [hout]
            exact .inr ⟨m, _, rfl, q1, by rw [← hcs', List.length_set]; exact q2, at_setRow_same _ _ _ _, q4, q5⟩
          · have e4 : runAdd (runsU k i) i = runsU k i ++ [(i, i)] := by
              unfold runAdd
              rw [hgl]
              simp only
              rw [if_neg ht]
            have e6 : ((t : Nat) : Int) ≠ (i : Int) - 1 := by omega
            obtain ⟨v', μ2, p1, p2, p3, p4⟩ := push_run elem117 Try.underlying117 hG hk2 (by omega) 117 i i 1
            simp -implicitDefEqProofs -dsimp (disch := first | omega | (simp only [lens, List.length_set, List.length_cons, List.length_nil, List.length_append, List.length_replicate]; done) | (simp only [lens, List.length_set, List.length_cons, List.length_nil, List.length_append, List.length_replicate]; omega)) only [↓walkA, walkB, coreB, Nat.reduceEqDiff, Nat.reduceAdd, ↓reduceIte, List.toList_toArray, List.map_cons, List.map_nil, List.getElem?_cons_zero, List.getElem?_cons_succ, Option.map_some, Option.map_none, Option.isSome_some, decide_true, decide_false, Try.f68, typesT, S_P, g0, g4, hout, hb', q3, len_slice Try.underlying30, idx_slice _ el30, idx_slice _ el117, bools_get, Int.toNat_natCast, Nat.mul_one, hv, e2, hlen, e5, hcl', beq_int_false, buildSlice_agg elem117 (by omega), p1]
            refine held ⟨j - 1, by omega, i + 1, by omega, h2.trans p3, ?_, g0, rfl⟩
            rw [e3, e4]
            exact p2
  · have : i = k.length := by omega
    subst this
    simp -implicitDefEqProofs -dsimp (disch := first | omega | (simp only [lens, List.length_set, List.length_cons, List.length_nil, List.length_append, List.length_replicate]; done) | (simp only [lens, List.length_set, List.length_cons, List.length_nil, List.length_append, List.length_replicate]; omega)) only [↓walkA, walkB, coreB, Nat.reduceEqDiff, Nat.reduceAdd, ↓reduceIte, List.toList_toArray, List.map_cons, List.map_nil, List.getElem?_cons_zero, List.getElem?_cons_succ, Option.map_some, Option.map_none, Option.isSome_some, decide_true, decide_false, Try.f68, typesT, S_P, g0, g4, hout, len_slice Try.underlying30]
    exact ⟨h3, h2⟩

/-! ### bytes of a number -/
theorem rowF_succ (k : IntKind) (n : Nat) (F : Nat → Nat) : rowF k n F ++ [.int k (F n : Nat)] = rowF k (n + 1) F := by
  simp [rowF, nums, List.range_succ]
theorem shr_succ (n i : Nat) : (n >>> (8 * i)) / 256 = n >>> (8 * (i + 1)) := by
  rw [Nat.shiftRight_eq_div_pow, Nat.shiftRight_eq_div_pow, Nat.div_div_eq_div_mul]
  congr 1
  rw [Nat.mul_add, Nat.pow_add]
theorem refbytes_c {μ : Mem} {n m : Nat} (hn : n < 18446744073709551616) (hm : m ≤ 1000) : Gets S 59 [.int .u64 n, .int .i64 m] μ fun v μ' => Grows μ' μ.next v (rowF .u8 m (le n)) 1 5 ∧ Keeps μ.next μ μ' := by
  refine Gets.enter (fn := Try.f59) Try.func59 rfl rfl rfl (Nat.le_of_ble_eq_true rfl) ?_
  simp -implicitDefEqProofs -dsimp (disch := first | omega | (simp only [lens, List.length_set, List.length_cons, List.length_nil, List.length_append, List.length_replicate]; done) | (simp only [lens, List.length_set, List.length_cons, List.length_nil, List.length_append, List.length_replicate]; omega)) only [↓walkA, walkB, coreB, Nat.reduceEqDiff, Nat.reduceAdd, ↓reduceIte, List.toList_toArray, List.map_cons, List.map_nil, List.getElem?_cons_zero, List.getElem?_cons_succ, Option.map_some, Option.map_none, Option.isSome_some, decide_true, decide_false, typesT, S_P, Try.f59, buildSlice_none 100 el100]
  refine loop_of S _ _ (fun j g μ' => ∃ i : Nat, i + j = m ∧ Keeps μ.next μ μ' ∧ Grows μ' μ.next (g 5) (rowF .u8 i (le n)) 1 5 ∧ g 0 = .int .u64 (n >>> (8 * i) : Nat) ∧ g 1 = .int .i64 m ∧ g 6 = .int .i64 i) m _ _ ⟨0, by omega, (Keeps.refl _ _).add (Nat.le_refl _) _ _, .inl ⟨rfl, .inr ⟨_, rfl⟩⟩, rfl, rfl, rfl⟩ ?_
  rintro j g μ' ⟨i, h1, h2, h3, g0, g1, g6⟩
  obtain ⟨out, hout⟩ : ∃ out, g 5 = out := ⟨_, rfl⟩
  rw [hout] at h3
  have hk2 := h2.1
  by_cases hi : i < m
  · have e2 : ((i : Int) + 1) = ((i + 1 : Nat) : Int) := by omega
    have hsh : n >>> (8 * i) ≤ n := Nat.shiftRight_le _ _
    have e3 : (((n >>> (8 * i) : Nat) : Int) / 256) = (n >>> (8 * (i + 1)) : Nat) := by rw [← shr_succ]; omega
    have e4 : IntKind.u8.wrap ((n >>> (8 * i) : Nat) : Int) = (le n i : Nat) := wrap_u8_nat _
    obtain ⟨y, hy⟩ : ∃ y, n >>> (8 * i) = y := ⟨_, rfl⟩
    rw [hy] at e3 e4 hsh g0
    have hg := h3.add [.int .u8 (le n i : Nat)] 5
    have hat : (μ'.add [.int .u8 (le n i : Nat)] 5).at μ'.next = some (.row [.int .u8 (le n i : Nat)] 5 true) := at_add_same μ' _ _
    obtain ⟨v', μ2, p1, p2, p3, p4⟩ := Grows.push (sp := none) (c := 1) elem100 Try.underlying100 100 hg (by rw [next_add]; omega) hat rfl (by rw [rowF_length]; omega) (by rw [rowF_length]; omega)
    rw [rowF_succ] at p2
    simp -implicitDefEqProofs -dsimp (disch := first | omega | (simp only [lens, List.length_set, List.length_cons, List.length_nil, List.length_append, List.length_replicate]; done) | (simp only [lens, List.length_set, List.length_cons, List.length_nil, List.length_append, List.length_replicate]; omega)) only [↓walkA, walkB, coreB, Nat.reduceEqDiff, Nat.reduceAdd, ↓reduceIte, List.toList_toArray, List.map_cons, List.map_nil, List.getElem?_cons_zero, List.getElem?_cons_succ, Option.map_some, Option.map_none, Option.isSome_some, decide_true, decide_false, Try.f59, typesT, S_P, g0, g1, g6, hout, e2, e4, buildSlice_int elem100, p1, quo_u64, e3]
    exact held ⟨j - 1, by omega, i + 1, by omega, (h2.add hk2 _ _).trans p3, p2, rfl, g1, rfl⟩
  · have : i = m := by omega
    subst this
    simp -implicitDefEqProofs -dsimp (disch := first | omega | (simp only [lens, List.length_set, List.length_cons, List.length_nil, List.length_append, List.length_replicate]; done) | (simp only [lens, List.length_set, List.length_cons, List.length_nil, List.length_append, List.length_replicate]; omega)) only [↓walkA, walkB, coreB, Nat.reduceEqDiff, Nat.reduceAdd, ↓reduceIte, List.toList_toArray, List.map_cons, List.map_nil, List.getElem?_cons_zero, List.getElem?_cons_succ, Option.map_some, Option.map_none, Option.isSome_some, decide_true, decide_false, Try.f59, typesT, S_P, g0, g1, g6, hout]
    exact ⟨h3, h2⟩
end Go.Mini.Bits
