/-
  What more functions of package bits come to: Clear, New, Fill, Clone, Count, Free, Next. No statement of the seat is proved here; no condition.
-/
import Derived.Test.YtlflocejgffjdaaM23
import Derived.Test.YtlflocejgffjdaaB2
set_option linter.unusedSimpArgs false
namespace Go.Mini.Bits
open Go.Proofs

theorem IsMap.frame {μ μ' : Mem} {p b c : Nat} {k : List Bool} (h : IsMap μ p b c k) (hp : μ'.at p = μ.at p) (hb : μ'.at b = μ.at b) (hn : μ.next ≤ μ'.next) : IsMap μ' p b c k :=
  ⟨hp.trans h.st, hb.trans h.by_, h.ne, Nat.lt_of_lt_of_le h.lp hn, Nat.lt_of_lt_of_le h.lb hn, h.pos, h.le⟩
theorem IsMap.keeps {μ μ' : Mem} {p b c : Nat} {k : List Bool} (h : IsMap μ p b c k) (hk : Keeps μ.next μ μ') : IsMap μ' p b c k := h.frame (hk.2 _ h.lp) (hk.2 _ h.lb) hk.1
section
variable {μ : Mem} {p b c : Nat} {k : List Bool} (h : IsMap μ p b c k)
include h
theorem clear_c (x : Int) (Q : Value → Mem → Prop) : Gets S 54 [.pointer (some ⟨p, 0, none⟩), .int .i64 x] μ Q = if (0 ≤ x ∧ x < k.length) ∧ k.getD x.toNat false = true then Q (.bool true) (μ.setRow b (nums .u8 (pack (k.set x.toNat false))) 5) else Q (.bool false) μ := by
  have h0 := h.st
  have h1 := h.by_
  by_cases hx : 0 ≤ x ∧ x < k.length
  · have hl := h.le
    obtain ⟨n, rfl⟩ : ∃ n : Nat, x = n := ⟨x.toNat, by omega⟩
    have hn : n < k.length := by omega
    rw [Int.toNat_natCast]
    cases hb : k.getD n false with
    | false =>
      rw [if_neg (fun hh => by cases hh.2)]
      refine propext (Gets.iff ?_ Q)
      refine Gets.enter (fn := Try.f54) Try.func54 rfl rfl rfl (Nat.le_of_ble_eq_true rfl) ?_
      simp -implicitDefEqProofs -dsimp (disch := first | omega | (simp only [lens, List.length_set, List.length_cons, List.length_nil, List.length_append, List.length_replicate]; done) | (simp only [lens, List.length_set, List.length_cons, List.length_nil, List.length_append, List.length_replicate]; omega)) only [↓walkA, walkB, coreB, Nat.reduceEqDiff, Nat.reduceAdd, ↓reduceIte, List.toList_toArray, List.map_cons, List.map_nil, List.getElem?_cons_zero, List.getElem?_cons_succ, Option.map_some, Option.map_none, Option.isSome_some, decide_true, decide_false, typesT, S_P, Try.f54, has_c h, Int.toNat_natCast, hb]
    | true =>
      rw [if_pos ⟨hx, rfl⟩]
      refine propext (Gets.iff ?_ Q)
      refine Gets.enter (fn := Try.f54) Try.func54 rfl rfl rfl (Nat.le_of_ble_eq_true rfl) ?_
      have hlt := pack_lt k (n / 8)
      have hpl := pack_length k
      have ht := pack_false k n hn
      have hsh : (1 <<< (n % 8)) % 256 ≤ 255 := by omega
      simp -implicitDefEqProofs -dsimp (disch := first | omega | (simp only [lens, List.length_set, List.length_cons, List.length_nil, List.length_append, List.length_replicate]; done) | (simp only [lens, List.length_set, List.length_cons, List.length_nil, List.length_append, List.length_replicate]; omega)) only [↓walkA, walkB, coreB, Nat.reduceEqDiff, Nat.reduceAdd, ↓reduceIte, List.toList_toArray, List.map_cons, List.map_nil, List.getElem?_cons_zero, List.getElem?_cons_succ, Option.map_some, Option.map_none, Option.isSome_some, decide_true, decide_false, typesT, S_P, Try.f54, has_c h, h0, h1, shr_i64, and_i64, idx_slice _ el100, nums_get, shl_u8, andNot_u8, Int.toNat_natCast, Int.reduceToNat, shr_3, and_7, Nat.mul_one, hb, nums_set, ht]
  · rw [if_neg (fun hh => hx hh.1)]
    refine propext (Gets.iff ?_ Q)
    refine Gets.enter (fn := Try.f54) Try.func54 rfl rfl rfl (Nat.le_of_ble_eq_true rfl) ?_
    simp -implicitDefEqProofs -dsimp (disch := first | omega | (simp only [lens, List.length_set, List.length_cons, List.length_nil, List.length_append, List.length_replicate]; done) | (simp only [lens, List.length_set, List.length_cons, List.length_nil, List.length_append, List.length_replicate]; omega)) only [↓walkA, walkB, coreB, Nat.reduceEqDiff, Nat.reduceAdd, ↓reduceIte, List.toList_toArray, List.map_cons, List.map_nil, List.getElem?_cons_zero, List.getElem?_cons_succ, Option.map_some, Option.map_none, Option.isSome_some, decide_true, decide_false, typesT, S_P, Try.f54, has_c h, hx]
end
/-- the memory behind a new map -/
def newMap (μ : Mem) (k : List Bool) : Mem := (μ.add (nums .u8 (pack k)) 5).add [.int .i64 (k.length : Nat), .slice (some ⟨μ.next, 0, none⟩) ((k.length + 7) / 8) ((k.length + 7) / 8)] 108
theorem newMap_is (μ : Mem) (k : List Bool) (h1 : 1 ≤ k.length) (h2 : k.length ≤ 8192) : IsMap (newMap μ k) (μ.next + 1) μ.next ((k.length + 7) / 8) k := by
  refine ⟨?_, ?_, by omega, by show _ < (newMap μ k).next; simp only [newMap, next_add]; omega, by show _ < (newMap μ k).next; simp only [newMap, next_add]; omega, h1, h2⟩
  · exact at_add_same (μ.add (nums .u8 (pack k)) 5) _ _
  · unfold newMap
    rw [at_add_ne _ _ _ (by rw [next_add]; omega)]
    exact at_add_same μ _ _
theorem newMap_keeps (μ : Mem) (k : List Bool) : Keeps μ.next μ (newMap μ k) := ((Keeps.refl _ _).add (Nat.le_refl _) _ _).add (by rw [next_add]; omega) _ _
theorem newMap_next (μ : Mem) (k : List Bool) : (newMap μ k).next = μ.next + 2 := rfl
theorem new_c (n : Int) (μ : Mem) (Q : Value → Mem → Prop) : Gets S 52 [.int .i64 n] μ Q = if 1 ≤ n ∧ n ≤ 8192 then Q (.tuple #[.pointer (some ⟨μ.next + 1, 0, none⟩), .int .i64 0]) (newMap μ (List.replicate n.toNat false)) else Q (.tuple #[.pointer none, .int .i64 1]) μ := by
  by_cases hn : 1 ≤ n ∧ n ≤ 8192
  · rw [if_pos hn]
    refine propext (Gets.iff ?_ Q)
    refine Gets.enter (fn := Try.f52) Try.func52 rfl rfl rfl (Nat.le_of_ble_eq_true rfl) ?_
    obtain ⟨m, rfl⟩ : ∃ m : Nat, n = m := ⟨n.toNat, by omega⟩
    have e : ((m : Int) + 7) / 8 = (((m + 7) / 8 : Nat) : Int) := by omega
    have ez : (zerosA (Value.int .u8 0).cells ((m + 7) / 8 * 1)).toList = nums .u8 (pack (List.replicate m false)) := by
      rw [put_one _ _ rfl, pack_zero, Nat.mul_one]
      exact nums_replicate .u8 _ 0
    simp -implicitDefEqProofs -dsimp (disch := first | omega | (simp only [lens, List.length_set, List.length_cons, List.length_nil, List.length_append, List.length_replicate]; done) | (simp only [lens, List.length_set, List.length_cons, List.length_nil, List.length_append, List.length_replicate]; omega)) only [↓walkA, walkB, coreB, Nat.reduceEqDiff, Nat.reduceAdd, ↓reduceIte, List.toList_toArray, List.map_cons, List.map_nil, List.getElem?_cons_zero, List.getElem?_cons_succ, Option.map_some, Option.map_none, Option.isSome_some, decide_true, decide_false, typesT, S_P, Try.f52, quo_i64, e, makeSlice_at 100 el100 zero5 rfl (by decide), Int.toNat_natCast, ez, newMap, List.length_replicate]
  · rw [if_neg hn]
    refine propext (Gets.iff ?_ Q)
    refine Gets.enter (fn := Try.f52) Try.func52 rfl rfl rfl (Nat.le_of_ble_eq_true rfl) ?_
    by_cases h1 : n < 1
    · simp -implicitDefEqProofs -dsimp (disch := first | omega | (simp only [lens, List.length_set, List.length_cons, List.length_nil, List.length_append, List.length_replicate]; done) | (simp only [lens, List.length_set, List.length_cons, List.length_nil, List.length_append, List.length_replicate]; omega)) only [↓walkA, walkB, coreB, Nat.reduceEqDiff, Nat.reduceAdd, ↓reduceIte, List.toList_toArray, List.map_cons, List.map_nil, List.getElem?_cons_zero, List.getElem?_cons_succ, Option.map_some, Option.map_none, Option.isSome_some, decide_true, decide_false, typesT, S_P, Try.f52]
    · simp -implicitDefEqProofs -dsimp (disch := first | omega | (simp only [lens, List.length_set, List.length_cons, List.length_nil, List.length_append, List.length_replicate]; done) | (simp only [lens, List.length_set, List.length_cons, List.length_nil, List.length_append, List.length_replicate]; omega)) only [↓walkA, walkB, coreB, Nat.reduceEqDiff, Nat.reduceAdd, ↓reduceIte, List.toList_toArray, List.map_cons, List.map_nil, List.getElem?_cons_zero, List.getElem?_cons_succ, Option.map_some, Option.map_none, Option.isSome_some, decide_true, decide_false, typesT, S_P, Try.f52]
/-- bits a to b are ones -/
def fillL (k : List Bool) : Nat → Nat → List Bool
  | _, 0 => k
  | a, n + 1 => fillL (k.set a true) (a + 1) n
theorem fillL_length : ∀ (n a : Nat) (k : List Bool), (fillL k a n).length = k.length
  | 0, _, _ => rfl
  | n + 1, a, k => by rw [fillL, fillL_length n, List.length_set]
theorem set_true_same (k : List Bool) (n : Nat) (hb : k.getD n false = true) : k.set n true = k := by
  apply List.ext_getElem
  · simp
  · intro i h1 h2
    rw [List.getElem_set]
    split
    · rename_i h; subst h
      rw [List.getD_eq_getElem?_getD, List.getElem?_eq_getElem h2] at hb
      exact hb.symm
    · rfl
theorem fill_c {μ : Mem} {p b c : Nat} {k : List Bool} (h : IsMap μ p b c k) (x y : Int) : Gets S 55 [.pointer (some ⟨p, 0, none⟩), .int .i64 x, .int .i64 y] μ fun v μ' =>
    if 0 ≤ x ∧ x ≤ y ∧ y ≤ k.length then v = .int .i64 0 ∧ IsMap μ' p b c (fillL k x.toNat (y - x).toNat) ∧ But b μ μ' else v = .int .i64 90 ∧ μ' = μ := by
  have h0 := h.st
  refine Gets.enter (fn := Try.f55) Try.func55 rfl rfl rfl (Nat.le_of_ble_eq_true rfl) ?_
  by_cases hx : x < 0
  · simp -implicitDefEqProofs -dsimp (disch := first | omega | (simp only [lens, List.length_set, List.length_cons, List.length_nil, List.length_append, List.length_replicate]; done) | (simp only [lens, List.length_set, List.length_cons, List.length_nil, List.length_append, List.length_replicate]; omega)) only [↓walkA, walkB, coreB, Nat.reduceEqDiff, Nat.reduceAdd, ↓reduceIte, List.toList_toArray, List.map_cons, List.map_nil, List.getElem?_cons_zero, List.getElem?_cons_succ, Option.map_some, Option.map_none, Option.isSome_some, decide_true, decide_false, typesT, S_P, Try.f55, bin_eql_pnil _ _ _ Try.underlying29]
    rw [if_neg (by omega)]
    trivial
  by_cases hy : y < x
  · simp -implicitDefEqProofs -dsimp (disch := first | omega | (simp only [lens, List.length_set, List.length_cons, List.length_nil, List.length_append, List.length_replicate]; done) | (simp only [lens, List.length_set, List.length_cons, List.length_nil, List.length_append, List.length_replicate]; omega)) only [↓walkA, walkB, coreB, Nat.reduceEqDiff, Nat.reduceAdd, ↓reduceIte, List.toList_toArray, List.map_cons, List.map_nil, List.getElem?_cons_zero, List.getElem?_cons_succ, Option.map_some, Option.map_none, Option.isSome_some, decide_true, decide_false, typesT, S_P, Try.f55, bin_eql_pnil _ _ _ Try.underlying29]
    rw [if_neg (by omega)]
    trivial
  by_cases hz : k.length < y
  · simp -implicitDefEqProofs -dsimp (disch := first | omega | (simp only [lens, List.length_set, List.length_cons, List.length_nil, List.length_append, List.length_replicate]; done) | (simp only [lens, List.length_set, List.length_cons, List.length_nil, List.length_append, List.length_replicate]; omega)) only [↓walkA, walkB, coreB, Nat.reduceEqDiff, Nat.reduceAdd, ↓reduceIte, List.toList_toArray, List.map_cons, List.map_nil, List.getElem?_cons_zero, List.getElem?_cons_succ, Option.map_some, Option.map_none, Option.isSome_some, decide_true, decide_false, typesT, S_P, Try.f55, bin_eql_pnil _ _ _ Try.underlying29, h0]
    rw [if_neg (by omega)]
    trivial
  obtain ⟨m, rfl⟩ : ∃ m : Nat, x = m := ⟨x.toNat, by omega⟩
  obtain ⟨n, rfl⟩ : ∃ n : Nat, y = n := ⟨y.toNat, by omega⟩
  have hl := h.le
  simp -implicitDefEqProofs -dsimp (disch := first | omega | (simp only [lens, List.length_set, List.length_cons, List.length_nil, List.length_append, List.length_replicate]; done) | (simp only [lens, List.length_set, List.length_cons, List.length_nil, List.length_append, List.length_replicate]; omega)) only [↓walkA, walkB, coreB, Nat.reduceEqDiff, Nat.reduceAdd, ↓reduceIte, List.toList_toArray, List.map_cons, List.map_nil, List.getElem?_cons_zero, List.getElem?_cons_succ, Option.map_some, Option.map_none, Option.isSome_some, decide_true, decide_false, typesT, S_P, Try.f55, bin_eql_pnil _ _ _ Try.underlying29, h0]
  refine loop_of S _ _ (fun j g μ' => ∃ (i : Nat) (k' : List Bool), i + j = n ∧ m ≤ i ∧ IsMap μ' p b c k' ∧ But b μ μ' ∧ k'.length = k.length ∧ fillL k' i j = fillL k m (n - m) ∧ g 0 = .pointer (some ⟨p, 0, none⟩) ∧ g 2 = .int .i64 n ∧ g 7 = .int .i64 i) (n - m) _ _ ⟨m, k, by omega, Nat.le_refl _, h, But.refl _ _, rfl, rfl, rfl, rfl, rfl⟩ ?_
  rintro j g μ' ⟨i, k', h1, h2, h3, h4, h5, h6, g0, g2, g7⟩
  by_cases hi : i < n
  · simp -implicitDefEqProofs -dsimp (disch := first | omega | (simp only [lens, List.length_set, List.length_cons, List.length_nil, List.length_append, List.length_replicate]; done) | (simp only [lens, List.length_set, List.length_cons, List.length_nil, List.length_append, List.length_replicate]; omega)) only [↓walkA, walkB, coreB, Nat.reduceEqDiff, Nat.reduceAdd, ↓reduceIte, List.toList_toArray, List.map_cons, List.map_nil, List.getElem?_cons_zero, List.getElem?_cons_succ, Option.map_some, Option.map_none, Option.isSome_some, decide_true, decide_false, Try.f55, typesT, S_P, g0, g2, g7, set_c h3]
    have hin : (0 : Int) ≤ i ∧ (i : Int) < k'.length := by omega
    have e : ((i : Int) + 1) = ((i + 1 : Nat) : Int) := by omega
    have hj : fillL (k'.set i true) (i + 1) (j - 1) = fillL k m (n - m) := by
      rw [← h6]
      conv => rhs; rw [show j = (j - 1) + 1 by omega]
      rfl
    rw [Int.toNat_natCast]
    split
    · refine held ⟨j - 1, by omega, i + 1, k'.set i true, by omega, by omega, h3.put (by simp), h4.trans (But.set ..), by simpa using h5, hj, ?_⟩
      simp -implicitDefEqProofs -dsimp (disch := first | omega | (simp only [lens, List.length_set, List.length_cons, List.length_nil, List.length_append, List.length_replicate]; done) | (simp only [lens, List.length_set, List.length_cons, List.length_nil, List.length_append, List.length_replicate]; omega)) only [↓walkA, walkB, coreB, Nat.reduceEqDiff, Nat.reduceAdd, ↓reduceIte, List.toList_toArray, List.map_cons, List.map_nil, List.getElem?_cons_zero, List.getElem?_cons_succ, Option.map_some, Option.map_none, Option.isSome_some, decide_true, decide_false, Try.f55, g0, g2, g7, e]
    · rename_i hne
      have hb : k'.getD i false = true := by
        cases hb : k'.getD i false with
        | true => rfl
        | false => exact absurd ⟨hin, hb⟩ hne
      refine held ⟨j - 1, by omega, i + 1, k', by omega, by omega, h3, h4, h5, by rw [← hj, set_true_same k' i hb], ?_⟩
      simp -implicitDefEqProofs -dsimp (disch := first | omega | (simp only [lens, List.length_set, List.length_cons, List.length_nil, List.length_append, List.length_replicate]; done) | (simp only [lens, List.length_set, List.length_cons, List.length_nil, List.length_append, List.length_replicate]; omega)) only [↓walkA, walkB, coreB, Nat.reduceEqDiff, Nat.reduceAdd, ↓reduceIte, List.toList_toArray, List.map_cons, List.map_nil, List.getElem?_cons_zero, List.getElem?_cons_succ, Option.map_some, Option.map_none, Option.isSome_some, decide_true, decide_false, Try.f55, g0, g2, g7, e]
  · simp -implicitDefEqProofs -dsimp (disch := first | omega | (simp only [lens, List.length_set, List.length_cons, List.length_nil, List.length_append, List.length_replicate]; done) | (simp only [lens, List.length_set, List.length_cons, List.length_nil, List.length_append, List.length_replicate]; omega)) only [↓walkA, walkB, coreB, Nat.reduceEqDiff, Nat.reduceAdd, ↓reduceIte, List.toList_toArray, List.map_cons, List.map_nil, List.getElem?_cons_zero, List.getElem?_cons_succ, Option.map_some, Option.map_none, Option.isSome_some, decide_true, decide_false, Try.f55, typesT, S_P, g0, g2, g7]
    have hj : j = 0 := by omega
    subst hj
    rw [if_pos (by omega)]
    refine ⟨?_, h4⟩
    rw [Int.toNat_natCast, show ((n : Int) - m).toNat = n - m by omega, ← h6]
    exact h3
end Go.Mini.Bits
