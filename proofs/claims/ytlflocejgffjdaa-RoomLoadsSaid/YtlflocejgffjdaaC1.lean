/-
  Rooms in memory, and what the first functions of package room come to: empty, State, Blocks, List, Count. No statement of the seat is proved here; no condition.
-/
import Derived.Test.YtlflocejgffjdaaB14
set_option linter.unusedSimpArgs false
namespace Go.Mini.Bits
open Go.Proofs

/-- at p lies a room with the states F, its states at b -/
structure IsRoom (μ : Mem) (p b c n : Nat) (F : Nat → Nat) : Prop where
  st : μ.at p = some (.row [.slice (some ⟨b, 0, none⟩) n c] 123 true)
  by_ : μ.at b = some (.row (rowF .i64 n F) 3 true)
  ne : p ≠ b
  lp : p < μ.next
  lb : b < μ.next
  ge : 16 ≤ n
  le : n ≤ 8192
theorem IsRoom.keeps {μ μ' : Mem} {p b c n : Nat} {F : Nat → Nat} (h : IsRoom μ p b c n F) (hk : Keeps μ.next μ μ') : IsRoom μ' p b c n F :=
  ⟨(hk.2 _ h.lp).trans h.st, (hk.2 _ h.lb).trans h.by_, h.ne, by have := h.lp; have := hk.1; omega, by have := h.lb; have := hk.1; omega, h.ge, h.le⟩
theorem IsRoom.put {μ : Mem} {p b c n : Nat} {F : Nat → Nat} (h : IsRoom μ p b c n F) (G : Nat → Nat) : IsRoom (μ.setRow b (rowF .i64 n G) 3) p b c n G :=
  ⟨by rw [at_setRow_ne _ _ _ (fun e => h.ne e.symm)]; exact h.st, at_setRow_same .., h.ne, h.lp, h.lb, h.ge, h.le⟩

/-! ### empty -/
def freshF (x : Nat) : Nat := if x = 0 then 0 else 1
theorem empty_bad {n : Int} (hn : ¬ (16 ≤ n ∧ n ≤ 8192)) (μ : Mem) (Q : Value → Mem → Prop) : Gets S 70 [.int .i64 n] μ Q = Q (.tuple #[.pointer none, .int .i64 120]) μ := by
  refine propext (Gets.iff ?_ Q)
  refine Gets.enter (fn := Try.f70) Try.func70 rfl rfl rfl (Nat.le_of_ble_eq_true rfl) ?_
  by_cases h1 : n < 16
  · simp -implicitDefEqProofs -dsimp (disch := first | omega | (simp only [lens, List.length_set, List.length_cons, List.length_nil, List.length_append, List.length_replicate]; done) | (simp only [lens, List.length_set, List.length_cons, List.length_nil, List.length_append, List.length_replicate]; omega)) only [↓walkA, walkB, coreB, Nat.reduceEqDiff, Nat.reduceAdd, ↓reduceIte, List.toList_toArray, List.map_cons, List.map_nil, List.getElem?_cons_zero, List.getElem?_cons_succ, Option.map_some, Option.map_none, Option.isSome_some, decide_true, decide_false, typesT, S_P, Try.f70]
  · simp -implicitDefEqProofs -dsimp (disch := first | omega | (simp only [lens, List.length_set, List.length_cons, List.length_nil, List.length_append, List.length_replicate]; done) | (simp only [lens, List.length_set, List.length_cons, List.length_nil, List.length_append, List.length_replicate]; omega)) only [↓walkA, walkB, coreB, Nat.reduceEqDiff, Nat.reduceAdd, ↓reduceIte, List.toList_toArray, List.map_cons, List.map_nil, List.getElem?_cons_zero, List.getElem?_cons_succ, Option.map_some, Option.map_none, Option.isSome_some, decide_true, decide_false, typesT, S_P, Try.f70]
theorem empty_c {n : Nat} (h1 : 16 ≤ n) (h2 : n ≤ 8192) (μ : Mem) : Gets S 70 [.int .i64 n] μ fun r μ' => r = .tuple #[.pointer (some ⟨μ.next + 1, 0, none⟩), .int .i64 0] ∧ IsRoom μ' (μ.next + 1) μ.next n n freshF ∧ Keeps μ.next μ μ' ∧ μ'.next = μ.next + 2 := by
  refine Gets.enter (fn := Try.f70) Try.func70 rfl rfl rfl (Nat.le_of_ble_eq_true rfl) ?_
  have ez : (zerosA (Value.int .i64 0).cells (n * 1)).toList = rowF .i64 n (fun _ => 0) := by
    rw [put_one _ _ rfl, Nat.mul_one, rowF_zero]
  obtain ⟨μ1, hμ1⟩ : ∃ μ1, (μ.add (rowF .i64 n fun _ => 0) 3).add [.slice (some ⟨μ.next, 0, none⟩) n n] 123 = μ1 := ⟨_, rfl⟩
  have a1 : μ1.at (μ.next + 1) = some (.row [.slice (some ⟨μ.next, 0, none⟩) n n] 123 true) := by
    rw [← hμ1]
    exact at_add_same (μ.add (rowF .i64 n fun _ => 0) 3) _ _
  have a2 : μ1.at μ.next = some (.row (rowF .i64 n fun _ => 0) 3 true) := by
    rw [← hμ1, at_add_ne _ _ _ (by rw [next_add]; omega)]
    exact at_add_same μ _ _
  have a3 : μ1.next = μ.next + 2 := by rw [← hμ1, next_add, next_add]
  have a4 : Keeps μ.next μ μ1 := by
    rw [← hμ1]
    exact ((Keeps.refl _ _).add (Nat.le_refl _) _ _).add (by rw [next_add]; omega) _ _
  simp -implicitDefEqProofs -dsimp (disch := first | omega | (simp only [lens, List.length_set, List.length_cons, List.length_nil, List.length_append, List.length_replicate]; done) | (simp only [lens, List.length_set, List.length_cons, List.length_nil, List.length_append, List.length_replicate]; omega)) only [↓walkA, walkB, coreB, Nat.reduceEqDiff, Nat.reduceAdd, ↓reduceIte, List.toList_toArray, List.map_cons, List.map_nil, List.getElem?_cons_zero, List.getElem?_cons_succ, Option.map_some, Option.map_none, Option.isSome_some, decide_true, decide_false, typesT, S_P, Try.f70, makeSlice_at 62 el62 zero3 rfl (by decide), Int.toNat_natCast, ez, hμ1]
  refine loop_of S _ _ (fun j g μ2 => ∃ i : Nat, 1 ≤ i ∧ i + j = n ∧ But μ.next μ1 μ2 ∧ μ2.at μ.next = some (.row (rowF .i64 n (fun x => if 1 ≤ x ∧ x < i then 1 else 0)) 3 true) ∧ g 0 = .int .i64 n ∧ g 4 = .pointer (some ⟨μ.next + 1, 0, none⟩) ∧ g 5 = .int .i64 i) (n - 1) _ _ ⟨1, by omega, by omega, But.refl _ _, ?_, rfl, rfl, rfl⟩ ?_
  · rw [a2]
    exact row_congr (rowF_congr fun x _ => (if_neg (by omega)).symm)
  rintro j g μ2 ⟨i, k0, k1, k2, k3, g0, g4, g5⟩
  have b1 := k2.2 (μ.next + 1) (by omega)
  rw [a1] at b1
  by_cases hi : i < n
  · have e2 : ((i : Int) + 1) = ((i + 1 : Nat) : Int) := by omega
    have hset := rowF_set .i64 n (fun x => if 1 ≤ x ∧ x < i then 1 else 0) i 1
    simp only [Int.natCast_one] at hset
    simp -implicitDefEqProofs -dsimp (disch := first | omega | (simp only [lens, List.length_set, List.length_cons, List.length_nil, List.length_append, List.length_replicate]; done) | (simp only [lens, List.length_set, List.length_cons, List.length_nil, List.length_append, List.length_replicate]; omega)) only [↓walkA, walkB, coreB, Nat.reduceEqDiff, Nat.reduceAdd, ↓reduceIte, List.toList_toArray, List.map_cons, List.map_nil, List.getElem?_cons_zero, List.getElem?_cons_succ, Option.map_some, Option.map_none, Option.isSome_some, decide_true, decide_false, Try.f70, typesT, S_P, g0, g4, g5, b1, k3, idx_slice _ el62, Int.toNat_natCast, Nat.mul_one, hset, e2]
    refine held ⟨j - 1, by omega, i + 1, by omega, by omega, k2.trans (But.set ..), ?_, g0, g4, rfl⟩
    rw [at_setRow_same]
    refine row_congr (rowF_congr fun x _ => ?_)
    by_cases hx : x = i
    · rw [if_pos hx, if_pos (by omega)]
    · rw [if_neg hx]
      by_cases hx2 : 1 ≤ x ∧ x < i
      · rw [if_pos hx2, if_pos (by omega)]
      · rw [if_neg hx2, if_neg (by omega)]
  · simp -implicitDefEqProofs -dsimp (disch := first | omega | (simp only [lens, List.length_set, List.length_cons, List.length_nil, List.length_append, List.length_replicate]; done) | (simp only [lens, List.length_set, List.length_cons, List.length_nil, List.length_append, List.length_replicate]; omega)) only [↓walkA, walkB, coreB, Nat.reduceEqDiff, Nat.reduceAdd, ↓reduceIte, List.toList_toArray, List.map_cons, List.map_nil, List.getElem?_cons_zero, List.getElem?_cons_succ, Option.map_some, Option.map_none, Option.isSome_some, decide_true, decide_false, Try.f70, typesT, S_P, g0, g4, g5]
    refine ⟨⟨b1, ?_, by omega, by rw [k2.1]; omega, by rw [k2.1]; omega, h1, h2⟩, a4.trans (k2.keeps (Nat.le_refl _)), by rw [k2.1, a3]⟩
    rw [k3]
    refine row_congr (rowF_congr fun x hx => ?_)
    unfold freshF
    by_cases h0 : x = 0
    · rw [if_pos h0, if_neg (by omega)]
    · rw [if_neg h0, if_pos (by omega)]

section
variable {μ : Mem} {p b c n : Nat} {F : Nat → Nat} (h : IsRoom μ p b c n F)
include h
/-- a block's state -/
theorem state_c (at_ : Nat) (hat : at_ < 4294967296) (Q : Value → Mem → Prop) : Gets S 69 [.pointer (some ⟨p, 0, none⟩), .int .u32 at_] μ Q = Q (.int .i64 ((if at_ < n then F at_ else 0 : Nat) : Nat)) μ := by
  refine propext (Gets.iff ?_ Q)
  have h0 := h.st
  have h1 := h.by_
  have hl := h.le
  refine Gets.enter (fn := Try.f69) Try.func69 rfl rfl rfl (Nat.le_of_ble_eq_true rfl) ?_
  by_cases hx : at_ < n
  · simp -implicitDefEqProofs -dsimp (disch := first | omega | (simp only [lens, List.length_set, List.length_cons, List.length_nil, List.length_append, List.length_replicate]; done) | (simp only [lens, List.length_set, List.length_cons, List.length_nil, List.length_append, List.length_replicate]; omega)) only [↓walkA, walkB, coreB, Nat.reduceEqDiff, Nat.reduceAdd, ↓reduceIte, List.toList_toArray, List.map_cons, List.map_nil, List.getElem?_cons_zero, List.getElem?_cons_succ, Option.map_some, Option.map_none, Option.isSome_some, decide_true, decide_false, typesT, S_P, Try.f69, h0, h1, bin_eql_pnil _ _ _ Try.underlying47, len_slice Try.underlying62, idx_slice _ el62, Int.toNat_natCast, Nat.mul_one, rowF_get, hx]
  · simp -implicitDefEqProofs -dsimp (disch := first | omega | (simp only [lens, List.length_set, List.length_cons, List.length_nil, List.length_append, List.length_replicate]; done) | (simp only [lens, List.length_set, List.length_cons, List.length_nil, List.length_append, List.length_replicate]; omega)) only [↓walkA, walkB, coreB, Nat.reduceEqDiff, Nat.reduceAdd, ↓reduceIte, List.toList_toArray, List.map_cons, List.map_nil, List.getElem?_cons_zero, List.getElem?_cons_succ, Option.map_some, Option.map_none, Option.isSome_some, decide_true, decide_false, typesT, S_P, Try.f69, h0, h1, bin_eql_pnil _ _ _ Try.underlying47, len_slice Try.underlying62, hx]
    rfl
theorem blocks_c (Q : Value → Mem → Prop) : Gets S 25 [.pointer (some ⟨p, 0, none⟩)] μ Q = Q (.int .i64 (n : Nat)) μ := by
  refine propext (Gets.iff ?_ Q)
  have h0 := h.st
  refine Gets.enter (fn := Try.f25) Try.func25 rfl rfl rfl (Nat.le_of_ble_eq_true rfl) ?_
  simp -implicitDefEqProofs -dsimp (disch := first | omega | (simp only [lens, List.length_set, List.length_cons, List.length_nil, List.length_append, List.length_replicate]; done) | (simp only [lens, List.length_set, List.length_cons, List.length_nil, List.length_append, List.length_replicate]; omega)) only [↓walkA, walkB, coreB, Nat.reduceEqDiff, Nat.reduceAdd, ↓reduceIte, List.toList_toArray, List.map_cons, List.map_nil, List.getElem?_cons_zero, List.getElem?_cons_succ, Option.map_some, Option.map_none, Option.isSome_some, decide_true, decide_false, typesT, S_P, Try.f25, h0, bin_eql_pnil _ _ _ Try.underlying47, len_slice Try.underlying62]
end

/-! ### List, Count -/
/-- those of the first n that have the state s -/
def listN (F : Nat → Nat) (s : Int) : Nat → List Nat
  | 0 => []
  | i + 1 => listN F s i ++ if ((F i : Nat) : Int) = s then [i] else []
theorem listN_length (F : Nat → Nat) (s : Int) : ∀ n, (listN F s n).length ≤ n
  | 0 => Nat.le_refl _
  | n + 1 => by
    rw [listN, List.length_append]
    have := listN_length F s n
    split <;> simp <;> omega
/-- one number more -/
theorem push_num {t e : TypeId} {k : IntKind} {by_ : Nat} {z : Value} (hE : Elem Try.prog t e 1 by_ z) (hby : by_ ≤ 16) (hu : Try.prog.underlying t = some (.slice e)) {μ : Mem} {lo : Nat} {v : Value} {l : List Nat} (h : Grows μ lo v (nums k l) 1 e) (hlo : lo ≤ μ.next) (hl : l.length ≤ 1000000) (ty : TypeId) (x : Nat) (c : Nat) :
    ∃ v' μ', appV Try.prog t t ty v (.slice (some ⟨μ.next, 0, none⟩) 1 c) (μ.add [.int k (x : Nat)] e) = some (v', μ') ∧ Grows μ' lo v' (nums k (l ++ [x])) 1 e ∧ Keeps lo μ μ' ∧ μ.next ≤ μ'.next := by
  have hg := h.add [.int k (x : Nat)] e
  have hat : (μ.add [.int k (x : Nat)] e).at μ.next = some (.row [.int k (x : Nat)] e true) := at_add_same μ _ _
  have hb : (l.length + 1) * by_ ≤ 1000001 * 16 := Nat.mul_le_mul (by omega) hby
  obtain ⟨v', μ', h1, h2, h3, h4⟩ := Grows.push (cs := [.int k (x : Nat)]) (sp := none) (c := c) hE hu ty hg (by rw [next_add]; omega) hat rfl (by rw [nums_length, Nat.div_one]; omega) (by rw [nums_length, Nat.div_one]; omega)
  refine ⟨v', μ', h1, ?_, ((Keeps.refl _ _).add hlo _ _).trans h3, by rw [h4, next_add]; omega⟩
  rw [nums_append]
  exact h2
theorem len_num {t e : TypeId} {k : IntKind} {μ : Mem} {lo : Nat} {v : Value} {l : List Nat} (h : Grows μ lo v (nums k l) 1 e) (hu : Try.prog.underlying t = some (.slice e)) (ty : TypeId) (μ' : Mem) : lenV Try.prog t ty v μ' = some (.int .i64 (l.length : Nat)) := by
  have := len_grows h (by omega) hu ty μ'
  rw [this, nums_length, Nat.div_one]
section
variable {μ : Mem} {p b c n : Nat} {F : Nat → Nat} (h : IsRoom μ p b c n F)
include h
theorem list_c (s : Int) : Gets S 28 [.pointer (some ⟨p, 0, none⟩), .int .i64 s] μ fun v μ' => Grows μ' μ.next v (nums .u32 (listN F s n)) 1 55 ∧ Keeps μ.next μ μ' := by
  have h0 := h.st
  have hl := h.le
  refine Gets.enter (fn := Try.f28) Try.func28 rfl rfl rfl (Nat.le_of_ble_eq_true rfl) ?_
  simp -implicitDefEqProofs -dsimp (disch := first | omega | (simp only [lens, List.length_set, List.length_cons, List.length_nil, List.length_append, List.length_replicate]; done) | (simp only [lens, List.length_set, List.length_cons, List.length_nil, List.length_append, List.length_replicate]; omega)) only [↓walkA, walkB, coreB, Nat.reduceEqDiff, Nat.reduceAdd, ↓reduceIte, List.toList_toArray, List.map_cons, List.map_nil, List.getElem?_cons_zero, List.getElem?_cons_succ, Option.map_some, Option.map_none, Option.isSome_some, decide_true, decide_false, typesT, S_P, Try.f28, h0, bin_eql_pnil _ _ _ Try.underlying47, len_slice Try.underlying62]
  refine loop_of S _ _ (fun j g μ' => ∃ i : Nat, i + j = n ∧ Keeps μ.next μ μ' ∧ Grows μ' μ.next (g 5) (nums .u32 (listN F s i)) 1 55 ∧ g 1 = .int .i64 s ∧ g 13 = .slice (some ⟨b, 0, none⟩) n c ∧ g 14 = .int .i64 n ∧ g 15 = .int .i64 i) n _ _ ⟨0, by omega, Keeps.refl _ _, Grows.nil _ _ _ _, rfl, rfl, rfl, rfl⟩ ?_
  rintro j g μ' ⟨i, k1, k2, k3, g1, g13, g14, g15⟩
  have hM := h.keeps k2
  have h1 := hM.by_
  have hk2 := k2.1
  obtain ⟨out, hout⟩ : ∃ out, g 5 = out := ⟨_, rfl⟩
  rw [hout] at k3
  have hll := listN_length F s i
  by_cases hi : i < n
  · have e2 : ((i : Int) + 1) = ((i + 1 : Nat) : Int) := by omega
    obtain ⟨v', μ2, p1, p2, p3, p4⟩ := push_num elem53 (by omega) Try.underlying53 k3 hk2 (by omega) 53 i 1
    by_cases hs : ((F i : Nat) : Int) = s
    · have hsb : (((F i : Nat) : Int) == s) = true := by simpa using hs
      simp -implicitDefEqProofs -dsimp (disch := first | omega | (simp only [lens, List.length_set, List.length_cons, List.length_nil, List.length_append, List.length_replicate]; done) | (simp only [lens, List.length_set, List.length_cons, List.length_nil, List.length_append, List.length_replicate]; omega)) only [↓walkA, walkB, coreB, Nat.reduceEqDiff, Nat.reduceAdd, ↓reduceIte, List.toList_toArray, List.map_cons, List.map_nil, List.getElem?_cons_zero, List.getElem?_cons_succ, Option.map_some, Option.map_none, Option.isSome_some, decide_true, decide_false, Try.f28, typesT, S_P, hout, g1, g13, g14, g15, h1, idx_slice _ el62, Int.toNat_natCast, Nat.mul_one, rowF_get, hsb, wrap_u32, buildSlice_int elem53, p1, e2]
      refine held ⟨j - 1, by omega, i + 1, by omega, k2.trans p3, ?_, g1, g13, g14, rfl⟩
      rw [listN, if_pos hs]
      exact p2
    · have hsb : (((F i : Nat) : Int) == s) = false := by simpa using hs
      simp -implicitDefEqProofs -dsimp (disch := first | omega | (simp only [lens, List.length_set, List.length_cons, List.length_nil, List.length_append, List.length_replicate]; done) | (simp only [lens, List.length_set, List.length_cons, List.length_nil, List.length_append, List.length_replicate]; omega)) only [↓walkA, walkB, coreB, Nat.reduceEqDiff, Nat.reduceAdd, ↓reduceIte, List.toList_toArray, List.map_cons, List.map_nil, List.getElem?_cons_zero, List.getElem?_cons_succ, Option.map_some, Option.map_none, Option.isSome_some, decide_true, decide_false, Try.f28, typesT, S_P, hout, g1, g13, g14, g15, h1, idx_slice _ el62, Int.toNat_natCast, Nat.mul_one, rowF_get, hsb, e2]
      refine held ⟨j - 1, by omega, i + 1, by omega, k2, ?_, g1, g13, g14, rfl⟩
      rw [listN, if_neg hs, List.append_nil]
      show Grows μ' μ.next (g 5) _ 1 55
      rw [hout]
      exact k3
  · have : i = n := by omega
    subst this
    simp -implicitDefEqProofs -dsimp (disch := first | omega | (simp only [lens, List.length_set, List.length_cons, List.length_nil, List.length_append, List.length_replicate]; done) | (simp only [lens, List.length_set, List.length_cons, List.length_nil, List.length_append, List.length_replicate]; omega)) only [↓walkA, walkB, coreB, Nat.reduceEqDiff, Nat.reduceAdd, ↓reduceIte, List.toList_toArray, List.map_cons, List.map_nil, List.getElem?_cons_zero, List.getElem?_cons_succ, Option.map_some, Option.map_none, Option.isSome_some, decide_true, decide_false, Try.f28, typesT, S_P, hout, g1, g13, g14, g15]
    exact ⟨k3, k2⟩
theorem count_r (s : Int) : Gets S 26 [.pointer (some ⟨p, 0, none⟩), .int .i64 s] μ fun v μ' => v = .int .i64 ((listN F s n).length : Nat) ∧ Keeps μ.next μ μ' := by
  refine Gets.enter (fn := Try.f26) Try.func26 rfl rfl rfl (Nat.le_of_ble_eq_true rfl) ?_
  simp -implicitDefEqProofs -dsimp (disch := first | omega | (simp only [lens, List.length_set, List.length_cons, List.length_nil, List.length_append, List.length_replicate]; done) | (simp only [lens, List.length_set, List.length_cons, List.length_nil, List.length_append, List.length_replicate]; omega)) only [↓walkA, walkB, coreB, Nat.reduceEqDiff, Nat.reduceAdd, ↓reduceIte, List.toList_toArray, List.map_cons, List.map_nil, List.getElem?_cons_zero, List.getElem?_cons_succ, Option.map_some, Option.map_none, Option.isSome_some, decide_true, decide_false, typesT, S_P, Try.f26]
  refine (list_c h s).mono ?_
  rintro v μ' ⟨k1, k2⟩
  have hlen := fun ty m => len_num k1 Try.underlying53 ty m
  simp -implicitDefEqProofs -dsimp (disch := first | omega | (simp only [lens, List.length_set, List.length_cons, List.length_nil, List.length_append, List.length_replicate]; done) | (simp only [lens, List.length_set, List.length_cons, List.length_nil, List.length_append, List.length_replicate]; omega)) only [↓walkA, walkB, coreB, Nat.reduceEqDiff, Nat.reduceAdd, ↓reduceIte, List.toList_toArray, List.map_cons, List.map_nil, List.getElem?_cons_zero, List.getElem?_cons_succ, Option.map_some, Option.map_none, Option.isSome_some, decide_true, decide_false, Try.f26, typesT, S_P, hlen]
  exact k2
end
end Go.Mini.Bits
