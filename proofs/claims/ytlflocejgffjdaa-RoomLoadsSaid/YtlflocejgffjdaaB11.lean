/-
  What the reference reads out of leaves, and the law's own comparison of a map and a list of bits. No statement of the seat is proved here; no condition.
-/
import Derived.Test.YtlflocejgffjdaaB10
set_option linter.unusedSimpArgs false
namespace Go.Mini.Bits
open Go.Proofs

theorem neq37 (ox oy : Operand) (F G : Nat → Nat) : binM Try.prog .neq 37 ox oy (.agg (List.toArray (rowF .u8 256 F))) (.agg (List.toArray (rowF .u8 256 G))) = some (.bool (!eqF 256 F G)) := by
  obtain ⟨i, h1, h2⟩ := info5
  have := bin_neq_nums (P := Try.prog) (t := 37) (e := 5) (n := 256) (k := .u8) ox oy eqg37 Try.underlying37 h1 h2 Try.underlying5 ((List.range 256).map F) ((List.range 256).map G) (by simp) (by simp)
  rw [rowF_beq] at this
  exact this
theorem rem_u8 (t : TypeId) (ox oy : Operand) (a b : Int) (ha : 0 ≤ a) (hb : 1 ≤ b) : binM Try.prog .rem t ox oy (.int .u8 a) (.int .u8 b) = some (.int .u8 (a % b)) := by
  rw [bin_rem _ _ _ _ _ _ (by omega), IntWalk.rem_in a b ha]
theorem bools_append (l l' : List Bool) : bools (l ++ l') = bools l ++ bools l' := by simp [bools]
theorem bitsOf_succ (B : Nat → Nat) (n : Nat) : bitsOf B (n + 1) = bitsOf B n ++ [(B (n / 8) >>> (n % 8)) % 2 == 1] := by
  simp [bitsOf, List.range_succ]
/-- what a slice that grows is, once it holds something -/
theorem Grows.some_of {μ : Mem} {lo : Nat} {v : Value} {cells : List Value} {sz : Nat} {e : TypeId} (h : Grows μ lo v cells sz e) (hne : cells ≠ []) : ∃ n l, v = .slice (some ⟨n, 0, none⟩) l INF ∧ l ≠ 0 ∧ cells.length = l * sz ∧ μ.at n = some (.row cells e true) ∧ lo ≤ n ∧ n < μ.next := by
  rcases h with ⟨h, _⟩ | h
  · exact absurd h hne
  · exact h
theorem rowF_ne {k : IntKind} {n : Nat} {F : Nat → Nat} (h : n ≠ 0) : rowF k n F ≠ [] := fun e => h (by have := congrArg List.length e; rwa [rowF_length] at this)
theorem reffrom_c {n ln : Nat} (h1 : 1 ≤ n) (h2 : n ≤ 8192) (hln : nLeaves n ≤ ln) {μ : Mem} {b c : Nat} {F : Nat → Nat} {e : TypeId} {own : Bool} (hb : μ.at b = some (.row (rowF .u8 (256 * ln) F) e own)) (hlt : b < μ.next) (hF : ∀ x, x < 256 * ln → F x < 256) :
    Gets S 20 [.int .i64 n, .slice (some ⟨b, 0, none⟩) ln c] μ fun r μ' => Keeps μ.next μ μ' ∧ if ln = nLeaves n ∧ eqF (256 * nLeaves n) (leavesF (bitsOf (leafB F) n)) F = true then ∃ bn, r = .tuple #[.slice (some ⟨bn, 0, none⟩) n INF, .int .i64 0] ∧ μ'.at bn = some (.row (bools (bitsOf (leafB F) n)) 4 true) ∧ bn < μ'.next else r = .tuple #[.slice none 0 0, .int .i64 111] := by
  refine Gets.enter (fn := Try.f20) Try.func20 rfl rfl rfl (Nat.le_of_ble_eq_true rfl) ?_
  obtain ⟨m, hm⟩ : ∃ m, nLeaves n = m := ⟨_, rfl⟩
  have hm1 : m = (n + 1023) / 1024 := by rw [← hm]; rfl
  rw [hm] at hln
  rw [hm]
  simp -implicitDefEqProofs -dsimp (disch := first | omega | (simp only [lens, List.length_set, List.length_cons, List.length_nil, List.length_append, List.length_replicate]; done) | (simp only [lens, List.length_set, List.length_cons, List.length_nil, List.length_append, List.length_replicate]; omega)) only [↓walkA, walkB, coreB, Nat.reduceEqDiff, Nat.reduceAdd, ↓reduceIte, List.toList_toArray, List.map_cons, List.map_nil, List.getElem?_cons_zero, List.getElem?_cons_succ, Option.map_some, Option.map_none, Option.isSome_some, decide_true, decide_false, typesT, S_P, Try.f20, buildSlice_none 30 el30]
  refine loop_of S _ _ (fun j g μ' => ∃ i : Nat, i + j = n ∧ Keeps μ.next μ μ' ∧ Grows μ' μ.next (g 6) (bools (bitsOf (leafB F) i)) 1 4 ∧ g 0 = .int .i64 n ∧ g 1 = .slice (some ⟨b, 0, none⟩) ln c ∧ g 7 = .int .i64 i) n _ _ ⟨0, by omega, (Keeps.refl _ _).add (Nat.le_refl _) _ _, .inl ⟨rfl, .inr ⟨_, rfl⟩⟩, rfl, rfl, rfl⟩ ?_
  rintro j g μ' ⟨i, k1, k2, k3, g0, g1, g7⟩
  obtain ⟨out, hout⟩ : ∃ out, g 6 = out := ⟨_, rfl⟩
  rw [hout] at k3
  have hk2 := k2.1
  have hb' : μ'.at b = some (.row (rowF .u8 (256 * ln) F) e own) := (k2.2 b hlt).trans hb
  by_cases hi : i < n
  · have e2 : ((i : Int) + 1) = ((i + 1 : Nat) : Int) := by omega
    have f1 : (i : Int) / 1024 = (i / 1024 : Nat) := by omega
    have f2 : (i : Int) % 1024 / 8 = (i % 1024 / 8 : Nat) := by omega
    have f3 : (128 + ((i % 1024 / 8 : Nat) : Int)).toNat = 128 + i % 1024 / 8 := by omega
    have f4 : (i : Int) % 8 = (i % 8 : Nat) := by omega
    have f5 : (rowF .u8 (256 * ln) F)[i / 1024 * 256 + (128 + i % 1024 / 8)]? = some (.int .u8 (leafB F (i / 8) : Nat)) := by
      rw [rowF_get _ _ _ _ (by omega)]
      unfold leafB
      rw [show i / 1024 * 256 + (128 + i % 1024 / 8) = 256 * (i / 8 / 128) + 128 + i / 8 % 128 by omega]
    have f6 : leafB F (i / 8) < 256 := hF _ (by omega)
    obtain ⟨y, hy⟩ : ∃ y, leafB F (i / 8) >>> (i % 8) = y := ⟨_, rfl⟩
    have hyl : y ≤ 255 := by
      rw [← hy]
      exact Nat.le_trans (Nat.shiftRight_le _ _) (by omega)
    have f7 : (((y : Nat) : Int) % 2 == 1) = (y % 2 == 1) := by
      rw [Bool.eq_iff_iff]; simp; omega
    have hg := k3.add [.bool (y % 2 == 1)] 4
    have hat : (μ'.add [.bool (y % 2 == 1)] 4).at μ'.next = some (.row [.bool (y % 2 == 1)] 4 true) := at_add_same μ' _ _
    have hbl := bitsOf_length (leafB F) i
    obtain ⟨v', μ2, p1, p2, p3, p4⟩ := Grows.push (sp := none) (c := 1) elem30 Try.underlying30 30 hg (by rw [next_add]; omega) hat rfl (by rw [bools_length, hbl]; omega) (by rw [bools_length, hbl]; omega)
    have hbs := bitsOf_succ (leafB F) i
    rw [hy] at hbs
    have p2' : Grows μ2 μ.next v' (bools (bitsOf (leafB F) (i + 1))) 1 4 := by
      rw [hbs, bools_append]
      exact p2
    simp -implicitDefEqProofs -dsimp (disch := first | omega | (simp only [lens, List.length_set, List.length_cons, List.length_nil, List.length_append, List.length_replicate]; done) | (simp only [lens, List.length_set, List.length_cons, List.length_nil, List.length_append, List.length_replicate]; omega)) only [↓walkA, walkB, coreB, Nat.reduceEqDiff, Nat.reduceAdd, ↓reduceIte, List.toList_toArray, List.map_cons, List.map_nil, List.getElem?_cons_zero, List.getElem?_cons_succ, Option.map_some, Option.map_none, Option.isSome_some, decide_true, decide_false, Try.f20, typesT, S_P, g0, g1, g7, hout, quo_i64, rem_i64, f1, f2, f3, f4, hb', len_slice Try.underlying35, idx_slice _ el35, idx_array _ arr37, f5, shr_u8, Int.toNat_natCast, Nat.mul_one, hy, rem_u8, f7, buildSlice_bool elem30, p1, e2]
    exact held ⟨j - 1, by omega, i + 1, by omega, (k2.add hk2 _ _).trans p3, p2', g0, g1, rfl⟩
  · have hin : i = n := by omega
    subst hin
    have hbl := bitsOf_length (leafB F) i
    obtain ⟨bn, L, rfl, q1, q2, q3, q4, q5⟩ := Grows.some_of k3 (fun e => by have := congrArg List.length e; rw [bools_length, hbl] at this; simp at this; omega)
    rw [bools_length, hbl] at q2
    obtain rfl : L = i := by omega
    simp -implicitDefEqProofs -dsimp (disch := first | omega | (simp only [lens, List.length_set, List.length_cons, List.length_nil, List.length_append, List.length_replicate]; done) | (simp only [lens, List.length_set, List.length_cons, List.length_nil, List.length_append, List.length_replicate]; omega)) only [↓walkA, walkB, coreB, Nat.reduceEqDiff, Nat.reduceAdd, ↓reduceIte, List.toList_toArray, List.map_cons, List.map_nil, List.getElem?_cons_zero, List.getElem?_cons_succ, Option.map_some, Option.map_none, Option.isSome_some, decide_true, decide_false, Try.f20, typesT, S_P, g0, g1, g7, hout]
    refine (refleaves_c q3 hbl.symm q5 (by rw [hbl]; exact h2)).mono ?_
    rintro v μ2 ⟨r1, r2⟩
    rw [hbl, hm] at r1
    obtain ⟨wn, L2, rfl, s1, s2, s3, s4, s5⟩ := Grows.some_of r1 (rowF_ne (by omega))
    rw [rowF_length] at s2
    obtain rfl : L2 = m := by omega
    have hr := r2.1
    have hb2 : μ2.at b = some (.row (rowF .u8 (256 * ln) F) e own) := (r2.2 b (by omega)).trans hb'
    have hbn2 : μ2.at bn = some (.row (bools (bitsOf (leafB F) L)) 4 true) := (r2.2 bn (by omega)).trans q3
    have hK : Keeps μ.next μ μ2 := k2.trans (r2.le hk2)
    by_cases hlm : ln = L2
    · subst hlm
      simp -implicitDefEqProofs -dsimp (disch := first | omega | (simp only [lens, List.length_set, List.length_cons, List.length_nil, List.length_append, List.length_replicate]; done) | (simp only [lens, List.length_set, List.length_cons, List.length_nil, List.length_append, List.length_replicate]; omega)) only [↓walkA, walkB, coreB, Nat.reduceEqDiff, Nat.reduceAdd, ↓reduceIte, List.toList_toArray, List.map_cons, List.map_nil, List.getElem?_cons_zero, List.getElem?_cons_succ, Option.map_some, Option.map_none, Option.isSome_some, decide_true, decide_false, Try.f20, typesT, S_P, g0, g1, g7, hout, len_slice Try.underlying35, beq_int_true]
      refine loop_of S _ _ (fun j g μ' => ∃ i : Nat, i + j = ln ∧ μ' = μ2 ∧ (∀ x, x < 256 * i → leavesF (bitsOf (leafB F) L) x = F x) ∧ g 1 = .slice (some ⟨b, 0, none⟩) ln c ∧ g 6 = .slice (some ⟨bn, 0, none⟩) L INF ∧ g 9 = .slice (some ⟨wn, 0, none⟩) ln INF ∧ g 10 = .int .i64 i) ln _ _ ⟨0, by omega, rfl, fun x hx => by omega, g1, hout, rfl, rfl⟩ ?_
      rintro j2 g μ3 ⟨t, t1, rfl, t2, g1, g6, g9, g10⟩
      by_cases ht : t < ln
      · have e2 : ((t : Int) + 1) = ((t + 1 : Nat) : Int) := by omega
        by_cases hxy : ∀ x, x < 256 → leavesF (bitsOf (leafB F) L) (t * 256 + x) = F (t * 256 + x)
        · have hd : eqF 256 (fun x => leavesF (bitsOf (leafB F) L) (t * 256 + x)) (fun x => F (t * 256 + x)) = true := eqF_true hxy
          simp -implicitDefEqProofs -dsimp (disch := first | omega | (simp only [lens, List.length_set, List.length_cons, List.length_nil, List.length_append, List.length_replicate]; done) | (simp only [lens, List.length_set, List.length_cons, List.length_nil, List.length_append, List.length_replicate]; omega)) only [↓walkA, walkB, coreB, Nat.reduceEqDiff, Nat.reduceAdd, ↓reduceIte, List.toList_toArray, List.map_cons, List.map_nil, List.getElem?_cons_zero, List.getElem?_cons_succ, Option.map_some, Option.map_none, Option.isSome_some, decide_true, decide_false, Try.f20, typesT, S_P, g1, g6, g9, g10, hb2, s3, len_slice Try.underlying35, idx_slice _ el35, rowF_cells, Int.toNat_natCast, neq37, hd, e2]
          refine held ⟨j2 - 1, by omega, t + 1, by omega, rfl, fun x hx => ?_, g1, g6, g9, rfl⟩
          by_cases hx2 : x < 256 * t
          · exact t2 x hx2
          · have := hxy (x - 256 * t) (by omega)
            rwa [show t * 256 + (x - 256 * t) = x by omega] at this
        · have hd : eqF 256 (fun x => leavesF (bitsOf (leafB F) L) (t * 256 + x)) (fun x => F (t * 256 + x)) = false := eqF_false hxy
          simp -implicitDefEqProofs -dsimp (disch := first | omega | (simp only [lens, List.length_set, List.length_cons, List.length_nil, List.length_append, List.length_replicate]; done) | (simp only [lens, List.length_set, List.length_cons, List.length_nil, List.length_append, List.length_replicate]; omega)) only [↓walkA, walkB, coreB, Nat.reduceEqDiff, Nat.reduceAdd, ↓reduceIte, List.toList_toArray, List.map_cons, List.map_nil, List.getElem?_cons_zero, List.getElem?_cons_succ, Option.map_some, Option.map_none, Option.isSome_some, decide_true, decide_false, Try.f20, typesT, S_P, g1, g6, g9, g10, hb2, s3, len_slice Try.underlying35, idx_slice _ el35, rowF_cells, Int.toNat_natCast, neq37, hd]
          have hne : eqF (256 * ln) (leavesF (bitsOf (leafB F) L)) F = false := eqF_false fun h => hxy fun x hx => h _ (by omega)
          rw [hne]
          exact ⟨hK, by rw [if_neg (by simp)]; trivial⟩
      · simp -implicitDefEqProofs -dsimp (disch := first | omega | (simp only [lens, List.length_set, List.length_cons, List.length_nil, List.length_append, List.length_replicate]; done) | (simp only [lens, List.length_set, List.length_cons, List.length_nil, List.length_append, List.length_replicate]; omega)) only [↓walkA, walkB, coreB, Nat.reduceEqDiff, Nat.reduceAdd, ↓reduceIte, List.toList_toArray, List.map_cons, List.map_nil, List.getElem?_cons_zero, List.getElem?_cons_succ, Option.map_some, Option.map_none, Option.isSome_some, decide_true, decide_false, Try.f20, typesT, S_P, g1, g6, g9, g10, len_slice Try.underlying35]
        have he : eqF (256 * ln) (leavesF (bitsOf (leafB F) L)) F = true := eqF_true fun x hx => t2 x (by omega)
        rw [he]
        refine ⟨hK, ?_⟩
        rw [if_pos rfl]
        exact ⟨bn, rfl, hbn2, by omega⟩
    · have hne : (L2 : Int) ≠ (ln : Int) := by omega
      simp -implicitDefEqProofs -dsimp (disch := first | omega | (simp only [lens, List.length_set, List.length_cons, List.length_nil, List.length_append, List.length_replicate]; done) | (simp only [lens, List.length_set, List.length_cons, List.length_nil, List.length_append, List.length_replicate]; omega)) only [↓walkA, walkB, coreB, Nat.reduceEqDiff, Nat.reduceAdd, ↓reduceIte, List.toList_toArray, List.map_cons, List.map_nil, List.getElem?_cons_zero, List.getElem?_cons_succ, Option.map_some, Option.map_none, Option.isSome_some, decide_true, decide_false, Try.f20, typesT, S_P, g0, g1, g7, hout, len_slice Try.underlying35, beq_int_false, hlm]
      exact hK
end Go.Mini.Bits
