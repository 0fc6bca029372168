/-
  The law BitsLeaves, over the abstract memory. No statement of the seat is proved here; no condition.
-/
import Derived.Test.YtlflocejgffjdaaB13
set_option linter.unusedSimpArgs false
namespace Go.Mini.Bits
open Go.Proofs

theorem leafB_leavesF (k : List Bool) (j : Nat) : leafB (leavesF k) j = byteAt k j := by
  unfold leafB leavesF leafF
  rw [show (256 * (j / 128) + 128 + j % 128) / 256 = j / 128 by omega, show (256 * (j / 128) + 128 + j % 128) % 256 = 128 + j % 128 by omega, if_neg (by omega), if_neg (by omega), show 128 * (j / 128) + (128 + j % 128 - 128) = j by omega]
theorem bitsOf_leaves (k : List Bool) : bitsOf (leafB (leavesF k)) k.length = k := by
  apply List.ext_getElem
  · rw [bitsOf_length]
  · intro x h1 h2
    have hb := byteAt_bit k (x / 8) (x % 8) (by omega)
    rw [show 8 * (x / 8) + x % 8 = x by omega, Nat.and_one_is_mod] at hb
    have hg : k.getD x false = k[x] := by rw [List.getD_eq_getElem?_getD, List.getElem?_eq_getElem h2]; rfl
    simp only [bitsOf, List.getElem_map, List.getElem_range]
    rw [leafB_leavesF, hb, hg]
    cases k[x] <;> rfl
theorem hdrF_lt (j x : Nat) : hdrF j x < 256 := by
  unfold hdrF
  split
  · have : x = 0 ∨ x = 1 ∨ x = 2 ∨ x = 3 := by omega
    rcases this with rfl | rfl | rfl | rfl <;> decide
  · exact le_lt _ _
theorem leavesF_lt (k : List Bool) (q : Nat) : leavesF k q < 256 := by
  unfold leavesF leafF
  split
  · exact hdrF_lt _ _
  · split
    · omega
    · exact byteAt_lt _ _
theorem law_bad {n : Int} (hn : ¬ (1 ≤ n ∧ n ≤ 8192)) (at_ : Int) (μ : Mem) (v : Value) : Gets S 5 [.int .i64 n, v, .int .i64 at_] μ fun r _ => r = .bool true := by
  refine Gets.enter (fn := Try.f5) Try.func5 rfl rfl rfl (Nat.le_of_ble_eq_true rfl) ?_
  simp -implicitDefEqProofs -dsimp (disch := first | omega | (simp only [lens, List.length_set, List.length_cons, List.length_nil, List.length_append, List.length_replicate]; done) | (simp only [lens, List.length_set, List.length_cons, List.length_nil, List.length_append, List.length_replicate]; omega)) only [↓walkA, walkB, coreB, Nat.reduceEqDiff, Nat.reduceAdd, ↓reduceIte, List.toList_toArray, List.map_cons, List.map_nil, List.getElem?_cons_zero, List.getElem?_cons_succ, Option.map_some, Option.map_none, Option.isSome_some, decide_true, decide_false, typesT, S_P, Try.f5, bin_rem]
  refine (played_bad hn μ v).mono ?_
  rintro r μ' ⟨rfl, rfl⟩
  simp -implicitDefEqProofs -dsimp (disch := first | omega | (simp only [lens, List.length_set, List.length_cons, List.length_nil, List.length_append, List.length_replicate]; done) | (simp only [lens, List.length_set, List.length_cons, List.length_nil, List.length_append, List.length_replicate]; omega)) only [↓walkA, walkB, coreB, Nat.reduceEqDiff, Nat.reduceAdd, ↓reduceIte, List.toList_toArray, List.map_cons, List.map_nil, List.getElem?_cons_zero, List.getElem?_cons_succ, Option.map_some, Option.map_none, Option.isSome_some, decide_true, decide_false, Try.f5, typesT, S_P]
  refine (awake_c μ').mono ?_
  rintro r μ1 ⟨rfl, hk⟩
  simp -implicitDefEqProofs -dsimp (disch := first | omega | (simp only [lens, List.length_set, List.length_cons, List.length_nil, List.length_append, List.length_replicate]; done) | (simp only [lens, List.length_set, List.length_cons, List.length_nil, List.length_append, List.length_replicate]; omega)) only [↓walkA, walkB, coreB, Nat.reduceEqDiff, Nat.reduceAdd, ↓reduceIte, List.toList_toArray, List.map_cons, List.map_nil, List.getElem?_cons_zero, List.getElem?_cons_succ, Option.map_some, Option.map_none, Option.isSome_some, decide_true, decide_false, Try.f5, typesT, S_P, bin_eql_pnn _ _ _ Try.underlying29]
  refine (awake_c μ1).mono ?_
  rintro r μ2 ⟨rfl, hk2⟩
  simp -implicitDefEqProofs -dsimp (disch := first | omega | (simp only [lens, List.length_set, List.length_cons, List.length_nil, List.length_append, List.length_replicate]; done) | (simp only [lens, List.length_set, List.length_cons, List.length_nil, List.length_append, List.length_replicate]; omega)) only [↓walkA, walkB, coreB, Nat.reduceEqDiff, Nat.reduceAdd, ↓reduceIte, List.toList_toArray, List.map_cons, List.map_nil, List.getElem?_cons_zero, List.getElem?_cons_succ, Option.map_some, Option.map_none, Option.isSome_some, decide_true, decide_false, Try.f5, typesT, S_P]
/-- the leaves as the law spoils them -/
def spoilF (k : List Bool) (m : Nat) (at_ : Int) (x : Nat) : Nat := if 0 ≤ at_ ∧ at_ < 256 ∧ x = (m - 1) * 256 + at_.toNat then leavesF k x ^^^ 128 else leavesF k x
def moreF (G : Nat → Nat) (m x : Nat) : Nat := if x < 256 * m then G x else (if x - 256 * m < 4 then [98, 105, 116, 115].getD (x - 256 * m) 0 else 0)
theorem spoilF_lt (k : List Bool) (m : Nat) (at_ : Int) (x : Nat) : spoilF k m at_ x < 256 := by
  unfold spoilF
  split
  · exact Nat.xor_lt_two_pow (n := 8) (leavesF_lt k x) (by omega)
  · exact leavesF_lt k x
theorem law_good {n : Nat} (h1 : 1 ≤ n) (h2 : n ≤ 8192) (at_ : Int) {μ : Mem} {v : Value} {l : List ActV} (hv : ActsAt μ v l) (hll : l.length ≤ 9223372036854775807) : Gets S 5 [.int .i64 n, v, .int .i64 at_] μ fun r _ => r = .bool true := by
  refine Gets.enter (fn := Try.f5) Try.func5 rfl rfl rfl (Nat.le_of_ble_eq_true rfl) ?_
  obtain ⟨m, hm⟩ : ∃ m, nLeaves n = m := ⟨_, rfl⟩
  have hm1 : m = (n + 1023) / 1024 := by rw [← hm]; rfl
  obtain ⟨more, hmore⟩ : ∃ more, (at_.tmod 7 == 1) = more := ⟨_, rfl⟩
  simp -implicitDefEqProofs -dsimp (disch := first | omega | (simp only [lens, List.length_set, List.length_cons, List.length_nil, List.length_append, List.length_replicate]; done) | (simp only [lens, List.length_set, List.length_cons, List.length_nil, List.length_append, List.length_replicate]; omega)) only [↓walkA, walkB, coreB, Nat.reduceEqDiff, Nat.reduceAdd, ↓reduceIte, List.toList_toArray, List.map_cons, List.map_nil, List.getElem?_cons_zero, List.getElem?_cons_succ, Option.map_some, Option.map_none, Option.isSome_some, decide_true, decide_false, typesT, S_P, Try.f5, bin_rem, hmore]
  refine (played_c h1 h2 hv hll).mono ?_
  rintro r μ1 ⟨p, b, c, kb, k, rfl, hI⟩
  have hkn := hI.len
  simp -implicitDefEqProofs -dsimp (disch := first | omega | (simp only [lens, List.length_set, List.length_cons, List.length_nil, List.length_append, List.length_replicate]; done) | (simp only [lens, List.length_set, List.length_cons, List.length_nil, List.length_append, List.length_replicate]; omega)) only [↓walkA, walkB, coreB, Nat.reduceEqDiff, Nat.reduceAdd, ↓reduceIte, List.toList_toArray, List.map_cons, List.map_nil, List.getElem?_cons_zero, List.getElem?_cons_succ, Option.map_some, Option.map_none, Option.isSome_some, decide_true, decide_false, Try.f5, typesT, S_P]
  refine (awake_c μ1).mono ?_
  rintro r μ2 ⟨rfl, hk2⟩
  have hM2 := hI.map.keeps hk2
  have hb2 : μ2.at kb = some (.row (bools k) 4 true) := (hk2.2 _ hI.kl).trans hI.bits
  have hkl2 : kb < μ2.next := by have := hk2.1; have := hI.kl; omega
  simp -implicitDefEqProofs -dsimp (disch := first | omega | (simp only [lens, List.length_set, List.length_cons, List.length_nil, List.length_append, List.length_replicate]; done) | (simp only [lens, List.length_set, List.length_cons, List.length_nil, List.length_append, List.length_replicate]; omega)) only [↓walkA, walkB, coreB, Nat.reduceEqDiff, Nat.reduceAdd, ↓reduceIte, List.toList_toArray, List.map_cons, List.map_nil, List.getElem?_cons_zero, List.getElem?_cons_succ, Option.map_some, Option.map_none, Option.isSome_some, decide_true, decide_false, Try.f5, typesT, S_P, bin_eql_pnil _ _ _ Try.underlying29]
  refine (leavesOf_c hM2).mono ?_
  rintro r μ3 ⟨rfl, l1, l2, l3⟩
  rw [hkn, hm] at l1
  rw [hkn, hm]
  simp -implicitDefEqProofs -dsimp (disch := first | omega | (simp only [lens, List.length_set, List.length_cons, List.length_nil, List.length_append, List.length_replicate]; done) | (simp only [lens, List.length_set, List.length_cons, List.length_nil, List.length_append, List.length_replicate]; omega)) only [↓walkA, walkB, coreB, Nat.reduceEqDiff, Nat.reduceAdd, ↓reduceIte, List.toList_toArray, List.map_cons, List.map_nil, List.getElem?_cons_zero, List.getElem?_cons_succ, Option.map_some, Option.map_none, Option.isSome_some, decide_true, decide_false, Try.f5, typesT, S_P]
  have hM3 := hM2.keeps l3
  have hb3 : μ3.at kb = some (.row (bools k) 4 true) := (l3.2 _ hkl2).trans hb2
  have hkl3 : kb < μ3.next := by omega
  refine (refleaves_c hb3 hkn.symm hkl3 (by omega)).mono ?_
  rintro r μ4 ⟨w1, w2⟩
  rw [hkn, hm] at w1
  obtain ⟨wn, L, rfl, s1, s2, s3, s4, s5⟩ := Grows.some_of w1 (rowF_ne (by omega))
  rw [rowF_length] at s2
  obtain rfl : L = m := by omega
  have hM4 := hM3.keeps w2
  have hx4 : μ4.at μ2.next = some (.row (rowF .u8 (256 * L) (leavesF k)) 38 true) := (w2.2 _ l2).trans l1
  have hxl4 : μ2.next < μ4.next := by have := w2.1; omega
  simp -implicitDefEqProofs -dsimp (disch := first | omega | (simp only [lens, List.length_set, List.length_cons, List.length_nil, List.length_append, List.length_replicate]; done) | (simp only [lens, List.length_set, List.length_cons, List.length_nil, List.length_append, List.length_replicate]; omega)) only [↓walkA, walkB, coreB, Nat.reduceEqDiff, Nat.reduceAdd, ↓reduceIte, List.toList_toArray, List.map_cons, List.map_nil, List.getElem?_cons_zero, List.getElem?_cons_succ, Option.map_some, Option.map_none, Option.isSome_some, decide_true, decide_false, Try.f5, typesT, S_P, len_slice Try.underlying33, len_slice Try.underlying35, beq_int_true]
  refine loop_of S _ _ (fun j g μ' => ∃ i : Nat, i + j = L ∧ μ' = μ4 ∧ g 0 = .int .i64 n ∧ g 2 = .int .i64 at_ ∧ g 7 = .bool more ∧ g 8 = .pointer (some ⟨p, 0, none⟩) ∧ g 11 = .slice (some ⟨μ2.next, 0, none⟩) L L ∧ g 12 = .slice (some ⟨wn, 0, none⟩) L INF ∧ g 13 = .int .i64 i) L _ _ ⟨0, by omega, rfl, rfl, rfl, rfl, rfl, rfl, rfl, rfl⟩ ?_
  rintro j g μ' ⟨i, k1, rfl, g0, g2, g7, g8, g11, g12, g13⟩
  by_cases hi : i < L
  · have e2 : ((i : Int) + 1) = ((i + 1 : Nat) : Int) := by omega
    have hd : ∀ F : Nat → Nat, eqF 256 F F = true := fun F => eqF_true fun _ _ => rfl
    simp -implicitDefEqProofs -dsimp (disch := first | omega | (simp only [lens, List.length_set, List.length_cons, List.length_nil, List.length_append, List.length_replicate]; done) | (simp only [lens, List.length_set, List.length_cons, List.length_nil, List.length_append, List.length_replicate]; omega)) only [↓walkA, walkB, coreB, Nat.reduceEqDiff, Nat.reduceAdd, ↓reduceIte, List.toList_toArray, List.map_cons, List.map_nil, List.getElem?_cons_zero, List.getElem?_cons_succ, Option.map_some, Option.map_none, Option.isSome_some, decide_true, decide_false, Try.f5, typesT, S_P, g0, g2, g7, g8, g11, g12, g13, hx4, s3, len_slice Try.underlying33, idx_slice _ el33, idx_slice _ el35, rowF_cells, Int.toNat_natCast, neq38, hd, e2]
    exact held ⟨j - 1, by omega, i + 1, by omega, rfl, g0, g2, g7, g8, g11, g12, rfl⟩
  · simp -implicitDefEqProofs -dsimp (disch := first | omega | (simp only [lens, List.length_set, List.length_cons, List.length_nil, List.length_append, List.length_replicate]; done) | (simp only [lens, List.length_set, List.length_cons, List.length_nil, List.length_append, List.length_replicate]; omega)) only [↓walkA, walkB, coreB, Nat.reduceEqDiff, Nat.reduceAdd, ↓reduceIte, List.toList_toArray, List.map_cons, List.map_nil, List.getElem?_cons_zero, List.getElem?_cons_succ, Option.map_some, Option.map_none, Option.isSome_some, decide_true, decide_false, Try.f5, typesT, S_P, g0, g2, g7, g8, g11, g12, g13, len_slice Try.underlying33]
    have hf := fromLeaves_c h1 h2 (c := L) (by rw [hm]; exact hx4) hxl4 (fun x _ => leavesF_lt k x)
    rw [hm] at hf
    have hbl : bitsOf (leafB (leavesF k)) n = k := by rw [← hkn]; exact bitsOf_leaves k
    rw [hbl, eqF_true (fun _ _ => rfl)] at hf
    refine hf.mono ?_
    rintro r μ5 ⟨f1, f3⟩
    rw [if_pos rfl] at f3
    obtain ⟨rfl, f2⟩ := f3
    have hM5 := hM4.keeps f1
    have s5' : μ5.at wn = some (.row (rowF .u8 (256 * L) (leavesF k)) 37 true) := (f1.2 _ s5).trans s3
    have hwl5 : wn < μ5.next := by have := f1.1; omega
    have hL1 : 1 ≤ L := by omega
    -- the spoilt leaves
    have spoil : ∃ μ6, (μ6 = μ5 ∨ μ6 = μ5.setRow wn (rowF .u8 (256 * L) (spoilF k L at_)) 37) ∧ μ6.next = μ5.next ∧ μ6.at wn = some (.row (rowF .u8 (256 * L) (spoilF k L at_)) 37 true) ∧ But wn μ5 μ6 ∧ (0 ≤ at_ ∧ at_ < 256 → μ6 = μ5.setRow wn (rowF .u8 (256 * L) (spoilF k L at_)) 37) ∧ (¬ (0 ≤ at_ ∧ at_ < 256) → μ6 = μ5) := by
      by_cases hs : 0 ≤ at_ ∧ at_ < 256
      · exact ⟨_, .inr rfl, rfl, at_setRow_same _ _ _ _, But.set .., fun _ => rfl, fun h => absurd hs h⟩
      · refine ⟨μ5, .inl rfl, rfl, ?_, But.refl _ _, fun h => absurd h hs, fun _ => rfl⟩
        rw [s5']
        refine row_congr (rowF_congr fun x _ => ?_)
        unfold spoilF
        rw [if_neg (fun hh => hs ⟨hh.1, hh.2.1⟩)]
    obtain ⟨μ6, _, u1, u2, u3, u4, u5⟩ := spoil
    -- and one more
    have hG6 : Grows μ6 wn (.slice (some ⟨wn, 0, none⟩) L INF) (rowF .u8 (256 * L) (spoilF k L at_)) 256 37 := .inr ⟨wn, L, rfl, by omega, by rw [rowF_length]; omega, u2, Nat.le_refl _, by omega⟩
    obtain ⟨H, hH⟩ : ∃ H : Nat → Nat, (fun x => if x < 4 then [98, 105, 116, 115].getD x 0 else 0) = H := ⟨_, rfl⟩
    have hb37 := build37
    rw [hH] at hb37
    have hHlt : ∀ x, H x < 256 := fun x => by
      rw [← hH]
      show (if x < 4 then [98, 105, 116, 115].getD x 0 else 0) < 256
      split
      · have : x = 0 ∨ x = 1 ∨ x = 2 ∨ x = 3 := by omega
        rcases this with rfl | rfl | rfl | rfl <;> decide
      · omega
    have hat6 : (μ6.add (rowF .u8 256 H) 37).at μ6.next = some (.row (rowF .u8 256 H) 37 true) := at_add_same μ6 _ _
    obtain ⟨v7, μ7, p1, p2, p3, p4⟩ := Grows.push (sp := none) (c := 1) elem35 Try.underlying35 35 (hG6.add (rowF .u8 256 H) 37) (by rw [next_add]; omega) hat6 (rowF_length _ _ _) (by rw [rowF_length]; omega) (by rw [rowF_length]; omega)
    rw [rowF_append] at p2
    obtain ⟨wn7, L7, rfl, q1, q2, q3, q4, q5⟩ := Grows.some_of p2 (rowF_ne (by omega))
    rw [rowF_length] at q2
    obtain rfl : L7 = L + 1 := by omega
    have e11 := buildSlice_agg elem35 (by omega) (rowF .u8 256 H) (rowF_length _ _ _) μ6
    -- what the law holds behind that
    obtain ⟨ln, W, μ8, G, hmr⟩ : ∃ (ln W : Nat) (μ8 : Mem) (G : Nat → Nat), (more = true ∧ L + 1 = ln ∧ wn7 = W ∧ μ7 = μ8 ∨ more = false ∧ L = ln ∧ wn = W ∧ μ6 = μ8) ∧ μ8.at W = some (.row (rowF .u8 (256 * ln) G) 37 true) ∧ W < μ8.next ∧ L ≤ ln ∧ ln ≤ L + 1 ∧ (∀ x, x < 256 * ln → G x < 256) := by
      cases more with
      | true => exact ⟨L + 1, wn7, μ7, _, .inl ⟨rfl, rfl, rfl, rfl⟩, by rw [show 256 * (L + 1) = 256 * L + 256 by omega]; exact q3, q5, by omega, by omega, fun x _ => by
          split
          · exact spoilF_lt _ _ _ _
          · exact hHlt _⟩
      | false => exact ⟨L, wn, μ6, _, .inr ⟨rfl, rfl, rfl, rfl⟩, u2, by omega, Nat.le_refl _, by omega, fun x _ => spoilF_lt _ _ _ _⟩
    obtain ⟨hcase, x1, x2, x3, x4, x5⟩ := hmr
    have eL : ((L : Int) - 1).toNat = L - 1 := by omega
    have hlt5 : leavesF k ((L - 1) * 256 + at_.toNat) ≤ 255 := by have := leavesF_lt k ((L - 1) * 256 + at_.toNat); omega
    -- from the loop that copies the leaves on
    have hK86 : Keeps wn μ5 μ6 := u3.keeps (Nat.le_refl _)
    by_cases hs : 0 ≤ at_ ∧ at_ < 256
    · have hμ6 : μ5.setRow wn (rowF .u8 (256 * L) (spoilF k L at_)) 37 = μ6 := (u4 hs).symm
      have hsp : rowF .u8 (256 * L) (fun x => if x = (L - 1) * 256 + at_.toNat then leavesF k ((L - 1) * 256 + at_.toNat) ^^^ 128 else leavesF k x) = rowF .u8 (256 * L) (spoilF k L at_) := by
        refine rowF_congr fun x _ => ?_
        unfold spoilF
        by_cases hx : x = (L - 1) * 256 + at_.toNat
        · rw [if_pos hx, if_pos ⟨hs.1, hs.2, hx⟩, hx]
        · rw [if_neg hx, if_neg (fun hh => hx hh.2.2)]
      rcases hcase with ⟨rfl, rfl, rfl, rfl⟩ | ⟨rfl, rfl, rfl, rfl⟩
      · simp -implicitDefEqProofs -dsimp (disch := first | omega | (simp only [lens, List.length_set, List.length_cons, List.length_nil, List.length_append, List.length_replicate]; done) | (simp only [lens, List.length_set, List.length_cons, List.length_nil, List.length_append, List.length_replicate]; omega)) only [↓walkA, walkB, coreB, Nat.reduceEqDiff, Nat.reduceAdd, ↓reduceIte, List.toList_toArray, List.map_cons, List.map_nil, List.getElem?_cons_zero, List.getElem?_cons_succ, Option.map_some, Option.map_none, Option.isSome_some, decide_true, decide_false, Try.f5, typesT, S_P, g0, g2, g7, g8, g11, g12, g13, beq_int_true, same_c f2 hM5 rfl, len_slice Try.underlying35, eL, idx_slice _ el35, idx_array _ arr37, s5', rowF_get, xor_u8, Int.toNat_natCast, Int.reduceToNat, Nat.mul_one, rowF_set, hsp, hμ6, hb37, e11, p1, buildSlice_none 33 el33]
        have y0 : Keeps μ7.next μ7 (μ7.add [] 38) := (Keeps.refl _ _).add (Nat.le_refl _) _ _
        refine loop_of S _ _ (fun j g μ' => ∃ i : Nat, i + j = L + 1 ∧ Keeps μ7.next μ7 μ' ∧ Grows μ' μ7.next (g 16) (rowF .u8 (256 * i) G) 256 38 ∧ g 0 = .int .i64 n ∧ g 12 = .slice (some ⟨wn7, 0, none⟩) (L + 1) INF ∧ g 17 = .int .i64 i) (L + 1) _ _ ⟨0, by omega, y0, .inl ⟨rfl, .inr ⟨_, rfl⟩⟩, g0, by first | exact g12 | rfl, rfl⟩ ?_
        rintro j g μ' ⟨i, k1, k2, k3, g0, g12, g17⟩
        obtain ⟨out, hout⟩ : ∃ out, g 16 = out := ⟨_, rfl⟩
        rw [hout] at k3
        have hk2' := k2.1
        have x1' : μ'.at wn7 = some (.row (rowF .u8 (256 * (L + 1)) G) 37 true) := (k2.2 _ x2).trans x1
        by_cases hi : i < L + 1
        · have e2 : ((i : Int) + 1) = ((i + 1 : Nat) : Int) := by omega
          have e12 := buildSlice_agg elem33 (by omega) (rowF .u8 256 (fun x => G (i * 256 + x))) (rowF_length _ _ _) μ'
          have hat : (μ'.add (rowF .u8 256 (fun x => G (i * 256 + x))) 38).at μ'.next = some (.row (rowF .u8 256 (fun x => G (i * 256 + x))) 38 true) := at_add_same μ' _ _
          obtain ⟨v', μ10, r1, r2, r3, r4⟩ := Grows.push (sp := none) (c := 1) elem33 Try.underlying33 33 (k3.add (rowF .u8 256 (fun x => G (i * 256 + x))) 38) (by rw [next_add]; omega) hat (rowF_length _ _ _) (by rw [rowF_length]; omega) (by rw [rowF_length]; omega)
          have e13 : rowF .u8 (256 * i) G ++ rowF .u8 256 (fun x => G (i * 256 + x)) = rowF .u8 (256 * (i + 1)) G := by
            rw [show 256 * (i + 1) = 256 * i + 256 by omega]
            exact rowF_cat _ _ _ _ _ _ (fun _ _ => rfl) (fun x _ => by rw [Nat.mul_comm])
          rw [e13] at r2
          simp -implicitDefEqProofs -dsimp (disch := first | omega | (simp only [lens, List.length_set, List.length_cons, List.length_nil, List.length_append, List.length_replicate]; done) | (simp only [lens, List.length_set, List.length_cons, List.length_nil, List.length_append, List.length_replicate]; omega)) only [↓walkA, walkB, coreB, Nat.reduceEqDiff, Nat.reduceAdd, ↓reduceIte, List.toList_toArray, List.map_cons, List.map_nil, List.getElem?_cons_zero, List.getElem?_cons_succ, Option.map_some, Option.map_none, Option.isSome_some, decide_true, decide_false, Try.f5, typesT, S_P, g0, g12, g17, hout, x1', len_slice Try.underlying35, idx_slice _ el35, rowF_cells, Int.toNat_natCast, e12, r1, e2]
          exact held ⟨j - 1, by omega, i + 1, by omega, (k2.add hk2' _ _).trans r3, r2, g0, g12, rfl⟩
        · have hie : L + 1 = i := by omega
          subst hie
          obtain ⟨yn, L9, rfl, q1, q2, q3, q4, q5⟩ := Grows.some_of k3 (rowF_ne (by omega))
          rw [rowF_length] at q2
          obtain rfl : L + 1 = L9 := by omega
          simp -implicitDefEqProofs -dsimp (disch := first | omega | (simp only [lens, List.length_set, List.length_cons, List.length_nil, List.length_append, List.length_replicate]; done) | (simp only [lens, List.length_set, List.length_cons, List.length_nil, List.length_append, List.length_replicate]; omega)) only [↓walkA, walkB, coreB, Nat.reduceEqDiff, Nat.reduceAdd, ↓reduceIte, List.toList_toArray, List.map_cons, List.map_nil, List.getElem?_cons_zero, List.getElem?_cons_succ, Option.map_some, Option.map_none, Option.isSome_some, decide_true, decide_false, Try.f5, typesT, S_P, g0, g12, g17, hout, len_slice Try.underlying35]
          refine (fromLeaves_len h1 h2 (v := .slice (some ⟨yn, 0, none⟩) (L + 1) INF) (ln := L + 1) (fun ty μ => len_slice Try.underlying33 ty _ _ _ μ) (by rw [hm]; omega) μ').mono ?_
          rintro r μ11 ⟨rfl, z1⟩
          simp -implicitDefEqProofs -dsimp (disch := first | omega | (simp only [lens, List.length_set, List.length_cons, List.length_nil, List.length_append, List.length_replicate]; done) | (simp only [lens, List.length_set, List.length_cons, List.length_nil, List.length_append, List.length_replicate]; omega)) only [↓walkA, walkB, coreB, Nat.reduceEqDiff, Nat.reduceAdd, ↓reduceIte, List.toList_toArray, List.map_cons, List.map_nil, List.getElem?_cons_zero, List.getElem?_cons_succ, Option.map_some, Option.map_none, Option.isSome_some, decide_true, decide_false, Try.f5, typesT, S_P, g0, g12]
          have hrf := reffrom_c h1 h2 (ln := L + 1) (c := INF) (μ := μ11) (by omega) ((z1.2 _ (by omega)).trans x1') (by have := z1.1; omega) (fun x hx => x5 x hx)
          rw [hm] at hrf
          refine hrf.mono ?_
          rintro r μ12 ⟨z4, z5⟩
          rw [if_neg (fun hh => by have := hh.1; omega)] at z5
          subst z5
          simp -implicitDefEqProofs -dsimp (disch := first | omega | (simp only [lens, List.length_set, List.length_cons, List.length_nil, List.length_append, List.length_replicate]; done) | (simp only [lens, List.length_set, List.length_cons, List.length_nil, List.length_append, List.length_replicate]; omega)) only [↓walkA, walkB, coreB, Nat.reduceEqDiff, Nat.reduceAdd, ↓reduceIte, List.toList_toArray, List.map_cons, List.map_nil, List.getElem?_cons_zero, List.getElem?_cons_succ, Option.map_some, Option.map_none, Option.isSome_some, decide_true, decide_false, Try.f5, typesT, S_P, bin_eql_pnn _ _ _ Try.underlying29, beq_int_true, beq_int_false, bin_eql_bool 4 _ _ Try.underlying4, BEq.rfl]
      · simp -implicitDefEqProofs -dsimp (disch := first | omega | (simp only [lens, List.length_set, List.length_cons, List.length_nil, List.length_append, List.length_replicate]; done) | (simp only [lens, List.length_set, List.length_cons, List.length_nil, List.length_append, List.length_replicate]; omega)) only [↓walkA, walkB, coreB, Nat.reduceEqDiff, Nat.reduceAdd, ↓reduceIte, List.toList_toArray, List.map_cons, List.map_nil, List.getElem?_cons_zero, List.getElem?_cons_succ, Option.map_some, Option.map_none, Option.isSome_some, decide_true, decide_false, Try.f5, typesT, S_P, g0, g2, g7, g8, g11, g12, g13, beq_int_true, same_c f2 hM5 rfl, len_slice Try.underlying35, eL, idx_slice _ el35, idx_array _ arr37, s5', rowF_get, xor_u8, Int.toNat_natCast, Int.reduceToNat, Nat.mul_one, rowF_set, hsp, hμ6, hb37, e11, p1, buildSlice_none 33 el33]
        have y0 : Keeps μ6.next μ6 (μ6.add [] 38) := (Keeps.refl _ _).add (Nat.le_refl _) _ _
        refine loop_of S _ _ (fun j g μ' => ∃ i : Nat, i + j = L ∧ Keeps μ6.next μ6 μ' ∧ Grows μ' μ6.next (g 16) (rowF .u8 (256 * i) G) 256 38 ∧ g 0 = .int .i64 n ∧ g 12 = .slice (some ⟨wn, 0, none⟩) (L) INF ∧ g 17 = .int .i64 i) (L) _ _ ⟨0, by omega, y0, .inl ⟨rfl, .inr ⟨_, rfl⟩⟩, g0, by first | exact g12 | rfl, rfl⟩ ?_
        rintro j g μ' ⟨i, k1, k2, k3, g0, g12, g17⟩
        obtain ⟨out, hout⟩ : ∃ out, g 16 = out := ⟨_, rfl⟩
        rw [hout] at k3
        have hk2' := k2.1
        have x1' : μ'.at wn = some (.row (rowF .u8 (256 * (L)) G) 37 true) := (k2.2 _ x2).trans x1
        by_cases hi : i < L
        · have e2 : ((i : Int) + 1) = ((i + 1 : Nat) : Int) := by omega
          have e12 := buildSlice_agg elem33 (by omega) (rowF .u8 256 (fun x => G (i * 256 + x))) (rowF_length _ _ _) μ'
          have hat : (μ'.add (rowF .u8 256 (fun x => G (i * 256 + x))) 38).at μ'.next = some (.row (rowF .u8 256 (fun x => G (i * 256 + x))) 38 true) := at_add_same μ' _ _
          obtain ⟨v', μ10, r1, r2, r3, r4⟩ := Grows.push (sp := none) (c := 1) elem33 Try.underlying33 33 (k3.add (rowF .u8 256 (fun x => G (i * 256 + x))) 38) (by rw [next_add]; omega) hat (rowF_length _ _ _) (by rw [rowF_length]; omega) (by rw [rowF_length]; omega)
          have e13 : rowF .u8 (256 * i) G ++ rowF .u8 256 (fun x => G (i * 256 + x)) = rowF .u8 (256 * (i + 1)) G := by
            rw [show 256 * (i + 1) = 256 * i + 256 by omega]
            exact rowF_cat _ _ _ _ _ _ (fun _ _ => rfl) (fun x _ => by rw [Nat.mul_comm])
          rw [e13] at r2
          simp -implicitDefEqProofs -dsimp (disch := first | omega | (simp only [lens, List.length_set, List.length_cons, List.length_nil, List.length_append, List.length_replicate]; done) | (simp only [lens, List.length_set, List.length_cons, List.length_nil, List.length_append, List.length_replicate]; omega)) only [↓walkA, walkB, coreB, Nat.reduceEqDiff, Nat.reduceAdd, ↓reduceIte, List.toList_toArray, List.map_cons, List.map_nil, List.getElem?_cons_zero, List.getElem?_cons_succ, Option.map_some, Option.map_none, Option.isSome_some, decide_true, decide_false, Try.f5, typesT, S_P, g0, g12, g17, hout, x1', len_slice Try.underlying35, idx_slice _ el35, rowF_cells, Int.toNat_natCast, e12, r1, e2]
          exact held ⟨j - 1, by omega, i + 1, by omega, (k2.add hk2' _ _).trans r3, r2, g0, g12, rfl⟩
        · have hie : L = i := by omega
          subst hie
          obtain ⟨yn, L9, rfl, q1, q2, q3, q4, q5⟩ := Grows.some_of k3 (rowF_ne (by omega))
          rw [rowF_length] at q2
          obtain rfl : L = L9 := by omega
          simp -implicitDefEqProofs -dsimp (disch := first | omega | (simp only [lens, List.length_set, List.length_cons, List.length_nil, List.length_append, List.length_replicate]; done) | (simp only [lens, List.length_set, List.length_cons, List.length_nil, List.length_append, List.length_replicate]; omega)) only [↓walkA, walkB, coreB, Nat.reduceEqDiff, Nat.reduceAdd, ↓reduceIte, List.toList_toArray, List.map_cons, List.map_nil, List.getElem?_cons_zero, List.getElem?_cons_succ, Option.map_some, Option.map_none, Option.isSome_some, decide_true, decide_false, Try.f5, typesT, S_P, g0, g12, g17, hout, len_slice Try.underlying35]
          have hfl := fromLeaves_c h1 h2 (c := INF) (by rw [hm]; exact q3) q5 (fun x hx => x5 x (by rw [hm] at hx; exact hx))
          rw [hm] at hfl
          have hrf := fun (μz : Mem) (hz : Keeps μ'.next μ' μz) => reffrom_c h1 h2 (ln := L) (c := INF) (by omega) ((hz.2 _ (by omega)).trans x1') (by have := hz.1; omega) (fun x hx => x5 x hx)
          simp only [hm, true_and] at hrf
          refine hfl.mono ?_
          rintro r μ11 ⟨z1, z2⟩
          simp -implicitDefEqProofs -dsimp (disch := first | omega | (simp only [lens, List.length_set, List.length_cons, List.length_nil, List.length_append, List.length_replicate]; done) | (simp only [lens, List.length_set, List.length_cons, List.length_nil, List.length_append, List.length_replicate]; omega)) only [↓walkA, walkB, coreB, Nat.reduceEqDiff, Nat.reduceAdd, ↓reduceIte, List.toList_toArray, List.map_cons, List.map_nil, List.getElem?_cons_zero, List.getElem?_cons_succ, Option.map_some, Option.map_none, Option.isSome_some, decide_true, decide_false, Try.f5, typesT, S_P]
          cases he : eqF (256 * L) (leavesF (bitsOf (leafB G) n)) G with
          | true =>
            rw [he, if_pos rfl] at z2
            obtain ⟨rfl, z3⟩ := z2
            simp -implicitDefEqProofs -dsimp (disch := first | omega | (simp only [lens, List.length_set, List.length_cons, List.length_nil, List.length_append, List.length_replicate]; done) | (simp only [lens, List.length_set, List.length_cons, List.length_nil, List.length_append, List.length_replicate]; omega)) only [↓walkA, walkB, coreB, Nat.reduceEqDiff, Nat.reduceAdd, ↓reduceIte, List.toList_toArray, List.map_cons, List.map_nil, List.getElem?_cons_zero, List.getElem?_cons_succ, Option.map_some, Option.map_none, Option.isSome_some, decide_true, decide_false, Try.f5, typesT, S_P, g0, g12]
            refine (hrf μ11 z1).mono ?_
            rintro r μ12 ⟨z4, z5⟩
            rw [he, if_pos rfl] at z5
            obtain ⟨bn, rfl, z6, z7⟩ := z5
            simp -implicitDefEqProofs -dsimp (disch := first | omega | (simp only [lens, List.length_set, List.length_cons, List.length_nil, List.length_append, List.length_replicate]; done) | (simp only [lens, List.length_set, List.length_cons, List.length_nil, List.length_append, List.length_replicate]; omega)) only [↓walkA, walkB, coreB, Nat.reduceEqDiff, Nat.reduceAdd, ↓reduceIte, List.toList_toArray, List.map_cons, List.map_nil, List.getElem?_cons_zero, List.getElem?_cons_succ, Option.map_some, Option.map_none, Option.isSome_some, decide_true, decide_false, Try.f5, typesT, S_P, bin_eql_pnil _ _ _ Try.underlying29, beq_int_true, bin_eql_bool 4 _ _ Try.underlying4, BEq.rfl]
            refine (says_c (z3.keeps z4) z6 (bitsOf_length _ _).symm z7 0).mono ?_
            rintro r μ13 ⟨rfl, z8⟩
            simp -implicitDefEqProofs -dsimp (disch := first | omega | (simp only [lens, List.length_set, List.length_cons, List.length_nil, List.length_append, List.length_replicate]; done) | (simp only [lens, List.length_set, List.length_cons, List.length_nil, List.length_append, List.length_replicate]; omega)) only [↓walkA, walkB, coreB, Nat.reduceEqDiff, Nat.reduceAdd, ↓reduceIte, List.toList_toArray, List.map_cons, List.map_nil, List.getElem?_cons_zero, List.getElem?_cons_succ, Option.map_some, Option.map_none, Option.isSome_some, decide_true, decide_false, Try.f5, typesT, S_P]
          | false =>
            rw [he, if_neg (by simp)] at z2
            subst z2
            simp -implicitDefEqProofs -dsimp (disch := first | omega | (simp only [lens, List.length_set, List.length_cons, List.length_nil, List.length_append, List.length_replicate]; done) | (simp only [lens, List.length_set, List.length_cons, List.length_nil, List.length_append, List.length_replicate]; omega)) only [↓walkA, walkB, coreB, Nat.reduceEqDiff, Nat.reduceAdd, ↓reduceIte, List.toList_toArray, List.map_cons, List.map_nil, List.getElem?_cons_zero, List.getElem?_cons_succ, Option.map_some, Option.map_none, Option.isSome_some, decide_true, decide_false, Try.f5, typesT, S_P, g0, g12]
            refine (hrf μ11 z1).mono ?_
            rintro r μ12 ⟨z4, z5⟩
            rw [he, if_neg (by simp)] at z5
            subst z5
            simp -implicitDefEqProofs -dsimp (disch := first | omega | (simp only [lens, List.length_set, List.length_cons, List.length_nil, List.length_append, List.length_replicate]; done) | (simp only [lens, List.length_set, List.length_cons, List.length_nil, List.length_append, List.length_replicate]; omega)) only [↓walkA, walkB, coreB, Nat.reduceEqDiff, Nat.reduceAdd, ↓reduceIte, List.toList_toArray, List.map_cons, List.map_nil, List.getElem?_cons_zero, List.getElem?_cons_succ, Option.map_some, Option.map_none, Option.isSome_some, decide_true, decide_false, Try.f5, typesT, S_P, bin_eql_pnn _ _ _ Try.underlying29, beq_int_true, beq_int_false, bin_eql_bool 4 _ _ Try.underlying4, BEq.rfl]
    · obtain rfl : μ6 = μ5 := u5 hs
      rcases hcase with ⟨rfl, rfl, rfl, rfl⟩ | ⟨rfl, rfl, rfl, rfl⟩
      · by_cases hneg : 0 ≤ at_
        · simp -implicitDefEqProofs -dsimp (disch := first | omega | (simp only [lens, List.length_set, List.length_cons, List.length_nil, List.length_append, List.length_replicate]; done) | (simp only [lens, List.length_set, List.length_cons, List.length_nil, List.length_append, List.length_replicate]; omega)) only [↓walkA, walkB, coreB, Nat.reduceEqDiff, Nat.reduceAdd, ↓reduceIte, List.toList_toArray, List.map_cons, List.map_nil, List.getElem?_cons_zero, List.getElem?_cons_succ, Option.map_some, Option.map_none, Option.isSome_some, decide_true, decide_false, Try.f5, typesT, S_P, g0, g2, g7, g8, g11, g12, g13, beq_int_true, same_c f2 hM5 rfl, hs, hb37, e11, p1, buildSlice_none 33 el33]
          have y0 : Keeps μ7.next μ7 (μ7.add [] 38) := (Keeps.refl _ _).add (Nat.le_refl _) _ _
          refine loop_of S _ _ (fun j g μ' => ∃ i : Nat, i + j = L + 1 ∧ Keeps μ7.next μ7 μ' ∧ Grows μ' μ7.next (g 16) (rowF .u8 (256 * i) G) 256 38 ∧ g 0 = .int .i64 n ∧ g 12 = .slice (some ⟨wn7, 0, none⟩) (L + 1) INF ∧ g 17 = .int .i64 i) (L + 1) _ _ ⟨0, by omega, y0, .inl ⟨rfl, .inr ⟨_, rfl⟩⟩, g0, by first | exact g12 | rfl, rfl⟩ ?_
          rintro j g μ' ⟨i, k1, k2, k3, g0, g12, g17⟩
          obtain ⟨out, hout⟩ : ∃ out, g 16 = out := ⟨_, rfl⟩
          rw [hout] at k3
          have hk2' := k2.1
          have x1' : μ'.at wn7 = some (.row (rowF .u8 (256 * (L + 1)) G) 37 true) := (k2.2 _ x2).trans x1
          by_cases hi : i < L + 1
          · have e2 : ((i : Int) + 1) = ((i + 1 : Nat) : Int) := by omega
            have e12 := buildSlice_agg elem33 (by omega) (rowF .u8 256 (fun x => G (i * 256 + x))) (rowF_length _ _ _) μ'
            have hat : (μ'.add (rowF .u8 256 (fun x => G (i * 256 + x))) 38).at μ'.next = some (.row (rowF .u8 256 (fun x => G (i * 256 + x))) 38 true) := at_add_same μ' _ _
            obtain ⟨v', μ10, r1, r2, r3, r4⟩ := Grows.push (sp := none) (c := 1) elem33 Try.underlying33 33 (k3.add (rowF .u8 256 (fun x => G (i * 256 + x))) 38) (by rw [next_add]; omega) hat (rowF_length _ _ _) (by rw [rowF_length]; omega) (by rw [rowF_length]; omega)
            have e13 : rowF .u8 (256 * i) G ++ rowF .u8 256 (fun x => G (i * 256 + x)) = rowF .u8 (256 * (i + 1)) G := by
              rw [show 256 * (i + 1) = 256 * i + 256 by omega]
              exact rowF_cat _ _ _ _ _ _ (fun _ _ => rfl) (fun x _ => by rw [Nat.mul_comm])
            rw [e13] at r2
            simp -implicitDefEqProofs -dsimp (disch := first | omega | (simp only [lens, List.length_set, List.length_cons, List.length_nil, List.length_append, List.length_replicate]; done) | (simp only [lens, List.length_set, List.length_cons, List.length_nil, List.length_append, List.length_replicate]; omega)) only [↓walkA, walkB, coreB, Nat.reduceEqDiff, Nat.reduceAdd, ↓reduceIte, List.toList_toArray, List.map_cons, List.map_nil, List.getElem?_cons_zero, List.getElem?_cons_succ, Option.map_some, Option.map_none, Option.isSome_some, decide_true, decide_false, Try.f5, typesT, S_P, g0, g12, g17, hout, x1', len_slice Try.underlying35, idx_slice _ el35, rowF_cells, Int.toNat_natCast, e12, r1, e2]
            exact held ⟨j - 1, by omega, i + 1, by omega, (k2.add hk2' _ _).trans r3, r2, g0, g12, rfl⟩
          · have hie : L + 1 = i := by omega
            subst hie
            obtain ⟨yn, L9, rfl, q1, q2, q3, q4, q5⟩ := Grows.some_of k3 (rowF_ne (by omega))
            rw [rowF_length] at q2
            obtain rfl : L + 1 = L9 := by omega
            simp -implicitDefEqProofs -dsimp (disch := first | omega | (simp only [lens, List.length_set, List.length_cons, List.length_nil, List.length_append, List.length_replicate]; done) | (simp only [lens, List.length_set, List.length_cons, List.length_nil, List.length_append, List.length_replicate]; omega)) only [↓walkA, walkB, coreB, Nat.reduceEqDiff, Nat.reduceAdd, ↓reduceIte, List.toList_toArray, List.map_cons, List.map_nil, List.getElem?_cons_zero, List.getElem?_cons_succ, Option.map_some, Option.map_none, Option.isSome_some, decide_true, decide_false, Try.f5, typesT, S_P, g0, g12, g17, hout, len_slice Try.underlying35]
            refine (fromLeaves_len h1 h2 (v := .slice (some ⟨yn, 0, none⟩) (L + 1) INF) (ln := L + 1) (fun ty μ => len_slice Try.underlying33 ty _ _ _ μ) (by rw [hm]; omega) μ').mono ?_
            rintro r μ11 ⟨rfl, z1⟩
            simp -implicitDefEqProofs -dsimp (disch := first | omega | (simp only [lens, List.length_set, List.length_cons, List.length_nil, List.length_append, List.length_replicate]; done) | (simp only [lens, List.length_set, List.length_cons, List.length_nil, List.length_append, List.length_replicate]; omega)) only [↓walkA, walkB, coreB, Nat.reduceEqDiff, Nat.reduceAdd, ↓reduceIte, List.toList_toArray, List.map_cons, List.map_nil, List.getElem?_cons_zero, List.getElem?_cons_succ, Option.map_some, Option.map_none, Option.isSome_some, decide_true, decide_false, Try.f5, typesT, S_P, g0, g12]
            have hrf := reffrom_c h1 h2 (ln := L + 1) (c := INF) (μ := μ11) (by omega) ((z1.2 _ (by omega)).trans x1') (by have := z1.1; omega) (fun x hx => x5 x hx)
            rw [hm] at hrf
            refine hrf.mono ?_
            rintro r μ12 ⟨z4, z5⟩
            rw [if_neg (fun hh => by have := hh.1; omega)] at z5
            subst z5
            simp -implicitDefEqProofs -dsimp (disch := first | omega | (simp only [lens, List.length_set, List.length_cons, List.length_nil, List.length_append, List.length_replicate]; done) | (simp only [lens, List.length_set, List.length_cons, List.length_nil, List.length_append, List.length_replicate]; omega)) only [↓walkA, walkB, coreB, Nat.reduceEqDiff, Nat.reduceAdd, ↓reduceIte, List.toList_toArray, List.map_cons, List.map_nil, List.getElem?_cons_zero, List.getElem?_cons_succ, Option.map_some, Option.map_none, Option.isSome_some, decide_true, decide_false, Try.f5, typesT, S_P, bin_eql_pnn _ _ _ Try.underlying29, beq_int_true, beq_int_false, bin_eql_bool 4 _ _ Try.underlying4, BEq.rfl]
        · simp -implicitDefEqProofs -dsimp (disch := first | omega | (simp only [lens, List.length_set, List.length_cons, List.length_nil, List.length_append, List.length_replicate]; done) | (simp only [lens, List.length_set, List.length_cons, List.length_nil, List.length_append, List.length_replicate]; omega)) only [↓walkA, walkB, coreB, Nat.reduceEqDiff, Nat.reduceAdd, ↓reduceIte, List.toList_toArray, List.map_cons, List.map_nil, List.getElem?_cons_zero, List.getElem?_cons_succ, Option.map_some, Option.map_none, Option.isSome_some, decide_true, decide_false, Try.f5, typesT, S_P, g0, g2, g7, g8, g11, g12, g13, beq_int_true, same_c f2 hM5 rfl, hs, hb37, e11, p1, buildSlice_none 33 el33]
          have y0 : Keeps μ7.next μ7 (μ7.add [] 38) := (Keeps.refl _ _).add (Nat.le_refl _) _ _
          refine loop_of S _ _ (fun j g μ' => ∃ i : Nat, i + j = L + 1 ∧ Keeps μ7.next μ7 μ' ∧ Grows μ' μ7.next (g 16) (rowF .u8 (256 * i) G) 256 38 ∧ g 0 = .int .i64 n ∧ g 12 = .slice (some ⟨wn7, 0, none⟩) (L + 1) INF ∧ g 17 = .int .i64 i) (L + 1) _ _ ⟨0, by omega, y0, .inl ⟨rfl, .inr ⟨_, rfl⟩⟩, g0, by first | exact g12 | rfl, rfl⟩ ?_
          rintro j g μ' ⟨i, k1, k2, k3, g0, g12, g17⟩
          obtain ⟨out, hout⟩ : ∃ out, g 16 = out := ⟨_, rfl⟩
          rw [hout] at k3
          have hk2' := k2.1
          have x1' : μ'.at wn7 = some (.row (rowF .u8 (256 * (L + 1)) G) 37 true) := (k2.2 _ x2).trans x1
          by_cases hi : i < L + 1
          · have e2 : ((i : Int) + 1) = ((i + 1 : Nat) : Int) := by omega
            have e12 := buildSlice_agg elem33 (by omega) (rowF .u8 256 (fun x => G (i * 256 + x))) (rowF_length _ _ _) μ'
            have hat : (μ'.add (rowF .u8 256 (fun x => G (i * 256 + x))) 38).at μ'.next = some (.row (rowF .u8 256 (fun x => G (i * 256 + x))) 38 true) := at_add_same μ' _ _
            obtain ⟨v', μ10, r1, r2, r3, r4⟩ := Grows.push (sp := none) (c := 1) elem33 Try.underlying33 33 (k3.add (rowF .u8 256 (fun x => G (i * 256 + x))) 38) (by rw [next_add]; omega) hat (rowF_length _ _ _) (by rw [rowF_length]; omega) (by rw [rowF_length]; omega)
            have e13 : rowF .u8 (256 * i) G ++ rowF .u8 256 (fun x => G (i * 256 + x)) = rowF .u8 (256 * (i + 1)) G := by
              rw [show 256 * (i + 1) = 256 * i + 256 by omega]
              exact rowF_cat _ _ _ _ _ _ (fun _ _ => rfl) (fun x _ => by rw [Nat.mul_comm])
            rw [e13] at r2
            simp -implicitDefEqProofs -dsimp (disch := first | omega | (simp only [lens, List.length_set, List.length_cons, List.length_nil, List.length_append, List.length_replicate]; done) | (simp only [lens, List.length_set, List.length_cons, List.length_nil, List.length_append, List.length_replicate]; omega)) only [↓walkA, walkB, coreB, Nat.reduceEqDiff, Nat.reduceAdd, ↓reduceIte, List.toList_toArray, List.map_cons, List.map_nil, List.getElem?_cons_zero, List.getElem?_cons_succ, Option.map_some, Option.map_none, Option.isSome_some, decide_true, decide_false, Try.f5, typesT, S_P, g0, g12, g17, hout, x1', len_slice Try.underlying35, idx_slice _ el35, rowF_cells, Int.toNat_natCast, e12, r1, e2]
            exact held ⟨j - 1, by omega, i + 1, by omega, (k2.add hk2' _ _).trans r3, r2, g0, g12, rfl⟩
          · have hie : L + 1 = i := by omega
            subst hie
            obtain ⟨yn, L9, rfl, q1, q2, q3, q4, q5⟩ := Grows.some_of k3 (rowF_ne (by omega))
            rw [rowF_length] at q2
            obtain rfl : L + 1 = L9 := by omega
            simp -implicitDefEqProofs -dsimp (disch := first | omega | (simp only [lens, List.length_set, List.length_cons, List.length_nil, List.length_append, List.length_replicate]; done) | (simp only [lens, List.length_set, List.length_cons, List.length_nil, List.length_append, List.length_replicate]; omega)) only [↓walkA, walkB, coreB, Nat.reduceEqDiff, Nat.reduceAdd, ↓reduceIte, List.toList_toArray, List.map_cons, List.map_nil, List.getElem?_cons_zero, List.getElem?_cons_succ, Option.map_some, Option.map_none, Option.isSome_some, decide_true, decide_false, Try.f5, typesT, S_P, g0, g12, g17, hout, len_slice Try.underlying35]
            refine (fromLeaves_len h1 h2 (v := .slice (some ⟨yn, 0, none⟩) (L + 1) INF) (ln := L + 1) (fun ty μ => len_slice Try.underlying33 ty _ _ _ μ) (by rw [hm]; omega) μ').mono ?_
            rintro r μ11 ⟨rfl, z1⟩
            simp -implicitDefEqProofs -dsimp (disch := first | omega | (simp only [lens, List.length_set, List.length_cons, List.length_nil, List.length_append, List.length_replicate]; done) | (simp only [lens, List.length_set, List.length_cons, List.length_nil, List.length_append, List.length_replicate]; omega)) only [↓walkA, walkB, coreB, Nat.reduceEqDiff, Nat.reduceAdd, ↓reduceIte, List.toList_toArray, List.map_cons, List.map_nil, List.getElem?_cons_zero, List.getElem?_cons_succ, Option.map_some, Option.map_none, Option.isSome_some, decide_true, decide_false, Try.f5, typesT, S_P, g0, g12]
            have hrf := reffrom_c h1 h2 (ln := L + 1) (c := INF) (μ := μ11) (by omega) ((z1.2 _ (by omega)).trans x1') (by have := z1.1; omega) (fun x hx => x5 x hx)
            rw [hm] at hrf
            refine hrf.mono ?_
            rintro r μ12 ⟨z4, z5⟩
            rw [if_neg (fun hh => by have := hh.1; omega)] at z5
            subst z5
            simp -implicitDefEqProofs -dsimp (disch := first | omega | (simp only [lens, List.length_set, List.length_cons, List.length_nil, List.length_append, List.length_replicate]; done) | (simp only [lens, List.length_set, List.length_cons, List.length_nil, List.length_append, List.length_replicate]; omega)) only [↓walkA, walkB, coreB, Nat.reduceEqDiff, Nat.reduceAdd, ↓reduceIte, List.toList_toArray, List.map_cons, List.map_nil, List.getElem?_cons_zero, List.getElem?_cons_succ, Option.map_some, Option.map_none, Option.isSome_some, decide_true, decide_false, Try.f5, typesT, S_P, bin_eql_pnn _ _ _ Try.underlying29, beq_int_true, beq_int_false, bin_eql_bool 4 _ _ Try.underlying4, BEq.rfl]
      · by_cases hneg : 0 ≤ at_
        · simp -implicitDefEqProofs -dsimp (disch := first | omega | (simp only [lens, List.length_set, List.length_cons, List.length_nil, List.length_append, List.length_replicate]; done) | (simp only [lens, List.length_set, List.length_cons, List.length_nil, List.length_append, List.length_replicate]; omega)) only [↓walkA, walkB, coreB, Nat.reduceEqDiff, Nat.reduceAdd, ↓reduceIte, List.toList_toArray, List.map_cons, List.map_nil, List.getElem?_cons_zero, List.getElem?_cons_succ, Option.map_some, Option.map_none, Option.isSome_some, decide_true, decide_false, Try.f5, typesT, S_P, g0, g2, g7, g8, g11, g12, g13, beq_int_true, same_c f2 hM5 rfl, hs, hb37, e11, p1, buildSlice_none 33 el33]
          have y0 : Keeps μ6.next μ6 (μ6.add [] 38) := (Keeps.refl _ _).add (Nat.le_refl _) _ _
          refine loop_of S _ _ (fun j g μ' => ∃ i : Nat, i + j = L ∧ Keeps μ6.next μ6 μ' ∧ Grows μ' μ6.next (g 16) (rowF .u8 (256 * i) G) 256 38 ∧ g 0 = .int .i64 n ∧ g 12 = .slice (some ⟨wn, 0, none⟩) (L) INF ∧ g 17 = .int .i64 i) (L) _ _ ⟨0, by omega, y0, .inl ⟨rfl, .inr ⟨_, rfl⟩⟩, g0, by first | exact g12 | rfl, rfl⟩ ?_
          rintro j g μ' ⟨i, k1, k2, k3, g0, g12, g17⟩
          obtain ⟨out, hout⟩ : ∃ out, g 16 = out := ⟨_, rfl⟩
          rw [hout] at k3
          have hk2' := k2.1
          have x1' : μ'.at wn = some (.row (rowF .u8 (256 * (L)) G) 37 true) := (k2.2 _ x2).trans x1
          by_cases hi : i < L
          · have e2 : ((i : Int) + 1) = ((i + 1 : Nat) : Int) := by omega
            have e12 := buildSlice_agg elem33 (by omega) (rowF .u8 256 (fun x => G (i * 256 + x))) (rowF_length _ _ _) μ'
            have hat : (μ'.add (rowF .u8 256 (fun x => G (i * 256 + x))) 38).at μ'.next = some (.row (rowF .u8 256 (fun x => G (i * 256 + x))) 38 true) := at_add_same μ' _ _
            obtain ⟨v', μ10, r1, r2, r3, r4⟩ := Grows.push (sp := none) (c := 1) elem33 Try.underlying33 33 (k3.add (rowF .u8 256 (fun x => G (i * 256 + x))) 38) (by rw [next_add]; omega) hat (rowF_length _ _ _) (by rw [rowF_length]; omega) (by rw [rowF_length]; omega)
            have e13 : rowF .u8 (256 * i) G ++ rowF .u8 256 (fun x => G (i * 256 + x)) = rowF .u8 (256 * (i + 1)) G := by
              rw [show 256 * (i + 1) = 256 * i + 256 by omega]
              exact rowF_cat _ _ _ _ _ _ (fun _ _ => rfl) (fun x _ => by rw [Nat.mul_comm])
            rw [e13] at r2
            simp -implicitDefEqProofs -dsimp (disch := first | omega | (simp only [lens, List.length_set, List.length_cons, List.length_nil, List.length_append, List.length_replicate]; done) | (simp only [lens, List.length_set, List.length_cons, List.length_nil, List.length_append, List.length_replicate]; omega)) only [↓walkA, walkB, coreB, Nat.reduceEqDiff, Nat.reduceAdd, ↓reduceIte, List.toList_toArray, List.map_cons, List.map_nil, List.getElem?_cons_zero, List.getElem?_cons_succ, Option.map_some, Option.map_none, Option.isSome_some, decide_true, decide_false, Try.f5, typesT, S_P, g0, g12, g17, hout, x1', len_slice Try.underlying35, idx_slice _ el35, rowF_cells, Int.toNat_natCast, e12, r1, e2]
            exact held ⟨j - 1, by omega, i + 1, by omega, (k2.add hk2' _ _).trans r3, r2, g0, g12, rfl⟩
          · have hie : L = i := by omega
            subst hie
            obtain ⟨yn, L9, rfl, q1, q2, q3, q4, q5⟩ := Grows.some_of k3 (rowF_ne (by omega))
            rw [rowF_length] at q2
            obtain rfl : L = L9 := by omega
            simp -implicitDefEqProofs -dsimp (disch := first | omega | (simp only [lens, List.length_set, List.length_cons, List.length_nil, List.length_append, List.length_replicate]; done) | (simp only [lens, List.length_set, List.length_cons, List.length_nil, List.length_append, List.length_replicate]; omega)) only [↓walkA, walkB, coreB, Nat.reduceEqDiff, Nat.reduceAdd, ↓reduceIte, List.toList_toArray, List.map_cons, List.map_nil, List.getElem?_cons_zero, List.getElem?_cons_succ, Option.map_some, Option.map_none, Option.isSome_some, decide_true, decide_false, Try.f5, typesT, S_P, g0, g12, g17, hout, len_slice Try.underlying35]
            have hfl := fromLeaves_c h1 h2 (c := INF) (by rw [hm]; exact q3) q5 (fun x hx => x5 x (by rw [hm] at hx; exact hx))
            rw [hm] at hfl
            have hrf := fun (μz : Mem) (hz : Keeps μ'.next μ' μz) => reffrom_c h1 h2 (ln := L) (c := INF) (by omega) ((hz.2 _ (by omega)).trans x1') (by have := hz.1; omega) (fun x hx => x5 x hx)
            simp only [hm, true_and] at hrf
            refine hfl.mono ?_
            rintro r μ11 ⟨z1, z2⟩
            simp -implicitDefEqProofs -dsimp (disch := first | omega | (simp only [lens, List.length_set, List.length_cons, List.length_nil, List.length_append, List.length_replicate]; done) | (simp only [lens, List.length_set, List.length_cons, List.length_nil, List.length_append, List.length_replicate]; omega)) only [↓walkA, walkB, coreB, Nat.reduceEqDiff, Nat.reduceAdd, ↓reduceIte, List.toList_toArray, List.map_cons, List.map_nil, List.getElem?_cons_zero, List.getElem?_cons_succ, Option.map_some, Option.map_none, Option.isSome_some, decide_true, decide_false, Try.f5, typesT, S_P]
            cases he : eqF (256 * L) (leavesF (bitsOf (leafB G) n)) G with
            | true =>
              rw [he, if_pos rfl] at z2
              obtain ⟨rfl, z3⟩ := z2
              simp -implicitDefEqProofs -dsimp (disch := first | omega | (simp only [lens, List.length_set, List.length_cons, List.length_nil, List.length_append, List.length_replicate]; done) | (simp only [lens, List.length_set, List.length_cons, List.length_nil, List.length_append, List.length_replicate]; omega)) only [↓walkA, walkB, coreB, Nat.reduceEqDiff, Nat.reduceAdd, ↓reduceIte, List.toList_toArray, List.map_cons, List.map_nil, List.getElem?_cons_zero, List.getElem?_cons_succ, Option.map_some, Option.map_none, Option.isSome_some, decide_true, decide_false, Try.f5, typesT, S_P, g0, g12]
              refine (hrf μ11 z1).mono ?_
              rintro r μ12 ⟨z4, z5⟩
              rw [he, if_pos rfl] at z5
              obtain ⟨bn, rfl, z6, z7⟩ := z5
              simp -implicitDefEqProofs -dsimp (disch := first | omega | (simp only [lens, List.length_set, List.length_cons, List.length_nil, List.length_append, List.length_replicate]; done) | (simp only [lens, List.length_set, List.length_cons, List.length_nil, List.length_append, List.length_replicate]; omega)) only [↓walkA, walkB, coreB, Nat.reduceEqDiff, Nat.reduceAdd, ↓reduceIte, List.toList_toArray, List.map_cons, List.map_nil, List.getElem?_cons_zero, List.getElem?_cons_succ, Option.map_some, Option.map_none, Option.isSome_some, decide_true, decide_false, Try.f5, typesT, S_P, bin_eql_pnil _ _ _ Try.underlying29, beq_int_true, bin_eql_bool 4 _ _ Try.underlying4, BEq.rfl]
              refine (says_c (z3.keeps z4) z6 (bitsOf_length _ _).symm z7 0).mono ?_
              rintro r μ13 ⟨rfl, z8⟩
              simp -implicitDefEqProofs -dsimp (disch := first | omega | (simp only [lens, List.length_set, List.length_cons, List.length_nil, List.length_append, List.length_replicate]; done) | (simp only [lens, List.length_set, List.length_cons, List.length_nil, List.length_append, List.length_replicate]; omega)) only [↓walkA, walkB, coreB, Nat.reduceEqDiff, Nat.reduceAdd, ↓reduceIte, List.toList_toArray, List.map_cons, List.map_nil, List.getElem?_cons_zero, List.getElem?_cons_succ, Option.map_some, Option.map_none, Option.isSome_some, decide_true, decide_false, Try.f5, typesT, S_P]
            | false =>
              rw [he, if_neg (by simp)] at z2
              subst z2
              simp -implicitDefEqProofs -dsimp (disch := first | omega | (simp only [lens, List.length_set, List.length_cons, List.length_nil, List.length_append, List.length_replicate]; done) | (simp only [lens, List.length_set, List.length_cons, List.length_nil, List.length_append, List.length_replicate]; omega)) only [↓walkA, walkB, coreB, Nat.reduceEqDiff, Nat.reduceAdd, ↓reduceIte, List.toList_toArray, List.map_cons, List.map_nil, List.getElem?_cons_zero, List.getElem?_cons_succ, Option.map_some, Option.map_none, Option.isSome_some, decide_true, decide_false, Try.f5, typesT, S_P, g0, g12]
              refine (hrf μ11 z1).mono ?_
              rintro r μ12 ⟨z4, z5⟩
              rw [he, if_neg (by simp)] at z5
              subst z5
              simp -implicitDefEqProofs -dsimp (disch := first | omega | (simp only [lens, List.length_set, List.length_cons, List.length_nil, List.length_append, List.length_replicate]; done) | (simp only [lens, List.length_set, List.length_cons, List.length_nil, List.length_append, List.length_replicate]; omega)) only [↓walkA, walkB, coreB, Nat.reduceEqDiff, Nat.reduceAdd, ↓reduceIte, List.toList_toArray, List.map_cons, List.map_nil, List.getElem?_cons_zero, List.getElem?_cons_succ, Option.map_some, Option.map_none, Option.isSome_some, decide_true, decide_false, Try.f5, typesT, S_P, bin_eql_pnn _ _ _ Try.underlying29, beq_int_true, beq_int_false, bin_eql_bool 4 _ _ Try.underlying4, BEq.rfl]
        · simp -implicitDefEqProofs -dsimp (disch := first | omega | (simp only [lens, List.length_set, List.length_cons, List.length_nil, List.length_append, List.length_replicate]; done) | (simp only [lens, List.length_set, List.length_cons, List.length_nil, List.length_append, List.length_replicate]; omega)) only [↓walkA, walkB, coreB, Nat.reduceEqDiff, Nat.reduceAdd, ↓reduceIte, List.toList_toArray, List.map_cons, List.map_nil, List.getElem?_cons_zero, List.getElem?_cons_succ, Option.map_some, Option.map_none, Option.isSome_some, decide_true, decide_false, Try.f5, typesT, S_P, g0, g2, g7, g8, g11, g12, g13, beq_int_true, same_c f2 hM5 rfl, hs, hb37, e11, p1, buildSlice_none 33 el33]
          have y0 : Keeps μ6.next μ6 (μ6.add [] 38) := (Keeps.refl _ _).add (Nat.le_refl _) _ _
          refine loop_of S _ _ (fun j g μ' => ∃ i : Nat, i + j = L ∧ Keeps μ6.next μ6 μ' ∧ Grows μ' μ6.next (g 16) (rowF .u8 (256 * i) G) 256 38 ∧ g 0 = .int .i64 n ∧ g 12 = .slice (some ⟨wn, 0, none⟩) (L) INF ∧ g 17 = .int .i64 i) (L) _ _ ⟨0, by omega, y0, .inl ⟨rfl, .inr ⟨_, rfl⟩⟩, g0, by first | exact g12 | rfl, rfl⟩ ?_
          rintro j g μ' ⟨i, k1, k2, k3, g0, g12, g17⟩
          obtain ⟨out, hout⟩ : ∃ out, g 16 = out := ⟨_, rfl⟩
          rw [hout] at k3
          have hk2' := k2.1
          have x1' : μ'.at wn = some (.row (rowF .u8 (256 * (L)) G) 37 true) := (k2.2 _ x2).trans x1
          by_cases hi : i < L
          · have e2 : ((i : Int) + 1) = ((i + 1 : Nat) : Int) := by omega
            have e12 := buildSlice_agg elem33 (by omega) (rowF .u8 256 (fun x => G (i * 256 + x))) (rowF_length _ _ _) μ'
            have hat : (μ'.add (rowF .u8 256 (fun x => G (i * 256 + x))) 38).at μ'.next = some (.row (rowF .u8 256 (fun x => G (i * 256 + x))) 38 true) := at_add_same μ' _ _
            obtain ⟨v', μ10, r1, r2, r3, r4⟩ := Grows.push (sp := none) (c := 1) elem33 Try.underlying33 33 (k3.add (rowF .u8 256 (fun x => G (i * 256 + x))) 38) (by rw [next_add]; omega) hat (rowF_length _ _ _) (by rw [rowF_length]; omega) (by rw [rowF_length]; omega)
            have e13 : rowF .u8 (256 * i) G ++ rowF .u8 256 (fun x => G (i * 256 + x)) = rowF .u8 (256 * (i + 1)) G := by
              rw [show 256 * (i + 1) = 256 * i + 256 by omega]
              exact rowF_cat _ _ _ _ _ _ (fun _ _ => rfl) (fun x _ => by rw [Nat.mul_comm])
            rw [e13] at r2
            simp -implicitDefEqProofs -dsimp (disch := first | omega | (simp only [lens, List.length_set, List.length_cons, List.length_nil, List.length_append, List.length_replicate]; done) | (simp only [lens, List.length_set, List.length_cons, List.length_nil, List.length_append, List.length_replicate]; omega)) only [↓walkA, walkB, coreB, Nat.reduceEqDiff, Nat.reduceAdd, ↓reduceIte, List.toList_toArray, List.map_cons, List.map_nil, List.getElem?_cons_zero, List.getElem?_cons_succ, Option.map_some, Option.map_none, Option.isSome_some, decide_true, decide_false, Try.f5, typesT, S_P, g0, g12, g17, hout, x1', len_slice Try.underlying35, idx_slice _ el35, rowF_cells, Int.toNat_natCast, e12, r1, e2]
            exact held ⟨j - 1, by omega, i + 1, by omega, (k2.add hk2' _ _).trans r3, r2, g0, g12, rfl⟩
          · have hie : L = i := by omega
            subst hie
            obtain ⟨yn, L9, rfl, q1, q2, q3, q4, q5⟩ := Grows.some_of k3 (rowF_ne (by omega))
            rw [rowF_length] at q2
            obtain rfl : L = L9 := by omega
            simp -implicitDefEqProofs -dsimp (disch := first | omega | (simp only [lens, List.length_set, List.length_cons, List.length_nil, List.length_append, List.length_replicate]; done) | (simp only [lens, List.length_set, List.length_cons, List.length_nil, List.length_append, List.length_replicate]; omega)) only [↓walkA, walkB, coreB, Nat.reduceEqDiff, Nat.reduceAdd, ↓reduceIte, List.toList_toArray, List.map_cons, List.map_nil, List.getElem?_cons_zero, List.getElem?_cons_succ, Option.map_some, Option.map_none, Option.isSome_some, decide_true, decide_false, Try.f5, typesT, S_P, g0, g12, g17, hout, len_slice Try.underlying35]
            have hfl := fromLeaves_c h1 h2 (c := INF) (by rw [hm]; exact q3) q5 (fun x hx => x5 x (by rw [hm] at hx; exact hx))
            rw [hm] at hfl
            have hrf := fun (μz : Mem) (hz : Keeps μ'.next μ' μz) => reffrom_c h1 h2 (ln := L) (c := INF) (by omega) ((hz.2 _ (by omega)).trans x1') (by have := hz.1; omega) (fun x hx => x5 x hx)
            simp only [hm, true_and] at hrf
            refine hfl.mono ?_
            rintro r μ11 ⟨z1, z2⟩
            simp -implicitDefEqProofs -dsimp (disch := first | omega | (simp only [lens, List.length_set, List.length_cons, List.length_nil, List.length_append, List.length_replicate]; done) | (simp only [lens, List.length_set, List.length_cons, List.length_nil, List.length_append, List.length_replicate]; omega)) only [↓walkA, walkB, coreB, Nat.reduceEqDiff, Nat.reduceAdd, ↓reduceIte, List.toList_toArray, List.map_cons, List.map_nil, List.getElem?_cons_zero, List.getElem?_cons_succ, Option.map_some, Option.map_none, Option.isSome_some, decide_true, decide_false, Try.f5, typesT, S_P]
            cases he : eqF (256 * L) (leavesF (bitsOf (leafB G) n)) G with
            | true =>
              rw [he, if_pos rfl] at z2
              obtain ⟨rfl, z3⟩ := z2
              simp -implicitDefEqProofs -dsimp (disch := first | omega | (simp only [lens, List.length_set, List.length_cons, List.length_nil, List.length_append, List.length_replicate]; done) | (simp only [lens, List.length_set, List.length_cons, List.length_nil, List.length_append, List.length_replicate]; omega)) only [↓walkA, walkB, coreB, Nat.reduceEqDiff, Nat.reduceAdd, ↓reduceIte, List.toList_toArray, List.map_cons, List.map_nil, List.getElem?_cons_zero, List.getElem?_cons_succ, Option.map_some, Option.map_none, Option.isSome_some, decide_true, decide_false, Try.f5, typesT, S_P, g0, g12]
              refine (hrf μ11 z1).mono ?_
              rintro r μ12 ⟨z4, z5⟩
              rw [he, if_pos rfl] at z5
              obtain ⟨bn, rfl, z6, z7⟩ := z5
              simp -implicitDefEqProofs -dsimp (disch := first | omega | (simp only [lens, List.length_set, List.length_cons, List.length_nil, List.length_append, List.length_replicate]; done) | (simp only [lens, List.length_set, List.length_cons, List.length_nil, List.length_append, List.length_replicate]; omega)) only [↓walkA, walkB, coreB, Nat.reduceEqDiff, Nat.reduceAdd, ↓reduceIte, List.toList_toArray, List.map_cons, List.map_nil, List.getElem?_cons_zero, List.getElem?_cons_succ, Option.map_some, Option.map_none, Option.isSome_some, decide_true, decide_false, Try.f5, typesT, S_P, bin_eql_pnil _ _ _ Try.underlying29, beq_int_true, bin_eql_bool 4 _ _ Try.underlying4, BEq.rfl]
              refine (says_c (z3.keeps z4) z6 (bitsOf_length _ _).symm z7 0).mono ?_
              rintro r μ13 ⟨rfl, z8⟩
              simp -implicitDefEqProofs -dsimp (disch := first | omega | (simp only [lens, List.length_set, List.length_cons, List.length_nil, List.length_append, List.length_replicate]; done) | (simp only [lens, List.length_set, List.length_cons, List.length_nil, List.length_append, List.length_replicate]; omega)) only [↓walkA, walkB, coreB, Nat.reduceEqDiff, Nat.reduceAdd, ↓reduceIte, List.toList_toArray, List.map_cons, List.map_nil, List.getElem?_cons_zero, List.getElem?_cons_succ, Option.map_some, Option.map_none, Option.isSome_some, decide_true, decide_false, Try.f5, typesT, S_P]
            | false =>
              rw [he, if_neg (by simp)] at z2
              subst z2
              simp -implicitDefEqProofs -dsimp (disch := first | omega | (simp only [lens, List.length_set, List.length_cons, List.length_nil, List.length_append, List.length_replicate]; done) | (simp only [lens, List.length_set, List.length_cons, List.length_nil, List.length_append, List.length_replicate]; omega)) only [↓walkA, walkB, coreB, Nat.reduceEqDiff, Nat.reduceAdd, ↓reduceIte, List.toList_toArray, List.map_cons, List.map_nil, List.getElem?_cons_zero, List.getElem?_cons_succ, Option.map_some, Option.map_none, Option.isSome_some, decide_true, decide_false, Try.f5, typesT, S_P, g0, g12]
              refine (hrf μ11 z1).mono ?_
              rintro r μ12 ⟨z4, z5⟩
              rw [he, if_neg (by simp)] at z5
              subst z5
              simp -implicitDefEqProofs -dsimp (disch := first | omega | (simp only [lens, List.length_set, List.length_cons, List.length_nil, List.length_append, List.length_replicate]; done) | (simp only [lens, List.length_set, List.length_cons, List.length_nil, List.length_append, List.length_replicate]; omega)) only [↓walkA, walkB, coreB, Nat.reduceEqDiff, Nat.reduceAdd, ↓reduceIte, List.toList_toArray, List.map_cons, List.map_nil, List.getElem?_cons_zero, List.getElem?_cons_succ, Option.map_some, Option.map_none, Option.isSome_some, decide_true, decide_false, Try.f5, typesT, S_P, bin_eql_pnn _ _ _ Try.underlying29, beq_int_true, beq_int_false, bin_eql_bool 4 _ _ Try.underlying4, BEq.rfl]
end Go.Mini.Bits
