/-
  The reference's leaves, and what it reads out of leaves. No statement of the seat is proved here; no condition.
-/
import Derived.Test.YtlflocejgffjdaaB9
set_option linter.unusedSimpArgs false
namespace Go.Mini.Bits
open Go.Proofs

/-- the bits below P -/
def below (k : List Bool) (P x : Nat) : Bool := decide (x < P) && k.getD x false
def byteP (f : Nat → Bool) (j : Nat) : Nat := byte8 (f (8 * j)) (f (8 * j + 1)) (f (8 * j + 2)) (f (8 * j + 3)) (f (8 * j + 4)) (f (8 * j + 5)) (f (8 * j + 6)) (f (8 * j + 7))
theorem byteP_congr {f g : Nat → Bool} (j : Nat) (h : ∀ i, i < 8 → f (8 * j + i) = g (8 * j + i)) : byteP f j = byteP g j := by
  unfold byteP
  have h0 := h 0 (by omega)
  rw [Nat.add_zero] at h0
  rw [h0, h 1 (by omega), h 2 (by omega), h 3 (by omega), h 4 (by omega), h 5 (by omega), h 6 (by omega), h 7 (by omega)]
theorem byteP_lt (f : Nat → Bool) (j : Nat) : byteP f j < 256 := byte8_lt ..
theorem byteP_set (f : Nat → Bool) (j i : Nat) (h : i < 8) : byteP f j ||| ((1 <<< i) % 256) = byteP (fun x => if x = 8 * j + i then true else f x) j := by
  unfold byteP
  dsimp only
  rcases lt8 h with rfl | rfl | rfl | rfl | rfl | rfl | rfl | rfl
  · rw [if_pos (by omega), if_neg (by omega), if_neg (by omega), if_neg (by omega), if_neg (by omega), if_neg (by omega), if_neg (by omega), if_neg (by omega)]; exact set_0 ..
  · rw [if_neg (by omega), if_pos (by omega), if_neg (by omega), if_neg (by omega), if_neg (by omega), if_neg (by omega), if_neg (by omega), if_neg (by omega)]; exact set_1 ..
  · rw [if_neg (by omega), if_neg (by omega), if_pos (by omega), if_neg (by omega), if_neg (by omega), if_neg (by omega), if_neg (by omega), if_neg (by omega)]; exact set_2 ..
  · rw [if_neg (by omega), if_neg (by omega), if_neg (by omega), if_pos (by omega), if_neg (by omega), if_neg (by omega), if_neg (by omega), if_neg (by omega)]; exact set_3 ..
  · rw [if_neg (by omega), if_neg (by omega), if_neg (by omega), if_neg (by omega), if_pos (by omega), if_neg (by omega), if_neg (by omega), if_neg (by omega)]; exact set_4 ..
  · rw [if_neg (by omega), if_neg (by omega), if_neg (by omega), if_neg (by omega), if_neg (by omega), if_pos (by omega), if_neg (by omega), if_neg (by omega)]; exact set_5 ..
  · rw [if_neg (by omega), if_neg (by omega), if_neg (by omega), if_neg (by omega), if_neg (by omega), if_neg (by omega), if_pos (by omega), if_neg (by omega)]; exact set_6 ..
  · rw [if_neg (by omega), if_neg (by omega), if_neg (by omega), if_neg (by omega), if_neg (by omega), if_neg (by omega), if_neg (by omega), if_pos (by omega)]; exact set_7 ..
/-- a leaf with the bits below P -/
def partF (k : List Bool) (i P y : Nat) : Nat := if y < 8 then hdrF i y else if y < 128 then 0 else byteP (below k P) (128 * i + (y - 128))
theorem build37 : buildM Try.prog 37 [(0, .int .u8 98), (1, .int .u8 105), (2, .int .u8 116), (3, .int .u8 115)] = some (.agg (List.toArray (rowF .u8 256 (fun x => if x < 4 then [98, 105, 116, 115].getD x 0 else 0)))) := by kernel_rfl
theorem shl_u8' {P : Program} (t : TypeId) (ox oy : Operand) (n : Nat) (h : n < 8) {k : IntKind} : binM P .shl t ox oy (.int .u8 1) (.int k (n : Int)) = some (.int .u8 ((1 <<< n) % 256 : Nat)) := by
  have := shl_u8 (P := P) t ox oy 1 n (k := k) (by omega) (by omega) (by omega)
  rw [Int.toNat_natCast] at this
  exact this
theorem rowF_cat (k : IntKind) (n m : Nat) (F G H : Nat → Nat) (h1 : ∀ x, x < n → F x = H x) (h2 : ∀ x, x < m → G x = H (n + x)) : rowF k n F ++ rowF k m G = rowF k (n + m) H := by
  rw [rowF_append]
  refine rowF_congr fun x hx => ?_
  by_cases hn : x < n
  · rw [if_pos hn, h1 x hn]
  · rw [if_neg hn, h2 _ (by omega), show n + (x - n) = x by omega]
theorem refleaves_c {μ : Mem} {b c n : Nat} {k : List Bool} {own : Bool} (hb : μ.at b = some (.row (bools k) 4 own)) (hn : n = k.length) (hlt : b < μ.next) (hl : k.length ≤ 8192) :
    Gets S 17 [.slice (some ⟨b, 0, none⟩) n c] μ fun v μ' => Grows μ' μ.next v (rowF .u8 (256 * nLeaves k.length) (leavesF k)) 256 37 ∧ Keeps μ.next μ μ' := by
  subst hn
  refine Gets.enter (fn := Try.f17) Try.func17 rfl rfl rfl (Nat.le_of_ble_eq_true rfl) ?_
  obtain ⟨m, hm⟩ : ∃ m, nLeaves k.length = m := ⟨_, rfl⟩
  have hm1 : m = (k.length + 1023) / 1024 := by rw [← hm]; rfl
  rw [hm]
  simp -implicitDefEqProofs -dsimp (disch := first | omega | (simp only [lens, List.length_set, List.length_cons, List.length_nil, List.length_append, List.length_replicate]; done) | (simp only [lens, List.length_set, List.length_cons, List.length_nil, List.length_append, List.length_replicate]; omega)) only [↓walkA, walkB, coreB, Nat.reduceEqDiff, Nat.reduceAdd, ↓reduceIte, List.toList_toArray, List.map_cons, List.map_nil, List.getElem?_cons_zero, List.getElem?_cons_succ, Option.map_some, Option.map_none, Option.isSome_some, decide_true, decide_false, typesT, S_P, Try.f17, buildSlice_none 35 el35]
  refine loop_of S _ _ (fun j g μ' => ∃ i : Nat, i + j = m ∧ Keeps μ.next μ μ' ∧ Grows μ' μ.next (g 3) (rowF .u8 (256 * i) (leavesF k)) 256 37 ∧ g 0 = .slice (some ⟨b, 0, none⟩) k.length c ∧ g 4 = .int .i64 i) m _ _ ⟨0, by omega, (Keeps.refl _ _).add (Nat.le_refl _) _ _, .inl ⟨rfl, .inr ⟨_, rfl⟩⟩, rfl, rfl⟩ ?_
  rintro j g μ' ⟨i, h1, h2, h3, g0, g4⟩
  obtain ⟨out, hout⟩ : ∃ out, g 3 = out := ⟨_, rfl⟩
  rw [hout] at h3
  have hk2 := h2.1
  by_cases hi : i < m
  · have e2 : ((i : Int) + 1) = ((i + 1 : Nat) : Int) := by omega
    have hlt2 : (i : Int) * 1024 < k.length := by omega
    have e3 : (1024 : Int) * i = (1024 * i : Nat) := by omega
    simp -implicitDefEqProofs -dsimp (disch := first | omega | (simp only [lens, List.length_set, List.length_cons, List.length_nil, List.length_append, List.length_replicate]; done) | (simp only [lens, List.length_set, List.length_cons, List.length_nil, List.length_append, List.length_replicate]; omega)) only [↓walkA, walkB, coreB, Nat.reduceEqDiff, Nat.reduceAdd, ↓reduceIte, List.toList_toArray, List.map_cons, List.map_nil, List.getElem?_cons_zero, List.getElem?_cons_succ, Option.map_some, Option.map_none, Option.isSome_some, decide_true, decide_false, Try.f17, typesT, S_P, g0, g4, hout, len_slice Try.underlying30, build37, alloc_at zero37, rowF_zero, storeT_full]
    obtain ⟨F0, hF0⟩ : ∃ F0 : Nat → Nat, (fun x => if x < 4 then [98, 105, 116, 115].getD x 0 else 0) = F0 := ⟨_, rfl⟩
    rw [hF0]
    obtain ⟨μ1, hμ1⟩ : ∃ μ1, (μ'.add (rowF .u8 256 fun _ => 0) 37).setRow μ'.next (rowF .u8 256 F0) 37 = μ1 := ⟨_, rfl⟩
    have a1 : μ1.at μ'.next = some (.row (rowF .u8 256 F0) 37 true) := by rw [← hμ1, at_setRow_same]
    have a2 : Keeps μ'.next μ' μ1 := by rw [← hμ1]; exact ((Keeps.refl _ _).add (Nat.le_refl _) _ _).set (Nat.le_refl _) _ _
    have a3 : μ1.next = μ'.next + 1 := by rw [← hμ1]; rfl
    rw [hμ1]
    refine (refbytes_c (n := i) (m := 4) (by omega) (by omega)).mono ?_
    rintro v μ2 ⟨hG4, b1⟩
    have hG : ∃ bn, v = .slice (some ⟨bn, 0, none⟩) 4 INF ∧ μ2.at bn = some (.row (rowF .u8 4 (le i)) 5 true) ∧ μ1.next ≤ bn ∧ bn < μ2.next := by
      rcases hG4 with ⟨hz, _⟩ | ⟨bn, L, rfl, q1, q2, q3, q4, q5⟩
      · exact absurd (congrArg List.length hz) (by rw [rowF_length]; simp)
      · rw [rowF_length] at q2
        obtain rfl : L = 4 := by omega
        exact ⟨bn, rfl, q3, q4, q5⟩
    obtain ⟨bn, rfl, b2, b3, b4⟩ := hG
    have b5 : μ2.at μ'.next = some (.row (rowF .u8 256 F0) 37 true) := (b1.2 _ (by omega)).trans a1
    have b6 : Keeps μ'.next μ' μ2 := a2.trans (b1.le (by omega))
    have b7 := b1.1
    simp -implicitDefEqProofs -dsimp (disch := first | omega | (simp only [lens, List.length_set, List.length_cons, List.length_nil, List.length_append, List.length_replicate]; done) | (simp only [lens, List.length_set, List.length_cons, List.length_nil, List.length_append, List.length_replicate]; omega)) only [↓walkA, walkB, coreB, Nat.reduceEqDiff, Nat.reduceAdd, ↓reduceIte, List.toList_toArray, List.map_cons, List.map_nil, List.getElem?_cons_zero, List.getElem?_cons_succ, Option.map_some, Option.map_none, Option.isSome_some, decide_true, decide_false, Try.f17, typesT, S_P, g0, g4, hout]
    -- the number
    refine loop_of S _ _ (fun j g μ3 => ∃ t : Nat, t + j = 4 ∧ Keeps μ'.next μ' μ3 ∧ μ3.next = μ2.next ∧ μ3.at bn = some (.row (rowF .u8 4 (le i)) 5 true) ∧ μ3.at μ'.next = some (.row (rowF .u8 256 (fun x => if x < 4 + t then hdrF i x else 0)) 37 true) ∧ g 0 = .slice (some ⟨b, 0, none⟩) k.length c ∧ g 3 = out ∧ g 4 = .int .i64 i ∧ g 5 = .pointer (some ⟨μ'.next, 0, none⟩) ∧ g 6 = .slice (some ⟨bn, 0, none⟩) 4 INF ∧ g 7 = .int .i64 t) 4 _ _ ⟨0, by omega, b6, rfl, b2, ?_, g0, hout, g4, rfl, rfl, rfl⟩ ?_
    · rw [b5, ← hF0]
      refine row_congr (rowF_congr fun x _ => ?_)
      by_cases hx : x < 4
      · rw [if_pos hx, if_pos (by omega)]
        unfold hdrF
        rw [if_pos hx]
      · rw [if_neg hx, if_neg (by omega)]
    rintro j2 g μ3 ⟨t, c1, c2, c3, c4, c5, g0, g3, g4, g5, g6, g7⟩
    by_cases ht : t < 4
    · have e4 : ((t : Int) + 1) = ((t + 1 : Nat) : Int) := by omega
      have e5 : (4 + (t : Int)).toNat = 4 + t := by omega
      simp -implicitDefEqProofs -dsimp (disch := first | omega | (simp only [lens, List.length_set, List.length_cons, List.length_nil, List.length_append, List.length_replicate]; done) | (simp only [lens, List.length_set, List.length_cons, List.length_nil, List.length_append, List.length_replicate]; omega)) only [↓walkA, walkB, coreB, Nat.reduceEqDiff, Nat.reduceAdd, ↓reduceIte, List.toList_toArray, List.map_cons, List.map_nil, List.getElem?_cons_zero, List.getElem?_cons_succ, Option.map_some, Option.map_none, Option.isSome_some, decide_true, decide_false, Try.f17, typesT, S_P, g0, g3, g4, g5, g6, g7, c4, c5, idx_slice _ el100, idx_array _ arr37, rowF_get, Int.toNat_natCast, Nat.mul_one, e5, rowF_set, e4]
      refine held ⟨j2 - 1, by omega, t + 1, by omega, c2.set (Nat.le_refl _) _ _, c3, ?_, ?_, g0, g3, g4, g5, g6, rfl⟩
      · rw [at_setRow_ne _ _ _ (by omega)]; exact c4
      · rw [at_setRow_same]
        refine row_congr (rowF_congr fun x _ => ?_)
        by_cases hx : x = 4 + t
        · rw [if_pos hx, if_pos (by omega), hx]
          unfold hdrF
          rw [if_neg (by omega), show 4 + t - 4 = t by omega]
        · rw [if_neg hx]
          by_cases hx2 : x < 4 + t
          · rw [if_pos hx2, if_pos (by omega)]
          · rw [if_neg hx2, if_neg (by omega)]
    · have ht4 : t = 4 := by omega
      subst ht4
      simp -implicitDefEqProofs -dsimp (disch := first | omega | (simp only [lens, List.length_set, List.length_cons, List.length_nil, List.length_append, List.length_replicate]; done) | (simp only [lens, List.length_set, List.length_cons, List.length_nil, List.length_append, List.length_replicate]; omega)) only [↓walkA, walkB, coreB, Nat.reduceEqDiff, Nat.reduceAdd, ↓reduceIte, List.toList_toArray, List.map_cons, List.map_nil, List.getElem?_cons_zero, List.getElem?_cons_succ, Option.map_some, Option.map_none, Option.isSome_some, decide_true, decide_false, Try.f17, typesT, S_P, g0, g3, g4, g5, g6, g7, e3]
      -- the bits
      refine loop_of S _ _ (fun j g μ4 => ∃ p : Nat, p + j = min (1024 * i + 1024) k.length ∧ 1024 * i ≤ p ∧ Keeps μ'.next μ' μ4 ∧ μ4.next = μ2.next ∧ μ4.at μ'.next = some (.row (rowF .u8 256 (partF k i p)) 37 true) ∧ g 0 = .slice (some ⟨b, 0, none⟩) k.length c ∧ g 3 = out ∧ g 4 = .int .i64 i ∧ g 5 = .pointer (some ⟨μ'.next, 0, none⟩) ∧ g 8 = .int .i64 p) (min (1024 * i + 1024) k.length - 1024 * i) _ _ ⟨1024 * i, by omega, Nat.le_refl _, c2, c3, ?_, g0, g3, g4, g5, rfl⟩ ?_
      · rw [c5]
        refine row_congr (rowF_congr fun x _ => ?_)
        unfold partF
        by_cases hx : x < 8
        · rw [if_pos (by omega), if_pos hx]
        · rw [if_neg (by omega), if_neg hx]
          by_cases hx2 : x < 128
          · rw [if_pos hx2]
          · rw [if_neg hx2]
            have e6 : byteP (below k (1024 * i)) (128 * i + (x - 128)) = byteP (fun _ => false) (128 * i + (x - 128)) := byteP_congr _ fun y _ => by
              unfold below
              rw [decide_eq_false (by omega), Bool.false_and]
            rw [e6]
            rfl
      rintro j3 g μ4 ⟨p, d1, d2, d3, d4, d5, g0, g3, g4, g5, g8⟩
      have hbm : μ4.at b = some (.row (bools k) 4 own) := (d3.2 b (by omega)).trans ((h2.2 b hlt).trans hb)
      by_cases hp : p < min (1024 * i + 1024) k.length
      · have e7 : ((p : Int) + 1) = ((p + 1 : Nat) : Int) := by omega
        cases hv : k.getD p false with
        | false =>
          simp -implicitDefEqProofs -dsimp (disch := first | omega | (simp only [lens, List.length_set, List.length_cons, List.length_nil, List.length_append, List.length_replicate]; done) | (simp only [lens, List.length_set, List.length_cons, List.length_nil, List.length_append, List.length_replicate]; omega)) only [↓walkA, walkB, coreB, Nat.reduceEqDiff, Nat.reduceAdd, ↓reduceIte, List.toList_toArray, List.map_cons, List.map_nil, List.getElem?_cons_zero, List.getElem?_cons_succ, Option.map_some, Option.map_none, Option.isSome_some, decide_true, decide_false, Try.f17, typesT, S_P, g0, g3, g4, g5, g8, e3, hbm, len_slice Try.underlying30, idx_slice _ el30, bools_get, Int.toNat_natCast, Nat.mul_one, hv, e7]
          refine held ⟨j3 - 1, by omega, p + 1, by omega, by omega, d3, d4, ?_, g0, g3, g4, g5, rfl⟩
          rw [d5]
          refine row_congr (rowF_congr fun x _ => ?_)
          unfold partF
          have e8 : ∀ q, byteP (below k p) q = byteP (below k (p + 1)) q := fun q => byteP_congr q fun y _ => by
            unfold below
            by_cases hy : 8 * q + y = p
            · rw [hy, hv, Bool.and_false, Bool.and_false]
            · by_cases hy2 : 8 * q + y < p
              · rw [decide_eq_true hy2, decide_eq_true (by omega)]
              · rw [decide_eq_false hy2, decide_eq_false (by omega)]
          rw [e8]
        | true =>
          have f1 : (p : Int) % 1024 / 8 = (p % 1024 / 8 : Nat) := by omega
          have f2 : (128 + ((p % 1024 / 8 : Nat) : Int)).toNat = 128 + p % 1024 / 8 := by omega
          have f3 : (p : Int) % 8 = (p % 8 : Nat) := by omega
          have f4 : partF k i p (128 + p % 1024 / 8) < 256 := by
            unfold partF
            rw [if_neg (by omega), if_neg (by omega)]
            exact byteP_lt _ _
          have f5 : (1 <<< (p % 8)) % 256 ≤ 255 := by omega
          have f6 : p % 8 < 8 := by omega
          simp -implicitDefEqProofs -dsimp (disch := first | omega | (simp only [lens, List.length_set, List.length_cons, List.length_nil, List.length_append, List.length_replicate]; done) | (simp only [lens, List.length_set, List.length_cons, List.length_nil, List.length_append, List.length_replicate]; omega)) only [↓walkA, walkB, coreB, Nat.reduceEqDiff, Nat.reduceAdd, ↓reduceIte, List.toList_toArray, List.map_cons, List.map_nil, List.getElem?_cons_zero, List.getElem?_cons_succ, Option.map_some, Option.map_none, Option.isSome_some, decide_true, decide_false, Try.f17, typesT, S_P, g0, g3, g4, g5, g8, e3, hbm, d5, len_slice Try.underlying30, idx_slice _ el30, idx_array _ arr37, bools_get, rowF_get, Int.toNat_natCast, Nat.mul_one, hv, rem_i64, quo_i64, f1, f2, f3, shl_u8', or_u8, rowF_set, e7]
          refine held ⟨j3 - 1, by omega, p + 1, by omega, by omega, d3.set (Nat.le_refl _) _ _, d4, ?_, g0, g3, g4, g5, rfl⟩
          rw [at_setRow_same]
          refine row_congr (rowF_congr fun x hx => ?_)
          have e8 : byteP (below k p) (p / 8) ||| ((1 <<< (p % 8)) % 256) = byteP (below k (p + 1)) (p / 8) := by
            rw [byteP_set _ _ _ f6]
            refine byteP_congr _ fun y hy => ?_
            unfold below
            by_cases hyp : 8 * (p / 8) + y = 8 * (p / 8) + p % 8
            · rw [if_pos hyp, hyp, show 8 * (p / 8) + p % 8 = p by omega, hv, decide_eq_true (by omega)]; rfl
            · rw [if_neg hyp]
              by_cases hy2 : 8 * (p / 8) + y < p
              · rw [decide_eq_true hy2, decide_eq_true (by omega)]
              · rw [decide_eq_false hy2, decide_eq_false (by omega)]
          by_cases hxe : x = 128 + p % 1024 / 8
          · rw [if_pos hxe, hxe]
            unfold partF
            rw [if_neg (by omega), if_neg (by omega), if_neg (by omega), if_neg (by omega), show 128 * i + (128 + p % 1024 / 8 - 128) = p / 8 by omega]
            exact e8
          · rw [if_neg hxe]
            unfold partF
            by_cases h8 : x < 8
            · rw [if_pos h8, if_pos h8]
            · rw [if_neg h8, if_neg h8]
              by_cases h128 : x < 128
              · rw [if_pos h128, if_pos h128]
              · rw [if_neg h128, if_neg h128]
                refine byteP_congr _ fun y hy => ?_
                unfold below
                by_cases hy2 : 8 * (128 * i + (x - 128)) + y < p
                · rw [decide_eq_true hy2, decide_eq_true (by omega)]
                · rw [decide_eq_false hy2, decide_eq_false (by omega)]
      · -- the leaf is whole
        have hpe : p = min (1024 * i + 1024) k.length := by omega
        have hG3 := h3.keeps d3
        have hrow : rowF .u8 256 (partF k i p) = rowF .u8 256 (fun x => leavesF k (256 * i + x)) := by
          refine rowF_congr fun x hx => ?_
          unfold leavesF partF leafF
          rw [show (256 * i + x) / 256 = i by omega, show (256 * i + x) % 256 = x by omega]
          by_cases h8 : x < 8
          · rw [if_pos h8, if_pos h8]
          · rw [if_neg h8, if_neg h8]
            by_cases h128 : x < 128
            · rw [if_pos h128, if_pos h128]
            · rw [if_neg h128, if_neg h128]
              show byteP (below k p) _ = byteP (fun x => k.getD x false) _
              refine byteP_congr _ fun y hy => ?_
              unfold below
              by_cases hy2 : 8 * (128 * i + (x - 128)) + y < p
              · rw [decide_eq_true hy2, Bool.true_and]
              · rw [decide_eq_false hy2, Bool.false_and, List.getD_eq_getElem?_getD, List.getElem?_eq_none (by omega)]; rfl
        have hg := hG3.add (rowF .u8 256 (partF k i p)) 37
        have hat : (μ4.add (rowF .u8 256 (partF k i p)) 37).at μ4.next = some (.row (rowF .u8 256 (partF k i p)) 37 true) := at_add_same μ4 _ _
        have d6 := d3.1
        obtain ⟨v', μ5, p1, p2, p3, p4⟩ := Grows.push (sp := none) (c := 1) elem35 Try.underlying35 35 hg (by rw [next_add]; omega) hat (rowF_length _ _ _) (by rw [rowF_length]; omega) (by rw [rowF_length]; omega)
        have e10 : rowF .u8 (256 * i) (leavesF k) ++ rowF .u8 256 (partF k i p) = rowF .u8 (256 * (i + 1)) (leavesF k) := by
          rw [hrow, show 256 * (i + 1) = 256 * i + 256 by omega]
          exact rowF_cat _ _ _ _ _ _ (fun _ _ => rfl) (fun _ _ => rfl)
        rw [e10] at p2
        have e9 : ∀ w, cellsIn (rowF .u8 256 w) 0 256 = some (rowF .u8 256 w) := fun w => cellsIn_all _ _ (rowF_length _ _ _)
        have e11 := buildSlice_agg elem35 (by omega) (rowF .u8 256 (partF k i p)) (rowF_length _ _ _) μ4
        by_cases hpl : p < 1024 * i + 1024
        · have hpl2 : ¬ (p : Int) < k.length := by omega
          simp -implicitDefEqProofs -dsimp (disch := first | omega | (simp only [lens, List.length_set, List.length_cons, List.length_nil, List.length_append, List.length_replicate]; done) | (simp only [lens, List.length_set, List.length_cons, List.length_nil, List.length_append, List.length_replicate]; omega)) only [↓walkA, walkB, coreB, Nat.reduceEqDiff, Nat.reduceAdd, ↓reduceIte, List.toList_toArray, List.map_cons, List.map_nil, List.getElem?_cons_zero, List.getElem?_cons_succ, Option.map_some, Option.map_none, Option.isSome_some, decide_true, decide_false, Try.f17, typesT, S_P, g0, g3, g4, g5, g8, e3, d5, e9, len_slice Try.underlying30, e11, p1, e2]
          refine held ⟨j - 1, by omega, i + 1, by omega, (h2.trans ((d3.le hk2).add (by omega) _ _)).trans p3, p2, g0, rfl⟩
        · simp -implicitDefEqProofs -dsimp (disch := first | omega | (simp only [lens, List.length_set, List.length_cons, List.length_nil, List.length_append, List.length_replicate]; done) | (simp only [lens, List.length_set, List.length_cons, List.length_nil, List.length_append, List.length_replicate]; omega)) only [↓walkA, walkB, coreB, Nat.reduceEqDiff, Nat.reduceAdd, ↓reduceIte, List.toList_toArray, List.map_cons, List.map_nil, List.getElem?_cons_zero, List.getElem?_cons_succ, Option.map_some, Option.map_none, Option.isSome_some, decide_true, decide_false, Try.f17, typesT, S_P, g0, g3, g4, g5, g8, e3, d5, e9, len_slice Try.underlying30, e11, p1, e2]
          refine held ⟨j - 1, by omega, i + 1, by omega, (h2.trans ((d3.le hk2).add (by omega) _ _)).trans p3, p2, g0, rfl⟩
  · have : i = m := by omega
    subst this
    have hge : ¬ ((i : Int) * 1024 < k.length) := by omega
    simp -implicitDefEqProofs -dsimp (disch := first | omega | (simp only [lens, List.length_set, List.length_cons, List.length_nil, List.length_append, List.length_replicate]; done) | (simp only [lens, List.length_set, List.length_cons, List.length_nil, List.length_append, List.length_replicate]; omega)) only [↓walkA, walkB, coreB, Nat.reduceEqDiff, Nat.reduceAdd, ↓reduceIte, List.toList_toArray, List.map_cons, List.map_nil, List.getElem?_cons_zero, List.getElem?_cons_succ, Option.map_some, Option.map_none, Option.isSome_some, decide_true, decide_false, Try.f17, typesT, S_P, g0, g4, hout, len_slice Try.underlying30]
    exact ⟨h3, h2⟩
end Go.Mini.Bits
