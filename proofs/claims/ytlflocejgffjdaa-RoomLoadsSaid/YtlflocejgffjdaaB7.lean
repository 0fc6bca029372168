/-
  Package bits' FromLeaves. No statement of the seat is proved here; no condition.
-/
import Derived.Test.YtlflocejgffjdaaB6
set_option linter.unusedSimpArgs false
namespace Go.Mini.Bits
open Go.Proofs

theorem info5 : ∃ i, Try.prog.info? 5 = some i ∧ i.size = 1 := ⟨Try.t5, by kernel_rfl, rfl⟩
theorem eqg38 : Try.prog.eqGuardType Try.prog.depth 38 = false := by kernel_rfl
theorem eqg37 : Try.prog.eqGuardType Try.prog.depth 37 = false := by kernel_rfl
theorem neq38 (ox oy : Operand) (F G : Nat → Nat) : binM Try.prog .neq 38 ox oy (.agg (List.toArray (rowF .u8 256 F))) (.agg (List.toArray (rowF .u8 256 G))) = some (.bool (!eqF 256 F G)) := by
  obtain ⟨i, h1, h2⟩ := info5
  have := bin_neq_nums (P := Try.prog) (t := 38) (e := 5) (n := 256) (k := .u8) ox oy eqg38 Try.underlying38 h1 h2 Try.underlying5 ((List.range 256).map F) ((List.range 256).map G) (by simp) (by simp)
  rw [rowF_beq] at this
  exact this
theorem eqbl_c {μ : Mem} {b1 b2 c1 c2 n1 n2 : Nat} {F G : Nat → Nat} {e1 e2 : TypeId} {o1 o2 : Bool} (h1 : μ.at b1 = some (.row (rowF .u8 (256 * n1) F) e1 o1)) (h2 : μ.at b2 = some (.row (rowF .u8 (256 * n2) G) e2 o2)) (hm : n1 ≤ 1000000) (Q : Value → Mem → Prop) :
    Gets S 60 [.slice (some ⟨b1, 0, none⟩) n1 c1, .slice (some ⟨b2, 0, none⟩) n2 c2] μ Q = Q (.bool (decide (n1 = n2) && eqF (256 * n1) F G)) μ := by
  refine propext (Gets.iff ?_ Q)
  refine Gets.enter (fn := Try.f60) Try.func60 rfl rfl rfl (Nat.le_of_ble_eq_true rfl) ?_
  by_cases hl : n1 = n2
  · subst hl
    simp -implicitDefEqProofs -dsimp (disch := first | omega | (simp only [lens, List.length_set, List.length_cons, List.length_nil, List.length_append, List.length_replicate]; done) | (simp only [lens, List.length_set, List.length_cons, List.length_nil, List.length_append, List.length_replicate]; omega)) only [↓walkA, walkB, coreB, Nat.reduceEqDiff, Nat.reduceAdd, ↓reduceIte, List.toList_toArray, List.map_cons, List.map_nil, List.getElem?_cons_zero, List.getElem?_cons_succ, Option.map_some, Option.map_none, Option.isSome_some, decide_true, decide_false, typesT, S_P, Try.f60, len_slice Try.underlying33, beq_int_true]
    refine loop_of S _ _ (fun j g μ' => ∃ i : Nat, i + j = n1 ∧ μ' = μ ∧ (∀ m, m < 256 * i → F m = G m) ∧ g 0 = .slice (some ⟨b1, 0, none⟩) n1 c1 ∧ g 1 = .slice (some ⟨b2, 0, none⟩) n1 c2 ∧ g 12 = .int .i64 n1 ∧ g 13 = .int .i64 i) n1 _ _ ⟨0, by omega, rfl, fun m hm => by omega, rfl, rfl, rfl, rfl⟩ ?_
    rintro j g μ' ⟨i, h3, rfl, h4, g0, g1, g12, g13⟩
    by_cases hi : i < n1
    · have e2 : ((i : Int) + 1) = ((i + 1 : Nat) : Int) := by omega
      by_cases hxy : ∀ x, x < 256 → F (i * 256 + x) = G (i * 256 + x)
      · have hd : eqF 256 (fun x => F (i * 256 + x)) (fun x => G (i * 256 + x)) = true := eqF_true hxy
        simp -implicitDefEqProofs -dsimp (disch := first | omega | (simp only [lens, List.length_set, List.length_cons, List.length_nil, List.length_append, List.length_replicate]; done) | (simp only [lens, List.length_set, List.length_cons, List.length_nil, List.length_append, List.length_replicate]; omega)) only [↓walkA, walkB, coreB, Nat.reduceEqDiff, Nat.reduceAdd, ↓reduceIte, List.toList_toArray, List.map_cons, List.map_nil, List.getElem?_cons_zero, List.getElem?_cons_succ, Option.map_some, Option.map_none, Option.isSome_some, decide_true, decide_false, Try.f60, typesT, S_P, g0, g1, g12, g13, h1, h2, idx_slice _ el33, rowF_cells, Int.toNat_natCast, neq38, hd, e2]
        refine held ⟨j - 1, by omega, i + 1, by omega, rfl, fun m hm => ?_, g0, g1, g12, rfl⟩
        by_cases e : m < 256 * i
        · exact h4 m e
        · have := hxy (m - 256 * i) (by omega)
          rw [show i * 256 + (m - 256 * i) = m by omega] at this
          exact this
      · have hd : eqF 256 (fun x => F (i * 256 + x)) (fun x => G (i * 256 + x)) = false := eqF_false hxy
        simp -implicitDefEqProofs -dsimp (disch := first | omega | (simp only [lens, List.length_set, List.length_cons, List.length_nil, List.length_append, List.length_replicate]; done) | (simp only [lens, List.length_set, List.length_cons, List.length_nil, List.length_append, List.length_replicate]; omega)) only [↓walkA, walkB, coreB, Nat.reduceEqDiff, Nat.reduceAdd, ↓reduceIte, List.toList_toArray, List.map_cons, List.map_nil, List.getElem?_cons_zero, List.getElem?_cons_succ, Option.map_some, Option.map_none, Option.isSome_some, decide_true, decide_false, Try.f60, typesT, S_P, g0, g1, g12, g13, h1, h2, idx_slice _ el33, rowF_cells, Int.toNat_natCast, neq38, hd]
        have : ¬ ∀ x, x < 256 * n1 → F x = G x := fun h => hxy fun x hx => h _ (by omega)
        rw [eqF_false this]
    · simp -implicitDefEqProofs -dsimp (disch := first | omega | (simp only [lens, List.length_set, List.length_cons, List.length_nil, List.length_append, List.length_replicate]; done) | (simp only [lens, List.length_set, List.length_cons, List.length_nil, List.length_append, List.length_replicate]; omega)) only [↓walkA, walkB, coreB, Nat.reduceEqDiff, Nat.reduceAdd, ↓reduceIte, List.toList_toArray, List.map_cons, List.map_nil, List.getElem?_cons_zero, List.getElem?_cons_succ, Option.map_some, Option.map_none, Option.isSome_some, decide_true, decide_false, Try.f60, typesT, S_P, g0, g1, g12, g13]
      have : ∀ x, x < 256 * n1 → F x = G x := fun x hx => h4 x (by omega)
      rw [eqF_true this]
  · have hne : (n1 : Int) ≠ (n2 : Int) := by omega
    simp -implicitDefEqProofs -dsimp (disch := first | omega | (simp only [lens, List.length_set, List.length_cons, List.length_nil, List.length_append, List.length_replicate]; done) | (simp only [lens, List.length_set, List.length_cons, List.length_nil, List.length_append, List.length_replicate]; omega)) only [↓walkA, walkB, coreB, Nat.reduceEqDiff, Nat.reduceAdd, ↓reduceIte, List.toList_toArray, List.map_cons, List.map_nil, List.getElem?_cons_zero, List.getElem?_cons_succ, Option.map_some, Option.map_none, Option.isSome_some, decide_true, decide_false, typesT, S_P, Try.f60, len_slice Try.underlying33, beq_int_false, hl]

/-! ### bits out of bytes -/
def bitsOf (B : Nat → Nat) (n : Nat) : List Bool := (List.range n).map fun x => (B (x / 8) >>> (x % 8)) % 2 == 1
theorem bitsOf_length (B : Nat → Nat) (n : Nat) : (bitsOf B n).length = n := by simp [bitsOf]
theorem bitsOf_get (B : Nat → Nat) (n x : Nat) : (bitsOf B n).getD x false = (decide (x < n) && ((B (x / 8) >>> (x % 8)) % 2 == 1)) := by
  rw [List.getD_eq_getElem?_getD]
  by_cases h : x < n
  · simp [bitsOf, h]
  · simp [bitsOf, h]
def maskB (v r : Nat) : Nat := byte8 (decide (0 < r) && ((v >>> 0) % 2 == 1)) (decide (1 < r) && ((v >>> 1) % 2 == 1)) (decide (2 < r) && ((v >>> 2) % 2 == 1)) (decide (3 < r) && ((v >>> 3) % 2 == 1)) (decide (4 < r) && ((v >>> 4) % 2 == 1)) (decide (5 < r) && ((v >>> 5) % 2 == 1)) (decide (6 < r) && ((v >>> 6) % 2 == 1)) (decide (7 < r) && ((v >>> 7) % 2 == 1))
theorem maskB_eq : ∀ v, v < 256 → ∀ r, r < 9 → maskB v r = v &&& ((1 <<< r) - 1) := by decide +kernel
theorem byteAt_bitsOf (B : Nat → Nat) (n j : Nat) (hB : B j < 256) (hj : 8 * j < n) : byteAt (bitsOf B n) j = B j &&& ((1 <<< (min 8 (n - 8 * j))) - 1) := by
  rw [← maskB_eq (B j) hB (min 8 (n - 8 * j)) (by omega)]
  unfold byteAt maskB
  rw [bitsOf_get, bitsOf_get, bitsOf_get, bitsOf_get, bitsOf_get, bitsOf_get, bitsOf_get, bitsOf_get]
  have d : ∀ t, t < 8 → (8 * j + t) / 8 = j ∧ (8 * j + t) % 8 = t := fun t ht => by omega
  have c : ∀ t, t < 8 → decide (8 * j + t < n) = decide (t < min 8 (n - 8 * j)) := fun t ht => by
    rw [Bool.eq_iff_iff]; simp; omega
  rw [show 8 * j / 8 = j by omega, show 8 * j % 8 = 0 by omega, (d 1 (by omega)).1, (d 1 (by omega)).2, (d 2 (by omega)).1, (d 2 (by omega)).2, (d 3 (by omega)).1, (d 3 (by omega)).2, (d 4 (by omega)).1, (d 4 (by omega)).2, (d 5 (by omega)).1, (d 5 (by omega)).2, (d 6 (by omega)).1, (d 6 (by omega)).2, (d 7 (by omega)).1, (d 7 (by omega)).2,
    c 1 (by omega), c 2 (by omega), c 3 (by omega), c 4 (by omega), c 5 (by omega), c 6 (by omega), c 7 (by omega), show decide (8 * j < n) = decide (0 < min 8 (n - 8 * j)) from c 0 (by omega)]
theorem and_255 (v : Nat) (h : v < 256) : v &&& ((1 <<< 8) - 1) = v := by
  rw [show (1 <<< 8) - 1 = 2 ^ 8 - 1 by decide, Nat.and_two_pow_sub_one_eq_mod]
  exact Nat.mod_eq_of_lt h
/-- where a byte of a map lies in its leaves -/
def leafB (F : Nat → Nat) (j : Nat) : Nat := F (256 * (j / 128) + 128 + j % 128)
theorem fromLeaves_len {n : Nat} (h1 : 1 ≤ n) (h2 : n ≤ 8192) {v : Value} {ln : Nat} (hv : ∀ ty μ, lenV Try.prog 33 ty v μ = some (.int .i64 ln)) (hne : ln ≠ nLeaves n) (μ : Mem) :
    Gets S 18 [.int .i64 n, v] μ fun r μ' => r = .tuple #[.pointer none, .int .i64 111] ∧ Keeps μ.next μ μ' := by
  refine Gets.enter (fn := Try.f18) Try.func18 rfl rfl rfl (Nat.le_of_ble_eq_true rfl) ?_
  have hn : (1 : Int) ≤ n ∧ (n : Int) ≤ 8192 := by omega
  have hne2 : (ln : Int) ≠ (nLeaves n : Nat) := by omega
  simp -implicitDefEqProofs -dsimp (disch := first | omega | (simp only [lens, List.length_set, List.length_cons, List.length_nil, List.length_append, List.length_replicate]; done) | (simp only [lens, List.length_set, List.length_cons, List.length_nil, List.length_append, List.length_replicate]; omega)) only [↓walkA, walkB, coreB, Nat.reduceEqDiff, Nat.reduceAdd, ↓reduceIte, List.toList_toArray, List.map_cons, List.map_nil, List.getElem?_cons_zero, List.getElem?_cons_succ, Option.map_some, Option.map_none, Option.isSome_some, decide_true, decide_false, typesT, S_P, Try.f18, new_c, hn, Int.toNat_natCast, beq_int_true, beq_int_false, hv, leaves_c]
  exact newMap_keeps _ _
theorem pack_rowF (k : List Bool) : nums .u8 (pack k) = rowF .u8 ((k.length + 7) / 8) (byteAt k) := rfl
theorem fromLeaves_c {n : Nat} (h1 : 1 ≤ n) (h2 : n ≤ 8192) {μ : Mem} {b c : Nat} {F : Nat → Nat} {e : TypeId} {own : Bool} (hb : μ.at b = some (.row (rowF .u8 (256 * nLeaves n) F) e own)) (hlt : b < μ.next) (hF : ∀ x, x < 256 * nLeaves n → F x < 256) :
    Gets S 18 [.int .i64 n, .slice (some ⟨b, 0, none⟩) (nLeaves n) c] μ fun r μ' => Keeps μ.next μ μ' ∧ if eqF (256 * nLeaves n) (leavesF (bitsOf (leafB F) n)) F = true then r = .tuple #[.pointer (some ⟨μ.next + 1, 0, none⟩), .int .i64 0] ∧ IsMap μ' (μ.next + 1) μ.next ((n + 7) / 8) (bitsOf (leafB F) n) else r = .tuple #[.pointer none, .int .i64 111] := by
  refine Gets.enter (fn := Try.f18) Try.func18 rfl rfl rfl (Nat.le_of_ble_eq_true rfl) ?_
  have hn : (1 : Int) ≤ n ∧ (n : Int) ≤ 8192 := by omega
  obtain ⟨m, hm⟩ : ∃ m, nLeaves n = m := ⟨_, rfl⟩
  rw [hm] at hb hF
  have hm8 : m = (n + 1023) / 1024 := by rw [← hm]; rfl
  obtain ⟨μ1, hμ1⟩ : ∃ μ1, newMap μ (List.replicate n false) = μ1 := ⟨_, rfl⟩
  have hM := newMap_is μ (List.replicate n false) (by simpa using h1) (by simpa using h2)
  have hk1 := newMap_keeps μ (List.replicate n false)
  have hn1 := newMap_next μ (List.replicate n false)
  rw [hμ1] at hM hk1 hn1
  have a1 := hM.st
  have a2 := hM.by_
  simp only [List.length_replicate] at a1 a2
  rw [pack_rowF] at a2
  simp only [List.length_replicate] at a2
  have a2' : μ1.at μ.next = some (.row (rowF .u8 ((n + 7) / 8) (fun j => if j < 0 then leafB F j else 0)) 5 true) := by
    rw [a2]
    refine row_congr (rowF_congr fun x _ => ?_)
    rw [byteAt_zero, if_neg (by omega)]
  have hb1 : μ1.at b = some (.row (rowF .u8 (256 * m) F) e own) := (hk1.2 b hlt).trans hb
  simp -implicitDefEqProofs -dsimp (disch := first | omega | (simp only [lens, List.length_set, List.length_cons, List.length_nil, List.length_append, List.length_replicate]; done) | (simp only [lens, List.length_set, List.length_cons, List.length_nil, List.length_append, List.length_replicate]; omega)) only [↓walkA, walkB, coreB, Nat.reduceEqDiff, Nat.reduceAdd, ↓reduceIte, List.toList_toArray, List.map_cons, List.map_nil, List.getElem?_cons_zero, List.getElem?_cons_succ, Option.map_some, Option.map_none, Option.isSome_some, decide_true, decide_false, typesT, S_P, Try.f18, new_c, hn, Int.toNat_natCast, beq_int_true, len_slice Try.underlying33, leaves_c, hm, hμ1, a1, len_slice Try.underlying100]
  refine loop_of S _ _ (fun j g μ2 => ∃ t : Nat, t + j = (n + 7) / 8 ∧ But μ.next μ1 μ2 ∧ μ2.at μ.next = some (.row (rowF .u8 ((n + 7) / 8) (fun j => if j < t then leafB F j else 0)) 5 true) ∧ g 0 = .int .i64 n ∧ g 1 = .slice (some ⟨b, 0, none⟩) m c ∧ g 6 = .pointer (some ⟨μ.next + 1, 0, none⟩) ∧ g 26 = .int .i64 ((n + 7) / 8 : Nat) ∧ g 27 = .int .i64 t) ((n + 7) / 8) _ _ ⟨0, by omega, But.refl _ _, a2', rfl, rfl, rfl, rfl, rfl⟩ ?_
  rintro j g μ2 ⟨t, k1, k2, k3, g0, g1, g6, g26, g27⟩
  have b1 := k2.2 (μ.next + 1) (by omega)
  rw [a1] at b1
  have b2 := k2.2 b (by omega)
  rw [hb1] at b2
  by_cases ht : t < (n + 7) / 8
  · have e2 : ((t : Int) + 1) = ((t + 1 : Nat) : Int) := by omega
    have e5 : (128 + (t : Int) % 128).toNat = 128 + t % 128 := by omega
    have e6 : ((t : Int) / 128).toNat = t / 128 := by omega
    have e7 : (rowF .u8 (256 * m) F)[t / 128 * 256 + (128 + t % 128)]? = some (.int .u8 (leafB F t : Nat)) := by
      rw [rowF_get _ _ _ _ (by omega)]
      unfold leafB
      rw [show t / 128 * 256 + (128 + t % 128) = 256 * (t / 128) + 128 + t % 128 by omega]
    simp -implicitDefEqProofs -dsimp (disch := first | omega | (simp only [lens, List.length_set, List.length_cons, List.length_nil, List.length_append, List.length_replicate]; done) | (simp only [lens, List.length_set, List.length_cons, List.length_nil, List.length_append, List.length_replicate]; omega)) only [↓walkA, walkB, coreB, Nat.reduceEqDiff, Nat.reduceAdd, ↓reduceIte, List.toList_toArray, List.map_cons, List.map_nil, List.getElem?_cons_zero, List.getElem?_cons_succ, Option.map_some, Option.map_none, Option.isSome_some, decide_true, decide_false, Try.f18, typesT, S_P, g0, g1, g6, g26, g27, b1, b2, k3, idx_slice _ el100, idx_slice _ el33, idx_array _ arr38, quo_i64, rem_i64, Int.toNat_natCast, Nat.mul_one, e5, e6, e7, rowF_set, e2]
    refine held ⟨j - 1, by omega, t + 1, by omega, k2.trans (But.set ..), ?_, g0, g1, g6, g26, rfl⟩
    rw [at_setRow_same]
    refine row_congr (rowF_congr fun x _ => ?_)
    by_cases hx : x = t
    · rw [if_pos hx, if_pos (by omega), hx]
    · rw [if_neg hx]
      by_cases hx2 : x < t
      · rw [if_pos hx2, if_pos (by omega)]
      · rw [if_neg hx2, if_neg (by omega)]
  · have htn : t = (n + 7) / 8 := by omega
    subst htn
    have hBlt : ∀ q, q < (n + 7) / 8 → leafB F q < 256 := fun q hq => hF _ (by omega)
    have k3' : μ2.at μ.next = some (.row (rowF .u8 ((n + 7) / 8) (leafB F)) 5 true) := by
      rw [k3]
      exact row_congr (rowF_congr fun x hx => if_pos hx)
    have fin : ∀ μ3, But μ.next μ1 μ3 → μ3.at μ.next = some (.row (rowF .u8 ((n + 7) / 8) (byteAt (bitsOf (leafB F) n))) 5 true) → IsMap μ3 (μ.next + 1) μ.next ((n + 7) / 8) (bitsOf (leafB F) n) ∧ Keeps μ.next μ μ3 ∧ μ3.at b = some (.row (rowF .u8 (256 * m) F) e own) ∧ b < μ3.next ∧ μ.next ≤ μ3.next := fun μ3 q1 q2 => by
      have q3 := q1.1
      refine ⟨⟨?_, ?_, by omega, by omega, by omega, by rw [bitsOf_length]; exact h1, by rw [bitsOf_length]; exact h2⟩, hk1.trans (q1.keeps (Nat.le_refl _)), (q1.2 b (by omega)).trans hb1, by omega, by omega⟩
      · rw [q1.2 _ (by omega), a1, bitsOf_length]
      · rw [q2, pack_rowF, bitsOf_length]
    by_cases h8 : n % 8 = 0
    · have hB2 : μ2.at μ.next = some (.row (rowF .u8 ((n + 7) / 8) (byteAt (bitsOf (leafB F) n))) 5 true) := by
        rw [k3']
        refine row_congr (rowF_congr fun x hx => ?_)
        rw [byteAt_bitsOf _ _ _ (hBlt x hx) (by omega), show min 8 (n - 8 * x) = 8 by omega, and_255 _ (hBlt x hx)]
      obtain ⟨f1, f2, f3, f4, f5⟩ := fin μ2 k2 hB2
      simp -implicitDefEqProofs -dsimp (disch := first | omega | (simp only [lens, List.length_set, List.length_cons, List.length_nil, List.length_append, List.length_replicate]; done) | (simp only [lens, List.length_set, List.length_cons, List.length_nil, List.length_append, List.length_replicate]; omega)) only [↓walkA, walkB, coreB, Nat.reduceEqDiff, Nat.reduceAdd, ↓reduceIte, List.toList_toArray, List.map_cons, List.map_nil, List.getElem?_cons_zero, List.getElem?_cons_succ, Option.map_some, Option.map_none, Option.isSome_some, decide_true, decide_false, Try.f18, typesT, S_P, g0, g1, g6, g26, g27, rem_i64, beq_int_true, h8]
      refine (leavesOf_c f1).mono ?_
      rintro w μ4 ⟨rfl, t1, t2, t3⟩
      rw [bitsOf_length, hm] at t1
      have t1 : μ4.at μ2.next = _ := t1
      have hb4 := (t3.2 b f4).trans f3
      cases he : eqF (256 * m) (leavesF (bitsOf (leafB F) n)) F with
      | false =>
        simp -implicitDefEqProofs -dsimp (disch := first | omega | (simp only [lens, List.length_set, List.length_cons, List.length_nil, List.length_append, List.length_replicate]; done) | (simp only [lens, List.length_set, List.length_cons, List.length_nil, List.length_append, List.length_replicate]; omega)) only [↓walkA, walkB, coreB, Nat.reduceEqDiff, Nat.reduceAdd, ↓reduceIte, List.toList_toArray, List.map_cons, List.map_nil, List.getElem?_cons_zero, List.getElem?_cons_succ, Option.map_some, Option.map_none, Option.isSome_some, decide_true, decide_false, Try.f18, typesT, S_P, g0, g1, g6, bitsOf_length, hm, eqbl_c t1 hb4, he]
        exact f2.trans (t3.le f5)
      | true =>
        simp -implicitDefEqProofs -dsimp (disch := first | omega | (simp only [lens, List.length_set, List.length_cons, List.length_nil, List.length_append, List.length_replicate]; done) | (simp only [lens, List.length_set, List.length_cons, List.length_nil, List.length_append, List.length_replicate]; omega)) only [↓walkA, walkB, coreB, Nat.reduceEqDiff, Nat.reduceAdd, ↓reduceIte, List.toList_toArray, List.map_cons, List.map_nil, List.getElem?_cons_zero, List.getElem?_cons_succ, Option.map_some, Option.map_none, Option.isSome_some, decide_true, decide_false, Try.f18, typesT, S_P, g0, g1, g6, bitsOf_length, hm, eqbl_c t1 hb4, he]
        exact ⟨f2.trans (t3.le f5), f1.keeps t3⟩
    · have hr : (1 <<< (n % 8)) % 256 = 1 <<< (n % 8) := by
        rw [Nat.shiftLeft_eq, Nat.one_mul]
        exact Nat.mod_eq_of_lt (Nat.pow_lt_pow_right (by omega) (by omega : n % 8 < 8))
      have hr1 : 1 ≤ 1 <<< (n % 8) := by rw [Nat.shiftLeft_eq, Nat.one_mul]; exact Nat.one_le_two_pow
      have hr2 : 1 <<< (n % 8) ≤ 255 := by
        rw [← hr]; omega
      obtain ⟨q, hq⟩ : ∃ q, 1 <<< (n % 8) = q := ⟨_, rfl⟩
      rw [hq] at hr hr1 hr2
      have e8 : ((n : Int) % 8).toNat = n % 8 := by omega
      have e9 : ((((n + 7) / 8 : Nat) : Int) - 1) = (((n + 7) / 8 - 1 : Nat) : Int) := by omega
      have e10 : ((q : Int) - 1) = ((q - 1 : Nat) : Int) := by omega
      have hbl := hBlt ((n + 7) / 8 - 1) (by omega)
      have hB2 : (μ2.setRow μ.next (rowF .u8 ((n + 7) / 8) (fun x => if x = (n + 7) / 8 - 1 then leafB F ((n + 7) / 8 - 1) &&& (q - 1) else leafB F x)) 5).at μ.next = some (.row (rowF .u8 ((n + 7) / 8) (byteAt (bitsOf (leafB F) n))) 5 true) := by
        rw [at_setRow_same]
        refine row_congr (rowF_congr fun x hx => ?_)
        rw [byteAt_bitsOf _ _ _ (hBlt x hx) (by omega)]
        by_cases hxl : x = (n + 7) / 8 - 1
        · rw [if_pos hxl, ← hxl, show min 8 (n - 8 * x) = n % 8 by omega, hq]
        · rw [if_neg hxl, show min 8 (n - 8 * x) = 8 by omega, and_255 _ (hBlt x hx)]
      obtain ⟨f1, f2, f3, f4, f5⟩ := fin _ (k2.trans (But.set ..)) hB2
      have hne : ((n : Int) % 8) ≠ 0 := by omega
      simp -implicitDefEqProofs -dsimp (disch := first | omega | (simp only [lens, List.length_set, List.length_cons, List.length_nil, List.length_append, List.length_replicate]; done) | (simp only [lens, List.length_set, List.length_cons, List.length_nil, List.length_append, List.length_replicate]; omega)) only [↓walkA, walkB, coreB, Nat.reduceEqDiff, Nat.reduceAdd, ↓reduceIte, List.toList_toArray, List.map_cons, List.map_nil, List.getElem?_cons_zero, List.getElem?_cons_succ, Option.map_some, Option.map_none, Option.isSome_some, decide_true, decide_false, Try.f18, typesT, S_P, g0, g1, g6, g26, g27, rem_i64, beq_int_false, b1, k3', len_slice Try.underlying100, idx_slice _ el100, Int.toNat_natCast, Nat.mul_one, e8, e9, rowF_get, shl_u8, Int.reduceToNat, hq, hr, e10, and_u8, rowF_set]
      refine (leavesOf_c f1).mono ?_
      rintro w μ4 ⟨rfl, t1, t2, t3⟩
      rw [bitsOf_length, hm] at t1
      have t1 : μ4.at μ2.next = _ := t1
      have hb4 := (t3.2 b f4).trans f3
      cases he : eqF (256 * m) (leavesF (bitsOf (leafB F) n)) F with
      | false =>
        simp -implicitDefEqProofs -dsimp (disch := first | omega | (simp only [lens, List.length_set, List.length_cons, List.length_nil, List.length_append, List.length_replicate]; done) | (simp only [lens, List.length_set, List.length_cons, List.length_nil, List.length_append, List.length_replicate]; omega)) only [↓walkA, walkB, coreB, Nat.reduceEqDiff, Nat.reduceAdd, ↓reduceIte, List.toList_toArray, List.map_cons, List.map_nil, List.getElem?_cons_zero, List.getElem?_cons_succ, Option.map_some, Option.map_none, Option.isSome_some, decide_true, decide_false, Try.f18, typesT, S_P, g0, g1, g6, bitsOf_length, hm, eqbl_c t1 hb4, he]
        exact f2.trans (t3.le f5)
      | true =>
        simp -implicitDefEqProofs -dsimp (disch := first | omega | (simp only [lens, List.length_set, List.length_cons, List.length_nil, List.length_append, List.length_replicate]; done) | (simp only [lens, List.length_set, List.length_cons, List.length_nil, List.length_append, List.length_replicate]; omega)) only [↓walkA, walkB, coreB, Nat.reduceEqDiff, Nat.reduceAdd, ↓reduceIte, List.toList_toArray, List.map_cons, List.map_nil, List.getElem?_cons_zero, List.getElem?_cons_succ, Option.map_some, Option.map_none, Option.isSome_some, decide_true, decide_false, Try.f18, typesT, S_P, g0, g1, g6, bitsOf_length, hm, eqbl_c t1 hb4, he]
        exact ⟨f2.trans (t3.le f5), f1.keeps t3⟩
end Go.Mini.Bits
