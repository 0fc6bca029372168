/-
  What more functions of package bits come to: Clone, Count, Free, Next, Same. No statement of the seat is proved here; no condition.
-/
import Derived.Test.YtlflocejgffjdaaB3
set_option linter.unusedSimpArgs false
namespace Go.Mini.Bits
open Go.Proofs

/-! ### Clone -/
theorem sclone_c {μ : Mem} {b c n : Nat} {l : List Nat} (hb : μ.at b = some (.row (nums .u8 l) 5 true)) (hn : n = l.length) (h0 : n ≠ 0) (hlt : b < μ.next) (hmax : n ≤ 1000000) (Q : Value → Mem → Prop) :
    Gets S 82 [.slice (some ⟨b, 0, none⟩) n c] μ Q = Q (.slice (some ⟨μ.next + 1, 0, none⟩) n INF) (cloneB μ l) := by
  refine propext (Gets.iff ?_ Q)
  refine Gets.enter (fn := Try.f82) Try.func82 rfl rfl rfl (Nat.le_of_ble_eq_true rfl) ?_
  have ha : ∀ ty, appV Try.prog 100 100 ty (.slice (some ⟨μ.next, 0, none⟩) 0 0) (.slice (some ⟨b, 0, none⟩) n c) (μ.add [] 5) = some (.slice (some ⟨μ.next + 1, 0, none⟩) n INF, (μ.add [] 5).add (nums .u8 l) 5) := fun ty => by
    rw [app_loud _ _ _ _ _ _ rfl]
    have := app_full elem100 Try.underlying100 (μ.add [] 5) ⟨μ.next, 0, none⟩ 0 0 (olds := []) rfl (by decide) ⟨b, 0, none⟩ n c h0 (by omega) (cells := nums .u8 l) (e' := 5) (own := true) (by rw [at_add_ne _ _ _ (by show μ.next ≠ b; omega)]; exact hb) (cs := nums .u8 l) (by rw [Nat.mul_one]; exact cellsIn_all _ _ (by rw [nums_length, hn])) (by omega) (by omega)
    rw [this, Nat.zero_add, next_add, List.nil_append]
  simp -implicitDefEqProofs -dsimp (disch := first | omega | (simp only [lens, List.length_set, List.length_cons, List.length_nil, List.length_append, List.length_replicate]; done) | (simp only [lens, List.length_set, List.length_cons, List.length_nil, List.length_append, List.length_replicate]; omega)) only [↓walkA, walkB, coreB, Nat.reduceEqDiff, Nat.reduceAdd, ↓reduceIte, List.toList_toArray, List.map_cons, List.map_nil, List.getElem?_cons_zero, List.getElem?_cons_succ, Option.map_some, Option.map_none, Option.isSome_some, decide_true, decide_false, typesT, S_P, Try.f82, bin_eql_snil _ _ _ Try.underlying100, buildSlice_none 100 el100, ha, cloneB]
theorem clone_c {μ : Mem} {p b c : Nat} {k : List Bool} (h : IsMap μ p b c k) : Gets S 56 [.pointer (some ⟨p, 0, none⟩)] μ fun v μ' =>
    v = .pointer (some ⟨μ.next + 2, 0, none⟩) ∧ IsMap μ' (μ.next + 2) (μ.next + 1) INF k ∧ Keeps μ.next μ μ' ∧ μ'.next = μ.next + 3 := by
  obtain ⟨r, hr, p', b', c', k', ha, hM, rfl⟩ := extClone_has (args := [.pointer (some ⟨p, 0, none⟩)]) (μ := μ) ⟨_, p, b, c, k, rfl, h, rfl⟩
  have hpp : p = p' := by
    injection ha with ha _
    injection ha with ha
    injection ha with ha
    injection ha
  subst hpp
  have e1 := hM.st.symm.trans h.st
  injection e1 with e1
  injection e1 with e1 _ _
  injection e1 with e2 e3
  injection e2 with _ e2
  injection e3 with e3 _
  injection e3 with e3 _ _
  injection e3 with e3
  injection e3 with e3 _ _
  subst e3
  have hlen : k'.length = k.length := by omega
  have e4 := hM.by_.symm.trans h.by_
  injection e4 with e4
  injection e4 with e4 _ _
  have hp := h.pos
  have hl := h.le
  refine Gets.ext (S := S) (f := 56) (args := [.pointer (some ⟨p, 0, none⟩)]) (μ := μ) (v := cloneV μ) (μ' := cloneM μ k') hr ?_
  have hk : Keeps μ.next μ (cloneB μ (pack k')) := ((Keeps.refl _ _).add (Nat.le_refl _) _ _).add (by rw [next_add]; omega) _ _
  have hn : (cloneB μ (pack k')).next = μ.next + 2 := rfl
  refine ⟨rfl, ⟨?_, ?_, by omega, by rw [cloneM, next_add, hn]; omega, by rw [cloneM, next_add, hn]; omega, hp, hl⟩, hk.add (by omega) _ _, rfl⟩
  · have := at_add_same (cloneB μ (pack k')) [.int .i64 (k'.length : Nat), .slice (some ⟨μ.next + 1, 0, none⟩) ((k'.length + 7) / 8) INF] 108
    rw [hn, hlen] at this
    rw [cloneM, hlen]
    exact this
  · rw [cloneM, at_add_ne _ _ _ (by rw [hn]; omega), ← e4]
    exact at_add_same (μ.add [] 5) _ _

/-! ### Count -/
def pop (n : Nat) : Nat := bN (n.testBit 0) + bN (n.testBit 1) + bN (n.testBit 2) + bN (n.testBit 3) + bN (n.testBit 4) + bN (n.testBit 5) + bN (n.testBit 6) + bN (n.testBit 7)
theorem pop_byte8 (a b c d e f g h : Bool) : pop (byte8 a b c d e f g h) = bN a + bN b + bN c + bN d + bN e + bN f + bN g + bN h := by
  revert a b c d e f g h; decide
theorem pop_le (n : Nat) : pop n ≤ 8 := by
  have : ∀ b : Bool, bN b ≤ 1 := by decide
  unfold pop
  have h0 := this (n.testBit 0)
  have h1 := this (n.testBit 1)
  have h2 := this (n.testBit 2)
  have h3 := this (n.testBit 3)
  have h4 := this (n.testBit 4)
  have h5 := this (n.testBit 5)
  have h6 := this (n.testBit 6)
  have h7 := this (n.testBit 7)
  omega
/-- how many of the first n are ones -/
def cntN (k : List Bool) : Nat → Nat
  | 0 => 0
  | n + 1 => cntN k n + bN (k.getD n false)
theorem cntN_byte (k : List Bool) (j : Nat) : cntN k (8 * (j + 1)) = cntN k (8 * j) + pop (byteAt k j) := by
  rw [show 8 * (j + 1) = 8 * j + 1 + 1 + 1 + 1 + 1 + 1 + 1 + 1 by omega]
  simp only [cntN]
  unfold byteAt
  rw [pop_byte8]
  simp only [Nat.add_assoc, Nat.reduceAdd]
theorem cntN_le (k : List Bool) : ∀ n, cntN k n ≤ n
  | 0 => Nat.le_refl _
  | n + 1 => by
    have := cntN_le k n
    have h : ∀ b : Bool, bN b ≤ 1 := by decide
    have := h (k.getD n false)
    rw [cntN]; omega
theorem cntN_more (k : List Bool) : ∀ n, k.length ≤ n → cntN k n = cntN k k.length
  | 0, h => by rw [show k.length = 0 by omega]
  | n + 1, h => by
    by_cases e : k.length = n + 1
    · rw [e]
    · rw [cntN, cntN_more k n (by omega), List.getD_eq_getElem?_getD, List.getElem?_eq_none (by omega)]
      rfl
theorem tab_c (s : ByteArray) (hs : s.size = 256) (ht : ∀ m, m < 256 → (s.data.toList.getD m 0).toNat = pop m) (n : Nat) (hn : n < 256) : idxV Try.prog 9 (.string s) (.int .u8 (n : Int)) = some (.int .u8 (pop n : Nat)) := by
  rw [index_str 9 Try.underlying9 s .u8 n (by omega) (by omega), Int.toNat_natCast, ht n hn]
set_option maxRecDepth 100000 in
theorem ones_c (n : Nat) (hn : n < 256) (μ : Mem) (Q : Value → Mem → Prop) : Gets S 72 [.int .u8 (n : Int)] μ Q = Q (.int .i64 (pop n : Nat)) μ := by
  refine propext (Gets.iff ?_ Q)
  refine Gets.enter (fn := Try.f72) Try.func72 rfl rfl rfl (Nat.le_of_ble_eq_true rfl) ?_
  have hle := pop_le n
  simp -implicitDefEqProofs -dsimp (disch := first | omega | (simp only [lens, List.length_set, List.length_cons, List.length_nil, List.length_append, List.length_replicate]; done) | (simp only [lens, List.length_set, List.length_cons, List.length_nil, List.length_append, List.length_replicate]; omega)) only [↓walkA, walkB, coreB, Nat.reduceEqDiff, Nat.reduceAdd, ↓reduceIte, List.toList_toArray, List.map_cons, List.map_nil, List.getElem?_cons_zero, List.getElem?_cons_succ, Option.map_some, Option.map_none, Option.isSome_some, decide_true, decide_false, typesT, S_P, Try.f72]
  rw [tab_c _ (by kernel_rfl) (by decide +kernel) n hn]
  simp -implicitDefEqProofs -dsimp (disch := first | omega | (simp only [lens, List.length_set, List.length_cons, List.length_nil, List.length_append, List.length_replicate]; done) | (simp only [lens, List.length_set, List.length_cons, List.length_nil, List.length_append, List.length_replicate]; omega)) only [↓walkA, walkB, coreB, Nat.reduceEqDiff, Nat.reduceAdd, ↓reduceIte, List.toList_toArray, List.map_cons, List.map_nil, List.getElem?_cons_zero, List.getElem?_cons_succ, Option.map_some, Option.map_none, Option.isSome_some, decide_true, decide_false, Try.f72, typesT]
theorem count_c {μ : Mem} {p b c : Nat} {k : List Bool} (h : IsMap μ p b c k) (Q : Value → Mem → Prop) : Gets S 27 [.pointer (some ⟨p, 0, none⟩)] μ Q = Q (.int .i64 (cntN k k.length : Nat)) μ := by
  have h0 := h.st
  have h1 := h.by_
  have hl := h.le
  refine propext (Gets.iff ?_ Q)
  refine Gets.enter (fn := Try.f27) Try.func27 rfl rfl rfl (Nat.le_of_ble_eq_true rfl) ?_
  have hpl := pack_length k
  simp -implicitDefEqProofs -dsimp (disch := first | omega | (simp only [lens, List.length_set, List.length_cons, List.length_nil, List.length_append, List.length_replicate]; done) | (simp only [lens, List.length_set, List.length_cons, List.length_nil, List.length_append, List.length_replicate]; omega)) only [↓walkA, walkB, coreB, Nat.reduceEqDiff, Nat.reduceAdd, ↓reduceIte, List.toList_toArray, List.map_cons, List.map_nil, List.getElem?_cons_zero, List.getElem?_cons_succ, Option.map_some, Option.map_none, Option.isSome_some, decide_true, decide_false, typesT, S_P, Try.f27, h0, bin_eql_pnil _ _ _ Try.underlying29, len_slice Try.underlying100]
  refine loop_of S _ _ (fun j g μ' => ∃ i : Nat, i + j = (k.length + 7) / 8 ∧ μ' = μ ∧ g 11 = .slice (some ⟨b, 0, none⟩) ((k.length + 7) / 8) c ∧ g 12 = .int .i64 ((k.length + 7) / 8 : Nat) ∧ g 3 = .int .i64 (cntN k (8 * i) : Nat) ∧ g 13 = .int .i64 i) ((k.length + 7) / 8) _ _ ⟨0, by omega, rfl, rfl, rfl, rfl, rfl⟩ ?_
  rintro j g μ' ⟨i, h2, rfl, g11, g12, g3, g13⟩
  by_cases hi : i < (k.length + 7) / 8
  · have hb := pack_get k i hi
    have hlt := byteAt_lt k i
    have hc := cntN_byte k i
    have hc0 := cntN_le k (8 * i)
    have hc1 := pop_le (byteAt k i)
    have e1 : (cntN k (8 * i) : Int) + (pop (byteAt k i) : Nat) = (cntN k (8 * (i + 1)) : Nat) := by omega
    have e2 : ((i : Int) + 1) = ((i + 1 : Nat) : Int) := by omega
    simp -implicitDefEqProofs -dsimp (disch := first | omega | (simp only [lens, List.length_set, List.length_cons, List.length_nil, List.length_append, List.length_replicate]; done) | (simp only [lens, List.length_set, List.length_cons, List.length_nil, List.length_append, List.length_replicate]; omega)) only [↓walkA, walkB, coreB, Nat.reduceEqDiff, Nat.reduceAdd, ↓reduceIte, List.toList_toArray, List.map_cons, List.map_nil, List.getElem?_cons_zero, List.getElem?_cons_succ, Option.map_some, Option.map_none, Option.isSome_some, decide_true, decide_false, Try.f27, typesT, S_P, g11, g12, g3, g13, h1, idx_slice _ el100, nums_get, Int.toNat_natCast, Nat.mul_one, hb, ones_c, e1, e2]
    exact held ⟨j - 1, by omega, i + 1, by omega, rfl, g11, g12, rfl, rfl⟩
  · simp -implicitDefEqProofs -dsimp (disch := first | omega | (simp only [lens, List.length_set, List.length_cons, List.length_nil, List.length_append, List.length_replicate]; done) | (simp only [lens, List.length_set, List.length_cons, List.length_nil, List.length_append, List.length_replicate]; omega)) only [↓walkA, walkB, coreB, Nat.reduceEqDiff, Nat.reduceAdd, ↓reduceIte, List.toList_toArray, List.map_cons, List.map_nil, List.getElem?_cons_zero, List.getElem?_cons_succ, Option.map_some, Option.map_none, Option.isSome_some, decide_true, decide_false, Try.f27, typesT, S_P, g11, g12, g3, g13]
    rw [cntN_more k (8 * i) (by omega)]

/-! ### Free, Next -/
def predN (k : List Bool) (x : Int) (one : Bool) (i : Nat) : Bool := decide (x ≤ i) && (k.getD i false == one)
/-- the least place from one on that is so -/
def nextL (k : List Bool) (x : Int) (one : Bool) : Int :=
  match (List.range k.length).find? (predN k x one) with
  | some i => i
  | none => -1
theorem nextL_some (k : List Bool) (x : Int) (one : Bool) (i : Nat) (hi : i < k.length) (hp : predN k x one i = true) (hn : ∀ j, j < i → predN k x one j = false) : nextL k x one = i := by
  unfold nextL
  have : (List.range k.length).find? (predN k x one) = some i := by
    rw [List.find?_range_eq_some]
    exact ⟨hp, List.mem_range.2 hi, fun j hj => by simp [hn j hj]⟩
  rw [this]
theorem nextL_none (k : List Bool) (x : Int) (one : Bool) (hn : ∀ j, j < k.length → predN k x one j = false) : nextL k x one = -1 := by
  unfold nextL
  have : (List.range k.length).find? (predN k x one) = none := by
    rw [List.find?_range_eq_none]
    exact fun j hj => by simp [hn j hj]
  rw [this]
theorem find_c {μ : Mem} {p b c : Nat} {k : List Bool} (h : IsMap μ p b c k) (x : Int) (one : Bool) (Q : Value → Mem → Prop) : Gets S 84 [.pointer (some ⟨p, 0, none⟩), .int .i64 x, .bool one] μ Q = Q (.int .i64 (nextL k x one)) μ := by
  have hl := h.le
  refine propext (Gets.iff ?_ Q)
  refine Gets.enter (fn := Try.f84) Try.func84 rfl rfl rfl (Nat.le_of_ble_eq_true rfl) ?_
  simp -implicitDefEqProofs -dsimp (disch := first | omega | (simp only [lens, List.length_set, List.length_cons, List.length_nil, List.length_append, List.length_replicate]; done) | (simp only [lens, List.length_set, List.length_cons, List.length_nil, List.length_append, List.length_replicate]; omega)) only [↓walkA, walkB, coreB, Nat.reduceEqDiff, Nat.reduceAdd, ↓reduceIte, List.toList_toArray, List.map_cons, List.map_nil, List.getElem?_cons_zero, List.getElem?_cons_succ, Option.map_some, Option.map_none, Option.isSome_some, decide_true, decide_false, typesT, S_P, Try.f84]
  refine loop_of S _ _ (fun j g μ' => ∃ i : Int, (if i < k.length then (k.length - i).toNat else 0) = j ∧ 0 ≤ i ∧ x ≤ i ∧ (∀ m : Nat, (m : Int) < i → predN k x one m = false) ∧ μ' = μ ∧ g 0 = .pointer (some ⟨p, 0, none⟩) ∧ g 2 = .bool one ∧ g 7 = .int .i64 i) _ _ _ ⟨_, rfl, ?_, ?_, ?_, rfl, rfl, rfl, rfl⟩ ?_
  · split <;> omega
  · split <;> omega
  · intro m hm
    have : ¬ x ≤ m := by split at hm <;> omega
    simp [predN, this]
  rintro j g μ' ⟨i, h2, h3, h4, h5, rfl, g0, g2, g7⟩
  by_cases hi : i < k.length
  · obtain ⟨n, rfl⟩ : ∃ n : Nat, i = n := ⟨i.toNat, by omega⟩
    rw [if_pos hi] at h2
    simp -implicitDefEqProofs -dsimp (disch := first | omega | (simp only [lens, List.length_set, List.length_cons, List.length_nil, List.length_append, List.length_replicate]; done) | (simp only [lens, List.length_set, List.length_cons, List.length_nil, List.length_append, List.length_replicate]; omega)) only [↓walkA, walkB, coreB, Nat.reduceEqDiff, Nat.reduceAdd, ↓reduceIte, List.toList_toArray, List.map_cons, List.map_nil, List.getElem?_cons_zero, List.getElem?_cons_succ, Option.map_some, Option.map_none, Option.isSome_some, decide_true, decide_false, Try.f84, typesT, S_P, g0, g2, g7, size_c h, has_c h, hi, h3, Int.toNat_natCast, bin_eql_bool 4 _ _ Try.underlying4]
    refine ifB_intro ?_ ?_
    · intro hb
      simp -implicitDefEqProofs -dsimp (disch := first | omega | (simp only [lens, List.length_set, List.length_cons, List.length_nil, List.length_append, List.length_replicate]; done) | (simp only [lens, List.length_set, List.length_cons, List.length_nil, List.length_append, List.length_replicate]; omega)) only [↓walkA, walkB, coreB, Nat.reduceEqDiff, Nat.reduceAdd, ↓reduceIte, List.toList_toArray, List.map_cons, List.map_nil, List.getElem?_cons_zero, List.getElem?_cons_succ, Option.map_some, Option.map_none, Option.isSome_some, decide_true, decide_false, Try.f84, typesT, S_P, g0, g2, g7]
      rw [nextL_some k x one n (by omega) (by unfold predN; rw [hb, Bool.and_true]; exact decide_eq_true h4) (fun j hj => h5 j (by omega))]
    · intro hb
      simp -implicitDefEqProofs -dsimp (disch := first | omega | (simp only [lens, List.length_set, List.length_cons, List.length_nil, List.length_append, List.length_replicate]; done) | (simp only [lens, List.length_set, List.length_cons, List.length_nil, List.length_append, List.length_replicate]; omega)) only [↓walkA, walkB, coreB, Nat.reduceEqDiff, Nat.reduceAdd, ↓reduceIte, List.toList_toArray, List.map_cons, List.map_nil, List.getElem?_cons_zero, List.getElem?_cons_succ, Option.map_some, Option.map_none, Option.isSome_some, decide_true, decide_false, Try.f84, typesT, S_P, g0, g2, g7]
      refine held ⟨_, ?_, n + 1, rfl, by omega, by omega, ?_, rfl, ?_⟩
      · split <;> omega
      · intro m hm
        by_cases e : m = n
        · subst e; unfold predN; rw [hb, Bool.and_false]
        · exact h5 m (by omega)
      · simp -implicitDefEqProofs -dsimp (disch := first | omega | (simp only [lens, List.length_set, List.length_cons, List.length_nil, List.length_append, List.length_replicate]; done) | (simp only [lens, List.length_set, List.length_cons, List.length_nil, List.length_append, List.length_replicate]; omega)) only [↓walkA, walkB, coreB, Nat.reduceEqDiff, Nat.reduceAdd, ↓reduceIte, List.toList_toArray, List.map_cons, List.map_nil, List.getElem?_cons_zero, List.getElem?_cons_succ, Option.map_some, Option.map_none, Option.isSome_some, decide_true, decide_false, Try.f84, g0, g2, g7]
  · simp -implicitDefEqProofs -dsimp (disch := first | omega | (simp only [lens, List.length_set, List.length_cons, List.length_nil, List.length_append, List.length_replicate]; done) | (simp only [lens, List.length_set, List.length_cons, List.length_nil, List.length_append, List.length_replicate]; omega)) only [↓walkA, walkB, coreB, Nat.reduceEqDiff, Nat.reduceAdd, ↓reduceIte, List.toList_toArray, List.map_cons, List.map_nil, List.getElem?_cons_zero, List.getElem?_cons_succ, Option.map_some, Option.map_none, Option.isSome_some, decide_true, decide_false, Try.f84, typesT, S_P, g0, g2, g7, size_c h]
    rw [nextL_none k x one (fun m hm => h5 m (by omega))]
section
variable {μ : Mem} {p b c : Nat} {k : List Bool} (h : IsMap μ p b c k)
include h
theorem free_c (x : Int) (Q : Value → Mem → Prop) : Gets S 64 [.pointer (some ⟨p, 0, none⟩), .int .i64 x] μ Q = Q (.int .i64 (nextL k x false)) μ := by
  refine propext (Gets.iff ?_ Q)
  refine Gets.enter (fn := Try.f64) Try.func64 rfl rfl rfl (Nat.le_of_ble_eq_true rfl) ?_
  simp -implicitDefEqProofs -dsimp (disch := first | omega | (simp only [lens, List.length_set, List.length_cons, List.length_nil, List.length_append, List.length_replicate]; done) | (simp only [lens, List.length_set, List.length_cons, List.length_nil, List.length_append, List.length_replicate]; omega)) only [↓walkA, walkB, coreB, Nat.reduceEqDiff, Nat.reduceAdd, ↓reduceIte, List.toList_toArray, List.map_cons, List.map_nil, List.getElem?_cons_zero, List.getElem?_cons_succ, Option.map_some, Option.map_none, Option.isSome_some, decide_true, decide_false, typesT, S_P, Try.f64, find_c h]
theorem next_c (x : Int) (Q : Value → Mem → Prop) : Gets S 66 [.pointer (some ⟨p, 0, none⟩), .int .i64 x] μ Q = Q (.int .i64 (nextL k x true)) μ := by
  refine propext (Gets.iff ?_ Q)
  refine Gets.enter (fn := Try.f66) Try.func66 rfl rfl rfl (Nat.le_of_ble_eq_true rfl) ?_
  simp -implicitDefEqProofs -dsimp (disch := first | omega | (simp only [lens, List.length_set, List.length_cons, List.length_nil, List.length_append, List.length_replicate]; done) | (simp only [lens, List.length_set, List.length_cons, List.length_nil, List.length_append, List.length_replicate]; omega)) only [↓walkA, walkB, coreB, Nat.reduceEqDiff, Nat.reduceAdd, ↓reduceIte, List.toList_toArray, List.map_cons, List.map_nil, List.getElem?_cons_zero, List.getElem?_cons_succ, Option.map_some, Option.map_none, Option.isSome_some, decide_true, decide_false, typesT, S_P, Try.f66, find_c h]
end
end Go.Mini.Bits
