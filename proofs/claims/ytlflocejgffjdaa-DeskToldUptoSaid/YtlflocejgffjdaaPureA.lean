/-
  Plain laws under DeskWords and DeskTold: what a quoted word and a plain word say, to the program and to the reference; conditions: a line of at most 2 to the 40 bytes.
-/
import Derived.Test.YtlflocejgffjdaaQDx6
namespace Go.Proofs.Ytlflocejgffjdaa.Pure
open Go.RowKit Go.Proofs.Ytlflocejgffjdaa.QD Go.Proofs.YtlflocejgffjdaaW.PrintWords Go.Proofs.YtlflocejgffjdaaW.PrintLast

theorem w64 {x : Int} (h0 : -9223372036854775808 ≤ x) (h1 : x ≤ 9223372036854775807) : wrap64 x = x := by unfold wrap64; omega

/-- 'so many rounds and more' -/
def Ends {α : Type} (g : Nat → Option α) (r : α) : Prop := ∃ K, ∀ k, K ≤ k → g k = some r
theorem Ends.step {α β : Type} {g : Nat → Option α} {f : Nat → Option β} {r : α} {q : β} (n : Nat) (h : Ends g r) (hs : ∀ k, g k = some r → f (k + n) = some q) : Ends f q := by
  obtain ⟨K, hK⟩ := h
  exact ⟨K + n, fun k hk => by obtain ⟨m, rfl⟩ : ∃ m, k = m + n := ⟨k - n, by omega⟩; exact hs m (hK m (by omega))⟩
theorem Ends.now {α : Type} {f : Nat → Option α} {r : α} (n : Nat) (hs : ∀ k, f (k + n) = some r) : Ends f r :=
  ⟨n, fun k hk => by obtain ⟨m, rfl⟩ : ∃ m, k = m + n := ⟨k - n, by omega⟩; exact hs m⟩
theorem Ends.both {α β : Type} {g : Nat → Option α} {f : Nat → Option β} {r : α} {q : β} (h : Ends g r) (h' : Ends f q) : ∃ k, g k = some r ∧ f k = some q := by
  obtain ⟨K, hK⟩ := h
  obtain ⟨L, hL⟩ := h'
  exact ⟨K + L, hK _ (by omega), hL _ (by omega)⟩

/-! ### digits to the base 16 -/
def hexv (c : Int) : Int := if 48 ≤ c ∧ c ≤ 57 then c - 48 else if 97 ≤ c ∧ c ≤ 102 then c - 87 else -1
theorem hexv_range (c : Int) : -1 ≤ hexv c ∧ hexv c ≤ 15 := by unfold hexv; split <;> (try split) <;> omega
theorem small_all : ∀ n : Fin 256, Lib.indexByte hexs (UInt8.ofNat n.val) = hexv n.val := by decide +kernel
theorem small_eq {c : Int} (h0 : 0 ≤ c) (h1 : c ≤ 255) : desk_small.f c = some (hexv c) := by
  obtain ⟨n, rfl⟩ := Int.eq_ofNat_of_zero_le h0
  have := small_all ⟨n, by omega⟩
  simpa [desk_small.f] using this
theorem hex_eq {c : Int} (h0 : 0 ≤ c) (h1 : c ≤ 255) (k : Nat) : signetref30_hex.f (k + 1) c = some (hexv c) := by
  unfold signetref30_hex.f hexv
  by_cases a : 48 ≤ c
  · by_cases b : c ≤ 57
    · simp only [ge_iff_le, a, b, if_true, decide_true, signetref30_hex.j0, and_self]
      congr 1; omega
    · by_cases e : 97 ≤ c
      · by_cases f : c ≤ 102
        · simp [a, b, signetref30_hex.j0, e, f]; omega
        · simp [a, b, signetref30_hex.j0, e, f]
      · simp [a, b, signetref30_hex.j0, e]
  · have e : ¬ 97 ≤ c := by omega
    simp [a, signetref30_hex.j0, e]
theorem byte_all : ∀ a b : Fin 16, (Go.bits .or .i64 (wrap64 ((a.val : Int) * 16)) (b.val : Int)) % 256 = (16 * (a.val : Int) + (b.val : Int)) % 256 := by decide +kernel
theorem byte_eq {a b : Int} (ha : 0 ≤ a) (ha' : a ≤ 15) (hb : 0 ≤ b) (hb' : b ≤ 15) : (Go.bits .or .i64 (wrap64 (a * 16)) b) % 256 = (16 * a + b) % 256 := by
  obtain ⟨m, rfl⟩ := Int.eq_ofNat_of_zero_le ha
  obtain ⟨n, rfl⟩ := Int.eq_ofNat_of_zero_le hb
  exact byte_all ⟨m, by omega⟩ ⟨n, by omega⟩

/-! ### what stands behind a backslash -/
/-- its byte, and how long it is; 0: it is none -/
def escv (s : ByteArray) (i : Nat) : Int × Nat :=
  if s.size ≤ i then (0, 0)
  else if bt s i = 34 ∨ bt s i = 92 then (bt s i, 1)
  else if bt s i = 110 then (10, 1)
  else if bt s i = 114 then (13, 1)
  else if bt s i = 116 then (9, 1)
  else if bt s i = 120 ∧ i + 2 < s.size ∧ 0 ≤ hexv (bt s (i + 1 : Nat)) ∧ 0 ≤ hexv (bt s (i + 2 : Nat)) then ((16 * hexv (bt s (i + 1 : Nat)) + hexv (bt s (i + 2 : Nat))) % 256, 3)
  else (0, 0)

theorem w64n {s : ByteArray} (hs : s.size ≤ 1099511627776) {i m : Nat} (hi : i ≤ s.size) (hm : m ≤ 10) : wrap64 ((i : Int) + (m : Int)) = ((i + m : Nat) : Int) := by
  rw [w64 (by omega) (by omega)]; omega

theorem esc_ref (s : ByteArray) (hs : s.size ≤ 1099511627776) (i : Nat) (k : Nat) : signetref30_escape.f (k + 3) s (i : Int) = some ((escv s i).1, ((escv s i).2 : Int)) := by
  unfold signetref30_escape.f escv
  by_cases h : s.size ≤ i
  · rw [if_pos (by omega), if_pos h]; rfl
  · rw [if_neg (by omega), if_pos (by omega), if_pos (by omega), if_neg h]
    have e1 : wrap64 ((i : Int) + 1) = ((i + 1 : Nat) : Int) := by have := @w64n s hs i 1 (by omega) (by omega); simpa using this
    have e2 : wrap64 ((i : Int) + 2) = ((i + 2 : Nat) : Int) := by have := @w64n s hs i 2 (by omega) (by omega); simpa using this
    generalize hc : bt s (i : Int) = c
    by_cases a1 : c = 34
    · subst a1; simp [signetref30_escape.j0, hc]; omega
    · by_cases a2 : c = 92
      · subst a2; simp [signetref30_escape.j0, hc]; omega
      · have b1 : (c == 92) = false := by simpa using a2
        rw [if_neg a1, b1]
        simp only [signetref30_escape.j0, Bool.false_eq_true, if_false, e1, e2]
        by_cases a3 : c = 110
        · subst a3; simp
        by_cases a4 : c = 114
        · subst a4; simp
        by_cases a5 : c = 116
        · subst a5; simp
        by_cases a6 : c = 120
        · subst a6
          simp only [Int.reduceEq, if_false, if_true, or_self, true_and]
          by_cases a7 : i + 2 < s.size
          · rw [if_pos (by omega), if_pos (by omega), if_pos (by omega), hex_eq (bt_range _ _).1 (bt_range _ _).2]
            simp only [Option.bind_some]
            by_cases a8 : 0 ≤ hexv (bt s (i + 1 : Nat))
            · rw [if_pos a8, if_pos (by omega), hex_eq (bt_range _ _).1 (bt_range _ _).2]
              simp only [Option.bind_some]
              by_cases a9 : 0 ≤ hexv (bt s (i + 2 : Nat))
              · simp only [signetref30_escape.j1, ge_iff_le, a9, decide_true, if_true, e1, e2]
                rw [if_pos (by omega), if_pos (by omega), hex_eq (bt_range _ _).1 (bt_range _ _).2]
                simp only [Option.bind_some]
                rw [if_pos (by omega), if_pos (by omega), hex_eq (bt_range _ _).1 (bt_range _ _).2]
                simp only [Option.bind_some]
                have r1 := hexv_range (bt s (i + 1 : Nat))
                have r2 := hexv_range (bt s (i + 2 : Nat))
                rw [w64 (x := 16 * hexv (bt s (i + 1 : Nat))) (by omega) (by omega), w64 (by omega) (by omega), if_pos ⟨a7, a8, trivial⟩]
                rfl
              · rw [if_neg (c := i + 2 < s.size ∧ _) (fun h => a9 h.2.2), show decide (hexv (bt s (i + 2 : Nat)) ≥ 0) = false from decide_eq_false a9]
                simp [signetref30_escape.j1]
            · rw [if_neg a8, if_neg (fun h => a8 h.2.1)]
              simp [signetref30_escape.j1]
          · rw [if_neg (by omega), if_neg (fun h => a7 h.1)]
            simp [signetref30_escape.j1]
        · simp [a1, a2, a3, a4, a5, a6]

theorem escaped_eq (c : Int) : desk_escaped.f c = some (if c = 34 ∨ c = 92 then (c, true) else if c = 110 then (10, true) else if c = 114 then (13, true) else if c = 116 then (9, true) else (0, false)) := by
  unfold desk_escaped.f
  by_cases a1 : c = 34
  · simp [a1]
  by_cases a2 : c = 92
  · simp [a2]
  simp only [a1, a2, if_false, or_self]
  split <;> (try rfl)
  split <;> (try rfl)
  split <;> rfl

/-- A backslash at j: the program goes on behind what it says, or ends. -/
theorem esc_desk (A : ByteArray) (hs : A.size ≤ 1099511627776) (j : Nat) (hj : j < A.size) (hc : bt A j = 92) (acc : List Int) (hacc : acc.length ≤ A.size) (r : ByteArray × ByteArray × Bool)
    (h0 : (escv A (j + 1)).2 = 0 → r = (⟨#[]⟩, ⟨#[]⟩, false))
    (h1 : (escv A (j + 1)).2 ≠ 0 → Ends (fun k => desk_quoted.l0 k A (acc ++ [(escv A (j + 1)).1]) ((j + 1 + (escv A (j + 1)).2 : Nat) : Int)) r) :
    Ends (fun k => desk_quoted.l0 k A acc (j : Int)) r := by
  have e1 : wrap64 ((j : Int) + 1) = ((j + 1 : Nat) : Int) := by have := @w64n A hs j 1 (by omega) (by omega); simpa using this
  have e2 : j + 1 ≤ A.size → wrap64 (((j + 1 : Nat) : Int) + 1) = ((j + 2 : Nat) : Int) := fun h => by rw [w64 (by omega) (by omega)]; omega
  have e3 : j + 1 ≤ A.size → wrap64 (((j + 1 : Nat) : Int) + 2) = ((j + 3 : Nat) : Int) := fun h => by rw [w64 (by omega) (by omega)]; omega
  have e4 : j + 3 ≤ A.size → wrap64 (((j + 3 : Nat) : Int) + 1) = ((j + 4 : Nat) : Int) := fun h => by rw [w64 (by omega) (by omega)]; omega
  -- the first two tests, whatever follows
  have head : ∀ k, desk_quoted.l0 (k + 2) A acc (j : Int) = desk_quoted.j1 (k + 1) A acc j 92 false := fun k => by
    simp only [desk_quoted.l0]
    rw [if_pos (by omega), if_pos (by omega), hc]
    simp
  by_cases hz : j + 1 = A.size
  · have ez : (escv A (j + 1)).2 = 0 := by unfold escv; rw [if_pos (by omega)]
    rw [h0 ez]
    refine Ends.now 2 fun k => ?_
    rw [head]
    simp only [desk_quoted.j1, Bool.false_eq_true, if_false, if_true, e1]
    rw [if_pos (by omega)]
  · have hz' : j + 1 < A.size := by omega
    generalize hc1 : bt A ((j + 1 : Nat) : Int) = c at *
    have body : ∀ k, desk_quoted.l0 (k + 2) A acc (j : Int) = (if c = 34 ∨ c = 92 ∨ c = 110 ∨ c = 114 ∨ c = 116 then desk_quoted.l0 k A (acc ++ [if c = 34 ∨ c = 92 then c else if c = 110 then 10 else if c = 114 then 13 else 9]) ((j + 2 : Nat) : Int)
        else if c = 120 then (if A.size ≤ j + 3 then desk_quoted.j2 k A acc ((j + 1 : Nat) : Int) true else (desk_small.f (bt A ((j + 2 : Nat) : Int))).bind fun t109 => if t109 < 0 then desk_quoted.j2 k A acc ((j + 1 : Nat) : Int) true else (desk_small.f (bt A ((j + 3 : Nat) : Int))).bind fun t110 => desk_quoted.j2 k A acc ((j + 1 : Nat) : Int) (decide (t110 < 0)))
        else desk_quoted.j2 k A acc ((j + 1 : Nat) : Int) true) := fun k => by
      rw [head]
      simp only [desk_quoted.j1, Bool.false_eq_true, if_false, if_true, e1, e2 (by omega), e3 (by omega)]
      rw [if_neg (by omega), if_pos (by omega), if_pos (by omega), hc1, escaped_eq]
      simp only [Option.bind_some]
      by_cases a1 : c = 34 ∨ c = 92 ∨ c = 110 ∨ c = 114 ∨ c = 116
      · rw [if_pos a1]
        have hlen : acc.length < 140737488355328 := by omega
        rcases a1 with h | h | h | h | h <;> subst h <;> simp [hlen]
      · rw [if_neg a1]
        have n1 : ¬ c = 34 := fun h => a1 (.inl h)
        have n2 : ¬ c = 92 := fun h => a1 (.inr (.inl h))
        have n3 : ¬ c = 110 := fun h => a1 (.inr (.inr (.inl h)))
        have n4 : ¬ c = 114 := fun h => a1 (.inr (.inr (.inr (.inl h))))
        have n5 : ¬ c = 116 := fun h => a1 (.inr (.inr (.inr (.inr h))))
        simp only [n1, n2, n3, n4, n5, or_self, if_false, Bool.false_eq_true]
        by_cases a6 : c = 120
        · rw [if_pos a6, if_pos a6]
          by_cases a7 : A.size ≤ j + 3
          · rw [if_pos (by omega), if_pos a7]
          · rw [if_neg (by omega), if_neg a7, if_pos (by omega), if_pos (by omega), if_pos (by omega)]
            congr 1
            funext t
            by_cases ht : t < 0
            · rw [if_pos ht, if_pos ht]
            · rw [if_neg ht, if_neg ht, if_pos (by omega)]
        · rw [if_neg a6, if_neg a6]
    by_cases a1 : c = 34 ∨ c = 92 ∨ c = 110 ∨ c = 114 ∨ c = 116
    · have ev : escv A (j + 1) = (if c = 34 ∨ c = 92 then c else if c = 110 then 10 else if c = 114 then 13 else 9, 1) := by
        unfold escv
        rw [if_neg (by omega), hc1]
        rcases a1 with h | h | h | h | h <;> subst h <;> simp
      rw [ev] at h1
      refine (h1 (by simp)).step 2 fun k hk => ?_
      rw [body, if_pos a1]
      exact hk
    · have n1 : ¬ c = 34 := fun h => a1 (.inl h)
      have n2 : ¬ c = 92 := fun h => a1 (.inr (.inl h))
      have n3 : ¬ c = 110 := fun h => a1 (.inr (.inr (.inl h)))
      have n4 : ¬ c = 114 := fun h => a1 (.inr (.inr (.inr (.inl h))))
      have n5 : ¬ c = 116 := fun h => a1 (.inr (.inr (.inr (.inr h))))
      have dead : ∀ k, desk_quoted.j2 (k + 1) A acc ((j + 1 : Nat) : Int) true = some (⟨#[]⟩, ⟨#[]⟩, false) := fun k => by simp [desk_quoted.j2]
      by_cases good : c = 120 ∧ j + 3 < A.size ∧ 0 ≤ hexv (bt A (j + 2 : Nat)) ∧ 0 ≤ hexv (bt A (j + 3 : Nat))
      · have ev : escv A (j + 1) = ((16 * hexv (bt A (j + 2 : Nat)) + hexv (bt A (j + 3 : Nat))) % 256, 3) := by
          unfold escv
          rw [if_neg (by omega), hc1]
          simp only [n1, n2, n3, n4, n5, or_self, if_false]
          rw [if_pos good]
        rw [ev] at h1
        obtain ⟨g1, g2, g3, g4⟩ := good
        have r1 := hexv_range (bt A (j + 2 : Nat))
        have r2 := hexv_range (bt A (j + 3 : Nat))
        refine (h1 (by simp)).step 3 fun k hk => ?_
        rw [show k + 3 = (k + 1) + 2 from rfl, body, if_neg a1, if_pos g1, if_neg (by omega), small_eq (bt_range _ _).1 (bt_range _ _).2]
        simp only [Option.bind_some]
        rw [if_neg (by omega), small_eq (bt_range _ _).1 (bt_range _ _).2]
        simp only [Option.bind_some, desk_quoted.j2, e2 (by omega), e3 (by omega)]
        rw [show decide (hexv (bt A ((j + 3 : Nat) : Int)) < 0) = false from decide_eq_false (by omega)]
        simp only [Bool.false_eq_true, if_false]
        rw [if_pos (by omega), if_pos (by omega), small_eq (bt_range _ _).1 (bt_range _ _).2]
        simp only [Option.bind_some]
        rw [if_pos (by omega), if_pos (by omega), small_eq (bt_range _ _).1 (bt_range _ _).2]
        simp only [Option.bind_some]
        rw [if_pos (by omega), e4 (by omega), byte_eq g3 r1.2 g4 r2.2]
        exact hk
      · have ez : (escv A (j + 1)).2 = 0 := by
          unfold escv
          rw [if_neg (by omega), hc1]
          simp only [n1, n2, n3, n4, n5, or_self, if_false]
          rw [if_neg good]
        rw [h0 ez]
        refine Ends.now 3 fun k => ?_
        rw [show k + 3 = (k + 1) + 2 from rfl, body, if_neg a1]
        by_cases g1 : c = 120
        · rw [if_pos g1]
          by_cases g2 : A.size ≤ j + 3
          · rw [if_pos g2]; exact dead k
          · rw [if_neg g2, small_eq (bt_range _ _).1 (bt_range _ _).2]
            simp only [Option.bind_some]
            by_cases g3 : hexv (bt A (j + 2 : Nat)) < 0
            · rw [if_pos g3]; exact dead k
            · rw [if_neg g3, small_eq (bt_range _ _).1 (bt_range _ _).2]
              simp only [Option.bind_some]
              have g4 : hexv (bt A (j + 3 : Nat)) < 0 := by
                by_cases g : hexv (bt A (j + 3 : Nat)) < 0
                · exact g
                · exact absurd ⟨g1, by omega, by omega, by omega⟩ good
              rw [show decide (hexv (bt A (j + 3 : Nat)) < 0) = true from decide_eq_true g4]
              exact dead k
        · rw [if_neg g1]; exact dead k

end Go.Proofs.Ytlflocejgffjdaa.Pure
