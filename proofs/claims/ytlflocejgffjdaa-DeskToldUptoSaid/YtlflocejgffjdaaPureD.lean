/-
  Plain law of DeskTold: a text told is the reference's, and its words are that text alone; condition: the text is at most 2 to the 36 bytes long.
-/
import Derived.Test.YtlflocejgffjdaaPureC
namespace Go.Proofs.Ytlflocejgffjdaa.Pure
open Go.RowKit Go.Proofs.Ytlflocejgffjdaa.QD Go.Proofs.YtlflocejgffjdaaW.PrintWords Go.Proofs.YtlflocejgffjdaaW.PrintLast

/-! ### a byte, told -/
def hexd (n : Int) : Int := bt (⟨#[48, 49, 50, 51, 52, 53, 54, 55, 56, 57, 97, 98, 99, 100, 101, 102]⟩ : ByteArray) n
/-- what a byte is told as -/
def told1 (c : Int) : List Int :=
  if c = 34 ∨ c = 92 then [92, c] else if 32 ≤ c ∧ c ≤ 126 then [c] else if c = 10 then [92, 110] else if c = 13 then [92, 114] else if c = 9 then [92, 116]
  else [92, 120, hexd (c / 16), hexd (c % 16)]
theorem told1_len (c : Int) : 1 ≤ (told1 c).length ∧ (told1 c).length ≤ 4 := by
  unfold told1
  split
  · simp
  split
  · simp
  split
  · simp
  split
  · simp
  split <;> simp
theorem and_all : ∀ n : Fin 256, Go.bits .and .u8 (n.val : Int) 15 = (n.val : Int) % 16 := by decide +kernel
theorem and_eq {c : Int} (h0 : 0 ≤ c) (h1 : c ≤ 255) : Go.bits .and .u8 c 15 = c % 16 := by
  obtain ⟨n, rfl⟩ := Int.eq_ofNat_of_zero_le h0
  exact and_all ⟨n, by omega⟩

/-- the program's round -/
theorem told_round (s : ByteArray) (hs : s.size ≤ 68719476736) (i : Nat) (hi : i < s.size) (acc : List Int) (ha : acc.length ≤ 4 * i + 1) (r : ByteArray)
    (h : Ends (fun k => QDT.desk_Told.l0 k (acc ++ told1 (bt s i)) s (s.size : Int) ((i + 1 : Nat) : Int)) r) : Ends (fun k => QDT.desk_Told.l0 k acc s (s.size : Int) (i : Int)) r := by
  have rg := bt_range s i
  generalize hc : bt s (i : Int) = c at *
  have hl : acc.length + 4 < 140737488355328 := by omega
  have hl0 : acc.length < 140737488355328 := by omega
  have lt2 : ∀ a b : Int, acc.length + [a, b].length < 140737488355328 := fun a b => by simp; omega
  have lt4 : ∀ a b c d : Int, acc.length + [a, b, c, d].length < 140737488355328 := fun a b c d => by simp; omega
  have i0 : (i : Int) < (s.size : Int) := by omega
  have i1 : 0 ≤ (i : Int) := by omega
  have e1 : wrap64 ((i : Int) + 1) = ((i + 1 : Nat) : Int) := by rw [w64 (by omega) (by omega)]; omega
  by_cases a1 : c = 34 ∨ c = 92
  · have ht : told1 c = [92, c] := by unfold told1; rw [if_pos a1]
    rw [ht] at h
    refine h.step 2 fun k hk => ?_
    have hb : (if c = 34 then QDT.desk_Told.j1 (k + 1) acc c s (s.size : Int) (i : Int) true else QDT.desk_Told.j1 (k + 1) acc c s (s.size : Int) (i : Int) (c == 92)) = QDT.desk_Told.j1 (k + 1) acc c s (s.size : Int) (i : Int) true := by
      rcases a1 with h | h <;> subst h <;> simp
    simp only [QDT.desk_Told.l0]
    rw [if_pos i0, if_pos i1, if_pos i0, hc, hb]
    simp only [QDT.desk_Told.j1, if_true, Option.bind_some]
    rw [if_pos (lt2 _ _), e1]
    exact hk
  · refine h.step 3 fun k hk => ?_
    have n1 : ¬ c = 34 := fun h => a1 (.inl h)
    have n2 : ¬ c = 92 := fun h => a1 (.inr h)
    have n2' : (c == 92) = false := by simpa using n2
    simp only [QDT.desk_Told.l0]
    rw [if_pos i0, if_pos i1, if_pos i0, hc, if_neg n1, n2']
    simp only [QDT.desk_Told.j1, Bool.false_eq_true, if_false]
    have hb : (if c ≥ 32 then QDT.desk_Told.j2 (k + 1) acc c s (s.size : Int) (i : Int) (decide (c ≤ 126)) else QDT.desk_Told.j2 (k + 1) acc c s (s.size : Int) (i : Int) false) = QDT.desk_Told.j2 (k + 1) acc c s (s.size : Int) (i : Int) (decide (32 ≤ c ∧ c ≤ 126)) := by
      by_cases h : c ≥ 32
      · rw [if_pos h]; simp [show 32 ≤ c from h]
      · rw [if_neg h]; simp [show ¬ 32 ≤ c from h]
    rw [hb]
    unfold told1 at hk
    rw [if_neg a1] at hk
    by_cases a2 : 32 ≤ c ∧ c ≤ 126
    · rw [if_pos a2] at hk
      rw [decide_eq_true a2]
      simp only [QDT.desk_Told.j2, if_true]
      rw [if_pos hl0, e1]
      exact hk
    · rw [if_neg a2] at hk
      rw [decide_eq_false a2]
      simp only [QDT.desk_Told.j2, Bool.false_eq_true, if_false, Option.bind_some]
      by_cases b1 : c = 10
      · rw [if_pos b1] at hk; rw [if_pos b1, if_pos (lt2 _ _), e1]; exact hk
      rw [if_neg b1] at hk ⊢
      by_cases b2 : c = 13
      · rw [if_pos b2] at hk; rw [if_pos b2, if_pos (lt2 _ _), e1]; exact hk
      rw [if_neg b2] at hk ⊢
      by_cases b3 : c = 9
      · rw [if_pos b3] at hk; rw [if_pos b3, if_pos (lt2 _ _), e1]; exact hk
      rw [if_neg b3] at hk ⊢
      rw [and_eq rg.1 rg.2, if_pos (show 0 ≤ c / 16 by omega), if_pos (show c / 16 < 16 by omega), if_pos (show 0 ≤ c % 16 by omega), if_pos (show c % 16 < 16 by omega), if_pos (lt4 _ _ _ _), e1]
      exact hk

/-- the reference's round -/
theorem told_ref (s : ByteArray) (hs : s.size ≤ 68719476736) (i : Nat) (hi : i < s.size) (acc : List Int) (ha : acc.length ≤ 4 * i + 1) (r : ByteArray)
    (h : Ends (fun k => QDT.signetref30_Told.l0 k s (acc ++ told1 (bt s i)) ((i + 1 : Nat) : Int)) r) : Ends (fun k => QDT.signetref30_Told.l0 k s acc (i : Int)) r := by
  have rg := bt_range s i
  generalize hc : bt s (i : Int) = c at *
  have hl : acc.length + 4 < 140737488355328 := by omega
  have hl0 : acc.length < 140737488355328 := by omega
  have lt2 : ∀ a b : Int, acc.length + [a, b].length < 140737488355328 := fun a b => by simp; omega
  have lt4 : ∀ a b c d : Int, acc.length + [a, b, c, d].length < 140737488355328 := fun a b c d => by simp; omega
  have i0 : (i : Int) < (s.size : Int) := by omega
  have i1 : 0 ≤ (i : Int) := by omega
  have e1 : wrap64 ((i : Int) + 1) = ((i + 1 : Nat) : Int) := by rw [w64 (by omega) (by omega)]; omega
  refine h.step 2 fun k hk => ?_
  have hb : (if c = 34 then QDT.signetref30_Told.j1 (k + 1) s acc (i : Int) c true else QDT.signetref30_Told.j1 (k + 1) s acc (i : Int) c (c == 92)) = QDT.signetref30_Told.j1 (k + 1) s acc (i : Int) c (decide (c = 34 ∨ c = 92)) := by
    by_cases h : c = 34
    · subst h; simp
    · rw [if_neg h]
      by_cases h2 : c = 92
      · subst h2; simp
      · rw [show (c == 92) = false from by simpa using h2, decide_eq_false (fun hh => hh.elim h h2)]
  simp only [QDT.signetref30_Told.l0]
  rw [if_pos i0, if_pos i1, hc, hb]
  unfold told1 at hk
  by_cases a1 : c = 34 ∨ c = 92
  · rw [if_pos a1] at hk
    rw [decide_eq_true a1]
    simp only [QDT.signetref30_Told.j1, if_true, Option.bind_some]
    rw [if_pos (lt2 _ _), e1]
    exact hk
  · rw [if_neg a1] at hk
    rw [decide_eq_false a1]
    simp only [QDT.signetref30_Told.j1, Bool.false_eq_true, if_false, Option.bind_some]
    by_cases b1 : c = 10
    · rw [if_neg (by omega), if_pos b1] at hk; rw [if_pos b1, if_pos (lt2 _ _), e1]; exact hk
    by_cases b2 : c = 13
    · rw [if_neg (by omega), if_neg b1, if_pos b2] at hk; rw [if_neg b1, if_pos b2, if_pos (lt2 _ _), e1]; exact hk
    by_cases b3 : c = 9
    · rw [if_neg (by omega), if_neg b1, if_neg b2, if_pos b3] at hk; rw [if_neg b1, if_neg b2, if_pos b3, if_pos (lt2 _ _), e1]; exact hk
    rw [if_neg b1, if_neg b2, if_neg b3]
    have t1 : Int.tdiv c 16 % 256 = c / 16 := by rw [Int.tdiv_eq_ediv_of_nonneg rg.1]; omega
    have t2 : Int.tmod c 16 = c % 16 := Int.tmod_eq_emod_of_nonneg rg.1
    by_cases a2 : 32 ≤ c ∧ c ≤ 126
    · rw [if_pos a2] at hk
      rw [if_pos (show c ≥ 32 from a2.1), if_pos a2.2, if_pos hl0, e1]
      exact hk
    · rw [if_neg a2, if_neg b1, if_neg b2, if_neg b3] at hk
      by_cases b4 : c ≥ 32
      · rw [if_pos b4, if_neg (show ¬ c ≤ 126 by omega), t1, t2, if_pos (show 0 ≤ c / 16 by omega), if_pos (show c / 16 < 16 by omega), if_pos (show 0 ≤ c % 16 by omega), if_pos (show c % 16 < 16 by omega), if_pos (lt4 _ _ _ _), e1]
        exact hk
      · rw [if_neg b4, t1, t2, if_pos (show 0 ≤ c / 16 by omega), if_pos (show c / 16 < 16 by omega), if_pos (show 0 ≤ c % 16 by omega), if_pos (show c % 16 < 16 by omega), if_pos (lt4 _ _ _ _), e1]
        exact hk

/-- what is told of the bytes from place i on -/
def toldFrom (s : ByteArray) : Nat → Nat → List Int
  | 0, _ => []
  | d + 1, i => told1 (bt s (i : Nat)) ++ toldFrom s d (i + 1)
theorem toldFrom_len (s : ByteArray) : ∀ d i, (toldFrom s d i).length ≤ 4 * d
  | 0, _ => by simp [toldFrom]
  | d + 1, i => by
    have := toldFrom_len s d (i + 1)
    have := told1_len (bt s (i : Nat))
    simp only [toldFrom, List.length_append]; omega

theorem told_desk (s : ByteArray) (hs : s.size ≤ 68719476736) (d : Nat) : ∀ (i : Nat) (acc : List Int), i ≤ s.size → s.size - i = d → acc.length ≤ 4 * i + 1 →
    Ends (fun k => QDT.desk_Told.l0 k acc s (s.size : Int) (i : Int)) (strOfNums (acc ++ toldFrom s d i ++ [34])) ∧ Ends (fun k => QDT.signetref30_Told.l0 k s acc (i : Int)) (strOfNums (acc ++ toldFrom s d i ++ [34])) := by
  induction d with
  | zero =>
    intro i acc hi hd ha
    simp only [toldFrom, List.append_nil]
    refine ⟨Ends.now 1 fun k => ?_, Ends.now 1 fun k => ?_⟩
    · simp only [QDT.desk_Told.l0]
      rw [if_neg (by omega), if_pos (by omega)]
    · simp only [QDT.signetref30_Told.l0]
      rw [if_neg (by omega), if_pos (by omega)]
  | succ d ih =>
    intro i acc hi hd ha
    have hl := told1_len (bt s (i : Nat))
    obtain ⟨h1, h2⟩ := ih (i + 1) (acc ++ told1 (bt s (i : Nat))) (by omega) (by omega) (by simp; omega)
    simp only [toldFrom]
    rw [← List.append_assoc acc]
    exact ⟨told_round s hs i (by omega) acc ha _ h1, told_ref s hs i (by omega) acc ha _ h2⟩

/-- the text told -/
def toldB (s : ByteArray) : ByteArray := strOfNums ([34] ++ toldFrom s s.size 0 ++ [34])
theorem told_both (s : ByteArray) (hs : s.size ≤ 68719476736) : Ends (fun k => desk_Told.f k s) (toldB s) ∧ Ends (fun k => signetref30_Told.f k s) (toldB s) := by
  obtain ⟨h1, h2⟩ := told_desk s hs s.size 0 [34] (by omega) (by omega) (by simp)
  refine ⟨h1.step 0 fun k hk => ?_, h2.step 0 fun k hk => hk⟩
  unfold desk_Told.f QDT.desk_Told.f
  rw [if_pos (by omega)]
  exact hk

/-! ### and back: the words of what was told -/
/-- A list of bytes as a list of numbers: what a text built of numbers reads as. -/
theorem bt_strOfNums (xs : List Int) (i : Nat) (hi : i < xs.length) (h0 : 0 ≤ xs[i]) (h1 : xs[i] ≤ 255) : bt (strOfNums xs) (i : Int) = xs[i] := by
  have hs : (strOfNums xs).size = xs.length := by
    show (strOfNums xs).data.size = xs.length
    simp [strOfNums]
  simp only [bt, Int.toNat_natCast]
  rw [dif_pos (by omega)]
  have : ((strOfNums xs)[i]'(by omega)) = UInt8.ofNat (xs[i]).toNat := by
    show (strOfNums xs).data[i]'(by simp [strOfNums]; omega) = _
    simp [strOfNums]
  rw [this]
  have e : (xs[i]).toNat < 256 := by omega
  simp [Nat.mod_eq_of_lt e]
  omega

end Go.Proofs.Ytlflocejgffjdaa.Pure
