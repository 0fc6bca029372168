/-
  Plain laws under DeskWords: the words of a line, read by the program off what is left of it, and by the reference off places; conditions: a line of at most 2 to the 40 bytes.
-/
import Derived.Test.YtlflocejgffjdaaPureA
namespace Go.Proofs.Ytlflocejgffjdaa.Pure
open Go.RowKit Go.Proofs.Ytlflocejgffjdaa.QD Go.Proofs.YtlflocejgffjdaaW.PrintWords Go.Proofs.YtlflocejgffjdaaW.PrintLast

/-! ### what is left of a line -/
def rest (s : ByteArray) (p : Nat) : ByteArray := s.extract p s.size
theorem rest_size {s : ByteArray} {p : Nat} : (rest s p).size = s.size - p := by simp [rest, ByteArray.size_extract]
theorem rest_rest {s : ByteArray} {p j : Nat} : (rest s p).extract j (rest s p).size = rest s (p + j) := by
  rw [rest_size]
  simp only [rest, ByteArray.extract_extract]
  by_cases h : p ≤ s.size
  · congr 1; omega
  · have e1 : min (p + (s.size - p)) s.size = s.size := by omega
    rw [e1]
theorem rest_front {s : ByteArray} {p j : Nat} (h : p + j ≤ s.size) : (rest s p).extract 0 j = s.extract p (p + j) := by
  simp only [rest, ByteArray.extract_extract]
  congr 1; omega
theorem rest_bt {s : ByteArray} {p j : Nat} : bt (rest s p) (j : Int) = bt s ((p + j : Nat) : Int) := by
  simp only [bt, Int.toNat_natCast]
  by_cases h : p + j < s.size
  · have h' : j < (rest s p).size := by rw [rest_size]; omega
    rw [dif_pos h, dif_pos h']
    simp only [rest, ByteArray.getElem_extract]
  · have h' : ¬ j < (rest s p).size := by rw [rest_size]; omega
    rw [dif_neg h, dif_neg h']
theorem rest_bt1 {s : ByteArray} {p j : Nat} : bt (rest s p) ((j : Int) + 1) = bt s (((p + j : Nat) : Int) + 1) := by
  have := @rest_bt s p (j + 1)
  rw [show (p + (j + 1)) = p + j + 1 from rfl] at this
  exact_mod_cast this
theorem rest_esc {s : ByteArray} {p j : Nat} : escv (rest s p) j = escv s (p + j) := by
  unfold escv
  have c1 : (rest s p).size ≤ j ↔ s.size ≤ p + j := by rw [rest_size]; omega
  have c2 : j + 2 < (rest s p).size ↔ p + j + 2 < s.size := by rw [rest_size]; omega
  rw [@rest_bt s p j, @rest_bt s p (j + 1), @rest_bt s p (j + 2)]
  simp only [c1, c2, show p + (j + 1) = p + j + 1 from rfl, show p + (j + 2) = p + j + 2 from rfl]

/-! ### a plain word -/
theorem plain_both (s : ByteArray) (hs : s.size ≤ 1099511627776) (p : Nat) (d : Nat) : ∀ j, p + j ≤ s.size → s.size - (p + j) = d →
    ∃ e, p ≤ e ∧ e ≤ s.size ∧ p + j ≤ e ∧ Ends (fun k => desk_plain.l0 k (rest s p) (j : Int)) (s.extract p e, rest s e, decide (p < e)) ∧
      Ends (fun k => signetref30_word.l0 k s (p : Int) ((p + j : Nat) : Int)) (s.extract p e, ((e - p : Nat) : Int), false) := by
  have fin : ∀ j, p + j ≤ s.size → (p + j = s.size ∨ bt s ((p + j : Nat) : Int) ≤ 32 ∨ 127 ≤ bt s ((p + j : Nat) : Int) ∨ bt s ((p + j : Nat) : Int) = 34) →
      ∃ e, p ≤ e ∧ e ≤ s.size ∧ p + j ≤ e ∧ Ends (fun k => desk_plain.l0 k (rest s p) (j : Int)) (s.extract p e, rest s e, decide (p < e)) ∧
      Ends (fun k => signetref30_word.l0 k s (p : Int) ((p + j : Nat) : Int)) (s.extract p e, ((e - p : Nat) : Int), false) := by
    intro j hj hstop
    refine ⟨p + j, by omega, hj, Nat.le_refl _, Ends.now 1 fun k => ?_, Ends.now 1 fun k => ?_⟩
    · have r : (some ((rest s p).extract 0 (j : Int).toNat, (rest s p).extract (j : Int).toNat (rest s p).size, decide ((j : Int) > 0)) : Option (ByteArray × ByteArray × Bool)) = some (s.extract p (p + j), rest s (p + j), decide (p < p + j)) := by
        rw [Int.toNat_natCast, rest_front hj, rest_rest]
        congr 3
        by_cases h : 0 < j <;> simp <;> omega
      simp only [desk_plain.l0]
      rw [@rest_bt s p j]
      have hsz := @rest_size s p
      by_cases h0 : (j : Int) < ((rest s p).size : Int)
      · rw [if_pos h0, if_pos (by omega)]
        by_cases a : bt s ((p + j : Nat) : Int) > 32
        · rw [if_pos a]
          by_cases b : bt s ((p + j : Nat) : Int) < 127
          · rw [if_pos b, if_pos (by omega), if_pos (by omega)]; exact r
          · rw [if_neg b, if_pos (by omega)]; exact r
        · rw [if_neg a, if_pos (by omega)]; exact r
      · rw [if_neg h0, if_pos (by omega), if_pos (by omega)]; exact r
    · have r : (some (s.extract (p : Int).toNat ((p + j : Nat) : Int).toNat, wrap64 (((p + j : Nat) : Int) - (p : Int)), false) : Option (ByteArray × Int × Bool)) = some (s.extract p (p + j), ((p + j - p : Nat) : Int), false) := by
        rw [Int.toNat_natCast, Int.toNat_natCast, w64 (by omega) (by omega)]
        congr 3; omega
      simp only [signetref30_word.l0]
      by_cases h0 : ((p + j : Nat) : Int) < (s.size : Int)
      · rw [if_pos h0, if_pos (by omega)]
        by_cases a : bt s ((p + j : Nat) : Int) ≥ 33
        · rw [if_pos a]
          by_cases b : bt s ((p + j : Nat) : Int) ≤ 126
          · rw [if_pos b, if_pos (by omega), if_pos (by omega), if_pos (by omega), if_pos (by omega)]; exact r
          · rw [if_neg b, if_pos (by omega), if_pos (by omega), if_pos (by omega)]; exact r
        · rw [if_neg a, if_pos (by omega), if_pos (by omega), if_pos (by omega)]; exact r
      · rw [if_neg h0, if_pos (by omega), if_pos (by omega), if_pos (by omega)]; exact r
  induction d with
  | zero => intro j hj hd; exact fin j hj (.inl (by omega))
  | succ d ih =>
    intro j hj hd
    by_cases c : bt s ((p + j : Nat) : Int) ≤ 32 ∨ 127 ≤ bt s ((p + j : Nat) : Int) ∨ bt s ((p + j : Nat) : Int) = 34
    · exact fin j hj (.inr c)
    · obtain ⟨e, h1, h2, h3, h4, h5⟩ := ih (j + 1) (by omega) (by omega)
      have hsz := @rest_size s p
      refine ⟨e, h1, h2, by omega, h4.step 1 fun k hk => ?_, h5.step 1 fun k hk => ?_⟩
      · simp only [desk_plain.l0]
        rw [@rest_bt s p j, if_pos (by omega), if_pos (by omega), if_pos (by omega), if_pos (by omega), if_neg (by omega), w64 (by omega) (by omega)]
        exact hk
      · simp only [signetref30_word.l0]
        rw [if_pos (by omega), if_pos (by omega), if_pos (by omega), if_pos (by omega), if_neg (by omega), w64 (by omega) (by omega)]
        exact hk

/-! ### a quoted word -/
/-- both fail, or both read up to e -/
def Quoted (s : ByteArray) (p : Nat) (j : Nat) (acc : List Int) : Prop :=
  (Ends (fun k => desk_quoted.l0 k (rest s p) acc (j : Int)) (⟨#[]⟩, ⟨#[]⟩, false) ∧ Ends (fun k => signetref30_word.l1 k s (p : Int) acc ((p + j : Nat) : Int)) (⟨#[]⟩, 0, false)) ∨
  ∃ e out, p + j < e ∧ e ≤ s.size ∧ Ends (fun k => desk_quoted.l0 k (rest s p) acc (j : Int)) (strOfNums out, rest s e, true) ∧
    Ends (fun k => signetref30_word.l1 k s (p : Int) acc ((p + j : Nat) : Int)) (strOfNums out, ((e - p : Nat) : Int), true)

theorem quoted_both (s : ByteArray) (hs : s.size ≤ 1099511627776) (p : Nat) (d : Nat) : ∀ j acc, p + j ≤ s.size → s.size - (p + j) ≤ d → acc.length ≤ j → Quoted s p j acc := by
  have hsz := @rest_size s p
  induction d with
  | zero =>
    intro j acc hj hd hacc
    refine .inl ⟨Ends.now 1 fun k => ?_, Ends.now 1 fun k => ?_⟩
    · simp only [desk_quoted.l0]; rw [if_neg (by omega)]
    · simp only [signetref30_word.l1]; rw [if_neg (by omega)]
  | succ d ih =>
    intro j acc hj hd hacc
    by_cases hend : p + j = s.size
    · refine .inl ⟨Ends.now 1 fun k => ?_, Ends.now 1 fun k => ?_⟩
      · simp only [desk_quoted.l0]; rw [if_neg (by omega)]
      · simp only [signetref30_word.l1]; rw [if_neg (by omega)]
    have hlt : p + j < s.size := by omega
    have hb := @rest_bt s p j
    generalize hc : bt s ((p + j : Nat) : Int) = c at hb
    have step1 : ∀ k, c ≠ 34 → ¬ c < 32 → ¬ c > 126 → signetref30_word.l1 (k + 2) s (p : Int) acc ((p + j : Nat) : Int) = if c = 92 then ((signetref30_escape.f k s ((p + j + 1 : Nat) : Int)).bind fun bt150 => (if bt150.2 = 0 then (some ((⟨#[]⟩ : ByteArray), 0, false)) else (signetref30_word.l1 k s (p : Int) (acc ++ [bt150.1]) (wrap64 (((p + j : Nat) : Int) + (wrap64 (1 + bt150.2))))))) else signetref30_word.l1 k s (p : Int) (acc ++ [c]) ((p + j + 1 : Nat) : Int) := by
      intro k n1 n2 n3
      simp only [signetref30_word.l1, signetref30_word.j2]
      rw [if_pos (by omega), if_pos (by omega), hc, if_neg n1, if_neg n2, if_neg (by simpa using n3), if_pos (by omega), if_pos (by omega)]
      have hl : acc.length < 140737488355328 := by omega
      have e1 : wrap64 (((p + j : Nat) : Int) + 1) = ((p + j + 1 : Nat) : Int) := by rw [w64 (by omega) (by omega)]; omega
      by_cases n4 : c = 92
      · rw [if_pos n4, if_pos n4, e1]
        congr 1
        funext x
        rw [if_pos hl]
      · rw [if_neg n4, if_neg n4, if_pos hl, e1]
    by_cases n1 : c = 34
    · refine .inr ⟨p + j + 1, acc, by omega, by omega, Ends.now 1 fun k => ?_, Ends.now 1 fun k => ?_⟩
      · simp only [desk_quoted.l0]
        rw [if_pos (by omega), if_pos (by omega), hb, if_pos n1, w64 (by omega) (by omega), if_pos (by omega), if_pos (by omega)]
        rw [show ((j : Int) + 1).toNat = j + 1 from by omega, rest_rest]
        rfl
      · simp only [signetref30_word.l1]
        rw [if_pos (by omega), if_pos (by omega), hc, if_pos n1, w64 (x := ((p + j : Nat) : Int) + 1) (by omega) (by omega), w64 (by omega) (by omega)]
        congr 3; omega
    by_cases n2 : c < 32 ∨ c > 126
    · refine .inl ⟨Ends.now 2 fun k => ?_, Ends.now 2 fun k => ?_⟩
      · simp only [desk_quoted.l0, desk_quoted.j1]
        rw [if_pos (by omega), if_pos (by omega), hb, if_neg n1]
        by_cases a : c < 32
        · rw [if_pos a]; rfl
        · rw [if_neg a, if_pos (by simp; omega)]
      · simp only [signetref30_word.l1, signetref30_word.j2]
        rw [if_pos (by omega), if_pos (by omega), hc, if_neg n1]
        by_cases a : c < 32
        · rw [if_pos a]; rfl
        · rw [if_neg a, if_pos (by simp; omega)]
    have n3 : ¬ c < 32 := fun h => n2 (.inl h)
    have n4 : ¬ c > 126 := fun h => n2 (.inr h)
    by_cases n5 : c = 92
    · have es := @rest_esc s p (j + 1)
      by_cases z : (escv s (p + (j + 1))).2 = 0
      · refine .inl ⟨esc_desk _ (by omega) j (by omega) (hb.trans n5) acc (by omega) _ (fun _ => rfl) (fun h => absurd (es ▸ z) h), Ends.now 5 fun k => ?_⟩
        rw [show k + 5 = (k + 3) + 2 from rfl, step1 _ n1 n3 n4, if_pos n5, esc_ref s hs]
        simp only [Option.bind_some]
        rw [show p + j + 1 = p + (j + 1) from rfl, z, if_pos (by rfl)]
      · have hn : (escv s (p + (j + 1))).2 ≤ 3 ∧ p + (j + 1) + (escv s (p + (j + 1))).2 ≤ s.size := by
          revert z
          unfold escv
          repeat' split
          all_goals (intro z; first | exact absurd rfl z | (simp only; omega))
        obtain ⟨v, n, hv⟩ : ∃ v n, escv s (p + (j + 1)) = (v, n) := ⟨_, _, rfl⟩
        rw [hv] at z hn es
        simp only at z hn
        have next := ih (j + 1 + n) (acc ++ [v]) (by omega) (by omega) (by simp; omega)
        have desk : ∀ r, Ends (fun k => desk_quoted.l0 k (rest s p) (acc ++ [v]) ((j + 1 + n : Nat) : Int)) r → Ends (fun k => desk_quoted.l0 k (rest s p) acc (j : Int)) r := fun r hr =>
          esc_desk _ (by omega) j (by omega) (hb.trans n5) acc (by omega) r (fun h => absurd (by rw [es] at h; exact h) z) (fun _ => by rw [es]; exact hr)
        have ref : ∀ r, Ends (fun k => signetref30_word.l1 k s (p : Int) (acc ++ [v]) ((p + (j + 1 + n) : Nat) : Int)) r → Ends (fun k => signetref30_word.l1 k s (p : Int) acc ((p + j : Nat) : Int)) r := by
          intro r ⟨K, hK⟩
          refine ⟨K + 5, fun k hk => ?_⟩
          obtain ⟨m, rfl⟩ : ∃ m, k = m + 5 := ⟨k - 5, by omega⟩
          show signetref30_word.l1 ((m + 3) + 2) s (p : Int) acc ((p + j : Nat) : Int) = some r
          rw [step1 _ n1 n3 n4, if_pos n5, esc_ref s hs]
          simp only [Option.bind_some]
          rw [show p + j + 1 = p + (j + 1) from rfl, hv, if_neg (by simp only; omega)]
          simp only
          rw [w64 (x := 1 + (n : Int)) (by omega) (by omega), w64 (by omega) (by omega), show ((p + j : Nat) : Int) + (1 + (n : Int)) = ((p + (j + 1 + n) : Nat) : Int) from by omega]
          exact hK _ (by omega)
        rcases next with ⟨q1, q2⟩ | ⟨e, out, q1, q2, q3, q4⟩
        · exact .inl ⟨desk _ q1, ref _ q2⟩
        · exact .inr ⟨e, out, by omega, q2, desk _ q3, ref _ q4⟩
    · have next := ih (j + 1) (acc ++ [c]) (by omega) (by omega) (by simp; omega)
      have desk : ∀ r, Ends (fun k => desk_quoted.l0 k (rest s p) (acc ++ [c]) ((j + 1 : Nat) : Int)) r → Ends (fun k => desk_quoted.l0 k (rest s p) acc (j : Int)) r := fun r hr => hr.step 2 fun k hk => by
        simp only [desk_quoted.l0, desk_quoted.j1]
        rw [if_pos (by omega), if_pos (by omega), hb, if_neg n1, if_neg n3, if_neg (by simpa using n4), if_neg n5, if_pos (by omega), w64 (by omega) (by omega)]
        exact hk
      have ref : ∀ r, Ends (fun k => signetref30_word.l1 k s (p : Int) (acc ++ [c]) ((p + (j + 1) : Nat) : Int)) r → Ends (fun k => signetref30_word.l1 k s (p : Int) acc ((p + j : Nat) : Int)) r := fun r hr => hr.step 2 fun k hk => by
        rw [step1 _ n1 n3 n4, if_neg n5]
        exact hk
      rcases next with ⟨q1, q2⟩ | ⟨e, out, q1, q2, q3, q4⟩
      · exact .inl ⟨desk _ q1, ref _ q2⟩
      · exact .inr ⟨e, out, by omega, q2, desk _ q3, ref _ q4⟩

end Go.Proofs.Ytlflocejgffjdaa.Pure
