/-
  Plain law of DeskWords: the words of a line, by the program and by the reference, are the same; condition: the line is at most 2 to the 40 bytes long.
-/
import Derived.Test.YtlflocejgffjdaaPureB
namespace Go.Proofs.Ytlflocejgffjdaa.Pure
open Go.RowKit Go.Proofs.Ytlflocejgffjdaa.QD Go.Proofs.YtlflocejgffjdaaW.PrintWords Go.Proofs.YtlflocejgffjdaaW.PrintLast

theorem nil_iff (s : ByteArray) : s.toList = ([] : List UInt8) ↔ s.size = 0 := by
  rw [Go.ByteArray.toList_eq, ← data_length s]
  exact ⟨fun h => by rw [h]; rfl, List.eq_nil_of_length_eq_zero⟩
theorem rest_all (s : ByteArray) : rest s 0 = s := by
  refine _root_.ByteArray.ext ?_
  simp [rest]

/-! ### one word -/
/-- what one word is, to both; q: was it quoted -/
inductive OneWord (s : ByteArray) (p : Nat) : Prop where
  | fails (q : Bool) (hd : ∀ acc : List S97, Ends (fun k => desk_words.l0 k (rest s p) acc) ([], false))
      (hr : Ends (fun k => signetref30_word.f k s (p : Int)) (⟨#[]⟩, 0, q)) : OneWord s p
  | ends (w : ByteArray) (q : Bool) (hp : p < s.size) (hd : ∀ acc : List S97, acc.length < 5864062014805 → Ends (fun k => desk_words.l0 k (rest s p) acc) (acc ++ [⟨w, q⟩], true))
      (hr : Ends (fun k => signetref30_word.f k s (p : Int)) (w, ((s.size - p : Nat) : Int), q)) : OneWord s p
  | stops (w : ByteArray) (q : Bool) (e : Nat) (hp : p < e) (he : e < s.size) (hb : bt s (e : Int) ≠ 32)
      (hd : ∀ acc : List S97, acc.length < 5864062014805 → Ends (fun k => desk_words.l0 k (rest s p) acc) ([], false))
      (hr : Ends (fun k => signetref30_word.f k s (p : Int)) (w, ((e - p : Nat) : Int), q)) : OneWord s p
  | goes (w : ByteArray) (q : Bool) (e : Nat) (hp : p < e) (he : e < s.size) (hb : bt s (e : Int) = 32)
      (hd : ∀ (acc : List S97) r, acc.length < 5864062014805 → Ends (fun k => desk_words.l0 k (rest s (e + 1)) (acc ++ [⟨w, q⟩])) r → Ends (fun k => desk_words.l0 k (rest s p) acc) r)
      (hr : Ends (fun k => signetref30_word.f k s (p : Int)) (w, ((e - p : Nat) : Int), q)) : OneWord s p

/-- behind a word -/
theorem behind (s : ByteArray) (p e : Nat) (w : ByteArray) (q : Bool) (hp : p < e) (he : e ≤ s.size)
    (hd : ∀ (acc : List S97) r, acc.length < 5864062014805 → Ends (fun k => if (rest s e).toList = ([] : List UInt8) then (some (acc ++ [(⟨w, q⟩ : S97)], true)) else (if 0 < ((rest s e).size : Int) then (if (bt (rest s e) 0) = 32 then (if 1 ≤ ((rest s e).size : Int) then (desk_words.l0 k ((rest s e).extract 1 (rest s e).size) (acc ++ [(⟨w, q⟩ : S97)])) else (none)) else (some (([] : List (S97)), false))) else (none))) r → Ends (fun k => desk_words.l0 k (rest s p) acc) r)
    (hr : Ends (fun k => signetref30_word.f k s (p : Int)) (w, ((e - p : Nat) : Int), q)) : OneWord s p := by
  have hsz := @rest_size s e
  by_cases h : e = s.size
  · subst h
    refine .ends w q hp (fun acc ha => hd acc _ ha (Ends.now 0 fun k => ?_)) hr
    rw [if_pos ((nil_iff _).2 (by omega))]
  · have hn : ¬ (rest s e).toList = ([] : List UInt8) := fun hh => by have := (nil_iff _).1 hh; omega
    have hb0 : bt (rest s e) 0 = bt s (e : Int) := by have := @rest_bt s e 0; simpa using this
    by_cases hb : bt s (e : Int) = 32
    · refine .goes w q e hp (by omega) hb (fun acc r ha hh => hd acc r ha (hh.step 0 fun k hk => ?_)) hr
      simp only [Nat.add_zero]
      rw [if_neg hn, if_pos (by omega), hb0, if_pos hb, if_pos (by omega), rest_rest]
      exact hk
    · refine .stops w q e hp (by omega) hb (fun acc ha => hd acc _ ha (Ends.now 0 fun k => ?_)) hr
      rw [if_neg hn, if_pos (by omega), hb0, if_neg hb]

theorem one_word (s : ByteArray) (hs : s.size ≤ 1099511627776) (p : Nat) (hp : p ≤ s.size) : OneWord s p := by
  have hsz := @rest_size s p
  by_cases hend : p = s.size
  · -- nothing is left
    obtain ⟨e, h1, h2, _, h4, _⟩ := plain_both s hs p 0 0 (by omega) (by omega)
    obtain rfl : e = p := by omega
    refine .fails false (fun acc => h4.step 1 fun k hk => ?_) (Ends.now 0 fun k => ?_)
    · simp only [desk_words.l0]
      rw [if_pos ((nil_iff _).2 (by omega))]
      simp only [desk_plain.f]
      simp only [Int.cast_ofNat_Int] at hk
      rw [hk]
      simp
    · unfold signetref30_word.f
      rw [if_pos (by omega)]
  have hlt : p < s.size := by omega
  have hn : ¬ (rest s p).toList = ([] : List UInt8) := fun hh => by have := (nil_iff _).1 hh; omega
  have hb0 : bt (rest s p) 0 = bt s (p : Int) := by have := @rest_bt s p 0; simpa using this
  by_cases hq : bt s (p : Int) = 34
  · -- a quoted word
    have e1 : ((p : Int) + 1) = ((p + 1 : Nat) : Int) := by omega
    have ref : ∀ r, Ends (fun k => signetref30_word.l1 k s (p : Int) [] ((p + 1 : Nat) : Int)) r → Ends (fun k => signetref30_word.f k s (p : Int)) r := fun r hr => hr.step 0 fun k hk => by
      simp only [Nat.add_zero]
      unfold signetref30_word.f
      rw [if_neg (by omega), if_pos (by omega), if_pos (by omega), if_pos hq, w64 (by omega) (by omega), e1]
      exact hk
    rcases quoted_both s hs p (s.size - p) 1 [] (by omega) (by omega) (by simp) with ⟨q1, q2⟩ | ⟨e, out, q1, q2, q3, q4⟩
    · refine .fails false (fun acc => q1.step 1 fun k hk => ?_) (ref _ q2)
      simp only [desk_words.l0]
      rw [if_neg hn, if_pos (by omega), hb0, if_pos hq]
      simp only [desk_quoted.f]
      simp only [Int.cast_ofNat_Int] at hk
      rw [hk]
      simp
    · refine behind s p e (strOfNums out) true (by omega) q2 (fun acc r ha hh => ?_) (ref _ q4)
      obtain ⟨K, hK⟩ := q3
      obtain ⟨L, hL⟩ := hh
      refine ⟨K + L + 1, fun k hk => ?_⟩
      obtain ⟨m, rfl⟩ : ∃ m, k = m + 1 := ⟨k - 1, by omega⟩
      have a1 := hK m (by omega)
      have a2 := hL m (by omega)
      simp only [desk_words.l0]
      rw [if_neg hn, if_pos (by omega), hb0, if_pos hq]
      simp only [desk_quoted.f]
      simp only [Int.cast_ofNat_Int] at a1
      rw [a1]
      simp only [Option.bind_some, if_true]
      rw [if_pos ha]
      exact a2
  · -- a plain word
    obtain ⟨e, h1, h2, _, h4, h5⟩ := plain_both s hs p (s.size - p) 0 (by omega) (by omega)
    have ref : Ends (fun k => signetref30_word.f k s (p : Int)) (s.extract p e, ((e - p : Nat) : Int), false) := h5.step 0 fun k hk => by
      simp only [Nat.add_zero] at hk ⊢
      unfold signetref30_word.f
      rw [if_neg (by omega), if_pos (by omega), if_pos (by omega), if_neg hq]
      exact hk
    by_cases h0 : p < e
    · refine behind s p e (s.extract p e) false h0 h2 (fun acc r ha hh => ?_) ref
      obtain ⟨K, hK⟩ := h4
      obtain ⟨L, hL⟩ := hh
      refine ⟨K + L + 1, fun k hk => ?_⟩
      obtain ⟨m, rfl⟩ : ∃ m, k = m + 1 := ⟨k - 1, by omega⟩
      have a1 := hK m (by omega)
      have a2 := hL m (by omega)
      simp only [desk_words.l0]
      rw [if_neg hn, if_pos (by omega), hb0, if_neg hq]
      simp only [desk_plain.f]
      simp only [Int.cast_ofNat_Int, decide_eq_true h0] at a1
      rw [a1]
      simp only [Option.bind_some, if_true]
      rw [if_pos ha]
      exact a2
    · obtain rfl : e = p := by omega
      have ex : s.extract e e = ⟨#[]⟩ := by
        refine _root_.ByteArray.ext ?_
        simp
      refine .fails false (fun acc => h4.step 1 fun k hk => ?_) (by rw [ex] at ref; simpa using ref)
      simp only [desk_words.l0]
      rw [if_neg hn, if_pos (by omega), hb0, if_neg hq]
      simp only [desk_plain.f]
      simp only [Int.cast_ofNat_Int] at hk
      rw [hk]
      simp

/-! ### all words -/
theorem split_both (s : ByteArray) (hs : s.size ≤ 1099511627776) (d : Nat) : ∀ p (acc : List S97) (l : List ByteArray) (q : List Bool), p ≤ s.size → s.size - p ≤ d → acc.map S97.f0 = l → acc.length ≤ p → q.length = acc.length →
    ∃ (L : List S97) (Q : List Bool) (ok : Bool), L.length ≤ s.size + 1 ∧ Ends (fun k => desk_words.l0 k (rest s p) acc) (L, ok) ∧ Ends (fun k => signetref30_split.l0 k s l q (p : Int)) (L.map S97.f0, Q, ok) := by
  induction d with
  | zero =>
    intro p acc l q hp hd hl ha hq
    rcases one_word s hs p hp with ⟨qq, hd', hr⟩ | ⟨w, qq, hp', _, _⟩ | ⟨w, qq, e, hp', he, _, _, _⟩ | ⟨w, qq, e, hp', he, _, _, _⟩ <;> try omega
    refine ⟨[], [], false, by simp, hd' acc, hr.step 1 fun k hk => ?_⟩
    simp only [signetref30_split.l0]
    rw [hk]
    simp
  | succ d ih =>
    intro p acc l q hp hd hl ha hq
    have hll : l.length = acc.length := by rw [← hl]; simp
    have hA : acc.length < 5864062014805 := by omega
    have hB : l.length < 8796093022208 := by omega
    have hC : q.length < 140737488355328 := by omega
    rcases one_word s hs p hp with ⟨qq, hd', hr⟩ | ⟨w, qq, hp', hd', hr⟩ | ⟨w, qq, e, hp', he, hb, hd', hr⟩ | ⟨w, qq, e, hp', he, hb, hd', hr⟩
    · refine ⟨[], [], false, by simp, hd' acc, hr.step 1 fun k hk => ?_⟩
      simp only [signetref30_split.l0]
      rw [hk]
      simp
    · refine ⟨acc ++ [⟨w, qq⟩], q ++ [qq], true, by simp; omega, hd' acc hA, hr.step 1 fun k hk => ?_⟩
      simp only [signetref30_split.l0]
      rw [hk]
      simp only [Option.bind_some]
      rw [if_neg (by omega), if_pos hB]
      rw [if_pos hC]
      rw [w64 (by omega) (by omega), if_pos (by omega)]
      simp [hl]
    · refine ⟨[], [], false, by simp, hd' acc hA, hr.step 1 fun k hk => ?_⟩
      simp only [signetref30_split.l0]
      rw [hk]
      simp only [Option.bind_some]
      rw [if_neg (by omega), if_pos hB]
      rw [if_pos hC]
      rw [w64 (by omega) (by omega), if_neg (by omega), if_pos (by omega), if_pos (by omega)]
      rw [show (p : Int) + ((e - p : Nat) : Int) = (e : Int) from by omega, if_neg hb]
      simp
    · obtain ⟨L, Q, ok, hlen, h1, h2⟩ := ih (e + 1) (acc ++ [⟨w, qq⟩]) (l ++ [w]) (q ++ [qq]) (by omega) (by omega) (by simp [hl]) (by simp; omega) (by simp; omega)
      refine ⟨L, Q, ok, hlen, hd' acc _ hA h1, ?_⟩
      obtain ⟨K, hK⟩ := hr
      obtain ⟨M, hM⟩ := h2
      refine ⟨K + M + 1, fun k hk => ?_⟩
      obtain ⟨m, rfl⟩ : ∃ m, k = m + 1 := ⟨k - 1, by omega⟩
      have a1 : signetref30_word.f m s (p : Int) = some (w, ((e - p : Nat) : Int), qq) := hK m (by omega)
      have a2 := hM m (by omega)
      simp only [signetref30_split.l0]
      rw [a1]
      simp only [Option.bind_some]
      rw [if_neg (by omega), if_pos hB]
      rw [if_pos hC]
      rw [w64 (x := (p : Int) + ((e - p : Nat) : Int)) (by omega) (by omega), if_neg (by omega), if_pos (by omega), if_pos (by omega)]
      rw [show (p : Int) + ((e - p : Nat) : Int) = (e : Int) from by omega, if_pos hb, w64 (by omega) (by omega)]
      exact a2

/-! ### the texts of the words -/
theorem copies (x5 : Bool) (L : List S97) (hL : L.length ≤ 1099511627777) (d : Nat) : ∀ (i : Nat) (acc : List ByteArray), i ≤ L.length → L.length - i = d → acc.length = i →
    Ends (fun k => desk_Words.l0 k x5 acc L (L.length : Int) (i : Int)) (acc ++ (L.drop i).map S97.f0, x5) := by
  induction d with
  | zero =>
    intro i acc hi hd ha
    refine Ends.now 1 fun k => ?_
    simp only [desk_Words.l0]
    rw [if_neg (by omega), List.drop_eq_nil_of_le (by omega)]
    simp
  | succ d ih =>
    intro i acc hi hd ha
    refine (ih (i + 1) (acc ++ [(rd_T97 L (i : Int)).f0]) (by omega) (by omega) (by simp; omega)).step 1 fun k hk => ?_
    simp only [desk_Words.l0]
    rw [if_pos (by omega), if_pos (by omega), if_pos (by omega), if_pos (by omega), w64 (by omega) (by omega)]
    have e : acc ++ [(rd_T97 L (i : Int)).f0] ++ (L.drop (i + 1)).map S97.f0 = acc ++ (L.drop i).map S97.f0 := by
      have hlt : i < L.length := by omega
      rw [List.append_assoc, List.drop_eq_getElem_cons hlt]
      simp only [List.map_cons, List.cons_append, List.nil_append, rd_T97, Int.toNat_natCast, List.getD_eq_getElem?_getD, List.getElem?_eq_getElem hlt, Option.getD_some]
    rw [e] at hk
    exact hk

theorem same_words (A : List ByteArray) (hA : A.length ≤ 1099511627777) (d : Nat) : ∀ i : Nat, i ≤ A.length → A.length - i = d → Ends (fun k => signetlaw30_DeskWords.l0 k A A (A.length : Int) (i : Int)) true := by
  induction d with
  | zero =>
    intro i hi hd
    refine Ends.now 1 fun k => ?_
    simp only [signetlaw30_DeskWords.l0]
    rw [if_neg (by omega)]
  | succ d ih =>
    intro i hi hd
    refine (ih (i + 1) (by omega) (by omega)).step 1 fun k hk => ?_
    simp only [signetlaw30_DeskWords.l0]
    rw [if_pos (by omega), if_pos (by omega), if_pos (by omega), if_pos (by omega), if_pos trivial, w64 (by omega) (by omega)]
    exact hk

theorem awake_true : ∀ k, 50 ≤ k → signetlaw30_awake.f k = some true := by
  have h : signetlaw30_awake.f 50 = some true := by decide +kernel
  exact fun k hk => at_rounds signetlaw30_awake.mono hk h

/-- THE LAW, for a line of at most 2 to the 40 bytes. -/
theorem deskWords (s : ByteArray) (hs : s.size ≤ 1099511627776) : ∃ k, signetlaw30_DeskWords.f k s = some true := by
  obtain ⟨L, Q, ok, hlen, h1, h2⟩ := split_both s hs s.size 0 [] [] [] (by omega) (by omega) rfl (by simp) rfl
  obtain ⟨K, hK⟩ := h1
  obtain ⟨M, hM⟩ := h2
  obtain ⟨N, hN⟩ := copies ok L (by omega) L.length 0 [] (by omega) (by omega) rfl
  obtain ⟨R, hR⟩ := same_words (L.map S97.f0) (by simp; omega) L.length 0 (by omega) (by simp)
  refine ⟨K + M + N + R + 51, ?_⟩
  have a1 := hK (K + M + N + R + 51) (by omega)
  have a2 := hM (K + M + N + R + 51) (by omega)
  have a3 := hN (K + M + N + R + 51) (by omega)
  have a4 := hR (K + M + N + R + 50) (by omega)
  simp only [rest_all, Int.cast_ofNat_Int, List.nil_append, List.drop_zero] at a1 a2 a3 a4
  unfold signetlaw30_DeskWords.f desk_Words.f desk_words.f signetref30_Words.f signetref30_split.f
  rw [a1]
  simp only [Option.bind_some]
  rw [a3, a2, awake_true _ (by omega)]
  simp only [Option.bind_some, if_true, bne_self_eq_false, Bool.false_eq_true, if_false]
  simp only [signetlaw30_DeskWords.j0, Bool.false_eq_true, if_false]
  exact a4

end Go.Proofs.Ytlflocejgffjdaa.Pure
