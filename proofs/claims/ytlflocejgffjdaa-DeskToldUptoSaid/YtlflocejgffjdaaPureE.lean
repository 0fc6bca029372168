/-
  Plain law of DeskTold: the words of a text that was told are that text alone; condition: the text is at most 2 to the 36 bytes long.
-/
import Derived.Test.YtlflocejgffjdaaPureD
namespace Go.Proofs.Ytlflocejgffjdaa.Pure
open Go.RowKit Go.Proofs.Ytlflocejgffjdaa.QD Go.Proofs.YtlflocejgffjdaaW.PrintWords Go.Proofs.YtlflocejgffjdaaW.PrintLast

/-- from place j on, the text t reads xs, and ends there -/
def Tail (t : ByteArray) (j : Nat) (xs : List Int) : Prop := t.size = j + xs.length ∧ ∀ m (h : m < xs.length), bt t ((j + m : Nat) : Int) = xs[m]
theorem Tail.head {t : ByteArray} {j : Nat} {x : Int} {xs : List Int} (h : Tail t j (x :: xs)) : bt t (j : Int) = x := by
  have := h.2 0 (by simp)
  simpa using this
theorem Tail.next {t : ByteArray} {j : Nat} {x : Int} {xs : List Int} (h : Tail t j (x :: xs)) : Tail t (j + 1) xs := by
  refine ⟨by have := h.1; simp at this; omega, fun m hm => ?_⟩
  have := h.2 (m + 1) (by simp; omega)
  simp only [List.getElem_cons_succ] at this
  rw [← this]
  congr 2; omega

/-- A plain byte of a quoted word. -/
theorem plain_step (t : ByteArray) (hs : t.size ≤ 1099511627776) (j : Nat) (hj : j < t.size) (c : Int) (hc : bt t (j : Int) = c) (n1 : c ≠ 34) (n2 : c ≠ 92) (n3 : 32 ≤ c ∧ c ≤ 126) (acc : List Int) (ha : acc.length ≤ t.size)
    (r : ByteArray × ByteArray × Bool) (h : Ends (fun k => desk_quoted.l0 k t (acc ++ [c]) ((j + 1 : Nat) : Int)) r) : Ends (fun k => desk_quoted.l0 k t acc (j : Int)) r := by
  refine h.step 2 fun k hk => ?_
  simp only [desk_quoted.l0, desk_quoted.j1]
  rw [if_pos (by omega), if_pos (by omega), hc, if_neg n1, if_neg (by omega), if_neg (by simp; omega), if_neg n2, if_pos (by omega), w64 (by omega) (by omega)]
  exact hk

theorem hexd_all : ∀ n : Fin 16, hexv (hexd n.val) = n.val ∧ hexd n.val ≠ 34 := by decide +kernel
theorem hexd_hexv {n : Int} (h0 : 0 ≤ n) (h1 : n < 16) : hexv (hexd n) = n := by
  obtain ⟨m, rfl⟩ := Int.eq_ofNat_of_zero_le h0
  exact (hexd_all ⟨m, by omega⟩).1

/-- One byte, told, and read again. -/
theorem told_step (t : ByteArray) (hs : t.size ≤ 1099511627776) (j : Nat) (c : Int) (h0 : 0 ≤ c) (h1 : c ≤ 255) (ys : List Int) (hys : 1 ≤ ys.length) (ht : Tail t j (told1 c ++ ys)) (acc : List Int) (ha : acc.length ≤ t.size)
    (r : ByteArray × ByteArray × Bool) (h : Tail t (j + (told1 c).length) ys → Ends (fun k => desk_quoted.l0 k t (acc ++ [c]) ((j + (told1 c).length : Nat) : Int)) r) : Ends (fun k => desk_quoted.l0 k t acc (j : Int)) r := by
  have esc2 : ∀ (b v : Int), told1 c = [92, b] → (∀ i, i < t.size → bt t (i : Nat) = b → escv t i = (v, 1)) → v = c → Ends (fun k => desk_quoted.l0 k t acc (j : Int)) r := by
    intro b v e ev hv
    rw [e] at ht h
    have t1 := ht
    have s0 := t1.1
    have hb0 := Tail.head t1
    have t2 := Tail.next t1
    have hb1 := Tail.head t2
    have t3 := Tail.next t2
    simp only [List.cons_append, List.nil_append, List.length_cons] at s0
    have ee := ev (j + 1) (by omega) hb1
    refine esc_desk t hs j (by omega) hb0 acc ha r (fun z => ?_) (fun _ => ?_)
    · rw [ee] at z; exact absurd z (by simp)
    · rw [ee]
      simp only
      rw [hv]
      exact h t3
  by_cases a1 : c = 34 ∨ c = 92
  · refine esc2 c c (by unfold told1; rw [if_pos a1]) (fun i hi hb => ?_) rfl
    unfold escv
    rw [if_neg (by omega), hb, if_pos a1]
  by_cases a2 : 32 ≤ c ∧ c ≤ 126
  · have e : told1 c = [c] := by unfold told1; rw [if_neg a1, if_pos a2]
    rw [e] at ht h
    have s0 := ht.1
    simp only [List.cons_append, List.nil_append, List.length_cons] at s0
    exact plain_step t hs j (by omega) c (Tail.head ht) (fun hh => a1 (.inl hh)) (fun hh => a1 (.inr hh)) a2 acc ha r (h (Tail.next ht))
  by_cases b1 : c = 10
  · refine esc2 110 10 (by unfold told1; rw [if_neg a1, if_neg a2, if_pos b1]) (fun i hi hb => ?_) b1.symm
    unfold escv
    rw [if_neg (by omega), hb]
    rfl
  by_cases b2 : c = 13
  · refine esc2 114 13 (by unfold told1; rw [if_neg a1, if_neg a2, if_neg b1, if_pos b2]) (fun i hi hb => ?_) b2.symm
    unfold escv
    rw [if_neg (by omega), hb]
    rfl
  by_cases b3 : c = 9
  · refine esc2 116 9 (by unfold told1; rw [if_neg a1, if_neg a2, if_neg b1, if_neg b2, if_pos b3]) (fun i hi hb => ?_) b3.symm
    unfold escv
    rw [if_neg (by omega), hb]
    rfl
  have e : told1 c = [92, 120, hexd (c / 16), hexd (c % 16)] := by unfold told1; rw [if_neg a1, if_neg a2, if_neg b1, if_neg b2, if_neg b3]
  rw [e] at ht h
  have t1 := ht
  have s0 := t1.1
  have q0 := Tail.head t1
  have t2 := Tail.next t1
  have q1 := Tail.head t2
  have t3 := Tail.next t2
  have q2 := Tail.head t3
  have t4 := Tail.next t3
  have q3 := Tail.head t4
  have t5 := Tail.next t4
  simp only [List.cons_append, List.nil_append, List.length_cons] at s0
  have g1 := hexd_hexv (n := c / 16) (by omega) (by omega)
  have g2 := hexd_hexv (n := c % 16) (by omega) (by omega)
  have ee : escv t (j + 1) = (c, 3) := by
    unfold escv
    rw [if_neg (by omega), q1]
    simp only [Int.reduceEq, or_self, if_false]
    rw [show j + 1 + 1 = j + 2 from rfl] at q2
    rw [show (j + 1 + 1 : Nat) = j + 2 from rfl, show (j + 1 + 2 : Nat) = j + 3 from rfl, q2, show bt t ((j + 3 : Nat) : Int) = hexd (c % 16) from q3, g1, g2, if_pos ⟨trivial, by omega, by omega, by omega⟩]
    congr 1; omega
  refine esc_desk t hs j (by omega) q0 acc ha r (fun z => ?_) (fun _ => ?_)
  · rw [ee] at z; exact absurd z (by simp)
  · rw [ee]
    exact h t5

/-- the bytes from place i on -/
def numsFrom (s : ByteArray) : Nat → Nat → List Int
  | 0, _ => []
  | d + 1, i => bt s (i : Nat) :: numsFrom s d (i + 1)
theorem numsFrom_len (s : ByteArray) : ∀ d i, (numsFrom s d i).length = d
  | 0, _ => rfl
  | d + 1, i => by simp [numsFrom, numsFrom_len s d (i + 1)]
theorem numsFrom_get (s : ByteArray) : ∀ d i m (h : m < (numsFrom s d i).length), (numsFrom s d i)[m] = bt s ((i + m : Nat) : Int)
  | 0, _, _, h => by simp [numsFrom] at h
  | d + 1, i, 0, _ => by simp [numsFrom]
  | d + 1, i, m + 1, h => by
    simp only [numsFrom, List.getElem_cons_succ]
    rw [numsFrom_get s d (i + 1) m]
    congr 2; omega
theorem nums_back (s : ByteArray) : strOfNums (numsFrom s s.size 0) = s := by
  have hl := numsFrom_len s s.size 0
  refine _root_.ByteArray.ext ?_
  refine Array.ext (by simp [strOfNums, hl]) fun i h1 h2 => ?_
  have h3 : i < s.size := h2
  simp only [strOfNums, List.getElem_toArray, List.getElem_map]
  rw [numsFrom_get]
  simp only [bt, Nat.zero_add, Int.toNat_natCast, dif_pos h3]
  simp
  rfl

/-- All of a told text, read again. -/
theorem told_again (s t : ByteArray) (hs : t.size ≤ 1099511627776) (d : Nat) : ∀ (i j : Nat) (acc : List Int), Tail t j (toldFrom s d i ++ [34]) → acc.length + d ≤ t.size →
    Ends (fun k => desk_quoted.l0 k t acc (j : Int)) (strOfNums (acc ++ numsFrom s d i), ⟨#[]⟩, true) := by
  induction d with
  | zero =>
    intro i j acc ht ha
    simp only [toldFrom, List.nil_append] at ht
    have s0 := ht.1
    have q := Tail.head ht
    simp at s0
    refine Ends.now 1 fun k => ?_
    simp only [desk_quoted.l0, numsFrom, List.append_nil]
    rw [if_pos (by omega), if_pos (by omega), q, if_pos rfl, w64 (by omega) (by omega), if_pos (by omega), if_pos (by omega)]
    have e : t.extract (((j : Int) + 1).toNat) t.size = ⟨#[]⟩ := by
      refine _root_.ByteArray.ext ?_
      have : t.data.size = t.size := rfl
      simp; omega
    rw [e]
  | succ d ih =>
    intro i j acc ht ha
    simp only [toldFrom, List.append_assoc] at ht
    have rg := bt_range s (i : Int)
    refine told_step t hs j (bt s (i : Nat)) rg.1 rg.2 (toldFrom s d (i + 1) ++ [34]) (by simp) ht acc (by omega) _ (fun ht' => ?_)
    have := ih (i + 1) _ (acc ++ [bt s (i : Nat)]) ht' (by simp; omega)
    simpa [numsFrom] using this

theorem toldFrom_range (s : ByteArray) : ∀ d i, ∀ x ∈ toldFrom s d i, 0 ≤ x ∧ x ≤ 255
  | 0, _ => by simp [toldFrom]
  | d + 1, i => by
    intro x hx
    simp only [toldFrom, List.mem_append] at hx
    rcases hx with hx | hx
    · have rg := bt_range s (i : Int)
      have h1 := bt_range (⟨#[48, 49, 50, 51, 52, 53, 54, 55, 56, 57, 97, 98, 99, 100, 101, 102]⟩ : ByteArray) (bt s (i : Nat) / 16)
      have h2 := bt_range (⟨#[48, 49, 50, 51, 52, 53, 54, 55, 56, 57, 97, 98, 99, 100, 101, 102]⟩ : ByteArray) (bt s (i : Nat) % 16)
      unfold told1 hexd at hx
      split at hx
      · simp at hx; omega
      split at hx
      · simp at hx; omega
      split at hx
      · simp at hx; omega
      split at hx
      · simp at hx; omega
      split at hx
      · simp at hx; omega
      · simp at hx; omega
    · exact toldFrom_range s d (i + 1) x hx

theorem told_tail (s : ByteArray) : bt (toldB s) 0 = 34 ∧ Tail (toldB s) 1 (toldFrom s s.size 0 ++ [34]) ∧ (toldB s).size = (toldFrom s s.size 0).length + 2 := by
  have hsz : (toldB s).size = (toldFrom s s.size 0).length + 2 := by
    unfold toldB
    rw [strOfNums_size]; simp
  have get : ∀ m (h : m < ([34] ++ toldFrom s s.size 0 ++ [34] : List Int).length), bt (toldB s) ((m : Nat) : Int) = ([34] ++ toldFrom s s.size 0 ++ [34] : List Int)[m] := by
    intro m h
    have hr : ∀ x ∈ ([34] ++ toldFrom s s.size 0 ++ [34] : List Int), 0 ≤ x ∧ x ≤ 255 := by
      intro x hx
      simp only [List.mem_append, List.mem_singleton] at hx
      rcases hx with (hx | hx) | hx
      · omega
      · exact toldFrom_range s _ _ x hx
      · omega
    exact bt_strOfNums _ m h (hr _ (List.getElem_mem h)).1 (hr _ (List.getElem_mem h)).2
  refine ⟨?_, ⟨by rw [hsz]; simp; omega, fun m hm => ?_⟩, hsz⟩
  · have := get 0 (by simp)
    simpa using this
  · have := get (m + 1) (by simp at hm ⊢; omega)
    rw [show 1 + m = m + 1 from by omega, this]
    simp [List.getElem_cons_succ]

/-- THE LAW, for a text of at most 2 to the 36 bytes. -/
theorem deskTold (s : ByteArray) (hs : s.size ≤ 68719476736) : ∃ k, signetlaw30_DeskTold.f k s = some true := by
  obtain ⟨⟨K, hK⟩, ⟨M, hM⟩⟩ := told_both s hs
  obtain ⟨hb0, htl, hsz⟩ := told_tail s
  have hlen := toldFrom_len s s.size 0
  have hlo : s.size ≤ (toldFrom s s.size 0).length := by
    have : ∀ d i, d ≤ (toldFrom s d i).length := by
      intro d
      induction d with
      | zero => simp
      | succ d ih => intro i; have := ih (i + 1); have := (told1_len (bt s (i : Nat))).1; simp [toldFrom]; omega
    exact this _ _
  have hq := told_again s (toldB s) (by omega) s.size 0 1 [] htl (by simp; omega)
  rw [List.nil_append, nums_back] at hq
  obtain ⟨N, hN⟩ := hq
  obtain ⟨R, hR⟩ := copies true [⟨s, true⟩] (by simp) 1 0 [] (by simp) (by simp) rfl
  refine ⟨K + M + N + R + 60, ?_⟩
  have a1 : desk_Told.f (K + M + N + R + 60) s = some (toldB s) := hK _ (by omega)
  have a2 : signetref30_Told.f (K + M + N + R + 60) s = some (toldB s) := hM _ (by omega)
  have a3 : desk_quoted.l0 (K + M + N + R + 59) (toldB s) [] 1 = some (s, ⟨#[]⟩, true) := hN _ (by omega)
  have a4 : desk_Words.l0 (K + M + N + R + 60) true [] [⟨s, true⟩] 1 0 = some ([s], true) := hR _ (by omega)
  have w1 : ∀ X, desk_quoted.l0 X (toldB s) [] 1 = some (s, ⟨#[]⟩, true) → desk_words.l0 (X + 1) (toldB s) [] = some ([⟨s, true⟩], true) := by
    intro X a3
    simp only [desk_words.l0]
    rw [if_neg (fun hh => by have := (nil_iff _).1 hh; omega), if_pos (by omega), hb0, if_pos rfl]
    simp only [desk_quoted.f]
    rw [a3]
    simp only [Option.bind_some, if_true]
    rw [if_pos (by simp), if_pos ((nil_iff _).2 rfl)]
    rfl
  have w : desk_words.l0 (K + M + N + R + 60) (toldB s) [] = some ([⟨s, true⟩], true) := w1 _ a3
  unfold signetlaw30_DeskTold.f desk_Words.f desk_words.f
  rw [a1]
  simp only [Option.bind_some]
  rw [w]
  simp only [Option.bind_some]
  have a5 : desk_Words.l0 (K + M + N + R + 60) true [] [⟨s, true⟩] ((([⟨s, true⟩] : List S97).length : Nat) : Int) 0 = some ([s], true) := a4
  rw [a5, awake_true _ (by omega)]
  simp only [Option.bind_some, if_true]
  rw [a2]
  simp [rdOf]

end Go.Proofs.Ytlflocejgffjdaa.Pure
