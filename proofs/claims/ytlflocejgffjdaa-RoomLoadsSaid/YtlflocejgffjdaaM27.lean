/-
  From the evaluator to a statement: arguments that lie in memory, and that they read as they did. No statement of the seat is proved here; no condition.
-/
import Derived.Test.YtlflocejgffjdaaM25
import Derived.ChangeStays
import Derived.ChangeOld
import Derived.Deep.Slices
import Derived.ReadAgain
namespace Go.Mini
open Go.RowKit

variable {P : Program}

/-! ### arguments read again -/
theorem again {H : Type} {enc : TypeId × Value → H} {W W' : World} (K : Kids P (· < P.types.size)) (hz : ∀ t e, t < P.types.size → P.underlying t = some (.slice e) → 0 < P.cellsOf e) (bel : _root_.Go.RowKit.Below W.heap.size W W') :
    ∀ {ts : List TypeId} {vs : List Value} {ds : List (DataW H)} {p : List MemPlace}, (∀ t ∈ ts, t < P.types.size) → DataW.TrodAll enc P W 0 (fun _ => true) true ts vs ds p → DataW.TrodAll enc P W' 0 (fun b => decide (b < W.heap.size)) true ts vs ds p
  | [], [], [], _, _, h => h
  | t :: ts, v :: vs, d :: ds, p, hT, h => by
    have hlt := DataW.TrodAll.lt h
    obtain ⟨p1, p2, ⟨n, h1⟩, h2, e⟩ := h
    refine ⟨p1, p2, ⟨n, ?_⟩, again K hz bel (fun t ht => hT t (List.mem_cons_of_mem _ ht)) h2, e⟩
    exact DataW.trod_stays K (fun {t e} a b => hz t e a b) (fun h => by cases h) (hT t (List.mem_cons_self ..)) h1 (fun x hx => bel.same (hlt x (by rw [e]; exact List.mem_append_left _ hx))) (fun x hx => decide_eq_true (hlt x (by rw [e]; exact List.mem_append_left _ hx)))

/-! ### the memory that a law finds -/
structure InRow where
  blk : Nat
  off : Nat
  cells : List Value
  elem : TypeId
def memIn : List InRow → Nat → Mem → Mem
  | [], _, μ => μ
  | r :: rs, n, μ => memIn rs (n + 1) ⟨μ.hp.set n (some (.row r.cells r.elem false)), n + 1⟩
def emIn (R : List InRow) : Em := ⟨fun n => (R[n]?.map (·.blk)).getD 0, fun n => (R[n]?.map (·.off)).getD 0, fun _ => 0, R.length⟩
theorem memIn_next : ∀ (R : List InRow) (n : Nat) (μ : Mem), μ.next = n → (memIn R n μ).next = n + R.length
  | [], n, μ, h => by simpa [memIn] using h
  | r :: R, n, μ, h => by
    rw [memIn, memIn_next R (n + 1) _ rfl]
    simp; omega
theorem memIn_at : ∀ (R : List InRow) (n : Nat) (μ : Mem) (k : Nat), (memIn R n μ).at k = if n ≤ k then (match R[k - n]? with
    | some r => some (.row r.cells r.elem false)
    | none => μ.at k) else μ.at k
  | [], n, μ, k => by
    simp [memIn]
  | r :: R, n, μ, k => by
    rw [memIn, memIn_at R (n + 1)]
    have e : (⟨μ.hp.set n (some (.row r.cells r.elem false)), n + 1⟩ : Mem).at k = if n = k then some (.row r.cells r.elem false) else μ.at k := Hp.get_set μ.hp n k (some (.row r.cells r.elem false))
    by_cases h1 : n + 1 ≤ k
    · rw [if_pos h1, if_pos (by omega), show k - n = (k - (n + 1)) + 1 by omega, List.getElem?_cons_succ]
      cases R[k - (n + 1)]? with
      | some r => rfl
      | none => dsimp only; rw [e, if_neg (by omega)]
    · rw [if_neg h1, e]
      by_cases h2 : n = k
      · subst h2
        rw [if_pos rfl, if_pos (Nat.le_refl _), Nat.sub_self]
        rfl
      · rw [if_neg h2, if_neg (by omega)]
/-- what a law finds -/
def memOf (R : List InRow) : Mem := memIn R 0 mem0
theorem memOf_next (R : List InRow) : (memOf R).next = R.length := by
  rw [memOf, memIn_next R 0 mem0 rfl, Nat.zero_add]
theorem memOf_at (R : List InRow) (k : Nat) : (memOf R).at k = match R[k]? with
    | some r => some (.row r.cells r.elem false)
    | none => none := by
  rw [memOf, memIn_at R 0 mem0 k, if_pos (Nat.zero_le _), Nat.sub_zero]
  cases R[k]? with
  | some r => rfl
  | none => exact Go.Mini.get_nil k
theorem okIn (w : World) (R : List InRow) (hR : ∀ r ∈ R, r.blk < w.heap.size ∧ w.rangeAt r.blk r.off r.cells ∧ r.cells.all plain = true) : Ok P (emIn R) (fun k => w.heap.size ≤ k) (memOf R) w := by
  have hget : ∀ n o, (memOf R).hp.get n = some o → ∃ r, R[n]? = some r ∧ o = .row r.cells r.elem false := fun n o h => by
    have := memOf_at R n
    unfold Mem.at at this
    rw [h] at this
    cases hr : R[n]? with
    | none => rw [hr] at this; cases this
    | some r => rw [hr] at this; injection this with this; exact ⟨r, rfl, this⟩
  refine ⟨(memOf_next R).symm, fun _ h => h, ?_, ?_, ?_, ?_, ?_⟩
  · intro n o h
    obtain ⟨r, hr, _⟩ := hget n o h
    exact (List.getElem?_eq_some_iff.1 hr).1
  · intro n hn
    have hn' : n < R.length := hn
    have := (hR R[n] (List.getElem_mem hn')).1
    simpa [emIn, List.getElem?_eq_getElem hn'] using this
  · intro n cells e own h
    obtain ⟨r, hr, ho⟩ := hget n _ h
    injection ho with h1 h2 h3
    subst h1 h2 h3
    obtain ⟨q1, q2, q3⟩ := hR r (List.mem_of_getElem? hr)
    refine ⟨⟨r.cells, all2_plain q3, ?_⟩, (fun h => by cases h), fun _ => ?_⟩
    · simpa [emIn, hr] using q2
    · simpa [emIn, hr] using q1
  · intro n es h
    obtain ⟨r, hr, ho⟩ := hget n _ h
    cases ho
  · intro n n2 o o2 h ho
    obtain ⟨r, hr, he⟩ := hget n o h
    subst he
    cases ho
/-- a slice that came in, told by its row's number -/
theorem sliceIn {R : List InRow} {i : Nat} {r : InRow} (hr : R[i]? = some r) {l c : Nat} (hlc : l ≤ c) (hc : c ≤ maxLen) : VR (emIn R) (.slice (some ⟨i, 0, none⟩) l c) (.slice (some ⟨r.blk, r.off, none⟩) l c) := by
  have hlt := (List.getElem?_eq_some_iff.1 hr).1
  refine ⟨rfl, hlt, c, hlc, hc, fun _ => rfl, ?_⟩
  by_cases hlo : loose l c
  · exact .inl ⟨hlo, _, by rw [hlo.1]⟩
  · refine .inr ⟨hlo, fun hh => absurd hh (INF_big hc), ?_⟩
    simp [emIn, hr]

/-! ### a slice of an argument, taken apart -/
section
variable {H : Type} {enc : TypeId × Value → H} {w : World}
theorem slice_has {t e : TypeId} (ht : P.underlying t = some (.slice e)) {b0 : Nat} {a : Addr} {l c : Nat} (h : Value.okWide P w .any b0 t (.slice (some a) l c)) : a.spot = none ∧ a.block < w.heap.size := by
  unfold Value.okWide at h
  rw [ht] at h
  dsimp only at h
  unfold Cell.okWide at h
  rw [ht] at h
  dsimp only at h
  unfold Cell.ok at h
  rw [ht] at h
  dsimp only at h
  obtain ⟨_, _, _, h2, row, cells, h3, _⟩ := h
  refine ⟨h2, ?_⟩
  unfold World.shape? at h3
  cases hh : w.heap[a.block]? with
  | none => rw [hh] at h3; cases h3
  | some o => exact (Array.getElem?_eq_some_iff.1 hh).1
/-- A slice of rows of plain cells: what its cells are. -/
theorem slice_cells {t e : TypeId} {sz : Nat} (ht : P.underlying t = some (.slice e)) (hsz : P.cellsOf e = sz) {b0 : Nat} {v : Value} {d : DataW H} {p : List MemPlace} (hok : Value.okWide P w .any b0 t v) (h : DataW.Trod enc P w 0 (fun _ => true) true t v d p) :
    v = .slice none 0 0 ∨ ∃ (b o l c : Nat) (C : Nat → List Value), v = .slice (some ⟨b, o, none⟩) l c ∧ b < w.heap.size ∧ l ≤ c ∧ c ≤ maxLen ∧ (∀ i, i < l → (C i).length = sz) ∧ w.rangeAt b o ((List.range l).flatMap C) ∧
      ∃ n, ∀ i, i < l → ∃ x, DataW.trod enc P w 0 (fun _ => true) true n e (C i) = some x := by
  obtain ⟨fuel, hf⟩ := h
  obtain ⟨a0, l, c, rfl⟩ := Go.WideShapes.okWide_slice ht hok
  rcases Go.Deep.open_slice ht hf with ⟨h1, _⟩ | ⟨a, len, cap, m, n, D, Pl, h1, _, h3, h4, h5, _, h7⟩
  · left
    have : [Value.slice a0 l c] = [.slice none 0 0] := h1
    injection this
  · right
    have : [Value.slice a0 l c] = [.slice (some a) len cap] := h1
    injection this with this _
    injection this with q1 q2 q3
    subst q1 q2 q3
    obtain ⟨hs, hb⟩ := slice_has ht hok
    obtain ⟨ab, ao, sp⟩ := a
    simp only at hs hb
    subst hs
    simp only [if_true] at h5
    subst h5
    obtain ⟨C, hC⟩ := Go.Deep.choose_lt (α := List Value) (n := l) (p := fun i cs => w.cells? 0 ((⟨ab, ao, none⟩ : Addr).add (i * P.cellsOf e)) (P.cellsOf e) = some cs ∧ DataW.trod enc P w 0 (fun _ => true) true n e cs = some (D i, Pl i)) (fun i hi => h7 i (by omega))
    have hlen : ∀ i, i < l → (C i).length = sz := fun i hi => by
      have := (World.cells?_some (hC i hi).1).2.1
      rw [this, hsz]
    refine ⟨ab, ao, l, _, C, rfl, hb, h3, h4, hlen, ?_, n, fun i hi => ⟨_, (hC i hi).2⟩⟩
    intro j v hj
    obtain ⟨i, r, hi, hr, hjr⟩ : ∃ i r, i < l ∧ r < sz ∧ j = i * sz + r := by
      have hjl := (List.getElem?_eq_some_iff.1 hj).1
      have htot := flat_length C sz l hlen
      rw [htot] at hjl
      have hz : 0 < sz := Nat.pos_of_ne_zero fun h0 => by rw [h0] at hjl; omega
      exact ⟨j / sz, j % sz, (Nat.div_lt_iff_lt_mul hz).2 hjl, Nat.mod_lt _ hz, by rw [Nat.mul_comm]; exact (Nat.div_add_mod j sz).symm⟩
    subst hjr
    have hg := flat_get C sz l hlen i r hi hr
    rw [hg] at hj
    have hc := (World.cells?_some (hC i hi).1).2.2 r (by rw [hsz]; exact hr)
    rw [hsz, Go.Deep.add_add, hj] at hc
    rw [← hc]
    congr 1
    unfold Addr.add
    split
    · rename_i h0; simp
    · rfl
where
  flat_length (C : Nat → List Value) (sz : Nat) : ∀ len, (∀ i, i < len → (C i).length = sz) → ((List.range len).flatMap C).length = len * sz
    | 0, _ => by simp
    | len + 1, h => by
      rw [List.range_succ, List.flatMap_append, List.length_append, flat_length C sz len (fun i hi => h i (by omega))]
      simp [h len (by omega), Nat.add_mul]
  flat_get (C : Nat → List Value) (sz : Nat) : ∀ len, (∀ i, i < len → (C i).length = sz) → ∀ i r, i < len → r < sz → ((List.range len).flatMap C)[i * sz + r]? = (C i)[r]?
    | 0, _, i, r, hi, _ => absurd hi (Nat.not_lt_zero _)
    | len + 1, h, i, r, hi, hr => by
      have hl := flat_length C sz len (fun i hi => h i (by omega))
      rw [List.range_succ, List.flatMap_append]
      by_cases hil : i < len
      · have hlt : i * sz + r < len * sz := by
          have : (i + 1) * sz ≤ len * sz := Nat.mul_le_mul_right _ hil
          rw [Nat.add_mul] at this
          omega
        rw [List.getElem?_append_left (by rw [hl]; exact hlt)]
        exact flat_get C sz len (fun i hi => h i (by omega)) i r hil hr
      · have hie : i = len := by omega
        subst hie
        rw [List.getElem?_append_right (by rw [hl]; omega), hl, Nat.add_sub_cancel_left]
        simp
end
end Go.Mini
