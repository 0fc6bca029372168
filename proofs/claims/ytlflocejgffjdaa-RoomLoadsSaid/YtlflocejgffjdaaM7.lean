/-
  More operations of Go code over the abstract memory: append, copy, conversions, comparisons with nil. No statement of the seat is proved here; no condition.
-/
import Derived.Test.YtlflocejgffjdaaM6
namespace Go.Mini
open Go.RowKit

variable {P : Program}

/-! ### a block that no name has -/
theorem Ok.touch {m : Em} {base : Nat → Prop} {μ : Mem} {w w2 : World} (h : Ok P m base μ w) (b : Nat) (hfree : ∀ n o, μ.hp.get n = some o → m.blk n ≠ b) (hsize : w.heap.size ≤ w2.heap.size)
    (hb : ∀ k, k < w.heap.size → k ≠ b → w2.heap[k]? = w.heap[k]?) : Ok P m base μ w2 :=
  ⟨h.top, (fun k hk => h.low k (Nat.le_trans hsize hk)), h.live, fun n hn => Nat.lt_of_lt_of_le (h.blk n hn) hsize, fun n cs e own hn => (h.row n cs e own hn).mono m.le_refl (h.live n _ hn) (hb _ (h.blk n (h.live n _ hn)) (hfree n _ hn)), fun n es hn => (h.map n es hn).mono m.le_refl (h.live n _ hn) (hb _ (h.blk n (h.live n _ hn)) (hfree n _ hn)), h.apart⟩
theorem Ok.adopt {m : Em} {base : Nat → Prop} {μ : Mem} {w : World} (h : Ok P m base μ w) (b c : Nat) (hfree : ∀ n o, μ.hp.get n = some o → m.blk n ≠ b) (hlow : base b) (hlt : b < w.heap.size)
    {cells xs' : List Value} (hx : All2 (CR m) cells xs') (e : TypeId) (hr : w.rangeAt b 0 xs') (ht : w.there b 0 cells.length) (hc : w.there b 0 (c * cellsz P e)) :
    Ok P (m.ext b c) base ⟨μ.hp.set μ.next (some (.row cells e true)), μ.next + 1⟩ w := by
  have lo : ∀ n o, μ.hp.get n = some o → (m.ext b c).blk n = m.blk n := fun n o hn => by
    have := h.live n o hn
    exact if_neg (by omega)
  have new : ∀ n, μ.next = n → (m.ext b c).blk n = b := fun n he => by simp [Em.ext, h.top, he]
  refine ⟨by simp [Em.ext, h.top], h.low, fun n o hn => ?_, fun n hn => ?_, fun n cs e' own hn => ?_, fun n es hn => ?_, fun n n2 o o2 hn ho hn2 ho2 hne => ?_⟩
  · simp only [Hp.get_set] at hn
    split at hn
    · have := h.top; simp [Em.ext]; omega
    · have := h.live n o hn; simp [Em.ext]; omega
  · simp only [Em.ext] at hn ⊢
    split
    · exact hlt
    · exact h.blk n (by omega)
  · simp only [Hp.get_set] at hn
    split at hn
    · rename_i he
      injection hn with hn
      injection hn with q1 q2 q3
      subst q1; subst q2; subst q3
      have e1 : n = m.top := by rw [h.top, he]
      have eb : (m.ext b c).blk n = b := by simp [Em.ext, e1]
      have eo : (m.ext b c).off n = 0 := by simp [Em.ext, e1]
      have ec : (m.ext b c).cap n = c := by simp [Em.ext, e1]
      refine ⟨⟨xs', hx.imp fun _ _ => CR.mono (m.le_ext _ _), by rw [eb, eo]; exact hr⟩, fun _ => ?_, fun hh => by cases hh⟩
      rw [eb, eo, ec]
      exact ⟨rfl, hlow, ht, hc⟩
    · exact (h.row n cs e' own hn).mono (m.le_ext _ _) (h.live n _ hn) rfl
  · simp only [Hp.get_set] at hn
    split at hn
    · cases hn
    · exact (h.map n es hn).mono (m.le_ext _ _) (h.live n _ hn) rfl
  · simp only [Hp.get_set] at hn hn2
    split at hn <;> split at hn2
    · omega
    · rename_i e1 _
      rw [new n e1, lo n2 o2 hn2]
      exact fun e => hfree n2 o2 hn2 e.symm
    · rename_i _ e1
      rw [new n2 e1, lo n o hn]
      exact hfree n o hn
    · rw [lo n o hn, lo n2 o2 hn2]
      exact h.apart n n2 o o2 hn ho hn2 ho2 hne
/-- Behind a name that was forgotten nobody has its block. -/
theorem Ok.free {m : Em} {base : Nat → Prop} {μ : Mem} {w : World} (h : Ok P m base μ w) {n : Nat} {cells : List Value} {e : TypeId} (hn : μ.hp.get n = some (.row cells e true)) :
    ∀ k o, (μ.hp.set n none).get k = some o → m.blk k ≠ m.blk n := by
  intro k o hk
  rw [Hp.get_set] at hk
  split at hk
  · cases hk
  · rename_i hne
    cases ho : o.own with
    | true => exact fun e => h.apart k n o _ hk ho hn rfl (fun q => hne q.symm) e
    | false =>
      cases o with
      | row cs e' own =>
        simp only [AObj.own] at ho
        subst ho
        exact fun e => (h.row k _ _ _ hk).came rfl (e ▸ ((h.row n _ _ _ hn).mine rfl).2.1)
      | map es => cases ho

/-! ### what is appended, or copied -/
/-- how many elements, and their cells -/
def srcM (P : Program) (tx : TypeId) (size : Nat) (μ : Mem) (x : Value) : Option (Nat × List Value) :=
  match P.underlying tx, x with
  | some (.slice _), .slice none l c => if l = 0 ∧ c = 0 then some (0, []) else none
  | some (.slice _), .slice (some a) n _ => if n = 0 then some (0, []) else match μ.hp.get a.block with
    | some (.row cells _ _) => if ((cells.drop a.off).take (n * size)).length = n * size then some (n, (cells.drop a.off).take (n * size)) else none
    | _ => none
  | some .string, .string s => if size = 1 then some (s.size, byteCells s) else none
  | _, _ => none
theorem srcM_does {m : Em} {base : Nat → Prop} {μ : Mem} {w : World} (h : Ok P m base μ w) {tx : TypeId} {size n : Nat} {x x' : Value} {news : List Value} (hl : srcM P tx size μ x = some (n, news)) (hx : VR m x x') :
    ∃ news', All2 (CR m) news news' ∧ Src P size tx x' n news' w := by
  unfold srcM at hl
  split at hl
  · rename_i e l c hu
    split at hl
    · rename_i hc
      obtain ⟨rfl, rfl⟩ := hc
      injection hl with hl
      injection hl with q1 q2
      subst q1; subst q2
      have : x' = .slice none 0 0 := hx.plain_eq rfl
      subst this
      exact ⟨[], .nil, Src.ofNil w hu 0⟩
    · cases hl
  · rename_i e a n' c hu
    obtain ⟨h1, h2, c', h3, h4, h5, h6⟩ := hx.slice
    split at hl
    · rename_i hn
      injection hl with hl
      injection hl with q1 q2
      subst q1; subst q2; subst hn
      rcases h6 with ⟨hlo, a', rfl⟩ | ⟨hlo, _, rfl⟩
      · exact ⟨[], .nil, Src.ofSlice w hu _ 0 c' [] (by simp) (by simp) (by simp)⟩
      · exact ⟨[], .nil, Src.ofSlice w hu _ 0 c' [] (by simp) (by simp) (by simp)⟩
    · rename_i hn
      split at hl
      · rename_i cells e' own hg
        split at hl
        · rename_i hlen
          injection hl with hl
          injection hl with q1 q2
          subst q1; subst q2
          obtain ⟨xs', ha, hr⟩ := (h.row _ _ _ _ hg).lies
          have ha2 := (ha.drop a.off).take (n' * size)
          have hlen2 := ha2.length
          rcases h6 with ⟨hlo, _⟩ | ⟨hlo, _, rfl⟩
          · exact absurd hlo.1 hn
          · refine ⟨_, ha2, Src.ofSlice w hu _ n' c' _ (by omega) (fun j u hj => ?_) (all2_oneCell ha2)⟩
            have hjl := (List.getElem?_eq_some_iff.1 hj).1
            rw [List.getElem?_take_of_lt (by simp at hjl; omega), List.getElem?_drop] at hj
            have := hr _ u hj
            rwa [Addr.add_mid, Nat.add_assoc]
        · cases hl
      · cases hl
  · rename_i s hu
    split at hl
    · rename_i hs
      injection hl with hl
      injection hl with q1 q2
      subst q1; subst q2; subst hs
      have : x' = .string s := hx.plain_eq rfl
      subst this
      exact ⟨_, all2_plain (List.all_eq_true.2 fun x hx => by obtain ⟨_, _, rfl⟩ := List.mem_map.1 hx; rfl), Src.ofString w hu s⟩
    · cases hl
  · cases hl

/-- the old elements of a slice that grows -/
def oldM (μ : Mem) (size : Nat) (a : Addr) (l : Nat) : Option (List Value) :=
  if l = 0 then some [] else match μ.hp.get a.block with
    | some (.row cells _ _) => if ((cells.drop a.off).take (l * size)).length = l * size then some ((cells.drop a.off).take (l * size)) else none
    | _ => none
def appendM (P : Program) (t tx : TypeId) (s x : Value) (μ : Mem) : Option (Value × Mem) :=
  match P.underlying t with
  | some (.slice e) => match P.info? e with
    | some i => match zeroM P e, srcM P tx i.size μ x with
      | some z, some (n, news) =>
        if i.size = 0 ∨ z.cells.size ≠ i.size ∨ i.zero.isNone then none
        else match s with
        | .slice none l c => if l = 0 ∧ c = 0 then (if n = 0 then some (s, μ) else if n * i.bytes ≤ 70368744177664 ∧ n ≤ 1099511627776 then some (.slice (some ⟨μ.next, 0, none⟩) n INF, (newM e news μ).2) else none) else none
        | .slice (some a) l c =>
          if n = 0 then some (s, μ)
          else if (l + n) * i.bytes ≤ 70368744177664 ∧ l + n ≤ 1099511627776 then
            if c = INF then
              if l ≠ 0 ∧ a.off = 0 then match μ.hp.get a.block with
                | some (.row cells e' true) => if e' = e ∧ (cells.take (l * i.size)).length = l * i.size then some (.slice (some ⟨μ.next, 0, none⟩) (l + n) INF, (newM e (cells.take (l * i.size) ++ news) ⟨μ.hp.set a.block none, μ.next⟩).2) else none
                | _ => none
              else none
            else if l + n ≤ c then match μ.hp.get a.block with
              | some (.row cells e' true) => if a.off + l * i.size + news.length ≤ cells.length then some (.slice (some a) (l + n) c, ⟨μ.hp.set a.block (some (.row (splice cells (a.off + l * i.size) news) e' true)), μ.next⟩) else none
              | _ => none
            else match oldM μ i.size a l with
              | some olds => some (.slice (some ⟨μ.next, 0, none⟩) (l + n) INF, (newM e (olds ++ news) μ).2)
              | none => none
          else none
        | _ => none
      | _, _ => none
    | none => none
  | _ => none

theorem INF_not {c : Nat} (h : c ≤ 1099511627776) : c ≠ INF := by unfold INF; omega
/-- A new row that an append has made. -/
theorem grown_does {m : Em} {base : Nat → Prop} {μ : Mem} {w : World} (h : Ok P m base μ w) {cells xs' : List Value} (hx : All2 (CR m) cells xs') {e : TypeId} {i : TypeInfo} (hi : P.info? e = some i) {z : Value} (hzs : z.cells.size = i.size)
    {k old : Nat} (hk : cells.length = k * i.size) (hk1 : 0 < k) (hk2 : k ≤ 1099511627776) :
    ∃ m', m.le m' ∧ Ok P m' base (newM e cells μ).2 (w.drew.alloc (.cells (xs'.toArray ++ Builtin.zeroCells z.cells (grownCap w k old e - k)) e)) ∧
      VR m' (.slice (some ⟨μ.next, 0, none⟩) k INF) (.slice (some ⟨w.heap.size, 0, none⟩) k (grownCap w k old e)) ∧
      Below base w (w.drew.alloc (.cells (xs'.toArray ++ Builtin.zeroCells z.cells (grownCap w k old e - k)) e)) := by
  have hge := grownCap_ge w k old e
  have hle := grownCap_le_maxLen w k old e (by unfold maxLen; omega)
  have hl := hx.length
  have hsz : cellsz P e = i.size := by simp [cellsz, hi]
  have hlen : (xs' ++ (Builtin.zeroCells z.cells (grownCap w k old e - k)).toList).length = grownCap w k old e * i.size := by
    have hz : (Builtin.zeroCells z.cells (grownCap w k old e - k)).toList.length = (grownCap w k old e - k) * z.cells.size := by rw [Array.length_toList, size_zeroCells]
    rw [List.length_append, hz, hzs, ← hl, hk, ← Nat.add_mul]
    congr 1; omega
  have ho := h.drew.alloc hx e (grownCap w k old e) (Builtin.zeroCells z.cells (grownCap w k old e - k)).toList (by rw [hlen, hsz]; exact Nat.le_refl _)
  have earr : (xs' ++ (Builtin.zeroCells z.cells (grownCap w k old e - k)).toList).toArray = xs'.toArray ++ Builtin.zeroCells z.cells (grownCap w k old e - k) := by
    apply Array.ext'
    simp
  rw [earr] at ho
  refine ⟨_, m.le_ext _ _, ho, ⟨rfl, ?_, grownCap w k old e, hge, hle, fun hh => absurd rfl hh, .inr ⟨fun hh => by have := hh.1; omega, fun _ _ => ?_, ?_⟩⟩, (below_drew1 (Below.refl _ _)).alloc h.low _⟩
  · show μ.next < m.top + 1
    rw [h.top]; omega
  · simp [Em.ext, h.top]
  · simp only [Em.ext, h.top, if_true]
    rfl
where
  below_drew1 {B : Nat → Prop} {w W : World} (h : Below B w W) : Below B w W.drew := h.drew

end Go.Mini
