/-
  An abstract memory for Go code: how a world bears it; new rows, stores, reads. No statement of the seat is proved here; no condition.
-/
import Derived.Test.YtlflocejgffjdaaM1
import Derived.Below
import Derived.Maps.AppendAt
namespace Go.Mini
open Go.RowKit

variable {P : Program}

/-- how many cells a type's values have -/
def cellsz (P : Program) (t : TypeId) : Nat := ((P.info? t).map (·.size)).getD 0

theorem plain_oneCell : ∀ {v : Value}, plain v = true → v.oneCell' = true := by
  intro v h
  cases v <;> first | rfl | (simp [plain] at h)
theorem CR.oneCell {m : Em} {v v' : Value} (h : CR m v v') : v'.oneCell' = true := by
  unfold CR at h
  split at h
  · rw [h.2.2]; rfl
  · rw [h.2]; rfl
  · obtain ⟨_, _, c', _, _, _, h | h⟩ := h
    · obtain ⟨_, a', rfl⟩ := h; rfl
    · rw [h.2.2]; rfl
  · rw [h.2]; exact plain_oneCell h.1
theorem all2_oneCell {m : Em} {cs cs' : List Value} (h : All2 (CR m) cs cs') : ∀ v ∈ cs', v.oneCell' = true := by
  induction h with
  | nil => intro v hv; cases hv
  | cons h _ ih =>
    intro v hv
    cases hv with
    | head => exact h.oneCell
    | tail _ hv => exact ih v hv

/-! ### what a call leaves alone -/
/-- All but the blocks of a kind is as it was. -/
structure Below (B : Nat → Prop) (w w' : World) : Prop where
  os : w'.os = w.os
  tape : w'.tape = w.tape
  output : w'.output = w.output
  size : w.heap.size ≤ w'.heap.size
  block : ∀ k, ¬ B k → w'.heap[k]? = w.heap[k]?
theorem Below.refl (B : Nat → Prop) (w : World) : Below B w w := ⟨rfl, rfl, rfl, Nat.le_refl _, fun _ _ => rfl⟩
theorem Below.trans {B : Nat → Prop} {a b c : World} (h : Below B a b) (k : Below B b c) : Below B a c :=
  ⟨k.os.trans h.os, k.tape.trans h.tape, k.output.trans h.output, Nat.le_trans h.size k.size, fun i hi => (k.block i hi).trans (h.block i hi)⟩
theorem Below.mono {B B' : Nat → Prop} {w w' : World} (h : Below B w w') (hB : ∀ k, B k → B' k) : Below B' w w' := ⟨h.os, h.tape, h.output, h.size, fun k hk => h.block k fun hh => hk (hB k hh)⟩
theorem Below.drew {B : Nat → Prop} {a w : World} (h : Below B a w) : Below B a w.drew := ⟨h.os, h.tape, h.output, h.size, h.block⟩
theorem Below.alloc {B : Nat → Prop} {a w : World} (h : Below B a w) (hB : ∀ k, w.heap.size ≤ k → B k) (o : Obj) : Below B a (w.alloc o) :=
  ⟨h.os, h.tape, h.output, Nat.le_trans h.size (by simp), fun k hk => by
    have : k < w.heap.size := Nat.lt_of_not_le fun hh => hk (hB k hh)
    rw [_root_.Go.RowKit.Below.heap_alloc w o k this]; exact h.block k hk⟩
theorem Below.setCell {B : Nat → Prop} {a w : World} (h : Below B a w) {p : Addr} (hp : B p.block) (u : Value) : Below B a (w.setCell p u) :=
  ⟨h.os, h.tape, h.output, Nat.le_trans h.size (by simp [World.setCell]), fun k hk => by
    rw [_root_.Go.RowKit.Below.heap_setCell w p u k (fun e => hk (e ▸ hp))]; exact h.block k hk⟩

/-- A row, and how it lies. -/
structure RowOk (P : Program) (m : Em) (base : Nat → Prop) (n : Nat) (cells : List Value) (e : TypeId) (own : Bool) (w : World) : Prop where
  lies : ∃ xs', All2 (CR m) cells xs' ∧ w.rangeAt (m.blk n) (m.off n) xs'
  mine : own = true → m.off n = 0 ∧ base (m.blk n) ∧ w.there (m.blk n) 0 cells.length ∧ w.there (m.blk n) 0 (m.cap n * cellsz P e)
  came : own = false → ¬ base (m.blk n)

/-- A map of plain keys, and how it lies. -/
structure MapOk (m : Em) (base : Nat → Prop) (n : Nat) (es : List (Value × Value)) (w : World) : Prop where
  lies : ∃ es' clock, w.heap[m.blk n]? = some (.map es' clock) ∧ All2 (fun (p : Value × Value) (e : MapEntry) => e.key = p.1 ∧ plainV p.1 = true ∧ VR m p.2 e.val) es es'.toList
  low : base (m.blk n)
theorem MapOk.mono {m m2 : Em} {base : Nat → Prop} {n : Nat} {es : List (Value × Value)} {w w2 : World} (h : MapOk m base n es w) (hm : m.le m2) (hn : n < m.top) (hb : w2.heap[m.blk n]? = w.heap[m.blk n]?) : MapOk m2 base n es w2 := by
  obtain ⟨⟨es', clock, h1, h2⟩, h3⟩ := h
  refine ⟨⟨es', clock, ?_, h2.imp fun _ _ r => ⟨r.1, r.2.1, r.2.2.mono hm⟩⟩, ?_⟩
  · rw [hm.blk n hn, hb]; exact h1
  · rw [hm.blk n hn]; exact h3

def AObj.own : AObj → Bool
  | .row _ _ own => own
  | .map _ => true

/-- THE WORLD BEARS THE MEMORY. -/
structure Ok (P : Program) (m : Em) (base : Nat → Prop) (μ : Mem) (w : World) : Prop where
  top : m.top = μ.next
  low : ∀ k, w.heap.size ≤ k → base k
  live : ∀ n o, μ.hp.get n = some o → n < m.top
  blk : ∀ n, n < m.top → m.blk n < w.heap.size
  row : ∀ n cells e own, μ.hp.get n = some (.row cells e own) → RowOk P m base n cells e own w
  map : ∀ n es, μ.hp.get n = some (.map es) → MapOk m base n es w
  apart : ∀ n n2 o o2, μ.hp.get n = some o → o.own = true → μ.hp.get n2 = some o2 → o2.own = true → n ≠ n2 → m.blk n ≠ m.blk n2

theorem rangeAt_of_block {w w2 : World} {b o : Nat} {xs : List Value} (h : w.rangeAt b o xs) (hb : w2.heap[b]? = w.heap[b]?) : w2.rangeAt b o xs :=
  fun j v hv => by rw [World.cell?_of_block (w := w) (w' := w2) (a := ⟨b, o + j, none⟩) hb]; exact h j v hv
theorem there_of_block {w w2 : World} {b o n : Nat} (h : w.there b o n) (hb : w2.heap[b]? = w.heap[b]?) : w2.there b o n :=
  fun j hj => by rw [World.cell?_of_block (w := w) (w' := w2) (a := ⟨b, o + j, none⟩) hb, World.frozen?_of_block (w := w) (w' := w2) (a := ⟨b, o + j, none⟩) hb]; exact h j hj

theorem RowOk.mono {m m2 : Em} {base : Nat → Prop} {n : Nat} {cells : List Value} {e : TypeId} {own : Bool} {w w2 : World} (h : RowOk P m base n cells e own w) (hm : m.le m2) (hn : n < m.top)
    (hb : w2.heap[m.blk n]? = w.heap[m.blk n]?) : RowOk P m2 base n cells e own w2 := by
  obtain ⟨xs', h1, h2⟩ := h.lies
  refine ⟨⟨xs', h1.imp fun _ _ => CR.mono hm, ?_⟩, fun ho => ?_, fun ho => ?_⟩
  · rw [hm.blk n hn, hm.off n hn]; exact rangeAt_of_block h2 hb
  · obtain ⟨a, b, c, d⟩ := h.mine ho
    rw [hm.blk n hn, hm.off n hn, hm.cap n hn]
    exact ⟨a, b, there_of_block c hb, there_of_block d hb⟩
  · rw [hm.blk n hn]; exact h.came ho

/-- one name more -/
def Em.ext (m : Em) (b c : Nat) : Em :=
  ⟨fun n => if n = m.top then b else m.blk n, fun n => if n = m.top then 0 else m.off n, fun n => if n = m.top then c else m.cap n, m.top + 1⟩
theorem Em.le_ext (m : Em) (b c : Nat) : m.le (m.ext b c) :=
  ⟨Nat.le_succ _, fun n hn => if_neg (by omega), fun n hn => if_neg (by omega), fun n hn => if_neg (by omega)⟩

/-- Old blocks behind a new one. -/
theorem alloc_old (w : World) (o : Obj) (i : Nat) (h : i < w.heap.size) : (w.alloc o).heap[i]? = w.heap[i]? := _root_.Go.RowKit.Below.heap_alloc w o i h

/-- A NEW ROW. -/
theorem Ok.alloc {m : Em} {base : Nat → Prop} {μ : Mem} {w : World} (h : Ok P m base μ w) {cells xs' : List Value} (hx : All2 (CR m) cells xs') (e : TypeId) (c : Nat) (extra : List Value)
    (hc : c * cellsz P e ≤ (xs' ++ extra).length) :
    Ok P (m.ext w.heap.size c) base ⟨μ.hp.set μ.next (some (.row cells e true)), μ.next + 1⟩ (w.alloc (.cells (xs' ++ extra).toArray e)) := by
  have hl := hx.length
  have hcell : ∀ j, j < (xs' ++ extra).length → (w.alloc (.cells (xs' ++ extra).toArray e)).cell? ⟨w.heap.size, 0 + j, none⟩ = (xs' ++ extra)[j]? := fun j hj => by
    rw [cell_of_row _ _ _ _ _ _ (heap_alloc_new w _)]
    simp
  have hthere : (w.alloc (.cells (xs' ++ extra).toArray e)).there w.heap.size 0 (xs' ++ extra).length := fun j hj => by
    rw [hcell j hj]
    refine ⟨by simp [List.getElem?_eq_getElem hj], frozen_of_row _ _ _ _ _ (heap_alloc_new w _)⟩
  refine ⟨by simp [Em.ext, h.top], fun k hk => h.low k (by simp at hk; omega), fun n o hn => ?_, fun n hn => ?_, fun n cs e' own hn => ?_, fun n es hn => ?_, fun n n2 o o2 hn ho hn2 ho2 hne => ?_⟩
  · simp only [Hp.get_set] at hn
    split at hn
    · have := h.top; simp [Em.ext]; omega
    · have := h.live n o hn; simp [Em.ext]; omega
  · simp only [Em.ext] at hn ⊢
    split
    · simp
    · have := h.blk n (by omega); simp; omega
  · simp only [Hp.get_set] at hn
    split at hn
    · rename_i he
      injection hn with hn
      injection hn with q1 q2 q3
      subst q1; subst q2; subst q3
      have e1 : n = m.top := by rw [h.top, he]
      have eb : (m.ext w.heap.size c).blk n = w.heap.size := by simp [Em.ext, e1]
      have eo : (m.ext w.heap.size c).off n = 0 := by simp [Em.ext, e1]
      have ec : (m.ext w.heap.size c).cap n = c := by simp [Em.ext, e1]
      refine ⟨⟨xs', hx.imp fun _ _ => CR.mono (m.le_ext _ _), fun j v hv => ?_⟩, fun _ => ?_, fun hh => by cases hh⟩
      · rw [eb, eo, hcell j (by have := (List.getElem?_eq_some_iff.1 hv).1; simp; omega), List.getElem?_append_left (List.getElem?_eq_some_iff.1 hv).1]
        exact hv
      · rw [eb, eo, ec]
        exact ⟨rfl, h.low _ (Nat.le_refl _), fun j hj => hthere j (by simp; omega), fun j hj => hthere j (by omega)⟩
    · have hlt := h.live n _ hn
      exact (h.row n cs e' own hn).mono (m.le_ext _ _) hlt (alloc_old w _ _ (h.blk n hlt))
  · simp only [Hp.get_set] at hn
    split at hn
    · cases hn
    · have hlt := h.live n _ hn
      exact (h.map n es hn).mono (m.le_ext _ _) hlt (alloc_old w _ _ (h.blk n hlt))
  · simp only [Hp.get_set] at hn hn2
    have lo : ∀ n o, μ.hp.get n = some o → (m.ext w.heap.size c).blk n = m.blk n ∧ m.blk n < w.heap.size := fun n o hn => by
      have := h.live n o hn
      exact ⟨if_neg (by omega), h.blk n this⟩
    have new : ∀ n, μ.next = n → (m.ext w.heap.size c).blk n = w.heap.size := fun n he => by simp [Em.ext, h.top, he]
    split at hn <;> split at hn2
    · omega
    · rename_i e1 _
      rw [new n e1, (lo n2 o2 hn2).1]
      have := (lo n2 o2 hn2).2; omega
    · rename_i _ e1
      rw [new n2 e1, (lo n o hn).1]
      have := (lo n o hn).2; omega
    · rw [(lo n o hn).1, (lo n2 o2 hn2).1]
      exact h.apart n n2 o o2 hn ho hn2 ho2 hne

/-- Forgotten names. -/
theorem Ok.forget {m : Em} {base : Nat → Prop} {μ : Mem} {w : World} (h : Ok P m base μ w) (n : Nat) : Ok P m base ⟨μ.hp.set n none, μ.next⟩ w := by
  have old : ∀ k o, (μ.hp.set n none).get k = some o → μ.hp.get k = some o := fun k o hk => by
    rw [Hp.get_set] at hk
    split at hk
    · cases hk
    · exact hk
  exact ⟨h.top, h.low, fun k o hk => h.live k o (old k o hk), h.blk, fun k cs e own hk => h.row k cs e own (old k _ hk), fun k es hk => h.map k es (old k _ hk),
    fun k k2 o o2 hk ho hk2 ho2 hne => h.apart k k2 o o2 (old k o hk) ho (old k2 o2 hk2) ho2 hne⟩

/-- A world that has turned nothing that is told. -/
theorem Ok.world {m : Em} {base : Nat → Prop} {μ : Mem} {w w2 : World} (h : Ok P m base μ w) (hsize : w.heap.size ≤ w2.heap.size) (hb : ∀ k, k < w.heap.size → w2.heap[k]? = w.heap[k]?) : Ok P m base μ w2 :=
  ⟨h.top, (fun k hk => h.low k (Nat.le_trans hsize hk)), h.live, fun n hn => Nat.lt_of_lt_of_le (h.blk n hn) hsize, fun n cs e own hn => (h.row n cs e own hn).mono m.le_refl (h.live n _ hn) (hb _ (h.blk n (h.live n _ hn))), fun n es hn => (h.map n es hn).mono m.le_refl (h.live n _ hn) (hb _ (h.blk n (h.live n _ hn))), h.apart⟩
theorem Ok.drew {m : Em} {base : Nat → Prop} {μ : Mem} {w : World} (h : Ok P m base μ w) : Ok P m base μ w.drew := h.world (Nat.le_refl _) fun _ _ => rfl

/-- cells of a row, from a place on, give way to others -/
def splice (cells : List Value) (o : Nat) (vs : List Value) : List Value := cells.take o ++ vs ++ cells.drop (o + vs.length)
theorem splice_length {cells : List Value} {o : Nat} {vs : List Value} (h : o + vs.length ≤ cells.length) : (splice cells o vs).length = cells.length := by
  simp [splice]; omega
theorem splice_get {cells : List Value} {o : Nat} {vs : List Value} (h : o + vs.length ≤ cells.length) (j : Nat) :
    (splice cells o vs)[j]? = if j < o then cells[j]? else if j < o + vs.length then vs[j - o]? else cells[j]? := by
  unfold splice
  by_cases h1 : j < o
  · rw [if_pos h1, List.append_assoc, List.getElem?_append_left (by simp; omega), List.getElem?_take_of_lt h1]
  · rw [if_neg h1]
    by_cases h2 : j < o + vs.length
    · rw [if_pos h2, List.getElem?_append_left (by simp; omega), List.getElem?_append_right (by simp; omega)]
      congr 1; simp; omega
    · rw [if_neg h2, List.getElem?_append_right (by simp; omega), List.getElem?_drop]
      congr 1; simp; omega

/-- A STORE INTO A ROW OF THE CALL's OWN. -/
theorem Ok.store {m : Em} {base : Nat → Prop} {μ : Mem} {w : World} (h : Ok P m base μ w) {n : Nat} {cells : List Value} {e : TypeId} (hn : μ.hp.get n = some (.row cells e true))
    {o : Nat} {vs vs' : List Value} (hv : All2 (CR m) vs vs') (ho : o + vs.length ≤ cells.length) :
    Ok P m base ⟨μ.hp.set n (some (.row (splice cells o vs) e true)), μ.next⟩ (w.setCells (m.blk n) o vs') ∧ w.there (m.blk n) o vs'.length := by
  have hlt := h.live n _ hn
  have hr := h.row n _ _ _ hn
  obtain ⟨m1, m2, m3, m4⟩ := hr.mine rfl
  obtain ⟨xs', hx, hrange⟩ := hr.lies
  rw [m1] at hrange
  have hl := hv.length
  have hlx := hx.length
  have hthere : w.there (m.blk n) o vs'.length := fun j hj => by
    have := m3 (o + j) (by omega)
    simpa using this
  have hsz : (w.setCells (m.blk n) o vs').heap.size = w.heap.size := by
    have : ∀ (vs : List Value) (o : Nat) (w : World), (w.setCells (m.blk n) o vs).heap.size = w.heap.size := by
      intro vs
      induction vs with
      | nil => intro o w; rfl
      | cons v r ih => intro o w; rw [World.setCells, ih]; simp [World.setCell]
    exact this vs' o w
  have hblk : ∀ k, k ≠ m.blk n → (w.setCells (m.blk n) o vs').heap[k]? = w.heap[k]? := by
    have : ∀ (vs : List Value) (o : Nat) (w : World) k, k ≠ m.blk n → (w.setCells (m.blk n) o vs).heap[k]? = w.heap[k]? := by
      intro vs
      induction vs with
      | nil => intro o w k _; rfl
      | cons v r ih => intro o w k hk; rw [World.setCells, ih _ _ _ hk]; exact _root_.Go.RowKit.Below.heap_setCell _ _ _ _ hk
    exact fun k hk => this vs' o w k hk
  refine ⟨⟨h.top, by rw [hsz]; exact h.low, fun k ob hk => ?_, fun k hk => by rw [hsz]; exact h.blk k hk, fun k cs e' own hk => ?_, fun k es hk => ?_, fun k k2 ob ob2 hk hob hk2 hob2 hne => ?_⟩, hthere⟩
  · simp only [Hp.get_set] at hk
    split at hk
    · rename_i he; omega
    · exact h.live k ob hk
  · simp only [Hp.get_set] at hk
    split at hk
    · rename_i he
      injection hk with hk
      injection hk with q1 q2 q3
      subst q1; subst q2; subst q3; subst he
      have hsl : o + vs'.length ≤ xs'.length := by omega
      refine ⟨⟨splice xs' o vs', All2.of_get (by rw [splice_length ho, splice_length hsl, hlx]) fun i a b ha hb => ?_, fun j v hv' => ?_⟩, fun _ => ⟨m1, m2, ?_, World.there_setCells m4 _ _ _⟩, fun hh => by cases hh⟩
      · rw [splice_get ho] at ha
        rw [splice_get hsl] at hb
        by_cases c1 : i < o
        · rw [if_pos c1] at ha hb
          obtain ⟨b', hb', r⟩ := hx.get ha
          rw [hb] at hb'; injection hb' with hb'; subst hb'; exact r
        · rw [if_neg c1] at ha hb
          by_cases c2 : i < o + vs.length
          · rw [if_pos c2] at ha
            rw [if_pos (by omega)] at hb
            obtain ⟨b', hb', r⟩ := hv.get ha
            rw [hb] at hb'; injection hb' with hb'; subst hb'; exact r
          · rw [if_neg c2] at ha
            rw [if_neg (by omega)] at hb
            obtain ⟨b', hb', r⟩ := hx.get ha
            rw [hb] at hb'; injection hb' with hb'; subst hb'; exact r
      · rw [m1]
        rw [splice_get hsl] at hv'
        by_cases c1 : j < o
        · rw [if_pos c1] at hv'
          rw [World.cell?_setCells_out _ _ _ _ _ (fun _ _ => Or.inl (by simpa using c1))]
          exact hrange j v hv'
        · rw [if_neg c1] at hv'
          by_cases c2 : j < o + vs'.length
          · rw [if_pos c2] at hv'
            have := World.rangeAt_setCells_same w (m.blk n) o vs' hthere (j - o) v hv'
            rwa [show o + (j - o) = 0 + j from by omega] at this
          · rw [if_neg c2] at hv'
            rw [World.cell?_setCells_out _ _ _ _ _ (fun _ _ => Or.inr (by simp; omega))]
            exact hrange j v hv'
      · rw [splice_length ho]; exact World.there_setCells m3 _ _ _
    · rename_i he
      have hlt' := h.live k _ hk
      refine (h.row k cs e' own hk).mono m.le_refl hlt' (hblk _ ?_)
      cases hown : own with
      | true => subst hown; exact fun e => h.apart k n _ _ hk rfl hn rfl (fun q => he q.symm) e
      | false => subst hown; exact fun e => (h.row k _ _ _ hk).came rfl (e ▸ m2)
  · simp only [Hp.get_set] at hk
    split at hk
    · cases hk
    · rename_i he
      exact (h.map k es hk).mono m.le_refl (h.live k _ hk) (hblk _ fun e => h.apart k n _ _ hk rfl hn rfl (fun q => he q.symm) e)
  · have old : ∀ k ob, (μ.hp.set n (some (.row (splice cells o vs) e true))).get k = some ob → ob.own = true → ∃ ob', μ.hp.get k = some ob' ∧ ob'.own = true := fun k ob hk hob => by
      rw [Hp.get_set] at hk
      split at hk
      · rename_i he; exact ⟨_, he ▸ hn, rfl⟩
      · exact ⟨_, hk, hob⟩
    obtain ⟨a, ha, ha'⟩ := old k ob hk hob
    obtain ⟨b, hb, hb'⟩ := old k2 ob2 hk2 hob2
    exact h.apart k k2 a b ha ha' hb hb' hne

end Go.Mini
