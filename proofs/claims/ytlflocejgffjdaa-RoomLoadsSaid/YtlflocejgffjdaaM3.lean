/-
  Operations of Go code over the abstract memory, and that the machine's operations do as they say. No statement of the seat is proved here; no condition.
-/
import Derived.Test.YtlflocejgffjdaaM2
import Derived.Orders
namespace Go.Mini
open Go.RowKit

variable {P : Program}

/-! ### what neither reads nor writes memory -/
def pureOf {α : Type} (P : Program) : Sem α → Option α
  | .pure a => some a
  | .program k => pureOf P (k P)
  | .mark _ k => pureOf P k
  | _ => none
theorem pureOf_run {α : Type} {s : Sem α} {a : α} (h : pureOf P s = some a) (w : World) : s.run P w = .ok a w := by
  induction s with
  | pure b => simp only [pureOf, Option.some.injEq] at h; subst h; rfl
  | program k ih => simp only [pureOf] at h; simp only [Sem.run]; exact ih P h
  | mark _ k ih => simp only [pureOf] at h; simp only [Sem.run]; exact ih h
  | load | store | new | shape | freeze | frozen | getObj | setObj | choose | sys | halt => simp [pureOf] at h

/-- what an operation came to -/
def Came (P : Program) (ρ' : Operand → Value) (o : Oper) (w : World) (v' : Value) (w' : World) : Prop :=
  (execOp ρ' o).run P w = .ok (.value v') w' ∨ ((execOp ρ' o).run P w = .ok .skip w' ∧ v' = undef)
/-- THE MACHINE DOES AS IS TOLD. -/
def Does (P : Program) (m : Em) (base : Nat → Prop) (w : World) (ρ' : Operand → Value) (o : Oper) (v : Value) (μ' : Mem) : Prop :=
  ∃ m' v' w', Came P ρ' o w v' w' ∧ m.le m' ∧ Ok P m' base μ' w' ∧ VR m' v v' ∧ Below base w w'
theorem Does.quiet {m : Em} {base : Nat → Prop} {μ : Mem} {w : World} {ρ' : Operand → Value} {o : Oper} {v v' : Value} (h : Ok P m base μ w) (hc : (execOp ρ' o).run P w = .ok (.value v') w) (hv : VR m v v') : Does P m base w ρ' o v μ :=
  ⟨m, v', w, .inl hc, m.le_refl, h, hv, Below.refl _ _⟩

/-! ### values taken apart -/
theorem VR.pointer {m : Em} {a : Addr} {v' : Value} (h : VR m (.pointer (some a)) v') : a.spot = none ∧ a.block < m.top ∧ v' = .pointer (some ⟨m.blk a.block, m.off a.block + a.off, none⟩) := h
theorem VR.agg {m : Em} {cs : Array Value} {v' : Value} (h : VR m (.agg cs) v') : ∃ cs', v' = .agg cs' ∧ All2 (CR m) cs.toList cs'.toList := h
theorem VR.cell {m : Em} {v v' : Value} (h : VR m v v') (h1 : v.oneCell' = true) : CR m v v' := by
  cases v <;> first | exact h | (simp [Value.oneCell'] at h1)
theorem cells_one {v : Value} (h1 : v.oneCell' = true) : v.cells = #[v] := by
  cases v <;> first | rfl | (simp [Value.oneCell'] at h1)
theorem VR.cells {m : Em} {v v' : Value} (h : VR m v v') (ht : ∀ vs, v ≠ .tuple vs) : All2 (CR m) v.cells.toList v'.cells.toList := by
  by_cases h1 : v.oneCell' = true
  · have hc := h.cell h1
    rw [cells_one h1, cells_one hc.oneCell]
    exact .cons hc .nil
  · cases v with
    | tuple vs => exact absurd rfl (ht vs)
    | agg cs => obtain ⟨cs', rfl, ha⟩ := h.agg; exact ha
    | _ => exact absurd rfl h1
theorem VR.of_cell {m : Em} {v v' : Value} (h : CR m v v') : VR m v v' := by
  have h1 := h.oneCell
  cases v with
  | agg cs => simp [CR, plain] at h
  | tuple vs => simp [CR, plain] at h
  | _ => exact h
theorem VR.of_vr1 {m : Em} {v v' : Value} (h : VR1 m v v') : VR m v v' := by
  cases v with
  | tuple vs => simp [VR1, CR, plain] at h
  | _ => exact h

/-! ### load -/
def isRowB (P : Program) (t : TypeId) : Option Bool := (P.underlying t).map fun d => d.isRow
def loadM (P : Program) (t : TypeId) (μ : Mem) : Value → Option Value
  | .pointer (some a) =>
    match μ.hp.get a.block, P.underlying t, P.info? t with
    | some (.row cells _ _), some d, some i =>
      if d.isRow then
        if ((cells.drop a.off).take i.size).length = i.size then some (.agg ((cells.drop a.off).take i.size).toArray) else none
      else cells[a.off]?
    | _, _, _ => none
  | _ => none
theorem run_loadVar_cell {w : World} {a : Addr} {t : TypeId} {d : TypeDesc} {v : Value} (hu : P.underlying t = some d) (hd : d.isRow = false) (hc : w.cell? a = some v) : (loadVar t a).run P w = .ok v w := by
  have hagg : (isAgg t).run P w = .ok false w := by
    unfold isAgg
    rw [Sem.run_bind, run_underlying hu w]
    cases d <;> simp_all
  simp [loadVar, Sem.run_bind, hagg, load, Sem.run, hc]
theorem loadM_does {m : Em} {base : Nat → Prop} {μ : Mem} {w : World} (h : Ok P m base μ w) {t : TypeId} {x v : Value} (hl : loadM P t μ x = some v) {x' : Value} (hx : VR m x x') :
    ∃ v', (Instr.loadAt t x').run P w = .ok v' w ∧ VR m v v' := by
  unfold loadM at hl
  split at hl
  · rename_i a
    obtain ⟨h1, h2, rfl⟩ := hx.pointer
    split at hl
    · rename_i cells e own d i hg hu hi
      obtain ⟨xs', ha, hr⟩ := (h.row _ _ _ _ hg).lies
      split at hl
      · rename_i hd
        split at hl
        · rename_i hlen
          injection hl with hl
          subst hl
          have ha2 := (ha.drop a.off).take i.size
          have hlen2 := ha2.length
          refine ⟨.agg ((xs'.drop a.off).take i.size).toArray, ?_, ⟨_, rfl, by simpa using ha2⟩⟩
          refine run_loadAt_mid w (m.blk a.block) (m.off a.block + a.off) t _ d (fun j v hv => ?_) hu hd (by rw [hi, Option.map_some, ← hlen2, hlen])
          have hj := (List.getElem?_eq_some_iff.1 hv).1
          rw [List.getElem?_take_of_lt (by simp at hj; omega), List.getElem?_drop] at hv
          have := hr _ v hv
          rwa [Nat.add_assoc]
        · cases hl
      · rename_i hd
        obtain ⟨v', hv', hc⟩ := ha.get hl
        refine ⟨v', ?_, VR.of_cell hc⟩
        simp only [Instr.loadAt, Instr.sureAddr, Sem.run_bind, Sem.run_pure, Result.andThen_ok]
        exact run_loadVar_cell hu (by simpa using hd) (hr _ _ hv')
    · cases hl
  · cases hl

/-! ### store -/
def isTuple : Value → Bool
  | .tuple _ => true
  | _ => false
def storeM (P : Program) (t : TypeId) (μ : Mem) (x v : Value) : Option Mem :=
  match x with
  | .pointer (some a) =>
    match μ.hp.get a.block, P.info? t with
    | some (.row cells e true), some i =>
      if isTuple v = false ∧ v.cells.toList.length = i.size ∧ a.off + v.cells.toList.length ≤ cells.length then some ⟨μ.hp.set a.block (some (.row (splice cells a.off v.cells.toList) e true)), μ.next⟩ else none
    | _, _ => none
  | _ => none
theorem run_storeAt {w : World} {b o : Nat} {t : TypeId} {v : Value} {i : TypeInfo} (ht : w.there b o v.cells.toList.length) (hi : P.info? t = some i) (hs : v.cells.toList.length = i.size) (h1 : ∀ c ∈ v.cells.toList, c.oneCell' = true) :
    (Instr.storeAt t (.pointer (some ⟨b, o, none⟩)) v).run P w = .ok () (w.setCells b o v.cells.toList) := by
  have := run_storeCells_cells (P := P) b o v.cells.toList 0 w (fun j hj => by simpa using (ht j hj).1) (fun j hj => by simpa using (ht j hj).2) h1
  simp only [Nat.add_zero] at this
  have hs' : v.cells.size = i.size := by simpa using hs
  simp [Instr.storeAt, Instr.sureAddr, storeVar, sizeOf, typeInfo, hi, hs', this]
theorem below_setCells {base : Nat → Prop} {b : Nat} (hb : base b) : ∀ (vs : List Value) (o : Nat) (w : World), Below base w (w.setCells b o vs)
  | [], _, _ => Below.refl _ _
  | v :: r, o, w => ((Below.refl base w).setCell (p := ⟨b, o, none⟩) hb v).trans (below_setCells hb r (o + 1) _)
theorem storeM_does {m : Em} {base : Nat → Prop} {μ μ' : Mem} {w : World} (h : Ok P m base μ w) {t : TypeId} {x v : Value} (hl : storeM P t μ x v = some μ') {x' v' : Value} (hx : VR m x x') (hv : VR m v v') :
    ∃ w', (Instr.storeAt t x' v').run P w = .ok () w' ∧ Ok P m base μ' w' ∧ Below base w w' := by
  unfold storeM at hl
  split at hl
  · rename_i a
    obtain ⟨h1, h2, rfl⟩ := hx.pointer
    split at hl
    · rename_i cells e i hg hi
      split at hl
      · rename_i hc
        obtain ⟨c1, c2, c3⟩ := hc
        injection hl with hl
        subst hl
        have ha := hv.cells (fun vs hh => by subst hh; simp [isTuple] at c1)
        have hlen := ha.length
        obtain ⟨k1, k2⟩ := h.store hg ha c3
        obtain ⟨m1, m2, _, _⟩ := (h.row _ _ _ _ hg).mine rfl
        refine ⟨_, ?_, k1, below_setCells m2 _ _ _⟩
        rw [m1, Nat.zero_add]
        exact run_storeAt (i := i) k2 hi (by omega) (all2_oneCell ha)
      · cases hl
    · cases hl
  · cases hl

/-! ### new variables -/
def newM (e : TypeId) (cells : List Value) (μ : Mem) : Value × Mem := (.pointer (some ⟨μ.next, 0, none⟩), ⟨μ.hp.set μ.next (some (.row cells e true)), μ.next + 1⟩)
theorem newM_does {m : Em} {base : Nat → Prop} {μ : Mem} {w : World} (h : Ok P m base μ w) (e : TypeId) {cells xs' : List Value} (hx : All2 (CR m) cells xs') :
    ∃ m' w', (newRow e xs'.toArray).run P w = .ok ⟨w.heap.size, 0, none⟩ w' ∧ m.le m' ∧ Ok P m' base (newM e cells μ).2 w' ∧ VR m' (newM e cells μ).1 (.pointer (some ⟨w.heap.size, 0, none⟩)) ∧ Below base w w' := by
  have hk := h.alloc hx e 0 [] (by simp)
  rw [List.append_nil] at hk
  refine ⟨_, _, rfl, m.le_ext _ _, hk, ⟨rfl, ?_, ?_⟩, (Below.refl _ _).alloc h.low _⟩
  · show μ.next < m.top + 1
    rw [h.top]; omega
  · show Value.pointer _ = Value.pointer _
    simp [Em.ext, h.top]

end Go.Mini
