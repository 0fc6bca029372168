/-
  More operations of Go code over the abstract memory: parts, addresses, cuts, appends. No statement of the seat is proved here; no condition.
-/
import Derived.Test.YtlflocejgffjdaaM3
import Derived.Deep.AppendSrc
import Derived.Lib.ConvBytes
import Derived.Laws.BytesArg
namespace Go.Mini
open Go.RowKit

variable {P : Program}

/-! ### a part of cells -/
def partM (P : Program) (t : TypeId) (cs : List Value) (off : Nat) : Option Value :=
  match P.underlying t, P.info? t with
  | some d, some i => if d.isRow then (if ((cs.drop off).take i.size).length = i.size then some (.agg ((cs.drop off).take i.size).toArray) else none) else cs[off]?
  | _, _ => none
theorem partM_does {m : Em} {t : TypeId} {cs cs' : List Value} (h : All2 (CR m) cs cs') {off : Nat} {v : Value} (hl : partM P t cs off = some v) (w : World) :
    ∃ v', (part t cs'.toArray off).run P w = .ok v' w ∧ VR m v v' := by
  unfold partM at hl
  split at hl
  · rename_i d i hu hi
    have hagg : (isAgg t).run P w = .ok d.isRow w := by
      unfold isAgg
      rw [Sem.run_bind, run_underlying hu w]
      cases d <;> simp_all
    split at hl
    · rename_i hd
      split at hl
      · rename_i hlen
        injection hl with hl
        subst hl
        have ha2 := (h.drop off).take i.size
        refine ⟨.agg ((cs'.drop off).take i.size).toArray, ?_, ⟨_, rfl, by simpa using ha2⟩⟩
        simp [part, Sem.run_bind, hagg, hd, sizeOf, typeInfo, hi]
      · cases hl
    · rename_i hd
      obtain ⟨v', hv', hc⟩ := h.get hl
      refine ⟨v', ?_, VR.of_cell hc⟩
      simp [part, Sem.run_bind, hagg, hd, hv']
  · cases hl

def fieldM (P : Program) (t : TypeId) (x : Value) (f : Nat) : Option Value :=
  match P.underlying t, x with
  | some (.struct fields), .agg cs => match fields[f]? with
    | some fd => partM P fd.type cs.toList fd.offset
    | none => none
  | _, _ => none
theorem fieldM_does {m : Em} {t : TypeId} {x x' v : Value} (hx : VR m x x') {f : Nat} (hl : fieldM P t x f = some v) (w : World) :
    ∃ v', (Instr.field t x' f).run P w = .ok v' w ∧ VR m v v' := by
  unfold fieldM at hl
  split at hl
  · rename_i fields cs hu
    split at hl
    · rename_i fd hf
      obtain ⟨cs', rfl, ha⟩ := hx.agg
      obtain ⟨v', h1, h2⟩ := partM_does ha hl w
      refine ⟨v', ?_, h2⟩
      simp only [Array.toArray_toList] at h1
      simp [Instr.field, Sem.run_bind, run_underlying hu, hf, asAgg, h1]
    · cases hl
  · cases hl

def indexM (P : Program) (t : TypeId) (x ix : Value) : Option Value :=
  match P.underlying t, x, ix with
  | some (.array len elem), .agg cs, .int _ i => match P.info? elem with
    | some inf => if 0 ≤ i ∧ i < len then partM P elem cs.toList (i.toNat * inf.size) else none
    | none => none
  | _, _, _ => none
theorem indexM_does {m : Em} {t : TypeId} {x x' ix v : Value} (hx : VR m x x') (hl : indexM P t x ix = some v) (w : World) :
    ∃ v', (Instr.index t x' ix).run P w = .ok v' w ∧ VR m v v' := by
  unfold indexM at hl
  split at hl
  · rename_i len elem cs k i hu
    split at hl
    · rename_i inf hi
      split at hl
      · rename_i hb
        obtain ⟨cs', rfl, ha⟩ := hx.agg
        obtain ⟨v', h1, h2⟩ := partM_does ha hl w
        refine ⟨v', ?_, h2⟩
        simp only [Array.toArray_toList] at h1
        simp [Instr.index, asIntOf, Sem.run_bind, run_underlying hu, hb, sizeOf, typeInfo, hi, h1]
      · cases hl
    · cases hl
  · cases hl

/-! ### addresses -/
def fieldAddrM (P : Program) (s : TypeId) (x : Value) (f : Nat) : Option Value :=
  match P.underlying s, x with
  | some (.struct fields), .pointer (some a) => match fields[f]? with
    | some fd => match P.info? fd.type with
      | some i => if i.size = 0 then none else some (.pointer (some { a with off := a.off + fd.offset }))
      | none => none
    | none => none
  | _, _ => none
theorem fieldAddrM_does {m : Em} {s : TypeId} {x x' v : Value} (hx : VR m x x') {f : Nat} (hl : fieldAddrM P s x f = some v) (w : World) :
    ∃ v', (Instr.fieldAt s x' f).run P w = .ok v' w ∧ VR m v v' := by
  unfold fieldAddrM at hl
  split at hl
  · rename_i fields a hu
    split at hl
    · rename_i fd hf
      split at hl
      · rename_i i hi
        split at hl
        · cases hl
        · rename_i hz
          injection hl with hl
          subst hl
          obtain ⟨h1, h2, rfl⟩ := hx.pointer
          refine ⟨_, ?_, ⟨h1, h2, rfl⟩⟩
          simp [Instr.fieldAt, Sem.run_bind, run_underlying hu, hf, Instr.sureAddr, fieldPlace, sizeOf, typeInfo, hi, hz, Addr.add_mid, Nat.add_assoc]
      · cases hl
    · cases hl
  · cases hl

def indexAddrM (P : Program) (t : TypeId) (x ix : Value) : Option Value :=
  match P.underlying t, x, ix with
  | some (.array len elem), .pointer (some a), .int _ i => match P.info? elem with
    | some inf => if 0 ≤ i ∧ i < len then some (.pointer (some { a with off := a.off + i.toNat * inf.size })) else none
    | none => none
  | some (.slice elem), .slice (some a) len _, .int _ i => match P.info? elem with
    | some inf => if 0 ≤ i ∧ i < len then some (.pointer (some { a with off := a.off + i.toNat * inf.size })) else none
    | none => none
  | _, _, _ => none
theorem VR.slice {m : Em} {a : Addr} {l c : Nat} {v' : Value} (h : VR m (.slice (some a) l c) v') : a.spot = none ∧ a.block < m.top ∧ ∃ c', l ≤ c' ∧ c' ≤ maxLen ∧ (c ≠ INF → c' = c) ∧
      ((loose l c ∧ ∃ a', v' = .slice (some a') 0 c') ∨ (¬ loose l c ∧ (c = INF → a.off = 0 → c' = m.cap a.block) ∧ v' = .slice (some ⟨m.blk a.block, m.off a.block + a.off, none⟩) l c')) := h
theorem indexAddrM_does {m : Em} {t : TypeId} {x x' ix v : Value} (hx : VR m x x') (hl : indexAddrM P t x ix = some v) (w : World) :
    ∃ v', (Instr.indexAt t x' ix).run P w = .ok v' w ∧ VR m v v' := by
  unfold indexAddrM at hl
  split at hl
  · rename_i len elem a k i hu
    split at hl
    · rename_i inf hi
      split at hl
      · rename_i hb
        injection hl with hl
        subst hl
        obtain ⟨h1, h2, rfl⟩ := hx.pointer
        refine ⟨_, ?_, ⟨h1, h2, rfl⟩⟩
        simp [Instr.indexAt, asIntOf, Sem.run_bind, run_underlying hu, hb, Instr.sureAddr, sizeOf, typeInfo, hi, Addr.add_mid, Nat.add_assoc]
      · cases hl
    · cases hl
  · rename_i elem a len cap k i hu
    split at hl
    · rename_i inf hi
      split at hl
      · rename_i hb
        injection hl with hl
        subst hl
        obtain ⟨h1, h2, c', _, _, _, hh | hh⟩ := hx.slice
        · have := hh.1.1; omega
        · obtain ⟨_, _, rfl⟩ := hh
          refine ⟨_, ?_, ⟨h1, h2, rfl⟩⟩
          simp [Instr.indexAt, asIntOf, Sem.run_bind, run_underlying hu, hb, sizeOf, typeInfo, hi, Addr.add_mid, Nat.add_assoc]
      · cases hl
    · cases hl
  · cases hl

/-! ### a fresh row of values in place -/
theorem fold_set_rel {m : Em} : ∀ (xs xs' : List Value) (k off : Nat) (cs cs' : List Value), All2 (CR m) xs xs' → All2 (CR m) cs cs' →
    All2 (CR m) ((xs.zipIdx k).foldl (fun (a : Array Value) (p : Value × Nat) => a.setIfInBounds (off + p.2) p.1) cs.toArray).toList ((xs'.zipIdx k).foldl (fun (a : Array Value) (p : Value × Nat) => a.setIfInBounds (off + p.2) p.1) cs'.toArray).toList
  | [], [], _, _, _, _, _, hc => by simpa using hc
  | x :: xs, x' :: xs', k, off, cs, cs', .cons h t, hc => by
    simp only [List.zipIdx_cons, List.foldl_cons]
    have := fold_set_rel xs xs' (k + 1) off (cs.set (off + k) x) (cs'.set (off + k) x') t (hc.set h _)
    simpa using this
theorem fill_rel {m : Em} (place : Nat → Option (Nat × Nat)) : ∀ (ps ps' : List (Nat × Value)) (cs cs' : Array Value) (r : Array Value),
    All2 (fun p p' => p.1 = p'.1 ∧ isTuple p.2 = false ∧ VR m p.2 p'.2) ps ps' → All2 (CR m) cs.toList cs'.toList → Instr.fill place cs ps = some r →
    ∃ r', Instr.fill place cs' ps' = some r' ∧ All2 (CR m) r.toList r'.toList
  | [], [], cs, cs', r, _, hc, h => by
    simp only [Instr.fill, Option.some.injEq] at h
    subst h
    exact ⟨cs', rfl, hc⟩
  | (i, v) :: ps, (i', v') :: ps', cs, cs', r, .cons hp t, hc, h => by
    obtain ⟨rfl, hnt, hv⟩ := hp
    have hcv := hv.cells (fun vs hh => by simp only at hh; subst hh; simp [isTuple] at hnt)
    have hlen := hcv.length
    have hlc := hc.length
    simp only [Array.length_toList] at hlen hlc
    simp only [Instr.fill] at h ⊢
    split at h
    · cases h
    · rename_i off size hpl
      split at h
      · cases h
      · rename_i hb
        rw [if_neg (by rw [← hlen, ← hlc]; exact hb)]
        refine fill_rel place ps ps' _ _ r t ?_ h
        have := fold_set_rel v.cells.toList v'.cells.toList 0 off cs.toList cs'.toList hcv hc
        have e : ∀ (v : Value) (c : Array Value), v.cells.zipIdx.foldl (fun cs x => cs.setIfInBounds (off + x.snd) x.fst) c = v.cells.toList.zipIdx.foldl (fun cs x => cs.setIfInBounds (off + x.snd) x.fst) c := fun v c => by
          rw [← Array.foldl_toList, Array.toList_zipIdx]
        simp only [Array.toArray_toList] at this
        rw [e, e]
        exact this

def boxM (e : TypeId) (v : Value) (μ : Mem) : Option (Value × Mem) := if isTuple v then none else some (newM e v.cells.toList μ)
theorem boxM_does {m : Em} {base : Nat → Prop} {μ μ' : Mem} {w : World} (h : Ok P m base μ w) {e : TypeId} {x x' v : Value} (hx : VR m x x') (hl : boxM e x μ = some (v, μ')) :
    ∃ m' v' w', (Instr.box e x').run P w = .ok v' w' ∧ m.le m' ∧ Ok P m' base μ' w' ∧ VR m' v v' ∧ Below base w w' := by
  unfold boxM at hl
  split at hl
  · cases hl
  · rename_i ht
    injection hl with hl
    obtain ⟨m', w', h1, h2, h3, h4, h5⟩ := newM_does h e (hx.cells (fun vs hh => by subst hh; simp [isTuple] at ht))
    rw [hl] at h3 h4
    refine ⟨m', _, w', ?_, h2, h3, h4, h5⟩
    simp only [Array.toArray_toList] at h1
    simp [Instr.box, newVar, h1]

def zeroM (P : Program) (e : TypeId) : Option Value :=
  match P.info? e with
  | some i => match i.zero with
    | some z => if plainV z then some z else none
    | none => none
  | none => none
theorem zeroM_run {e : TypeId} {z : Value} (h : zeroM P e = some z) (w : World) : (zeroValue e).run P w = .ok z w ∧ plainV z = true := by
  unfold zeroM at h
  split at h
  · rename_i i hi
    split at h
    · rename_i z' hz
      split at h
      · rename_i hp
        injection h with h
        subst h
        exact ⟨by simp [zeroValue, typeInfo, hi, hz], hp⟩
      · cases h
    · cases h
  · cases h
theorem plainV_cells {z : Value} (h : plainV z = true) : z.cells.toList.all plain = true := by
  cases z with
  | agg cs => simpa [plainV, Value.cells] using h
  | _ => simpa [plainV, Value.cells] using h
def allocM (P : Program) (e : TypeId) (μ : Mem) : Option (Value × Mem) := (zeroM P e).map fun z => newM e z.cells.toList μ
theorem allocM_does {m : Em} {base : Nat → Prop} {μ μ' : Mem} {w : World} (h : Ok P m base μ w) {e : TypeId} {v : Value} (hl : allocM P e μ = some (v, μ')) :
    ∃ m' v' w', (Instr.alloc e true (.tuple #[])).run P w = .ok v' w' ∧ m.le m' ∧ Ok P m' base μ' w' ∧ VR m' v v' ∧ Below base w w' := by
  unfold allocM at hl
  cases hz : zeroM P e with
  | none => rw [hz] at hl; cases hl
  | some z =>
    rw [hz] at hl
    injection hl with hl
    change newM e z.cells.toList μ = (v, μ') at hl
    obtain ⟨z1, z2⟩ := zeroM_run hz w
    obtain ⟨m', w', h1, h2, h3, h4, h5⟩ := newM_does h e (all2_plain (m := m) (plainV_cells z2))
    rw [hl] at h3 h4
    refine ⟨m', _, w', ?_, h2, h3, h4, h5⟩
    simp only [Array.toArray_toList] at h1
    simp [Instr.alloc, Sem.run_bind, z1, newVar, h1]

end Go.Mini
