/-
  More operations of Go code over the abstract memory: copy, len, comparisons with nil. No statement of the seat is proved here; no condition.
-/
import Derived.Test.YtlflocejgffjdaaM8
import Derived.Laws.IdiomCopy
namespace Go.Mini
open Go.RowKit

variable {P : Program}

/-! ### copy -/
def cellsAt (μ : Mem) (a : Addr) (k : Nat) : Option (List Value) :=
  match μ.hp.get a.block with
  | some (.row cells _ _) => if ((cells.drop a.off).take k).length = k then some ((cells.drop a.off).take k) else none
  | _ => none
theorem cellsAt_does {m : Em} {base : Nat → Prop} {μ : Mem} {w : World} (h : Ok P m base μ w) {a : Addr} {k : Nat} {cs : List Value} (hl : cellsAt μ a k = some cs) :
    ∃ cs', All2 (CR m) cs cs' ∧ cs.length = k ∧ ∀ j v, cs'[j]? = some v → w.cell? ((⟨m.blk a.block, m.off a.block + a.off, none⟩ : Addr).add j) = some v := by
  unfold cellsAt at hl
  split at hl
  · rename_i cells e own hg
    split at hl
    · rename_i hlen
      injection hl with hl
      subst hl
      obtain ⟨xs', ha, hr⟩ := (h.row _ _ _ _ hg).lies
      have ha2 := (ha.drop a.off).take k
      refine ⟨_, ha2, hlen, fun j u hj => ?_⟩
      have hjl := (List.getElem?_eq_some_iff.1 hj).1
      rw [List.getElem?_take_of_lt (by simp at hjl; omega), List.getElem?_drop] at hj
      have := hr _ u hj
      rwa [Addr.add_mid, Nat.add_assoc]
    · cases hl
  · cases hl
def lenSrc (x : Value) : Option Nat :=
  match x with
  | .slice none l c => if l = 0 ∧ c = 0 then some 0 else none
  | .slice (some _) l _ => some l
  | .string s => some s.size
  | _ => none
/-- the first n elements of a source, n more than none -/
def srcCells (μ : Mem) (size n : Nat) (x : Value) : Option (List Value) :=
  match x with
  | .slice (some b) l _ => if n ≤ l then cellsAt μ b (n * size) else none
  | .string s => if size = 1 then some ((byteCells s).take n) else none
  | _ => none
def copyM (P : Program) (dT : TypeId) (d s : Value) (μ : Mem) : Option (Value × Mem) :=
  match P.underlying dT, d, lenSrc d, lenSrc s with
  | some (.slice e), .slice da _ _, some dl, some sl =>
    match P.info? e with
    | some i => if Nat.min sl dl = 0 then some (goInt 0, μ) else match srcCells μ i.size (Nat.min sl dl) s, da with
        | some cs, some a => match μ.hp.get a.block with
          | some (.row cells e' true) => if cs.length = Nat.min sl dl * i.size ∧ a.off + cs.length ≤ cells.length then some (goInt (Nat.min sl dl), ⟨μ.hp.set a.block (some (.row (splice cells a.off cs) e' true)), μ.next⟩) else none
          | _ => none
        | _, _ => none
    | none => none
  | _, _, _, _ => none
theorem lenSrc_does {m : Em} {x x' : Value} {n : Nat} (hx : VR m x x') (hl : lenSrc x = some n) : (∀ w : World, (Builtin.lenOf x').run P w = .ok n w) ∧ (∀ (size : Nat) (w : World), (Builtin.firstCells size 0 x').run P w = .ok #[] w) ∧ (∀ b l c, x = .slice b l c → ∃ b' c', x' = .slice b' n c' ∧ (b = none → b' = none)) := by
  unfold lenSrc at hl
  split at hl
  · rename_i l c
    split at hl
    · rename_i hc
      obtain ⟨rfl, rfl⟩ := hc
      injection hl with hl
      subst hl
      have : x' = .slice none 0 0 := hx.plain_eq rfl
      subst this
      exact ⟨fun _ => rfl, fun size w => run_firstCells_none w size 0 0 0, fun b l c _ => ⟨none, 0, rfl, fun _ => rfl⟩⟩
    · cases hl
  · rename_i a l c
    injection hl with hl
    subst hl
    obtain ⟨_, _, c', _, _, _, h6⟩ := hx.slice
    rcases h6 with ⟨hlo, a', rfl⟩ | ⟨_, _, rfl⟩
    · rw [hlo.1]
      exact ⟨fun _ => rfl, fun size w => run_firstCells_some w size 0 a' 0 c' [] (by simp) (by simp), fun b l c e => ⟨some a', c', rfl, fun hb => by injection e with e1; rw [hb] at e1; cases e1⟩⟩
    · exact ⟨fun _ => rfl, fun size w => run_firstCells_some w size 0 _ _ c' [] (by simp) (by simp), fun b l c e => ⟨_, c', rfl, fun hb => by injection e with e1; rw [hb] at e1; cases e1⟩⟩
  · rename_i s
    injection hl with hl
    subst hl
    have : x' = .string s := hx.plain_eq rfl
    subst this
    refine ⟨fun _ => rfl, fun size w => ?_, fun b l c e => by cases e⟩
    simp [Builtin.firstCells]
  · cases hl
theorem srcCells_does {m : Em} {base : Nat → Prop} {μ : Mem} {w : World} (h : Ok P m base μ w) {size n : Nat} {x x' : Value} {cs : List Value} (hn : n ≠ 0) (hx : VR m x x') (hl : srcCells μ size n x = some cs) :
    ∃ cs', All2 (CR m) cs cs' ∧ (Builtin.firstCells size n x').run P w = .ok cs'.toArray w := by
  unfold srcCells at hl
  split at hl
  · rename_i b l c
    split at hl
    · rename_i hnl
      obtain ⟨_, _, c', _, _, _, h6⟩ := hx.slice
      rcases h6 with ⟨hlo, _⟩ | ⟨_, _, rfl⟩
      · have := hlo.1; omega
      · obtain ⟨cs', r1, r2, r3⟩ := cellsAt_does h hl
        exact ⟨cs', r1, run_firstCells_some w size n _ l c' cs' (by rw [← r1.length]; exact r2) r3⟩
    · cases hl
  · rename_i s
    split at hl
    · rename_i hs
      injection hl with hl
      subst hl
      have : x' = .string s := hx.plain_eq rfl
      subst this
      refine ⟨(byteCells s).take n, all2_plain (List.all_eq_true.2 fun x hx => by obtain ⟨_, _, rfl⟩ := List.mem_map.1 (List.mem_of_mem_take hx); rfl), ?_⟩
      simp only [Builtin.firstCells, Sem.run_pure]
      congr 1
      apply Array.ext'
      simp [byteCells, ByteArray.data_extract]
    · cases hl
  · cases hl
theorem run_copy_gen {w : World} {dT sT ty e : TypeId} {i : TypeInfo} (hu : P.underlying dT = some (.slice e)) (hi : P.info? e = some i) {b : Option Addr} {dl dc sl : Nat} {s : Value} (hlen : (Builtin.lenOf s).run P w = .ok sl w) {cs : Array Value}
    (hcs : (Builtin.firstCells i.size (Nat.min sl dl) s).run P w = .ok cs w) {w' : World} (hst : ∀ a, b = some a → (storeCells a cs.toList).run P w = .ok () w') (hno : b = none → w' = w) :
    (Builtin.copy_ #[dT, sT] ty #[.slice b dl dc, s]).run P w = .ok (goInt (Nat.min sl dl)) w' := by
  cases b with
  | none =>
    rw [hno rfl]
    simp [Builtin.copy_, run_underlying hu, sizeOf, typeInfo, hi, hlen, hcs]
  | some a => simp [Builtin.copy_, run_underlying hu, sizeOf, typeInfo, hi, hlen, hcs, hst a rfl]
theorem copyM_does {m : Em} {base : Nat → Prop} {μ μ' : Mem} {w : World} (h : Ok P m base μ w) {dT sT ty : TypeId} {d d' s s' v : Value} (hd : VR m d d') (hs : VR m s s') (hl : copyM P dT d s μ = some (v, μ')) :
    ∃ w', (Builtin.copy_ #[dT, sT] ty #[d', s']).run P w = .ok v w' ∧ plainV v = true ∧ Ok P m base μ' w' ∧ Below base w w' := by
  unfold copyM at hl
  split at hl
  · rename_i e da l0 c0 dl sl hu hsl0 hdl0
    obtain ⟨s1, s2, _⟩ := lenSrc_does (P := P) hs hsl0
    obtain ⟨d1, d2, d3⟩ := lenSrc_does (P := P) hd hdl0
    obtain ⟨b', c', rfl, hb'⟩ := d3 _ _ _ rfl
    split at hl
    · rename_i i hi
      split at hl
      · rename_i hz
        injection hl with hl; injection hl with q1 q2; subst q1; subst q2
        refine ⟨w, ?_, rfl, h, Below.refl _ _⟩
        have := run_copy_gen (sT := sT) (ty := ty) (b := b') (dl := dl) (dc := c') hu hi (s1 w) (cs := #[]) (by rw [hz]; exact s2 _ _) (w' := w) (fun a _ => by simp [storeCells]) (fun _ => rfl)
        rw [hz] at this
        exact this
      · rename_i hz
        split at hl
        · rename_i cs a hcs
          split at hl
          · rename_i cells e' hg
            split at hl
            · rename_i hfit
              injection hl with hl; injection hl with q1 q2; subst q1; subst q2
              obtain ⟨cs', r1, r2⟩ := srcCells_does h hz hs hcs
              obtain ⟨k1, k2⟩ := h.store hg r1 hfit.2
              obtain ⟨o1, o2, _, _⟩ := (h.row _ _ _ _ hg).mine rfl
              obtain ⟨_, _, c2, _, _, _, d6⟩ := hd.slice
              have hdl0 : dl ≠ 0 := fun hh => hz (by rw [hh]; exact Nat.min_zero _)
              rcases d6 with ⟨_, _, e0⟩ | ⟨_, _, e0⟩
              · injection e0 with e1 e2; exact absurd e2 hdl0
              · injection e0 with e1 e2 e3
                subst e1
                refine ⟨_, run_copy_gen (sT := sT) (ty := ty) hu hi (s1 w) r2 (fun a0 ha => ?_) (fun hh => by cases hh), rfl, k1, below_setCells o2 _ _ _⟩
                injection ha with ha
                subst ha
                have := run_storeCells_cells (P := P) (m.blk a.block) a.off cs' 0 w (fun j hj => by simpa using (k2 j hj).1) (fun j hj => by simpa using (k2 j hj).2) (all2_oneCell r1)
                rw [o1, Nat.zero_add]
                simpa using this
            · cases hl
          · cases hl
        · cases hl
    · cases hl
  · cases hl

/-! ### len -/
def lenM (P : Program) (t : TypeId) (x : Value) : Option Value :=
  match P.underlying t, x with
  | some (.slice _), .slice _ n _ => some (goInt n)
  | some (.array n _), _ => some (goInt n)
  | _, _ => none
theorem lenM_does {m : Em} {t ty : TypeId} {x x' v : Value} (hx : VR m x x') (hl : lenM P t x = some v) (w : World) : (Builtin.len_ #[t] ty #[x']).run P w = .ok v w ∧ plainV v = true := by
  unfold lenM at hl
  split at hl
  · rename_i e b n c hu
    injection hl with hl
    subst hl
    refine ⟨?_, rfl⟩
    cases b with
    | none =>
      by_cases hc : n = 0 ∧ c = 0
      · have : x' = .slice none n c := hx.plain_eq (by simp [plainV, plain, hc])
        subst this
        simp [Builtin.len_, run_underlying hu]
      · have : plain (.slice none n c) = true := hx.1
        simp [plain] at this
        exact absurd this hc
    | some a =>
      obtain ⟨_, _, c', _, _, _, h6⟩ := hx.slice
      rcases h6 with ⟨hlo, a', rfl⟩ | ⟨_, _, rfl⟩
      · simp [Builtin.len_, run_underlying hu, hlo.1]
      · simp [Builtin.len_, run_underlying hu]
  · rename_i n e hu
    injection hl with hl
    subst hl
    exact ⟨by simp [Builtin.len_, run_underlying hu], rfl⟩
  · cases hl

/-! ### comparisons with nil -/
def nilM (P : Program) (op : BinOp) (t : TypeId) (x y : Value) : Option Value :=
  match op, P.underlying t, x, y with
  | .eql, some (.pointer _), .pointer (some _), .pointer none | .eql, some (.pointer _), .pointer none, .pointer (some _) => some (.bool false)
  | .neq, some (.pointer _), .pointer (some _), .pointer none | .neq, some (.pointer _), .pointer none, .pointer (some _) => some (.bool true)
  | .eql, some (.slice _), .slice (some _) _ _, .slice none 0 0 | .eql, some (.slice _), .slice none 0 0, .slice (some _) _ _ => some (.bool false)
  | .neq, some (.slice _), .slice (some _) _ _, .slice none 0 0 | .neq, some (.slice _), .slice none 0 0, .slice (some _) _ _ => some (.bool true)
  | _, _, _, _ => none
theorem VR.slice_some {m : Em} {a : Addr} {l c : Nat} {v' : Value} (h : VR m (.slice (some a) l c) v') : ∃ a' l' c', v' = .slice (some a') l' c' := by
  obtain ⟨_, _, c', _, _, _, h6⟩ := h.slice
  rcases h6 with ⟨_, a', rfl⟩ | ⟨_, _, rfl⟩
  · exact ⟨_, _, _, rfl⟩
  · exact ⟨_, _, _, rfl⟩
theorem equalIn_nil (d : Nat) {t : TypeId} {x y : Value} {u : TypeDesc} (hu : P.underlying t = some u)
    (h : (∃ e a, u = .pointer e ∧ ((x = .pointer (some a) ∧ y = .pointer none) ∨ (x = .pointer none ∧ y = .pointer (some a)))) ∨
      (∃ e a l c, u = .slice e ∧ ((x = .slice (some a) l c ∧ y = .slice none 0 0) ∨ (x = .slice none 0 0 ∧ y = .slice (some a) l c)))) (w : World) : (Op.equalIn (d + 1) t x y).run P w = .ok false w := by
  rcases h with ⟨e, a, rfl, ⟨rfl, rfl⟩ | ⟨rfl, rfl⟩⟩ | ⟨e, a, l, c, rfl, ⟨rfl, rfl⟩ | ⟨rfl, rfl⟩⟩ <;> simp [Op.equalIn, Sem.run_bind, run_underlying hu]
theorem equal_nil {t : TypeId} {x y : Value} {u : TypeDesc} (hu : P.underlying t = some u)
    (h : (∃ e a, u = .pointer e ∧ ((x = .pointer (some a) ∧ y = .pointer none) ∨ (x = .pointer none ∧ y = .pointer (some a)))) ∨
      (∃ e a l c, u = .slice e ∧ ((x = .slice (some a) l c ∧ y = .slice none 0 0) ∨ (x = .slice none 0 0 ∧ y = .slice (some a) l c)))) (w : World) : (Op.equal t x y).run P w = .ok false w :=
  equalIn_nil _ hu h w
theorem nilM_does {m : Em} {op : BinOp} {t : TypeId} {x x' y y' v : Value} {ox oy : Operand} (hx : VR m x x') (hy : VR m y y') (hl : nilM P op t x y = some v) (w : World) :
    (do eqGuard op t ox oy x' y'; binOp op t x' y').run P w = .ok v w ∧ plainV v = true := by
  unfold nilM at hl
  split at hl
  all_goals first | cases hl | skip
  all_goals
    rename_i hu
    refine ⟨?_, rfl⟩
    first
      | (obtain ⟨_, _, rfl⟩ := hx.pointer
         have : y' = .pointer none := hy.plain_eq rfl
         subst this
         simp [eqGuard, binOp, equal_nil hu (.inl ⟨_, _, rfl, .inl ⟨rfl, rfl⟩⟩) w]; done)
      | (obtain ⟨_, _, rfl⟩ := hy.pointer
         have : x' = .pointer none := hx.plain_eq rfl
         subst this
         simp [eqGuard, binOp, equal_nil hu (.inl ⟨_, _, rfl, .inr ⟨rfl, rfl⟩⟩) w]; done)
      | (obtain ⟨_, _, _, rfl⟩ := hx.slice_some
         have : y' = .slice none 0 0 := hy.plain_eq rfl
         subst this
         simp [eqGuard, binOp, equal_nil hu (.inr ⟨_, _, _, _, rfl, .inl ⟨rfl, rfl⟩⟩) w]; done)
      | (obtain ⟨_, _, _, rfl⟩ := hy.slice_some
         have : x' = .slice none 0 0 := hx.plain_eq rfl
         subst this
         simp [eqGuard, binOp, equal_nil hu (.inr ⟨_, _, _, _, rfl, .inr ⟨rfl, rfl⟩⟩) w]; done)

end Go.Mini
