/-
  More operations of Go code over the abstract memory: literals, made slices, cuts. No statement of the seat is proved here; no condition.
-/
import Derived.Test.YtlflocejgffjdaaM4
namespace Go.Mini
open Go.RowKit

variable {P : Program}

/-! ### composite values -/
def PartsOk (m : Em) (ps ps' : List (Nat × Value)) : Prop := All2 (fun p p' => p.1 = p'.1 ∧ VR m p.2 p'.2) ps ps'
def noTuples (ps : List (Nat × Value)) : Bool := ps.all fun p => !isTuple p.2
theorem parts_fill {m : Em} {ps ps' : List (Nat × Value)} (h : PartsOk m ps ps') (hn : noTuples ps = true) : All2 (fun p p' => p.1 = p'.1 ∧ isTuple p.2 = false ∧ VR m p.2 p'.2) ps ps' := by
  unfold PartsOk at h
  induction h with
  | nil => exact .nil
  | cons h _ ih =>
    simp only [noTuples, List.all_cons, Bool.and_eq_true, Bool.not_eq_true'] at hn
    exact .cons ⟨h.1, hn.1, h.2⟩ (ih hn.2)
def placesSem (fields : Array Field) : Sem (Array (Nat × Nat)) := fields.mapM fun f => do pure (f.offset, ← sizeOf f.type)
def buildM (P : Program) (t : TypeId) (ps : List (Nat × Value)) : Option Value :=
  if noTuples ps then
    match zeroM P t, P.underlying t with
    | some z, some (.struct fields) => match pureOf P (placesSem fields) with
      | some places => (Instr.fill (places[·]?) z.cells ps).map .agg
      | none => none
    | some z, some (.array _ elem) => match P.info? elem with
      | some i => (Instr.fill (fun k => some (k * i.size, i.size)) z.cells ps).map .agg
      | none => none
    | _, _ => none
  else none
theorem buildM_does {m : Em} {t : TypeId} {ps ps' : List (Nat × Value)} (hp : PartsOk m ps ps') {v : Value} (hl : buildM P t ps = some v) (w : World) :
    ∃ v', (Instr.build t ps'.toArray).run P w = .ok v' w ∧ VR m v v' := by
  unfold buildM at hl
  split at hl
  · rename_i hn
    have hp' := parts_fill hp hn
    split at hl
    · rename_i z fields hz hu
      obtain ⟨z1, z2⟩ := zeroM_run hz w
      split at hl
      · rename_i places hpl
        cases hf : Instr.fill (places[·]?) z.cells ps with
        | none => rw [hf] at hl; cases hl
        | some r =>
          rw [hf] at hl
          injection hl with hl
          subst hl
          obtain ⟨r', h1, h2⟩ := fill_rel _ _ _ _ _ _ hp' (all2_plain (m := m) (plainV_cells z2)) hf
          refine ⟨.agg r', ?_, ⟨r', rfl, h2⟩⟩
          have hps := pureOf_run hpl w
          unfold placesSem at hps
          unfold Instr.build
          simp only [Sem.run_bind, z1, Result.andThen_ok, run_underlying hu]
          rw [hps]
          simp [h1]
      · cases hl
    · rename_i z n elem hz hu
      obtain ⟨z1, z2⟩ := zeroM_run hz w
      split at hl
      · rename_i i hi
        cases hf : Instr.fill (fun k => some (k * i.size, i.size)) z.cells ps with
        | none => rw [hf] at hl; cases hl
        | some r =>
          rw [hf] at hl
          injection hl with hl
          subst hl
          obtain ⟨r', h1, h2⟩ := fill_rel _ _ _ _ _ _ hp' (all2_plain (m := m) (plainV_cells z2)) hf
          refine ⟨.agg r', ?_, ⟨r', rfl, h2⟩⟩
          simp [Instr.build, Sem.run_bind, z1, run_underlying hu, sizeOf, typeInfo, hi, h1]
      · cases hl
    · cases hl
  · cases hl

/-- so many zero cells -/
def zerosA (zero : Array Value) (n : Nat) : Array Value := (Array.range n).map (zero[· % zero.size]!)
theorem zerosA_plain {z : Array Value} (hz : z.toList.all plain = true) {n : Nat} (h : n = 0 ∨ z.size ≠ 0) : (zerosA z n).toList.all plain = true := by
  rw [List.all_eq_true]
  intro v hv
  unfold zerosA at hv
  simp only [Array.toList_map, List.mem_map] at hv
  obtain ⟨i, hi, rfl⟩ := hv
  simp at hi
  have hs : z.size ≠ 0 := h.resolve_left (by omega)
  have hlt : i % z.size < z.size := Nat.mod_lt _ (by omega)
  rw [getElem!_pos z _ hlt]
  exact List.all_eq_true.1 hz _ (by simp)

def elemZero (P : Program) (e : TypeId) (n : Nat) : Option (Array Value) :=
  if n = 0 then some #[] else match zeroM P e with
    | some z => if z.cells.size = 0 then none else some z.cells
    | none => none
theorem elemZero_run {e : TypeId} {n : Nat} {z : Array Value} (h : elemZero P e n = some z) (w : World) :
    ((n = 0 ∧ z = #[]) ∨ (n ≠ 0 ∧ ∃ zv, (zeroValue e).run P w = .ok zv w ∧ zv.cells = z)) ∧ (zerosA z n).toList.all plain = true := by
  unfold elemZero at h
  split at h
  · rename_i hn
    injection h with h
    subst h
    subst hn
    exact ⟨.inl ⟨rfl, rfl⟩, zerosA_plain rfl (.inl rfl)⟩
  · rename_i hn
    split at h
    · rename_i z' hz
      split at h
      · cases h
      · rename_i hs
        injection h with h
        subst h
        obtain ⟨z1, z2⟩ := zeroM_run hz w
        exact ⟨.inr ⟨hn, z', z1, rfl⟩, zerosA_plain (plainV_cells z2) (.inr hs)⟩
    · cases h

def buildSliceM (P : Program) (t : TypeId) (len : Nat) (ps : List (Nat × Value)) (μ : Mem) : Option (Value × Mem) :=
  if noTuples ps then
    match P.underlying t with
    | some (.slice elem) => match P.info? elem with
      | some i => if len * i.size > 16777216 ∨ len > maxLen then none else match elemZero P elem (len * i.size) with
        | some z => match Instr.fill (fun k => some (k * i.size, i.size)) (zerosA z (len * i.size)) ps with
          | some r => some (.slice (some ⟨μ.next, 0, none⟩) len len, (newM elem r.toList μ).2)
          | none => none
        | none => none
      | none => none
    | _ => none
  else none
theorem buildSliceM_does {m : Em} {base : Nat → Prop} {μ μ' : Mem} {w : World} (h : Ok P m base μ w) {t : TypeId} {len : Nat} {ps ps' : List (Nat × Value)} (hp : PartsOk m ps ps') {v : Value} (hl : buildSliceM P t len ps μ = some (v, μ')) :
    ∃ m' v' w', (Instr.buildSlice t len ps'.toArray).run P w = .ok v' w' ∧ m.le m' ∧ Ok P m' base μ' w' ∧ VR m' v v' ∧ Below base w w' := by
  unfold buildSliceM at hl
  split at hl
  · rename_i hn
    have hp' := parts_fill hp hn
    split at hl
    · rename_i elem hu
      split at hl
      · rename_i i hi
        split at hl
        · cases hl
        · rename_i hbig
          have hb1 : ¬ (len * i.size > 16777216) := fun hh => hbig (.inl hh)
          have hb2 : len ≤ maxLen := Nat.le_of_not_lt fun hh => hbig (.inr hh)
          split at hl
          · rename_i z hz
            obtain ⟨z1, z2⟩ := elemZero_run hz w
            split at hl
            · rename_i r hr
              injection hl with hl
              injection hl with hv hμ
              obtain ⟨r', h1, h2⟩ := fill_rel _ _ _ _ _ _ hp' (all2_plain (m := m) z2) hr
              obtain ⟨m', w', k1, k2, k3, k4, k5⟩ := newM_does h elem h2
              rw [hμ] at k3
              refine ⟨m', .slice (some ⟨w.heap.size, 0, none⟩) len len, w', ?_, k2, k3, ?_, k5⟩
              · simp only [Array.toArray_toList] at k1
                unfold zerosA at h1
                have hb1' : ¬ (16777216 < len * i.size) := hb1
                rcases z1 with ⟨hn0, rfl⟩ | ⟨hn0, zv, hzv, rfl⟩
                · simp only [hn0] at h1
                  simp [Instr.buildSlice, Sem.run_bind, run_underlying hu, sizeOf, typeInfo, hi, hn0]
                  simp at h1
                  rw [h1]
                  simp [k1]
                · simp [Instr.buildSlice, Sem.run_bind, run_underlying hu, sizeOf, typeInfo, hi, hb1', hn0, hzv]
                  rw [h1]
                  simp [k1]
              · subst hv
                obtain ⟨_, q2, q3⟩ := k4.pointer
                simp only at q2 q3
                injection q3 with q3
                injection q3 with q3
                injection q3 with q4 q5
                refine ⟨rfl, q2, len, Nat.le_refl _, hb2, fun _ => rfl, ?_⟩
                by_cases hlo : loose len len
                · exact .inl ⟨hlo, _, by rw [hlo.1]⟩
                · refine .inr ⟨hlo, fun hh => ?_, by rw [← q4, ← q5]⟩
                  rw [hh] at hb2
                  simp [INF, maxLen] at hb2
            · cases hl
          · cases hl
      · cases hl
    · cases hl
  · cases hl

def makeSliceM (P : Program) (t : TypeId) (len cap : Value) (μ : Mem) : Option (Value × Mem) :=
  match len, cap, P.underlying t with
  | .int _ l, .int _ c, some (.slice elem) => match P.info? elem with
    | some i => if 0 ≤ l ∧ l ≤ c ∧ c ≤ 1099511627776 ∧ (i.bytes : Int) * c ≤ 140737488355328 ∧ i.size ≠ 0 then match elemZero P elem (c.toNat * i.size) with
      | some z => some (.slice (some ⟨μ.next, 0, none⟩) l.toNat c.toNat, (newM elem (zerosA z (c.toNat * i.size)).toList μ).2)
      | none => none
      else none
    | none => none
  | _, _, _ => none
theorem makeSliceM_does {m : Em} {base : Nat → Prop} {μ μ' : Mem} {w : World} (h : Ok P m base μ w) {t : TypeId} {l c : Value} {v : Value} (hl : makeSliceM P t l c μ = some (v, μ')) :
    ∃ m' v' w', (Instr.makeSlice t l c).run P w = .ok v' w' ∧ m.le m' ∧ Ok P m' base μ' w' ∧ VR m' v v' ∧ Below base w w' := by
  unfold makeSliceM at hl
  split at hl
  · rename_i kl l kc c elem hu
    split at hl
    · rename_i i hi
      split at hl
      · rename_i hb
        obtain ⟨b1, b2, b3, b4, b5⟩ := hb
        split at hl
        · rename_i z hz
          obtain ⟨z1, z2⟩ := elemZero_run hz w
          injection hl with hl
          injection hl with hv hμ
          obtain ⟨m', w', k1, k2, k3, k4, k5⟩ := newM_does h elem (all2_plain (m := m) z2)
          rw [hμ] at k3
          refine ⟨m', .slice (some ⟨w.heap.size, 0, none⟩) l.toNat c.toNat, w', ?_, k2, k3, ?_, k5⟩
          · simp only [Array.toArray_toList] at k1
            have wl : IntKind.i64.wrap l = l := IntWalk.i64_in _ (by omega)
            have wc : IntKind.i64.wrap c = c := IntWalk.i64_in _ (by omega)
            have t1 : ¬ c < 0 := by omega
            have t2 : ¬ ((281474976710656 : Int) < (i.bytes : Int) * c) := by omega
            have t3 : ¬ l < 0 := by omega
            have t4 : ¬ c < l := by omega
            unfold zerosA at k1
            rcases z1 with ⟨hn0, rfl⟩ | ⟨hn0, zv, hzv, rfl⟩
            · simp only [hn0] at k1
              simp [Instr.makeSlice, Sem.run_bind, run_underlying hu, asInt, asIntOf, typeInfo, hi, wl, wc, t1, t2, t3, t4, askRoom, sizeOf, hn0]
              simp at k1
              simp [k1]
            · simp [Instr.makeSlice, Sem.run_bind, run_underlying hu, asInt, asIntOf, typeInfo, hi, wl, wc, t1, t2, t3, t4, askRoom, sizeOf, hn0, hzv]
              simp [k1]
          · subst hv
            obtain ⟨_, q2, q3⟩ := k4.pointer
            simp only at q2 q3
            injection q3 with q3
            injection q3 with q3
            injection q3 with q4 q5
            have hc : c.toNat ≤ maxLen := by unfold maxLen; omega
            refine ⟨rfl, q2, c.toNat, by omega, hc, fun _ => rfl, ?_⟩
            by_cases hlo : loose l.toNat c.toNat
            · exact .inl ⟨hlo, _, by rw [hlo.1]⟩
            · refine .inr ⟨hlo, fun hh => ?_, by rw [← q4, ← q5]⟩
              rw [hh] at hc
              simp [INF, maxLen] at hc
        · cases hl
      · cases hl
    · cases hl
  · cases hl

end Go.Mini
