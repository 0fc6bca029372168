/-
  More operations of Go code over the abstract memory: cuts of slices. No statement of the seat is proved here; no condition.
-/
import Derived.Test.YtlflocejgffjdaaM5
namespace Go.Mini
open Go.RowKit

variable {P : Program}

/-- a bound of a cut: none stands for dflt -/
def boundM (v : Option Value) (dflt : Nat) : Option Nat :=
  match v with
  | none => some dflt
  | some (.int _ i) => if 0 ≤ i then some i.toNat else none
  | some _ => none
/-- what the bounds of a cut come to; most: the greatest that the last may be -/
def boundsM (len most : Nat) (lo hi mx : Option Value) : Option (Nat × Nat × Nat) :=
  if hi.isNone ∧ mx.isSome then none else match boundM lo 0, boundM hi len, boundM mx most with
  | some l, some h, some m => if l ≤ h ∧ h ≤ m ∧ m ≤ most then some (l, h, m) else none
  | _, _, _ => none
theorem sliceBound_run {v : Value} {b y : Nat} {code : BoundsCode} {d : Nat} (hb : boundM (some v) d = some b) (hy : b ≤ y) (w : World) : (Instr.sliceBound v y code).run P w = .ok b w := by
  unfold boundM at hb
  split at hb
  · rename_i hh; cases hh
  · rename_i k i hh
    injection hh with hh
    subst hh
    split at hb
    · rename_i h0
      injection hb with hb
      subst hb
      have h1 : i ≤ (y : Int) := by omega
      simp [Instr.sliceBound, asIntOf, h0, h1]
    · cases hb
  · cases hb
/-- 'full': the machine's capacity; it is no less than what is told. -/
theorem boundsM_run {len most full : Nat} {lo hi mx : Option Value} {l h m : Nat} (hb : boundsM len most lo hi mx = some (l, h, m)) (hf : most ≤ full) (isSlice : Bool) (w : World) :
    l ≤ h ∧ h ≤ m ∧ m ≤ most ∧ (Instr.sliceBounds isSlice len full lo hi mx).run P w = .ok (l, h, if mx.isSome then m else full) w := by
  unfold boundsM at hb
  split at hb
  · cases hb
  rename_i hno
  split at hb
  · rename_i l' h' m' hl hh hm
    split at hb
    · rename_i hc
      injection hb with hb
      injection hb with q1 q2
      injection q2 with q2 q3
      subst q1; subst q2; subst q3
      refine ⟨hc.1, hc.2.1, hc.2.2, ?_⟩
      cases mx with
      | none =>
        cases hi with
        | none =>
          simp only [boundM, Option.some.injEq] at hh
          subst hh
          cases lo with
          | none =>
            simp only [boundM, Option.some.injEq] at hl
            subst hl
            simp [Instr.sliceBounds]
          | some v =>
            have := sliceBound_run (P := P) (code := .sliceB) hl hc.1 w
            simp [Instr.sliceBounds, this]
        | some u =>
          simp only [boundM, Option.some.injEq] at hm
          have h1 := sliceBound_run (P := P) (code := if isSlice then .sliceAcap else .sliceAlen) hh (show h' ≤ full by omega) w
          cases lo with
          | none =>
            simp only [boundM, Option.some.injEq] at hl
            subst hl
            simp [Instr.sliceBounds, h1]
          | some v =>
            have := sliceBound_run (P := P) (code := .sliceB) hl hc.1 w
            simp [Instr.sliceBounds, h1, this]
      | some x =>
        cases hi with
        | none => exact absurd ⟨rfl, rfl⟩ hno
        | some u =>
          have h0 := sliceBound_run (P := P) (code := if isSlice then .slice3Acap else .slice3Alen) hm (show m' ≤ full by omega) w
          have h1 := sliceBound_run (P := P) (code := .slice3B) hh hc.2.1 w
          cases lo with
          | none =>
            simp only [boundM, Option.some.injEq] at hl
            subst hl
            simp [Instr.sliceBounds, h0, h1]
          | some v =>
            have := sliceBound_run (P := P) (code := .slice3C) hl hc.1 w
            simp [Instr.sliceBounds, h0, h1, this]
    · cases hb
  · cases hb

/-- a cut of a slice, or of an array behind a pointer -/
def cutM (P : Program) (t : TypeId) (x : Value) (lo hi mx : Option Value) : Option Value :=
  match P.underlying t, x with
  | some (.slice elem), .slice (some a) len cap => match P.info? elem with
    | some i => if i.size = 0 then none else match boundsM len (if cap = INF then len else cap) lo hi mx with
      | some (l, h, m) => some (.slice (some { a with off := a.off + l * i.size }) (h - l) (if mx.isSome then m - l else if cap = INF then INF else cap - l))
      | none => none
    | none => none
  | some (.array n elem), .pointer (some a) => match P.info? elem with
    | some i => if i.size = 0 ∨ n > 1099511627776 then none else match boundsM n n lo hi mx with
      | some (l, h, m) => some (.slice (some { a with off := a.off + l * i.size }) (h - l) (if mx.isSome then m - l else n - l))
      | none => none
    | none => none
  | _, _ => none
theorem INF_big {c : Nat} (h : c ≤ maxLen) : c ≠ INF := by
  intro hh
  rw [hh] at h
  simp [INF, maxLen] at h
theorem cutM_does {m : Em} {t : TypeId} {x x' v : Value} {lo hi mx : Option Value} (hx : VR m x x') (hl : cutM P t x lo hi mx = some v) (w : World) :
    ∃ v', (Instr.sliceAt t x' lo hi mx).run P w = .ok v' w ∧ VR m v v' := by
  unfold cutM at hl
  split at hl
  · rename_i elem a len cap hu
    split at hl
    · rename_i i hi
      split at hl
      · cases hl
      · rename_i hz
        split at hl
        · rename_i l h mm hb
          injection hl with hl
          subst hl
          obtain ⟨h1, h2, c', h3, h4, h5, h6⟩ := hx.slice
          have hmost : (if cap = INF then len else cap) ≤ c' := by
            split
            · exact h3
            · rename_i hne; rw [h5 hne]; exact Nat.le_refl _
          obtain ⟨b1, b2, b3, b4⟩ := boundsM_run (P := P) hb hmost true w
          -- the machine's address, length and capacity
          obtain ⟨A, hA, hxe⟩ : ∃ A : Addr, (¬ loose len cap → A = ⟨m.blk a.block, m.off a.block + a.off, none⟩) ∧ x' = .slice (some A) len c' := by
            rcases h6 with ⟨hlo, a', rfl⟩ | ⟨hlo, _, rfl⟩
            · exact ⟨a', fun hn => absurd hlo hn, by rw [hlo.1]⟩
            · exact ⟨_, fun _ => rfl, rfl⟩
          subst hxe
          obtain ⟨full, hfull⟩ : ∃ full, full = (if mx.isSome then mm else c') := ⟨_, rfl⟩
          rw [← hfull] at b4
          have hmf : mm ≤ full := by rw [hfull]; split <;> omega
          have hfc : full ≤ maxLen := by rw [hfull]; split <;> omega
          refine ⟨.slice (if full = l then some A else some (A.add (l * i.size))) (h - l) (full - l), ?_, h1, h2, full - l, by omega, by omega, fun hne => ?_, ?_⟩
          · simp [Instr.sliceAt, Instr.slice, Sem.run_bind, run_underlying hu, b4, sizeOf, typeInfo, hi]
          · rw [hfull]
            split
            · rfl
            · rename_i hs
              rw [if_neg hs] at hne
              split
              · rename_i hcap; rw [if_pos hcap] at hne; exact absurd rfl hne
              · rename_i hcap; rw [h5 hcap]
          · -- the capacity that is told
            obtain ⟨c2, hc2⟩ : ∃ c2, c2 = (if mx.isSome then mm - l else if cap = INF then INF else cap - l) := ⟨_, rfl⟩
            rw [← hc2]
            by_cases hlo : loose (h - l) c2
            · refine .inl ⟨hlo, ?_⟩
              rw [hlo.1]
              split
              · exact ⟨_, rfl⟩
              · exact ⟨_, rfl⟩
            · have hfl : full ≠ l := by
                intro hfl
                refine hlo ⟨by omega, ?_⟩
                rw [hc2]
                split
                · rename_i hs; rw [hfull, if_pos hs] at hfl; right; omega
                · rename_i hs
                  rw [hfull, if_neg hs] at hfl
                  split
                  · left; rfl
                  · rename_i hcap; right; have := h5 hcap; omega
              have hnl : ¬ loose len cap := by
                intro hl2
                have e0 : len = 0 := hl2.1
                have m0 : mm = 0 := by
                  rcases hl2.2 with hc | hc
                  · rw [hc, if_pos rfl] at b3; omega
                  · rw [hc, if_neg (by simp [INF])] at b3; omega
                refine hlo ⟨by omega, ?_⟩
                rw [hc2]
                split
                · right; omega
                · split
                  · left; rfl
                  · rename_i hcap
                    rcases hl2.2 with hc | hc
                    · exact absurd hc hcap
                    · right; omega
              refine .inr ⟨hlo, fun hinf hoff => ?_, ?_⟩
              · -- nothing is cut off in front
                have hs : mx.isSome = false := by
                  cases hq : mx.isSome with
                  | false => rfl
                  | true =>
                    rw [hq, if_pos rfl] at hc2
                    exact absurd (hc2.symm.trans hinf) (INF_big (by omega))
                rw [hs] at hc2
                simp only [Bool.false_eq_true, if_false] at hc2
                have hcap : cap = INF := by
                  by_cases hq : cap = INF
                  · exact hq
                  · rw [if_neg hq] at hc2
                    exact absurd (hc2.symm.trans hinf) (INF_big (by have := h5 hq; omega))
                have hoff' : a.off = 0 ∧ l * i.size = 0 := by simp only at hoff; omega
                have l0 : l = 0 := by
                  rcases Nat.mul_eq_zero.1 hoff'.2 with q | q
                  · exact q
                  · exact absurd q hz
                rcases h6 with ⟨hlo', _⟩ | ⟨_, hcc, _⟩
                · exact absurd hlo' hnl
                · have := hcc hcap hoff'.1
                  rw [hfull, hs, l0]
                  simpa using this
              · rw [if_neg hfl, hA hnl, Addr.add_mid, Nat.add_assoc]
        · cases hl
    · cases hl
  · rename_i n elem a hu
    split at hl
    · rename_i i hi
      split at hl
      · cases hl
      · rename_i hz
        have hz1 : i.size ≠ 0 := fun hh => hz (.inl hh)
        have hz2 : n ≤ 1099511627776 := Nat.le_of_not_lt fun hh => hz (.inr hh)
        split at hl
        · rename_i l h mm hb
          injection hl with hl
          subst hl
          obtain ⟨h1, h2, rfl⟩ := hx.pointer
          obtain ⟨b1, b2, b3, b4⟩ := boundsM_run (P := P) hb (Nat.le_refl n) false w
          obtain ⟨full, hfull⟩ : ∃ full, full = (if mx.isSome then mm else n) := ⟨_, rfl⟩
          rw [← hfull] at b4
          have e2 : (if mx.isSome then mm - l else n - l) = full - l := by rw [hfull]; split <;> rfl
          rw [e2]
          have hmf : mm ≤ full := by rw [hfull]; split <;> omega
          have hfc : full ≤ n := by rw [hfull]; split <;> omega
          have hmax : full - l ≤ maxLen := by unfold maxLen; omega
          refine ⟨.slice (some (if full = l then ⟨m.blk a.block, m.off a.block + a.off, none⟩ else (⟨m.blk a.block, m.off a.block + a.off, none⟩ : Addr).add (l * i.size))) (h - l) (full - l), ?_, h1, h2, full - l, by omega, hmax, fun _ => rfl, ?_⟩
          · simp [Instr.sliceAt, Instr.sureAddr, Sem.run_bind, run_underlying hu, b4, sizeOf, typeInfo, hi]
          · by_cases hlo : loose (h - l) (full - l)
            · exact .inl ⟨hlo, _, by rw [hlo.1]⟩
            · refine .inr ⟨hlo, fun hinf => absurd hinf (INF_big hmax), ?_⟩
              have hfl : full ≠ l := fun hh => hlo ⟨by omega, .inr (by omega)⟩
              rw [if_neg hfl, Addr.add_mid, Nat.add_assoc]
        · cases hl
    · cases hl
  · cases hl

end Go.Mini
