/-
  The evaluator over slots as a function, and its laws without fuel: what a step-by-step proof rests on. No statement of the seat is proved here; no condition.
-/
import Derived.Test.YtlflocejgffjdaaM15
namespace Go.Mini
open Go.RowKit

variable {P : Program}

abbrev Env := Nat → Value
def upd (g : Env) (d : Nat) (v : Value) : Env := fun k => if k = d then v else g k
theorem upd_same (g : Env) (d : Nat) (v : Value) : upd g d v d = v := if_pos rfl
theorem upd_other (g : Env) {d k : Nat} (v : Value) (h : k ≠ d) : upd g d v k = g k := if_neg h
def putE (g : Env) (dst : Option Tmp) (v : Value) : Env :=
  match dst with
  | some d => upd g d v
  | none => g
def evalE (g : Env) : Operand → Value
  | .tmp t => g t
  | .const v => v
  | .global _ => undef
  | .func f => .func (.func f) #[] #[]
def yieldE (ops : Array Oper) (g : Env) (j : Nat) : Option Bool :=
  match (ops[j]?).bind (·.dst) with
  | some t => match g t with
    | .bool b => some b
    | _ => none
  | none => none

/-! ### the two kinds of slots -/
structure Fits (n : Nat) (t : Tm) (g : Env) : Prop where
  size : t.size = n
  get : ∀ k, t.get k = g k
theorem Fits.eval {n : Nat} {t : Tm} {g : Env} (h : Fits n t g) : evalM t = evalE g := by
  funext x
  cases x <;> first | exact h.get _ | rfl
theorem Fits.yield {n : Nat} {t : Tm} {g : Env} (h : Fits n t g) (ops : Array Oper) : yieldM ops t = yieldE ops g := by
  funext j
  unfold yieldM yieldE
  cases (ops[j]?).bind (·.dst) with
  | none => rfl
  | some d => simp only [h.get]; rfl
def dstOk (n : Nat) (d : Option Tmp) : Bool :=
  match d with
  | some d => decide (d < n)
  | none => true
theorem Fits.put {n : Nat} {t : Tm} {g : Env} (h : Fits n t g) {d : Option Tmp} (hd : dstOk n d = true) (v : Value) : Fits n (putM t d v) (putE g d v) := by
  cases d with
  | none => exact h
  | some d =>
    have hd' : d < n := of_decide_eq_true hd
    refine ⟨by rw [putM, Tm.size_put]; exact h.size, fun k => ?_⟩
    rw [putM, Tm.get_put, putE, upd]
    by_cases e : k = d
    · rw [if_pos e, if_pos ⟨e.symm, by rw [h.size]; exact hd'⟩]
    · rw [if_neg e, if_neg (fun hh => e hh.1.symm), h.get]

/-- what is asked of code ahead of any run -/
def opOk (n : Nat) (o : Oper) : Bool := o.op.operands.all okOperand && dstOk n o.dst
def codeOk (n : Nat) : Code → Bool
  | .region _ ops _ => ops.all (opOk n)
  | .seq x y => codeOk n x && codeOk n y
  | .cond c x y => okOperand c && codeOk n x && codeOk n y
  | .block _ c => codeOk n c
  | .loop c => codeOk n c
  | _ => true

/-! ### the evaluator -/
noncomputable def stepE (P : Program) (call : CallT) (all : Array Oper) (o : Oper) (g : Env) (μ : Mem) : Option (Env × Mem) :=
  if Region.wanted o (yieldE all g) then match opM P call (evalE g) o μ with
    | some (v, μ') => some (putE g o.dst v, μ')
    | none => none
  else some (putE g o.dst undef, μ)
noncomputable def opsE (P : Program) (call : CallT) (all : Array Oper) : List Oper → Env → Mem → Option (Env × Mem)
  | [], g, μ => some (g, μ)
  | o :: l, g, μ => match stepE P call all o g μ with
    | some (g', μ') => opsE P call all l g' μ'
    | none => none
def loopE (body : Env → Mem → Option (ExitM × Env × Mem)) : Nat → Env → Mem → Option (ExitM × Env × Mem)
  | 0, _, _ => none
  | n + 1, g, μ => match body g μ with
    | some (.normal, g', μ') => loopE body n g' μ'
    | r => r
noncomputable def codeE (P : Program) (call : CallT) (N : Nat) : Code → Env → Mem → Option (ExitM × Env × Mem)
  | .skip, g, μ => some (.normal, g, μ)
  | .region _ ops _, g, μ => match opsE P call ops ops.toList g μ with
    | some (g', μ') => some (.normal, g', μ')
    | none => none
  | .seq x y, g, μ => match codeE P call N x g μ with
    | some (.normal, g', μ') => codeE P call N y g' μ'
    | r => r
  | .cond c x y, g, μ => match evalE g c with
      | .bool true => codeE P call N x g μ
      | .bool false => codeE P call N y g μ
      | _ => none
  | .block id c, g, μ => match codeE P call N c g μ with
    | some (.exit id', g', μ') => some (if id' = id then .normal else .exit id', g', μ')
    | r => r
  | .loop c, g, μ => loopE (codeE P call N c) N g μ
  | .exit id, g, μ => some (.exit id, g, μ)
  | .ret, g, μ => some (.ret, g, μ)
  | _, _, _ => none
def startE (args : List Value) : Env := fun k => args.getD k undef
def resE (P : Program) (g : Env) (μ : Mem) : ResultVar → Option Value
  | .tmp t => some (g t)
  | .cell a t => loadM P t μ (g a)
def resultsE (P : Program) (g : Env) (μ : Mem) : List ResultVar → Option (List Value)
  | [] => some []
  | r :: rs => match resE P g μ r, resultsE P g μ rs with
    | some v, some vs => some (v :: vs)
    | _, _ => none
def finE (P : Program) (rs : List ResultVar) (e : ExitM) (g : Env) (μ : Mem) : Option (Value × Mem) :=
  match e with
  | .exit _ => none
  | _ => match resultsE P g μ rs with
    | some vs => match joinM vs with
      | some v => some (v, μ)
      | none => none
    | none => none
noncomputable def bodyE (P : Program) (call : CallT) (N : Nat) (fn : Func) (c : Code) (args : List Value) (μ : Mem) : Option (Value × Mem) :=
  match codeE P call N c (startE args) μ with
  | some (e, g, μ') => finE P fn.results.toList e g μ'
  | none => none
noncomputable def callE (P : Program) (good : FuncId → Bool) (ext : CallT) (N : Nat) : Nat → CallT
  | 0 => ext
  | n + 1 => fun f args μ => match ext f args μ with
    | some r => some r
    | none => if good f then match P.funcs[f]? with
        | some fn => match fn.body with
          | some c => if args.length ≤ fn.ntmps then bodyE P (callE P good ext N n) N fn c args μ else none
          | none => none
        | none => none
      else none

/-! ### it tells as the first evaluator -/
def CallLe (c c' : CallT) : Prop := ∀ f args μ r, c f args μ = some r → c' f args μ = some r
theorem CallLe.refl (c : CallT) : CallLe c c := fun _ _ _ _ h => h
theorem opM_le {c c' : CallT} (hc : CallLe c c') {ρ : Operand → Value} {o : Oper} {μ : Mem} {r : Value × Mem} (h : opM P c ρ o μ = some r) : opM P c' ρ o μ = some r := by
  unfold opM at h ⊢
  split at h
  · exact hc _ _ _ _ h
  · exact h
theorem step_fits {c c' : CallT} (hc : CallLe c c') {n : Nat} {ops : Array Oper} {i : Nat} {o : Oper} (ho : ops[i]? = some o) (hs : opOk n o = true) {g g' : Env} {μ μ' : Mem} (h : stepE P c ops o g μ = some (g', μ')) {t : Tm} (hf : Fits n t g) :
    ∃ t', stepM P c' ops i ⟨t, μ⟩ = some ⟨t', μ'⟩ ∧ Fits n t' g' := by
  simp only [opOk, Bool.and_eq_true] at hs
  unfold stepE at h
  unfold stepM
  rw [ho]
  dsimp only
  rw [hf.yield]
  split at h
  · rename_i hw
    rw [if_pos hw, if_pos hs.1, hf.eval]
    split at h
    · rename_i v μ2 hop
      simp only [Option.some.injEq, Prod.mk.injEq] at h
      obtain ⟨rfl, rfl⟩ := h
      rw [opM_le hc hop]
      dsimp only
      rw [forceVal_eq, putK_eq]
      exact ⟨_, rfl, hf.put hs.2 v⟩
    · cases h
  · rename_i hw
    simp only [Option.some.injEq, Prod.mk.injEq] at h
    obtain ⟨rfl, rfl⟩ := h
    rw [if_neg hw, putK_eq]
    exact ⟨_, rfl, hf.put hs.2 undef⟩
theorem ops_fits {c c' : CallT} (hc : CallLe c c') {n : Nat} {ops : Array Oper} (hs : ops.all (opOk n) = true) : ∀ (l : List Oper) (k : Nat), ops.toList.drop k = l → ∀ {g g' : Env} {μ μ' : Mem}, opsE P c ops l g μ = some (g', μ') → ∀ {t : Tm}, Fits n t g →
    ∃ t', opsM P c' ops (List.range' k (ops.size - k)) ⟨t, μ⟩ = some ⟨t', μ'⟩ ∧ Fits n t' g'
  | [], k, hl, g, g', μ, μ', h, t, hf => by
    have : ops.size - k = 0 := by
      have := congrArg List.length hl
      simpa using this
    rw [this]
    simp only [opsE, Option.some.injEq, Prod.mk.injEq] at h
    obtain ⟨rfl, rfl⟩ := h
    exact ⟨t, rfl, hf⟩
  | o :: l, k, hl, g, g', μ, μ', h, t, hf => by
    have hlen := congrArg List.length hl
    simp only [List.length_drop, Array.length_toList, List.length_cons] at hlen
    have hk : k < ops.size := by omega
    have ho : ops[k]? = some o := by
      rw [← Array.getElem?_toList]
      have := congrArg (·[0]?) hl
      simpa using this
    have e : ops.size - k = (ops.size - (k + 1)) + 1 := by omega
    rw [e, List.range'_succ]
    simp only [opsE] at h
    split at h
    · rename_i g1 μ1 h1
      obtain ⟨t1, r1, f1⟩ := step_fits hc ho (Array.all_eq_true_iff_forall_mem.1 hs o (Array.mem_of_getElem? ho)) h1 hf
      obtain ⟨t2, r2, f2⟩ := ops_fits hc hs l (k + 1) (by
        rw [← List.tail_drop, hl]; rfl) h f1
      refine ⟨t2, ?_, f2⟩
      simp only [opsM, r1]
      exact r2
    · cases h
theorem code_fits {c c' : CallT} (hc : CallLe c c') {n N : Nat} : ∀ (code : Code), codeOk n code = true → ∀ {g g' : Env} {μ μ' : Mem} {e : ExitM}, codeE P c N code g μ = some (e, g', μ') → ∀ {t : Tm}, Fits n t g →
    ∃ t', codeM P c' N code ⟨t, μ⟩ = some (e, ⟨t', μ'⟩) ∧ Fits n t' g' := by
  intro code
  induction code with
  | skip =>
    intro _ g g' μ μ' e h t hf
    simp only [codeE, Option.some.injEq, Prod.mk.injEq] at h
    obtain ⟨rfl, rfl, rfl⟩ := h
    exact ⟨t, rfl, hf⟩
  | exit id =>
    intro _ g g' μ μ' e h t hf
    simp only [codeE, Option.some.injEq, Prod.mk.injEq] at h
    obtain ⟨rfl, rfl, rfl⟩ := h
    exact ⟨t, rfl, hf⟩
  | ret =>
    intro _ g g' μ μ' e h t hf
    simp only [codeE, Option.some.injEq, Prod.mk.injEq] at h
    obtain ⟨rfl, rfl, rfl⟩ := h
    exact ⟨t, rfl, hf⟩
  | region id ops d =>
    intro hs g g' μ μ' e h t hf
    simp only [codeOk] at hs
    simp only [codeE] at h
    split at h
    · rename_i g1 μ1 h1
      simp only [Option.some.injEq, Prod.mk.injEq] at h
      obtain ⟨rfl, rfl, rfl⟩ := h
      obtain ⟨t', r, f⟩ := ops_fits hc hs ops.toList 0 rfl h1 hf
      refine ⟨t', ?_, f⟩
      rw [Nat.sub_zero, ← List.range_eq_range'] at r
      simp only [codeM, r]
    · cases h
  | seq x y ihx ihy =>
    intro hs g g' μ μ' e h t hf
    simp only [codeOk, Bool.and_eq_true] at hs
    simp only [codeE] at h
    split at h
    · rename_i g1 μ1 h1
      obtain ⟨t1, r1, f1⟩ := ihx hs.1 h1 hf
      obtain ⟨t2, r2, f2⟩ := ihy hs.2 h f1
      exact ⟨t2, by simp only [codeM, r1]; exact r2, f2⟩
    · rename_i hne
      obtain ⟨t1, r1, f1⟩ := ihx hs.1 h hf
      refine ⟨t1, ?_, f1⟩
      simp only [codeM, r1]
      cases e with
      | normal => exact absurd h (hne g' μ')
      | exit id => rfl
      | ret => rfl
  | cond x a b iha ihb =>
    intro hs g g' μ μ' e h t hf
    simp only [codeOk, Bool.and_eq_true] at hs
    simp only [codeE] at h
    simp only [codeM, if_pos hs.1.1, hf.eval]
    split at h
    · rename_i hb
      rw [hb]
      exact iha hs.1.2 h hf
    · rename_i hb
      rw [hb]
      exact ihb hs.2 h hf
    · cases h
  | block id x ih =>
    intro hs g g' μ μ' e h t hf
    simp only [codeOk] at hs
    simp only [codeE] at h
    split at h
    · rename_i id' g1 μ1 h1
      simp only [Option.some.injEq, Prod.mk.injEq] at h
      obtain ⟨rfl, rfl, rfl⟩ := h
      obtain ⟨t1, r1, f1⟩ := ih hs h1 hf
      exact ⟨t1, by simp only [codeM, r1], f1⟩
    · rename_i hne
      obtain ⟨t1, r1, f1⟩ := ih hs h hf
      refine ⟨t1, ?_, f1⟩
      simp only [codeM, r1]
      cases e with
      | normal => rfl
      | exit id' => exact absurd h (hne id' g' μ')
      | ret => rfl
  | loop x ih =>
    intro hs g g' μ μ' e h t hf
    simp only [codeOk] at hs
    simp only [codeE] at h
    simp only [codeM]
    have key : ∀ (k : Nat) (g : Env) (μ : Mem) (t : Tm), loopE (codeE P c N x) k g μ = some (e, g', μ') → Fits n t g → ∃ t', loopM (codeM P c' N x) k ⟨t, μ⟩ = some (e, ⟨t', μ'⟩) ∧ Fits n t' g' := by
      intro k
      induction k with
      | zero => intro g μ t h; cases h
      | succ k ihk =>
        intro g μ t h hf
        simp only [loopE] at h
        split at h
        · rename_i g1 μ1 h1
          obtain ⟨t1, r1, f1⟩ := ih hs h1 hf
          obtain ⟨t2, r2, f2⟩ := ihk g1 μ1 t1 h f1
          exact ⟨t2, by simp only [loopM, r1]; exact r2, f2⟩
        · rename_i hne
          obtain ⟨t1, r1, f1⟩ := ih hs h hf
          refine ⟨t1, ?_, f1⟩
          simp only [loopM, r1]
          cases e with
          | normal => exact absurd h (hne g' μ')
          | exit id' => rfl
          | ret => rfl
    exact key N g μ t h hf
  | _ => intro _ g g' μ μ' e h; simp [codeE] at h

theorem resE_eq {n : Nat} {t : Tm} {g : Env} (hf : Fits n t g) (μ : Mem) (r : ResultVar) : resM P ⟨t, μ⟩ r = resE P g μ r := by
  cases r with
  | tmp k => simp only [resM, resE, hf.get]
  | cell a ty => simp only [resM, resE, hf.get]
theorem resultsE_eq {n : Nat} {t : Tm} {g : Env} (hf : Fits n t g) (μ : Mem) : ∀ rs, resultsM P ⟨t, μ⟩ rs = resultsE P g μ rs
  | [] => rfl
  | r :: rs => by simp only [resultsM, resultsE, resE_eq hf, resultsE_eq hf μ rs]; rfl
theorem fits_start {args : List Value} {n : Nat} (h : args.length ≤ n) : Fits n (Tm.start args n) (startE args) := by
  refine ⟨by simp [Tm.start, Tm.fill_size]; omega, fun k => ?_⟩
  rw [Tm.start, Tm.fill_get args 0 _ k (by simp), Tm.get_nil, startE]
  by_cases hk : k < args.length
  · rw [if_pos (by omega), Nat.sub_zero]
  · rw [if_neg (by omega), List.getD_eq_getElem?_getD, List.getElem?_eq_none (by omega)]; rfl

/-- what is asked of every function that is stepped through -/
def allOk (P : Program) (good : FuncId → Bool) : Bool := (List.range P.funcs.size).all fun f => !good f || (match P.funcs[f]? with
  | some fn => match fn.body with
    | some c => codeOk fn.ntmps c
    | none => true
  | none => true)
theorem allOk_at {good : FuncId → Bool} (h : allOk P good = true) {f : FuncId} {fn : Func} {c : Code} (hg : good f = true) (hf : P.funcs[f]? = some fn) (hb : fn.body = some c) : codeOk fn.ntmps c = true := by
  have hlt : f < P.funcs.size := (Array.getElem?_eq_some_iff.1 hf).1
  have := List.all_eq_true.1 h f (List.mem_range.2 hlt)
  rw [hg, hf] at this
  dsimp only at this
  rw [hb] at this
  simpa using this
theorem body_fits {c c' : CallT} (hc : CallLe c c') {N : Nat} {fn : Func} {code : Code} (hs : codeOk fn.ntmps code = true) {args : List Value} (ha : args.length ≤ fn.ntmps) {μ : Mem} {r : Value × Mem} (h : bodyE P c N fn code args μ = some r) : bodyM P c' N fn code args μ = some r := by
  unfold bodyE at h
  unfold bodyM
  split at h
  · rename_i e g μ' h1
    obtain ⟨t', r1, f1⟩ := code_fits hc code hs h1 (fits_start ha)
    rw [r1]
    unfold finE at h
    cases e with
    | exit id => cases h
    | normal => dsimp only at h ⊢; rw [resultsE_eq f1]; exact h
    | ret => dsimp only at h ⊢; rw [resultsE_eq f1]; exact h
  · cases h
theorem call_fits {good : FuncId → Bool} (hok : allOk P good = true) (ext : CallT) (N : Nat) : ∀ n, CallLe (callE P good ext N n) (callM P good ext N n)
  | 0 => CallLe.refl _
  | n + 1 => by
    intro f args μ r h
    simp only [callE] at h
    simp only [callM]
    split at h
    · rename_i r' hr
      rw [hr]
      exact h
    · rename_i hr
      rw [hr]
      dsimp only
      unfold funM
      split at h
      · rename_i hg
        rw [if_pos hg]
        split at h
        · rename_i fn hfn
          rw [hfn]
          dsimp only
          split at h
          · rename_i c hb
            rw [hb]
            dsimp only
            split at h
            · rename_i ha
              exact body_fits (call_fits hok ext N n) (allOk_at hok hg hfn hb) ha h
            · cases h
          · cases h
        · cases h
      · cases h

/-! ### more fuel does no harm -/
theorem step_le {c c' : CallT} (hc : CallLe c c') {ops : Array Oper} {o : Oper} {g : Env} {μ : Mem} {r : Env × Mem} (h : stepE P c ops o g μ = some r) : stepE P c' ops o g μ = some r := by
  unfold stepE at h ⊢
  split at h
  · rename_i hw
    rw [if_pos hw]
    split at h
    · rename_i v μ' hop
      rw [opM_le hc hop]
      exact h
    · cases h
  · rename_i hw
    rw [if_neg hw]
    exact h
theorem ops_le {c c' : CallT} (hc : CallLe c c') {ops : Array Oper} : ∀ (l : List Oper) {g : Env} {μ : Mem} {r : Env × Mem}, opsE P c ops l g μ = some r → opsE P c' ops l g μ = some r
  | [], _, _, _, h => h
  | o :: l, g, μ, r, h => by
    simp only [opsE] at h ⊢
    split at h
    · rename_i g1 μ1 h1
      rw [step_le hc h1]
      exact ops_le hc l h
    · cases h
theorem loop_le {b b' : Env → Mem → Option (ExitM × Env × Mem)} (hb : ∀ g μ r, b g μ = some r → b' g μ = some r) : ∀ {k k' : Nat}, k ≤ k' → ∀ {g : Env} {μ : Mem} {r}, loopE b k g μ = some r → loopE b' k' g μ = some r
  | 0, _, _, _, _, _, h => by cases h
  | k + 1, 0, hk, _, _, _, _ => absurd hk (by omega)
  | k + 1, k' + 1, hk, g, μ, r, h => by
    simp only [loopE] at h ⊢
    split at h
    · rename_i g1 μ1 h1
      rw [hb _ _ _ h1]
      exact loop_le hb (by omega) h
    · rename_i hne
      rw [hb _ _ _ h]
      obtain ⟨e, g', μ'⟩ := r
      cases e with
      | normal => exact absurd h (hne g' μ')
      | exit id => rfl
      | ret => rfl
theorem code_le {c c' : CallT} (hc : CallLe c c') {N N' : Nat} (hN : N ≤ N') : ∀ (code : Code) {g : Env} {μ : Mem} {r}, codeE P c N code g μ = some r → codeE P c' N' code g μ = some r := by
  intro code
  induction code with
  | skip => intro g μ r h; exact h
  | exit id => intro g μ r h; exact h
  | ret => intro g μ r h; exact h
  | region id ops d =>
    intro g μ r h
    simp only [codeE] at h ⊢
    split at h
    · rename_i g1 μ1 h1
      rw [ops_le hc _ h1]
      exact h
    · cases h
  | seq x y ihx ihy =>
    intro g μ r h
    simp only [codeE] at h ⊢
    split at h
    · rename_i g1 μ1 h1
      rw [ihx h1]
      exact ihy h
    · rename_i hne
      rw [ihx h]
      obtain ⟨e, g', μ'⟩ := r
      cases e with
      | normal => exact absurd h (hne g' μ')
      | exit id => rfl
      | ret => rfl
  | cond x a b iha ihb =>
    intro g μ r h
    simp only [codeE] at h ⊢
    split at h
    · exact iha h
    · exact ihb h
    · cases h
  | block id x ih =>
    intro g μ r h
    simp only [codeE] at h ⊢
    split at h
    · rename_i id' g1 μ1 h1
      rw [ih h1]
      exact h
    · rename_i hne
      rw [ih h]
      obtain ⟨e, g', μ'⟩ := r
      cases e with
      | normal => rfl
      | exit id' => exact absurd h (hne id' g' μ')
      | ret => rfl
  | loop x ih =>
    intro g μ r h
    simp only [codeE] at h ⊢
    exact loop_le (fun g μ r h => ih h) hN h
  | _ => intro g μ r h; simp [codeE] at h
theorem body_le {c c' : CallT} (hc : CallLe c c') {N N' : Nat} (hN : N ≤ N') {fn : Func} {code : Code} {args : List Value} {μ : Mem} {r : Value × Mem} (h : bodyE P c N fn code args μ = some r) : bodyE P c' N' fn code args μ = some r := by
  unfold bodyE at h ⊢
  split at h
  · rename_i e g μ' h1
    rw [code_le hc hN code h1]
    exact h
  · cases h
theorem call_le {good : FuncId → Bool} {ext : CallT} : ∀ {n n' N N' : Nat}, n ≤ n' → N ≤ N' → CallLe (callE P good ext N n) (callE P good ext N' n')
  | 0, 0, _, _, _, _ => CallLe.refl _
  | 0, n' + 1, _, _, _, _ => fun f args μ r h => by
    simp only [callE] at h ⊢
    rw [h]
  | n + 1, 0, _, _, h, _ => absurd h (by omega)
  | n + 1, n' + 1, N, N', hn, hN => fun f args μ r h => by
    simp only [callE] at h ⊢
    cases hr : ext f args μ with
    | some r' => rw [hr] at h; exact h
    | none =>
      rw [hr] at h
      dsimp only at h ⊢
      cases hg : good f with
      | false => rw [hg] at h; cases h
      | true =>
        rw [hg] at h
        simp only [if_true] at h ⊢
        cases hfn : P.funcs[f]? with
        | none => rw [hfn] at h; cases h
        | some fn =>
          rw [hfn] at h
          dsimp only at h ⊢
          cases hb : fn.body with
          | none => rw [hb] at h; cases h
          | some c =>
            rw [hb] at h
            dsimp only at h ⊢
            by_cases ha : args.length ≤ fn.ntmps
            · rw [if_pos ha] at h ⊢
              exact body_le (call_le (by omega) hN) hN h
            · rw [if_neg ha] at h
              cases h

/-! ### runs without fuel -/
/-- the functions that are stepped through, and those that are told otherwise -/
structure Seat where
  P : Program
  good : FuncId → Bool
  ext : CallT
noncomputable def Seat.call (S : Seat) (K : Nat) : CallT := callE S.P S.good S.ext K K
theorem Seat.le (S : Seat) {K K' : Nat} (h : K ≤ K') : CallLe (S.call K) (S.call K') := call_le h h
def Gets (S : Seat) (f : FuncId) (args : List Value) (μ : Mem) (Q : Value → Mem → Prop) : Prop := ∃ K v μ', S.call K f args μ = some (v, μ') ∧ Q v μ'
def Run (S : Seat) (c : Code) (g : Env) (μ : Mem) (Q : ExitM → Env → Mem → Prop) : Prop := ∃ K e g' μ', codeE S.P (S.call K) K c g μ = some (e, g', μ') ∧ Q e g' μ'
def RunL (S : Seat) (all : Array Oper) (l : List Oper) (g : Env) (μ : Mem) (Q : Env → Mem → Prop) : Prop := ∃ K g' μ', opsE S.P (S.call K) all l g μ = some (g', μ') ∧ Q g' μ'
def RunO (S : Seat) (all : Array Oper) (o : Oper) (g : Env) (μ : Mem) (Q : Env → Mem → Prop) : Prop := ∃ K g' μ', stepE S.P (S.call K) all o g μ = some (g', μ') ∧ Q g' μ'

theorem Gets.mono {S : Seat} {f : FuncId} {args : List Value} {μ : Mem} {Q Q' : Value → Mem → Prop} (h : Gets S f args μ Q) (hq : ∀ v μ', Q v μ' → Q' v μ') : Gets S f args μ Q' := by
  obtain ⟨K, v, μ', h1, h2⟩ := h
  exact ⟨K, v, μ', h1, hq _ _ h2⟩
theorem Run.mono {S : Seat} {c : Code} {g : Env} {μ : Mem} {Q Q' : ExitM → Env → Mem → Prop} (h : Run S c g μ Q) (hq : ∀ e g' μ', Q e g' μ' → Q' e g' μ') : Run S c g μ Q' := by
  obtain ⟨K, e, g', μ', h1, h2⟩ := h
  exact ⟨K, e, g', μ', h1, hq _ _ _ h2⟩
theorem Gets.out {S : Seat} {f : FuncId} {args : List Value} {μ : Mem} {Q : Value → Mem → Prop} (h : Gets S f args μ Q) : ∃ v μ', Q v μ' ∧ Gets S f args μ (fun v' μ2 => v' = v ∧ μ2 = μ') := by
  obtain ⟨K, v, μ', h1, h2⟩ := h
  exact ⟨v, μ', h2, K, v, μ', h1, rfl, rfl⟩
/-- A known outcome decides. -/
theorem Gets.iff {S : Seat} {f : FuncId} {args : List Value} {μ : Mem} {v : Value} {μ' : Mem} (h : Gets S f args μ fun v' μ2 => v' = v ∧ μ2 = μ') (Q : Value → Mem → Prop) : Gets S f args μ Q ↔ Q v μ' := by
  obtain ⟨K, v1, μ1, h1, rfl, rfl⟩ := h
  constructor
  · intro ⟨K2, v2, μ2, h2, hq⟩
    have a := S.le (Nat.le_max_left K K2) _ _ _ _ h1
    have b := S.le (Nat.le_max_right K K2) _ _ _ _ h2
    rw [a] at b
    simp only [Option.some.injEq, Prod.mk.injEq] at b
    obtain ⟨rfl, rfl⟩ := b
    exact hq
  · exact fun hq => ⟨K, _, _, h1, hq⟩

/-- THE ENTRY OF A FUNCTION -/
def finP (S : Seat) (rs : List ResultVar) (Q : Value → Mem → Prop) (e : ExitM) (g : Env) (μ : Mem) : Prop := ∃ v μ', finE S.P rs e g μ = some (v, μ') ∧ Q v μ'
theorem Gets.enter {S : Seat} {f : FuncId} {args : List Value} {μ : Mem} {Q : Value → Mem → Prop} {fn : Func} {c : Code} (hf : S.P.funcs[f]? = some fn) (hb : fn.body = some c) (he : S.ext f args μ = none) (hg : S.good f = true) (ha : args.length ≤ fn.ntmps)
    (h : Run S c (startE args) μ (finP S fn.results.toList Q)) : Gets S f args μ Q := by
  obtain ⟨K, e, g, μ', h1, v, μ2, h2, h3⟩ := h
  refine ⟨K + 1, v, μ2, ?_, h3⟩
  show callE S.P S.good S.ext (K + 1) (K + 1) f args μ = _
  simp only [callE, he, hg, if_true, hf, hb, ha]
  have hc : CallLe (S.call K) (callE S.P S.good S.ext (K + 1) K) := call_le (Nat.le_refl K) (Nat.le_succ K)
  unfold bodyE
  rw [code_le hc (Nat.le_succ K) c h1]
  exact h2

/-! ### the laws of code -/
/-- behind the first of two -/
def thenC (S : Seat) (y : Code) (Q : ExitM → Env → Mem → Prop) (e : ExitM) (g : Env) (μ : Mem) : Prop :=
  match e with
  | .normal => Run S y g μ Q
  | e => Q e g μ
theorem thenC_normal (S : Seat) (y : Code) (Q : ExitM → Env → Mem → Prop) (g : Env) (μ : Mem) : thenC S y Q .normal g μ = Run S y g μ Q := rfl
theorem thenC_exit (S : Seat) (y : Code) (Q : ExitM → Env → Mem → Prop) (i : Nat) (g : Env) (μ : Mem) : thenC S y Q (.exit i) g μ = Q (.exit i) g μ := rfl
theorem thenC_ret (S : Seat) (y : Code) (Q : ExitM → Env → Mem → Prop) (g : Env) (μ : Mem) : thenC S y Q .ret g μ = Q .ret g μ := rfl
theorem run_seq (S : Seat) (x y : Code) (g : Env) (μ : Mem) (Q : ExitM → Env → Mem → Prop) : Run S (.seq x y) g μ Q = Run S x g μ (thenC S y Q) := by
  apply propext
  constructor
  · intro ⟨K, e, g', μ', h, hq⟩
    simp only [codeE] at h
    split at h
    · rename_i g1 μ1 h1
      exact ⟨K, .normal, g1, μ1, h1, K, e, g', μ', h, hq⟩
    · rename_i hne
      refine ⟨K, e, g', μ', h, ?_⟩
      cases e with
      | normal => exact absurd h (hne g' μ')
      | exit id => exact hq
      | ret => exact hq
  · intro ⟨K, e, g', μ', h, hq⟩
    cases e with
    | normal =>
      obtain ⟨K2, e2, g2, μ2, h2, hq2⟩ := hq
      refine ⟨max K K2, e2, g2, μ2, ?_, hq2⟩
      have a := code_le (P := S.P) (S.le (Nat.le_max_left K K2)) (Nat.le_max_left K K2) x h
      have b := code_le (P := S.P) (S.le (Nat.le_max_right K K2)) (Nat.le_max_right K K2) y h2
      simp only [codeE, a, b]
    | exit id => exact ⟨K, .exit id, g', μ', by simp only [codeE, h], hq⟩
    | ret => exact ⟨K, .ret, g', μ', by simp only [codeE, h], hq⟩
theorem run_skip (S : Seat) (g : Env) (μ : Mem) (Q : ExitM → Env → Mem → Prop) : Run S .skip g μ Q = Q .normal g μ := by
  apply propext
  constructor
  · intro ⟨K, e, g', μ', h, hq⟩
    simp only [codeE, Option.some.injEq, Prod.mk.injEq] at h
    obtain ⟨rfl, rfl, rfl⟩ := h
    exact hq
  · exact fun h => ⟨0, _, _, _, rfl, h⟩
theorem run_ret (S : Seat) (g : Env) (μ : Mem) (Q : ExitM → Env → Mem → Prop) : Run S .ret g μ Q = Q .ret g μ := by
  apply propext
  constructor
  · intro ⟨K, e, g', μ', h, hq⟩
    simp only [codeE, Option.some.injEq, Prod.mk.injEq] at h
    obtain ⟨rfl, rfl, rfl⟩ := h
    exact hq
  · exact fun h => ⟨0, _, _, _, rfl, h⟩
theorem run_exit (S : Seat) (i : Nat) (g : Env) (μ : Mem) (Q : ExitM → Env → Mem → Prop) : Run S (.exit i) g μ Q = Q (.exit i) g μ := by
  apply propext
  constructor
  · intro ⟨K, e, g', μ', h, hq⟩
    simp only [codeE, Option.some.injEq, Prod.mk.injEq] at h
    obtain ⟨rfl, rfl, rfl⟩ := h
    exact hq
  · exact fun h => ⟨0, _, _, _, rfl, h⟩
/-- at a block's end -/
def blockC (id : Nat) (Q : ExitM → Env → Mem → Prop) (e : ExitM) (g : Env) (μ : Mem) : Prop :=
  match e with
  | .exit id' => Q (if id' = id then .normal else .exit id') g μ
  | e => Q e g μ
theorem blockC_normal (id : Nat) (Q : ExitM → Env → Mem → Prop) (g : Env) (μ : Mem) : blockC id Q .normal g μ = Q .normal g μ := rfl
theorem blockC_ret (id : Nat) (Q : ExitM → Env → Mem → Prop) (g : Env) (μ : Mem) : blockC id Q .ret g μ = Q .ret g μ := rfl
theorem blockC_exit (id i : Nat) (Q : ExitM → Env → Mem → Prop) (g : Env) (μ : Mem) : blockC id Q (.exit i) g μ = if i = id then Q .normal g μ else Q (.exit i) g μ := by
  show Q (if i = id then .normal else .exit i) g μ = _
  split <;> rfl
theorem run_block (S : Seat) (id : Nat) (c : Code) (g : Env) (μ : Mem) (Q : ExitM → Env → Mem → Prop) : Run S (.block id c) g μ Q = Run S c g μ (blockC id Q) := by
  apply propext
  constructor
  · intro ⟨K, e, g', μ', h, hq⟩
    simp only [codeE] at h
    split at h
    · rename_i id' g1 μ1 h1
      simp only [Option.some.injEq, Prod.mk.injEq] at h
      obtain ⟨rfl, rfl, rfl⟩ := h
      exact ⟨K, .exit id', g1, μ1, h1, hq⟩
    · rename_i hne
      refine ⟨K, e, g', μ', h, ?_⟩
      cases e with
      | normal => exact hq
      | exit id' => exact absurd h (hne id' g' μ')
      | ret => exact hq
  · intro ⟨K, e, g', μ', h, hq⟩
    cases e with
    | normal => exact ⟨K, .normal, g', μ', by simp only [codeE, h], hq⟩
    | exit id' => exact ⟨K, _, g', μ', by simp only [codeE, h], hq⟩
    | ret => exact ⟨K, .ret, g', μ', by simp only [codeE, h], hq⟩
/-- a test -/
def condP (v : Value) (A B : Prop) : Prop :=
  match v with
  | .bool b => cond b A B
  | _ => False
theorem run_cond (S : Seat) (x : Operand) (a b : Code) (g : Env) (μ : Mem) (Q : ExitM → Env → Mem → Prop) : Run S (.cond x a b) g μ Q = condP (evalE g x) (Run S a g μ Q) (Run S b g μ Q) := by
  apply propext
  constructor
  · intro ⟨K, e, g', μ', h, hq⟩
    simp only [codeE] at h
    split at h
    · rename_i hb; rw [hb]; exact ⟨K, e, g', μ', h, hq⟩
    · rename_i hb; rw [hb]; exact ⟨K, e, g', μ', h, hq⟩
    · cases h
  · intro h
    unfold condP at h
    split at h
    · rename_i b hb
      cases b with
      | true => obtain ⟨K, e, g', μ', h, hq⟩ := h; exact ⟨K, e, g', μ', by simp only [codeE, hb, h], hq⟩
      | false => obtain ⟨K, e, g', μ', h, hq⟩ := h; exact ⟨K, e, g', μ', by simp only [codeE, hb, h], hq⟩
    · exact h.elim
/-- behind a round -/
def roundC (S : Seat) (c : Code) (Q : ExitM → Env → Mem → Prop) (e : ExitM) (g : Env) (μ : Mem) : Prop :=
  match e with
  | .normal => Run S (.loop c) g μ Q
  | e => Q e g μ
theorem run_loop (S : Seat) (c : Code) (g : Env) (μ : Mem) (Q : ExitM → Env → Mem → Prop) (h : Run S c g μ (roundC S c Q)) : Run S (.loop c) g μ Q := by
  obtain ⟨K, e, g', μ', h, hq⟩ := h
  cases e with
  | normal =>
    obtain ⟨K2, e2, g2, μ2, h2, hq2⟩ := hq
    simp only [codeE] at h2
    refine ⟨max K K2 + 1, e2, g2, μ2, ?_, hq2⟩
    have hc : ∀ k, k ≤ max K K2 → CallLe (S.call k) (S.call (max K K2 + 1)) := fun k hk => S.le (by omega)
    have a := code_le (P := S.P) (hc K (by omega)) (N' := max K K2 + 1) (by omega) c h
    have b : loopE (codeE S.P (S.call (max K K2 + 1)) (max K K2 + 1) c) (max K K2) g' μ' = some (e2, g2, μ2) :=
      loop_le (fun g μ r h => code_le (P := S.P) (hc K2 (by omega)) (N' := max K K2 + 1) (by omega) c h) (by omega) h2
    simp only [codeE, loopE, a]
    exact b
  | exit id =>
    refine ⟨K + 1, .exit id, g', μ', ?_, hq⟩
    have a := code_le (P := S.P) (S.le (Nat.le_succ K)) (Nat.le_succ K) c h
    simp only [codeE, loopE, a]
  | ret =>
    refine ⟨K + 1, .ret, g', μ', ?_, hq⟩
    have a := code_le (P := S.P) (S.le (Nat.le_succ K)) (Nat.le_succ K) c h
    simp only [codeE, loopE, a]
/-- A LOOP, with what holds at a round's head and what goes down. -/
theorem loop_rule (S : Seat) (c : Code) (Q : ExitM → Env → Mem → Prop) (I : Nat → Env → Mem → Prop)
    (h : ∀ n g μ, I n g μ → Run S c g μ fun e g' μ' => match e with
      | .normal => ∃ k, k < n ∧ I k g' μ'
      | e => Q e g' μ') : ∀ n g μ, I n g μ → Run S (.loop c) g μ Q := by
  intro n
  induction n using Nat.strongRecOn with
  | ind n ih =>
    intro g μ hi
    refine run_loop S c g μ Q ((h n g μ hi).mono fun e g' μ' hq => ?_)
    cases e with
    | normal => obtain ⟨k, hk, hi'⟩ := hq; exact ih k hk g' μ' hi'
    | exit id => exact hq
    | ret => exact hq

theorem runL_nil (S : Seat) (all : Array Oper) (g : Env) (μ : Mem) (Q : Env → Mem → Prop) : RunL S all [] g μ Q = Q g μ := by
  apply propext
  constructor
  · intro ⟨K, g', μ', h, hq⟩
    simp only [opsE, Option.some.injEq, Prod.mk.injEq] at h
    obtain ⟨rfl, rfl⟩ := h
    exact hq
  · exact fun h => ⟨0, _, _, rfl, h⟩
theorem runL_cons (S : Seat) (all : Array Oper) (o : Oper) (l : List Oper) (g : Env) (μ : Mem) (Q : Env → Mem → Prop) : RunL S all (o :: l) g μ Q = RunO S all o g μ fun g μ => RunL S all l g μ Q := by
  apply propext
  constructor
  · intro ⟨K, g', μ', h, hq⟩
    simp only [opsE] at h
    split at h
    · rename_i g1 μ1 h1
      exact ⟨K, g1, μ1, h1, K, g', μ', h, hq⟩
    · cases h
  · intro ⟨K, g', μ', h, K2, g2, μ2, h2, hq⟩
    refine ⟨max K K2, g2, μ2, ?_, hq⟩
    have a := step_le (P := S.P) (S.le (Nat.le_max_left K K2)) h
    have b := ops_le (P := S.P) (S.le (Nat.le_max_right K K2)) l h2
    simp only [opsE, a, b]
theorem run_region (S : Seat) (id : Nat) (ops : Array Oper) (d : Bool) (g : Env) (μ : Mem) (Q : ExitM → Env → Mem → Prop) : Run S (.region id ops d) g μ Q = RunL S ops ops.toList g μ (Q .normal) := by
  apply propext
  constructor
  · intro ⟨K, e, g', μ', h, hq⟩
    simp only [codeE] at h
    split at h
    · rename_i g1 μ1 h1
      simp only [Option.some.injEq, Prod.mk.injEq] at h
      obtain ⟨rfl, rfl, rfl⟩ := h
      exact ⟨K, _, _, h1, hq⟩
    · cases h
  · intro ⟨K, g', μ', h, hq⟩
    exact ⟨K, .normal, g', μ', by simp only [codeE, h], hq⟩

/-! ### the laws of operations -/
/-- a value, if there is one -/
def bindO {α : Type} (o : Option α) (k : α → Prop) : Prop := ∃ a, o = some a ∧ k a
theorem bindO_some {α : Type} (a : α) (k : α → Prop) : bindO (some a) k = k a := by
  apply propext
  constructor
  · intro ⟨b, h, hk⟩
    cases h
    exact hk
  · exact fun h => ⟨a, rfl, h⟩
/-- is an operation wanted? -/
def guardP (b : Option Bool) (c : Bool) (A B : Prop) : Prop :=
  match b with
  | some b' => cond (b' == c) A B
  | none => B
theorem runO_call (S : Seat) (all : Array Oper) (o : Oper) (g : Env) (μ : Mem) (Q : Env → Mem → Prop) {f : FuncId} {args : List Value} (hw : Region.wanted o (yieldE all g) = true) (hc : callOf (evalE g) o = some (f, args)) :
    RunO S all o g μ Q = Gets S f args μ fun v μ' => Q (putE g o.dst v) μ' := by
  have e : ∀ K, stepE S.P (S.call K) all o g μ = match S.call K f args μ with
      | some (v, μ') => some (putE g o.dst v, μ')
      | none => none := fun K => by
    unfold stepE opM
    rw [if_pos hw, hc]
  apply propext
  constructor
  · intro ⟨K, g', μ', h, hq⟩
    rw [e] at h
    split at h
    · rename_i v μ2 h1
      simp only [Option.some.injEq, Prod.mk.injEq] at h
      obtain ⟨rfl, rfl⟩ := h
      exact ⟨K, v, _, h1, hq⟩
    · cases h
  · intro ⟨K, v, μ', h, hq⟩
    exact ⟨K, _, μ', by rw [e, h], hq⟩
theorem runO_op (S : Seat) (all : Array Oper) (o : Oper) (g : Env) (μ : Mem) (Q : Env → Mem → Prop) (hw : Region.wanted o (yieldE all g) = true) (hc : callOf (evalE g) o = none) :
    RunO S all o g μ Q = bindO (mop S.P (evalE g) o μ) fun r => Q (putE g o.dst r.1) r.2 := by
  have e : ∀ K, stepE S.P (S.call K) all o g μ = match mop S.P (evalE g) o μ with
      | some (v, μ') => some (putE g o.dst v, μ')
      | none => none := fun K => by
    unfold stepE opM
    rw [if_pos hw, hc]
  apply propext
  constructor
  · intro ⟨K, g', μ', h, hq⟩
    rw [e] at h
    split at h
    · rename_i v μ2 h1
      simp only [Option.some.injEq, Prod.mk.injEq] at h
      obtain ⟨rfl, rfl⟩ := h
      exact ⟨(v, μ2), h1, hq⟩
    · cases h
  · intro ⟨⟨v, μ'⟩, h, hq⟩
    exact ⟨0, _, μ', by rw [e, h], hq⟩
theorem runO_not (S : Seat) (all : Array Oper) (o : Oper) (g : Env) (μ : Mem) (Q : Env → Mem → Prop) (hw : Region.wanted o (yieldE all g) = false) :
    RunO S all o g μ Q = Q (putE g o.dst undef) μ := by
  have e : ∀ K, stepE S.P (S.call K) all o g μ = some (putE g o.dst undef, μ) := fun K => by
    unfold stepE
    rw [hw]
    rfl
  apply propext
  constructor
  · intro ⟨K, g', μ', h, hq⟩
    rw [e] at h
    simp only [Option.some.injEq, Prod.mk.injEq] at h
    obtain ⟨rfl, rfl⟩ := h
    exact hq
  · exact fun hq => ⟨0, _, μ, e 0, hq⟩

/-! ### from a run to the machine -/
theorem Gets.calls {S : Seat} (hm : S.P.follows .mixedOrders = true) (hg : allGood S.P S.good = true) (ho : allOk S.P S.good = true) {base : Nat → Prop} (he : CallOk S.P base S.ext) {f : FuncId} {args : List Value} {μ : Mem} {Q : Value → Mem → Prop} (h : Gets S f args μ Q)
    {m : Em} {w : World} {args' : List Value} (ha : All2 (VR m) args args') (hok : Ok S.P m base μ w) : Calls S.P f args'.toArray w fun e w' => ∃ v μ', Q v μ' ∧ CameBack S.P m base w v μ' e w' := by
  obtain ⟨K, v, μ', h1, h2⟩ := h
  have h3 := call_fits ho S.ext K K _ _ _ _ h1
  have := (call_sound hm (good_of hg) he K K f args μ v μ' h3).2 m w args' ha hok
  exact this.mono fun e w' hb => ⟨v, μ', h2, hb⟩

end Go.Mini
