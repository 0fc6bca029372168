/-
  Code and calls over the abstract memory. No statement of the seat is proved here; no condition.
-/
import Derived.Test.YtlflocejgffjdaaM13
namespace Go.Mini
open Go.RowKit

variable {P : Program}

inductive ExitM where
  | normal
  | exit (id : Nat)
  | ret
def ExitM.out : ExitM → Exit
  | .normal => .normal
  | .exit id => .exit id
  | .ret => .ret

def loopM (body : StM → Option (ExitM × StM)) : Nat → StM → Option (ExitM × StM)
  | 0, _ => none
  | n + 1, σ => match body σ with
    | some (.normal, σ') => loopM body n σ'
    | r => r
/-- CODE. -/
noncomputable def codeM (P : Program) (call : CallT) (N : Nat) : Code → StM → Option (ExitM × StM)
  | .skip, σ => some (.normal, σ)
  | .region _ ops _, σ => match opsM P call ops (List.range ops.size) σ with
    | some σ' => some (.normal, σ')
    | none => none
  | .seq x y, σ => match codeM P call N x σ with
    | some (.normal, σ') => codeM P call N y σ'
    | r => r
  | .cond c x y, σ => if okOperand c then match evalM σ.tmps c with
      | .bool true => codeM P call N x σ
      | .bool false => codeM P call N y σ
      | _ => none
    else none
  | .block id c, σ => match codeM P call N c σ with
    | some (.exit id', σ') => some (if id' = id then .normal else .exit id', σ')
    | r => r
  | .loop c, σ => loopM (codeM P call N c) N σ
  | .exit id, σ => some (.exit id, σ)
  | .ret, σ => some (.ret, σ)
  | _, _ => none
/-- every region that draws may do so -/
def drawsOk (P : Program) : Code → Bool
  | .region _ ops draw => !draw || orderOk P ops
  | .seq x y => drawsOk P x && drawsOk P y
  | .cond _ x y => drawsOk P x && drawsOk P y
  | .block _ c => drawsOk P c
  | .loop c => drawsOk P c
  | _ => true

theorem rest_none (ops : Array Oper) : rest ops (Array.replicate ops.size false) = List.range ops.size := by
  unfold rest
  rw [List.filter_eq_self]
  intro k hk
  have := List.mem_range.1 hk
  simp [Array.getD_eq_getD_getElem?, this]
theorem closed_none (ops : Array Oper) : Closed ops (Array.replicate ops.size false) := by
  intro i o hi hl
  have := (Array.getElem?_eq_some_iff.1 hi).1
  simp [Array.getD_eq_getD_getElem?, this] at hl

/-- what code comes to -/
def CodeOk (P : Program) (base : Nat → Prop) (c : Code) (run : StM → Option (ExitM × StM)) : Prop :=
  ∀ {σ : StM} {e : ExitM} {σ' : StM}, run σ = some (e, σ') → ∀ {m : Em} {a : Act} {w : World}, ARel m σ.tmps a → Ok P m base σ.mem w → ∀ {Q : Exit → Act → World → Prop},
    (∀ m' a' w', m.le m' → ARel m' σ'.tmps a' → Ok P m' base σ'.mem w' → Below base w w' → Q e.out a' w') → c.wp P Q a w

theorem loop_sound {base : Nat → Prop} {c : Code} {run : StM → Option (ExitM × StM)} (hc : CodeOk P base c run) : ∀ N, CodeOk P base (.loop c) (loopM run N) := by
  intro N σ e σ' hs m a w ha hok Q hQ b k cs
  have key : ∀ (n : Nat) (σ : StM), loopM run n σ = some (e, σ') → ∀ (m : Em) (a : Act) (w : World), ARel m σ.tmps a → Ok P m base σ.mem w →
      (∀ m' a' w', m.le m' → ARel m' σ'.tmps a' → Ok P m' base σ'.mem w' → Below base w w' → Q e.out a' w') →
      ∃ e' a' w', Q e' a' w' ∧ Arrives P (lone (b.at a (.code c :: .inLoop c :: k)) cs w) b k cs e' a' w' := by
    intro n
    induction n with
    | zero => intro σ hs; cases hs
    | succ n ih =>
      intro σ hs m a w ha hok hQ
      simp only [loopM] at hs
      split at hs
      · rename_i σ1 h1
        obtain ⟨e', a1, w1, hq, harr⟩ := hc h1 ha hok (Q := fun e' a' w' => e' = .normal ∧ ∃ m', m.le m' ∧ ARel m' σ1.tmps a' ∧ Ok P m' base σ1.mem w' ∧ Below base w w')
          (fun m' a' w' k1 k2 k3 k4 => ⟨rfl, m', k1, k2, k3, k4⟩) b (.inLoop c :: k) cs
        obtain ⟨rfl, m1, k1, k2, k3, k4⟩ := hq
        obtain ⟨e2, a2, w2, hq2, harr2⟩ := ih σ1 hs m1 a1 w1 k2 k3 (fun m' a' w' j1 j2 j3 j4 => hQ m' a' w' (Em.le_trans k1 j1) j2 j3 (k4.trans j4))
        exact ⟨e2, a2, w2, hq2, .of_steps (Steps.trans harr (.one step_inLoop)) harr2⟩
      · rename_i hne
        obtain ⟨e', a1, w1, hq, harr⟩ := hc hs ha hok (Q := fun e' a' w' => e' = e.out ∧ Q e.out a' w')
          (fun m' a' w' k1 k2 k3 k4 => ⟨rfl, hQ m' a' w' k1 k2 k3 k4⟩) b (.inLoop c :: k) cs
        obtain ⟨rfl, hq⟩ := hq
        refine ⟨e.out, a1, w1, hq, Arrives.pass (x := .inLoop c) rfl (fun a w => .inl ?_) harr⟩
        intro he
        cases e with
        | normal => exact hne σ' hs
        | exit id => cases he
        | ret => cases he
  obtain ⟨e', a', w', hq, harr⟩ := key N σ hs m a w ha hok hQ
  exact ⟨e', a', w', hq, .of_steps (.one step_loop) harr⟩

theorem code_sound {base : Nat → Prop} {call : CallT} (hcall : CallOk P base call) (hm : P.follows .mixedOrders = true) (N : Nat) : ∀ c : Code, drawsOk P c = true → CodeOk P base c (codeM P call N c) := by
  intro c
  induction c with
  | skip =>
    intro _ σ e σ' hs m a w ha hok Q hQ
    simp only [codeM, Option.some.injEq, Prod.mk.injEq] at hs
    obtain ⟨rfl, rfl⟩ := hs
    exact wp_skip (hQ m a w m.le_refl ha hok (Below.refl _ _))
  | region id ops draw =>
    intro hd σ e σ' hs m a w ha hok Q hQ
    simp only [codeM] at hs
    split at hs
    · rename_i σ1 h1
      simp only [Option.some.injEq, Prod.mk.injEq] at hs
      obtain ⟨rfl, rfl⟩ := hs
      cases draw with
      | false => exact wp_region (ops_sound hcall _ h1 ha hok hQ)
      | true =>
        have hord : orderOk P ops = true := by simpa [drawsOk] using hd
        refine wp_region_any hm (any_sound hcall hord ops.size _ (by rw [rest_none]; exact h1) (closed_none ops) (by simp) (by rw [rest_none]; simp) ha hok.drew ?_)
        intro m' a' w' k1 k2 k3 k4
        exact hQ m' a' w' k1 k2 k3 (Below.trans (Below.refl base w).drew k4)
    · cases hs
  | seq x y ihx ihy =>
    intro hd σ e σ' hs m a w ha hok Q hQ
    simp only [drawsOk, Bool.and_eq_true] at hd
    simp only [codeM] at hs
    refine wp_seq ?_
    split at hs
    · rename_i σ1 h1
      exact ihx hd.1 h1 ha hok fun m1 a1 w1 k1 k2 k3 k4 => ihy hd.2 hs k2 k3 fun m2 a2 w2 j1 j2 j3 j4 => hQ m2 a2 w2 (Em.le_trans k1 j1) j2 j3 (k4.trans j4)
    · rename_i hne
      refine ihx hd.1 hs ha hok fun m1 a1 w1 k1 k2 k3 k4 => ?_
      cases e with
      | normal => exact absurd hs (hne σ')
      | exit id => exact hQ m1 a1 w1 k1 k2 k3 k4
      | ret => exact hQ m1 a1 w1 k1 k2 k3 k4
  | cond c x y ihx ihy =>
    intro hd σ e σ' hs m a w ha hok Q hQ
    simp only [drawsOk, Bool.and_eq_true] at hd
    simp only [codeM] at hs
    split at hs
    · rename_i hg
      have hv := ha.eval hg
      split at hs
      · rename_i hc
        rw [hc] at hv
        have : a.eval c = .bool true := hv.plain_eq rfl
        exact wp_cond_true this (ihx hd.1 hs ha hok hQ)
      · rename_i hc
        rw [hc] at hv
        have : a.eval c = .bool false := hv.plain_eq rfl
        exact wp_cond_false this (ihy hd.2 hs ha hok hQ)
      · cases hs
    · cases hs
  | block id c ih =>
    intro hd σ e σ' hs m a w ha hok Q hQ
    simp only [codeM] at hs
    refine wp_block ?_
    split at hs
    · rename_i id' σ1 h1
      simp only [Option.some.injEq, Prod.mk.injEq] at hs
      obtain ⟨rfl, rfl⟩ := hs
      refine ih hd h1 ha hok fun m1 a1 w1 k1 k2 k3 k4 => ?_
      have := hQ m1 a1 w1 k1 k2 k3 k4
      simp only [ExitM.out, Exit.inBlock] at this ⊢
      split
      · rename_i he; rw [if_pos he] at this; exact this
      · rename_i he; rw [if_neg he] at this; exact this
    · rename_i hne
      refine ih hd hs ha hok fun m1 a1 w1 k1 k2 k3 k4 => ?_
      cases e with
      | normal => exact hQ m1 a1 w1 k1 k2 k3 k4
      | exit id' => exact absurd hs (hne id' σ')
      | ret => exact hQ m1 a1 w1 k1 k2 k3 k4
  | loop c ih =>
    intro hd σ e σ' hs m a w ha hok Q hQ
    exact loop_sound (ih hd) N hs ha hok hQ
  | exit id =>
    intro _ σ e σ' hs m a w ha hok Q hQ
    simp only [codeM, Option.some.injEq, Prod.mk.injEq] at hs
    obtain ⟨rfl, rfl⟩ := hs
    exact wp_exit (hQ m a w m.le_refl ha hok (Below.refl _ _))
  | ret =>
    intro _ σ e σ' hs m a w ha hok Q hQ
    simp only [codeM, Option.some.injEq, Prod.mk.injEq] at hs
    obtain ⟨rfl, rfl⟩ := hs
    exact wp_ret (hQ m a w m.le_refl ha hok (Below.refl _ _))
  | _ => intro _ σ e σ' hs; simp [codeM] at hs

/-! ### calls -/
noncomputable def resM (P : Program) (σ : StM) : ResultVar → Option Value
  | .tmp t => some (σ.tmps.get t)
  | .cell a t => loadM P t σ.mem (σ.tmps.get a)
noncomputable def resultsM (P : Program) (σ : StM) : List ResultVar → Option (List Value)
  | [] => some []
  | r :: rs => match resM P σ r, resultsM P σ rs with
    | some v, some vs => some (v :: vs)
    | _, _ => none
def joinM : List Value → Option Value
  | [v] => some v
  | vs => if vs.all (fun v => !isTuple v) then some (.tuple vs.toArray) else none
def resSem (tmps : Array Value) : ResultVar → Sem Value
  | .tmp t => pure (tmps.getD t undef)
  | .cell a t => do loadVar t (← asAddr (tmps.getD a undef))
theorem resM_sound {m : Em} {base : Nat → Prop} {σ : StM} {a : Act} {w : World} (ha : ARel m σ.tmps a) (hok : Ok P m base σ.mem w) {r : ResultVar} {v : Value} (hr : resM P σ r = some v) : ∃ v', (resSem a.tmps r).run P w = .ok v' w ∧ VR m v v' := by
  cases r with
  | tmp t =>
    simp only [resM, Option.some.injEq] at hr
    subst hr
    exact ⟨_, rfl, ha.getD t⟩
  | cell p t =>
    simp only [resM] at hr
    obtain ⟨v', h1, h2⟩ := loadM_does hok hr (ha.getD p)
    refine ⟨v', ?_, h2⟩
    have hp := ha.getD p
    show (do loadVar t (← asAddr (a.tmps.getD p undef)) : Sem Value).run P w = .ok v' w
    generalize σ.tmps.get p = x at hr hp
    generalize a.tmps.getD p undef = x' at hp h1 ⊢
    unfold loadM at hr
    split at hr
    · rename_i q
      obtain ⟨_, _, rfl⟩ := hp.pointer
      simpa [asAddr, Instr.loadAt, Instr.sureAddr] using h1
    · cases hr
theorem resultsM_sound {m : Em} {base : Nat → Prop} {σ : StM} {a : Act} {w : World} (ha : ARel m σ.tmps a) (hok : Ok P m base σ.mem w) : ∀ (rs : List ResultVar) {vs : List Value}, resultsM P σ rs = some vs →
    ∃ vs', (rs.mapM (resSem a.tmps)).run P w = .ok vs' w ∧ All2 (VR m) vs vs'
  | [], vs, h => by
    simp only [resultsM, Option.some.injEq] at h
    subst h
    exact ⟨[], rfl, .nil⟩
  | r :: rs, vs, h => by
    simp only [resultsM] at h
    split at h
    · rename_i v vs2 h1 h2
      simp only [Option.some.injEq] at h
      subst h
      obtain ⟨v', k1, k2⟩ := resM_sound ha hok h1
      obtain ⟨vs', j1, j2⟩ := resultsM_sound ha hok rs h2
      exact ⟨v' :: vs', by simp [List.mapM_cons, Sem.run_bind, k1, j1], .cons k2 j2⟩
    · cases h
theorem vr1_of {m : Em} {v v' : Value} (h : VR m v v') (ht : isTuple v = false) : VR1 m v v' := by
  cases v with
  | tuple vs => cases ht
  | _ => exact h
theorem all_vr1 {m : Em} {vs vs' : List Value} (h : All2 (VR m) vs vs') (ht : vs.all (fun v => !isTuple v) = true) : All2 (VR1 m) vs vs' := by
  induction h with
  | nil => exact .nil
  | cons h _ ih =>
    simp only [List.all_cons, Bool.and_eq_true, Bool.not_eq_true'] at ht
    exact .cons (vr1_of h ht.1) (ih ht.2)
theorem results_sound {m : Em} {base : Nat → Prop} {σ : StM} {a : Act} {w : World} (ha : ARel m σ.tmps a) (hok : Ok P m base σ.mem w) {fn : Func} {vs : List Value} {v : Value} (hr : resultsM P σ fn.results.toList = some vs) (hj : joinM vs = some v) :
    ∃ v', (results fn a.tmps).run P w = .ok v' w ∧ VR m v v' := by
  obtain ⟨vs', h1, h2⟩ := resultsM_sound ha hok _ hr
  have hm : (fn.results.mapM (resSem a.tmps)).run P w = .ok vs'.toArray w := by
    rw [Array.mapM_eq_mapM_toList, Sem.run_map, h1]
    rfl
  have hres : results fn a.tmps = (do
      let vs ← fn.results.mapM (resSem a.tmps)
      pure (if h : vs.size = 1 then vs[0] else .tuple vs)) := by
    unfold results
    congr 1
  rw [hres, Sem.run_bind, hm]
  simp only [Result.andThen_ok, Sem.run_pure]
  have hl := h2.length
  unfold joinM at hj
  split at hj
  · rename_i u
    simp only [Option.some.injEq] at hj
    subst hj
    cases h2 with
    | cons h2 h3 =>
      cases h3
      exact ⟨_, by simp, h2⟩
  · rename_i hne
    split at hj
    · rename_i ht
      simp only [Option.some.injEq] at hj
      subst hj
      have hl1 : vs'.length ≠ 1 := by
        intro e
        rw [← hl] at e
        obtain ⟨u, rfl⟩ := List.length_eq_one_iff.1 e
        exact hne u rfl
      exact ⟨.tuple vs'.toArray, by simp [hl1], ⟨_, rfl, by simpa using all_vr1 h2 ht⟩⟩
    · cases hj

/-- A FUNCTION. -/
noncomputable def bodyM (P : Program) (call : CallT) (N : Nat) (fn : Func) (c : Code) (args : List Value) (μ : Mem) : Option (Value × Mem) :=
  match codeM P call N c ⟨Tm.start args fn.ntmps, μ⟩ with
  | some (.normal, σ) | some (.ret, σ) => match resultsM P σ fn.results.toList with
    | some vs => match joinM vs with
      | some v => some (v, σ.mem)
      | none => none
    | none => none
  | _ => none
noncomputable def funM (P : Program) (good : FuncId → Bool) (N : Nat) (call : CallT) : CallT := fun f args μ =>
  if good f then match P.funcs[f]? with
    | some fn => match fn.body with
      | some c => bodyM P call N fn c args μ
      | none => none
    | none => none
  else none
noncomputable def callM (P : Program) (good : FuncId → Bool) (ext : CallT) (N : Nat) : Nat → CallT
  | 0 => ext
  | n + 1 => fun f args μ => match ext f args μ with
    | some r => some r
    | none => funM P good N (callM P good ext N n) f args μ
/-- what is asked of the functions that the evaluator steps through -/
def Good (P : Program) (good : FuncId → Bool) : Prop :=
  ∀ f fn c, good f = true → P.funcs[f]? = some fn → fn.body = some c → drawsOk P c = true ∧ (fn.name == "runtime.NumGoroutine") = false

theorem body_sound {base : Nat → Prop} {call : CallT} (hcall : CallOk P base call) (hm : P.follows .mixedOrders = true) {N : Nat} {f : FuncId} {fn : Func} {c : Code} (hfn : P.funcs[f]? = some fn) (hb : fn.body = some c) (hd : drawsOk P c = true)
    {args : List Value} {μ μ' : Mem} {v : Value} (hs : bodyM P call N fn c args μ = some (v, μ')) {m : Em} {w : World} {args' : List Value} (ha : All2 (VR m) args args') (hok : Ok P m base μ w) : Calls P f args'.toArray w (CameBack P m base w v μ') := by
  refine calls_of_wp hfn hb ?_
  have har := ARel.start (m := m) ha fn.ntmps
  unfold bodyM at hs
  have fin : ∀ (σ : StM), (match resultsM P σ fn.results.toList with
    | some vs => match joinM vs with
      | some v => some (v, σ.mem)
      | none => none
    | none => none) = some (v, μ') → ∀ m' a' w', m.le m' → ARel m' σ.tmps a' → Ok P m' base σ.mem w' → Below base w w' → a'.defers = [] ∧ ∃ u, (results fn a'.tmps).run P w' = .ok u w' ∧ CameBack P m base w v μ' (.returned u) w' := by
    intro σ hs m' a' w' k1 k2 k3 k4
    split at hs
    · rename_i vs h1
      split at hs
      · rename_i u h2
        simp only [Option.some.injEq, Prod.mk.injEq] at hs
        obtain ⟨rfl, rfl⟩ := hs
        obtain ⟨v', r1, r2⟩ := results_sound k2 k3 h1 h2
        exact ⟨k2.defers, v', r1, v', rfl, m', k1, k3, r2, k4⟩
      · cases hs
    · cases hs
  split at hs
  · rename_i σ hc
    exact code_sound hcall hm N c hd hc har hok fun m' a' w' k1 k2 k3 k4 => fin σ hs m' a' w' k1 k2 k3 k4
  · rename_i σ hc
    exact code_sound hcall hm N c hd hc har hok fun m' a' w' k1 k2 k3 k4 => fin σ hs m' a' w' k1 k2 k3 k4
  · cases hs
theorem fun_sound {base : Nat → Prop} {call : CallT} (hcall : CallOk P base call) (hm : P.follows .mixedOrders = true) {good : FuncId → Bool} (hg : Good P good) (N : Nat) : CallOk P base (funM P good N call) := by
  intro f args μ v μ' hs
  unfold funM at hs
  split at hs
  · rename_i hgf
    split at hs
    · rename_i fn hfn
      split at hs
      · rename_i c hb
        obtain ⟨g1, g2⟩ := hg f fn c hgf hfn hb
        exact ⟨⟨fn, hfn, g2, by simp [hb]⟩, fun m w args' ha hok => body_sound hcall hm hfn hb g1 hs ha hok⟩
      · cases hs
    · cases hs
  · cases hs
/-- THE EVALUATOR TELLS THE TRUTH. -/
theorem call_sound {base : Nat → Prop} (hm : P.follows .mixedOrders = true) {good : FuncId → Bool} (hg : Good P good) {ext : CallT} (he : CallOk P base ext) (N : Nat) : ∀ n, CallOk P base (callM P good ext N n)
  | 0 => he
  | n + 1 => by
    intro f args μ v μ' hs
    simp only [callM] at hs
    split at hs
    · rename_i r hr
      injection hs with hs
      subst hs
      exact he f args μ v μ' hr
    · exact fun_sound (call_sound hm hg he N n) hm hg N f args μ v μ' hs

end Go.Mini
