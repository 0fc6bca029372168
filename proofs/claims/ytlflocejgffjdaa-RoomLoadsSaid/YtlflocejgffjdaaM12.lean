/-
  Operations in any order over the abstract memory. No statement of the seat is proved here; no condition.
-/
import Derived.Test.YtlflocejgffjdaaM11
namespace Go.Mini
open Go.RowKit

variable {P : Program}

/-- an operation that turns no memory and calls nobody -/
def quietOp (P : Program) (o : Oper) : Bool :=
  match o.op with
  | .move _ | .assign _ | .pick _ _ _ | .load _ _ | .nilCheck _ | .binOp _ _ _ _ _ | .unOp _ _ _ | .sliceToArrayPointer _ _ | .lookup _ _ _ _ | .slice _ _ _ _ _ | .fieldAddr _ _ _ | .field _ _ _ | .indexAddr _ _ _ | .index _ _ _ | .extract _ _ => true
  | .convert _ dst _ => match P.underlying dst with
    | some (.slice _) => false
    | _ => true
  | .call c => match c.callee with
    | .builtin .len | .builtin .min | .builtin .max => true
    | _ => false
  | _ => false

theorem quiet_call {o : Oper} (h : quietOp P o = true) (ρ : Operand → Value) : callOf ρ o = none := by
  unfold quietOp at h
  unfold callOf
  cases hop : o.op with
  | call c =>
    rw [hop] at h
    dsimp only at h ⊢
    cases hc : c.callee with
    | builtin b => rfl
    | value f => rw [hc] at h; cases h
    | invoke r n => rfl
  | _ => rfl

theorem map_mem {o : Option Value} {μ : Mem} {r : Value × Mem} (h : o.map (fun v => (v, μ)) = some r) : r.2 = μ := by
  obtain ⟨v, _, e⟩ := some_map h
  exact e ▸ rfl
theorem quiet_mem {o : Oper} (h : quietOp P o = true) {ρ : Operand → Value} {μ : Mem} {r : Value × Mem} (hr : mop P ρ o μ = some r) : r.2 = μ := by
  unfold mop at hr
  split at hr
  · injection hr with hr; exact hr ▸ rfl
  · rename_i hn
    clear hn
    unfold quietOp at h
    cases hop : o.op <;> rw [hop] at h hr <;> dsimp only at h hr <;> first
      | cases h; done
      | cases hr; done
      | exact map_mem hr
      | (injection hr with hr; exact hr ▸ rfl)
      | (split at hr
         · exact map_mem hr
         · cases hr)
      | skip
    · rename_i src dst x
      split at hr
      · injection hr with hr; exact hr ▸ rfl
      · exfalso
        unfold strBytesM at hr
        split at hr
        · rename_i hd _
          rw [hd] at h
          cases h
        · cases hr
    rename_i c
    cases hc : c.callee with
    | value f => rw [hc] at h; cases h
    | invoke r n => rw [hc] at h; cases h
    | builtin b =>
      rw [hc] at h hr
      cases b <;> first
        | (simp at h; done)
        | (cases hr; done)
        | (dsimp only at hr
           split at hr
           · split at hr
             · injection hr with hr; exact hr ▸ rfl
             · exact map_mem hr
           · cases hr)

theorem fastM_congr {ρ ρ2 : Operand → Value} {o : Oper} (h : ∀ x ∈ o.op.operands, ρ x = ρ2 x) : fastM P ρ o = fastM P ρ2 o := by
  obtain ⟨dst, op, ty, pos, after, guard⟩ := o
  unfold fastM
  cases op <;> first
    | rfl
    | (dsimp only at h ⊢
       simp only [Op.operands] at h
       simp_all)
theorem plainM_congr {ρ ρ2 : Operand → Value} {o : Oper} (h : ∀ x ∈ o.op.operands, ρ x = ρ2 x) : plainM P ρ o = plainM P ρ2 o := by
  unfold plainM
  rw [fastM_congr h]
  split
  · rfl
  · by_cases hs : mayPlain o.op = true
    · have he : execOp ρ o = execOp ρ2 o := execOp_congr o (fun cs b hh => by rw [hh] at hs; simp [mayPlain] at hs) h
      have hall : o.op.operands.all (fun x => plainV (ρ x)) = o.op.operands.all (fun x => plainV (ρ2 x)) := by
        rw [Bool.eq_iff_iff, Array.all_eq_true_iff_forall_mem, Array.all_eq_true_iff_forall_mem]
        exact ⟨fun k x hx => h x hx ▸ k x hx, fun k x hx => (h x hx).symm ▸ k x hx⟩
      rw [he, hall]
    · rw [if_neg (fun hh => hs hh.1), if_neg (fun hh => hs hh.1)]
theorem mop_congr {o : Oper} (hq : quietOp P o = true) {ρ ρ2 : Operand → Value} (h : ∀ x ∈ o.op.operands, ρ x = ρ2 x) (μ : Mem) : mop P ρ o μ = mop P ρ2 o μ := by
  unfold mop
  rw [plainM_congr h]
  split
  · rfl
  · rename_i hn
    clear hn
    obtain ⟨dst, op, ty, pos, after, guard⟩ := o
    unfold quietOp at hq
    dsimp only at hq h ⊢
    cases op <;> dsimp only at hq ⊢ <;> simp only [Op.operands] at h <;> first
      | cases hq; done
      | rfl
      | (rename_i x lo hi mx
         have e0 := h x (by simp)
         have e1 : lo.map ρ = lo.map ρ2 := by
           cases lo with
           | none => rfl
           | some y => exact congrArg some (h y (by simp))
         have e2 : hi.map ρ = hi.map ρ2 := by
           cases hi with
           | none => rfl
           | some y => exact congrArg some (h y (by simp))
         have e3 : mx.map ρ = mx.map ρ2 := by
           cases mx with
           | none => rfl
           | some y => exact congrArg some (h y (by simp))
         rw [e0, e1, e2, e3]; done)
      | (simp_all; done)
      | skip
    rename_i c
    obtain ⟨cal, cargs, cat⟩ := c
    dsimp only at hq h ⊢
    cases cal with
    | value f => cases hq
    | invoke r n => cases hq
    | builtin b =>
      simp only [Call.operands] at h
      cases b <;> first
        | (simp at hq; done)
        | rfl
        | (dsimp only
           split
           · rename_i t x ht ha
             have ha' : cargs = #[x] := by apply Array.ext'; rw [ha]
             subst ha'
             rw [h x (by simp)]
           · rfl)

noncomputable def valI (P : Program) (ops : Array Oper) (o : Oper) (tmps : Tm) (μ : Mem) : Option Value :=
  if Region.wanted o (yieldM ops tmps) then (if o.op.operands.all okOperand then (mop P (evalM tmps) o μ).map (·.1) else none) else some undef
theorem step_quiet {call : CallT} {ops : Array Oper} {i : Nat} {o : Oper} (ho : ops[i]? = some o) (hq : quietOp P o = true) (σ : StM) :
    stepM P call ops i σ = (valI P ops o σ.tmps σ.mem).map fun v => ⟨putM σ.tmps o.dst v, σ.mem⟩ := by
  unfold stepM valI
  rw [ho]
  dsimp only
  split
  · split
    · unfold opM
      rw [quiet_call hq]
      dsimp only
      cases hm : mop P (evalM σ.tmps) o σ.mem with
      | none => rfl
      | some r =>
        have := quiet_mem hq hm
        obtain ⟨v, μ'⟩ := r
        dsimp only at this
        subst this
        dsimp only [Option.map_some]
        rw [forceVal_eq, putK_eq]
    · rfl
  · rw [putK_eq]
    rfl
theorem evalM_put {tmps : Tm} {dst : Option Tmp} {v : Value} {x : Operand} (h : ∀ d, dst = some d → x ≠ .tmp d) : evalM (putM tmps dst v) x = evalM tmps x := by
  cases dst with
  | none => rfl
  | some d =>
    cases x with
    | tmp t =>
      simp only [evalM, putM, Tm.get_put]
      rw [if_neg]
      intro hh
      exact h d rfl (by rw [hh.1])
    | _ => rfl
theorem wantedM_put {ops : Array Oper} (o : Oper) {tmps : Tm} {dst : Option Tmp} {v : Value} (h : ∀ d, dst = some d → d ∉ o.looksAt ops) : Region.wanted o (yieldM ops (putM tmps dst v)) = Region.wanted o (yieldM ops tmps) := by
  cases dst with
  | none => rfl
  | some d =>
    unfold Region.wanted
    cases hg : o.guard with
    | none => rfl
    | some gw =>
      obtain ⟨g, want⟩ := gw
      have hy : yieldM ops (putM tmps (some d) v) g = yieldM ops tmps g := by
        unfold yieldM
        cases ht : (ops[g]?).bind (·.dst) with
        | none => rfl
        | some t =>
          have hne : d ≠ t := fun e => h d rfl (by subst e; simp [Oper.looksAt, hg, ht])
          simp only [putM, Tm.get_put]
          rw [if_neg (fun hh => hne hh.1)]
      simp only [hy]
theorem valI_put {ops : Array Oper} {o : Oper} (hq : quietOp P o = true) {tmps : Tm} {dst : Option Tmp} (v : Value) (h : ∀ d, dst = some d → d ∉ o.looksAt ops) (μ : Mem) :
    valI P ops o (putM tmps dst v) μ = valI P ops o tmps μ := by
  unfold valI
  rw [wantedM_put o h]
  have hm : mop P (evalM (putM tmps dst v)) o μ = mop P (evalM tmps) o μ := mop_congr hq (fun x hx => evalM_put fun d hd hxd => h d hd (by
    subst hxd
    exact List.mem_append_left _ (List.mem_filterMap.2 ⟨.tmp d, by simpa using hx, rfl⟩))) μ
  rw [hm]
theorem Tr.setF_comm (x y : Value) : ∀ (f g : Nat) (h : Tr) (n m : Nat), n < f → m < g → n ≠ m → (h.setF f n x).setF g m y = (h.setF g m y).setF f n x
  | 0, _, _, n, _, hf, _, _ => absurd hf (Nat.not_lt_zero n)
  | _ + 1, 0, _, _, m, _, hg, _ => absurd hg (Nat.not_lt_zero m)
  | f + 1, g + 1, h, n, m, hf, hg, hne => by
    by_cases n0 : n = 0
    · have m0 : m ≠ 0 := fun e => hne (n0.trans e.symm)
      subst n0
      cases h <;> by_cases m1 : m % 2 = 1 <;> simp [Tr.setF, m0, m1]
    · by_cases m0 : m = 0
      · subst m0
        cases h <;> by_cases n1 : n % 2 = 1 <;> simp [Tr.setF, n0, n1]
      · by_cases n1 : n % 2 = 1 <;> by_cases m1 : m % 2 = 1
        · have ih := fun h => Tr.setF_comm x y f g h (n / 2) (m / 2) (by omega) (by omega) (by omega)
          cases h <;> simp [Tr.setF, n0, m0, n1, m1, ih]
        · cases h <;> simp [Tr.setF, n0, m0, n1, m1]
        · cases h <;> simp [Tr.setF, n0, m0, n1, m1]
        · have ih := fun h => Tr.setF_comm x y f g h (n / 2 - 1) (m / 2 - 1) (by omega) (by omega) (by omega)
          cases h <;> simp [Tr.setF, n0, m0, n1, m1, ih]
theorem putM_comm {tmps : Tm} {d1 d2 : Option Tmp} (v1 v2 : Value) (h : ∀ d, d1 = some d → d2 ≠ some d) : putM (putM tmps d1 v1) d2 v2 = putM (putM tmps d2 v2) d1 v1 := by
  cases d1 with
  | none => rfl
  | some a => cases d2 with
    | none => rfl
    | some b =>
      have hne : a ≠ b := fun e => h a rfl (by rw [e])
      simp only [putM, Tm.put]
      by_cases ha : a < tmps.size <;> by_cases hb : b < tmps.size <;> simp [ha, hb]
      exact Tr.setF_comm v1 v2 (a + 1) (b + 1) tmps.tree a b (by omega) (by omega) hne
def then' (s t : StM → Option StM) (σ : StM) : Option StM :=
  match s σ with
  | some σ' => t σ'
  | none => none
theorem step_comm {call : CallT} {ops : Array Oper} {i j : Nat} {x y : Oper} (hi : ops[i]? = some x) (hj : ops[j]? = some y) (hx : quietOp P x = true) (hy : quietOp P y = true) (hap : x.apart ops y = true) (σ : StM) :
    then' (stepM P call ops i) (stepM P call ops j) σ = then' (stepM P call ops j) (stepM P call ops i) σ := by
  obtain ⟨h1, h2, h3⟩ := Oper.apart_spec hap
  unfold then'
  rw [step_quiet hi hx, step_quiet hj hy]
  cases hvx : valI P ops x σ.tmps σ.mem with
  | none =>
    cases hvy : valI P ops y σ.tmps σ.mem with
    | none => rfl
    | some vy =>
      simp only [Option.map_none, Option.map_some]
      rw [step_quiet hi hx]
      simp only []
      rw [valI_put hx vy h3, hvx]
      rfl
  | some vx =>
    simp only [Option.map_some]
    rw [step_quiet hj hy]
    simp only []
    rw [valI_put hy vx h1]
    cases hvy : valI P ops y σ.tmps σ.mem with
    | none => rfl
    | some vy =>
      simp only [Option.map_some]
      rw [step_quiet hi hx]
      simp only []
      rw [valI_put hx vy h3, hvx]
      simp only [Option.map_some]
      rw [putM_comm vx vy h2]

/-- An operation that may go ahead of others goes first. -/
theorem ops_front {call : CallT} {ops : Array Oper} {i : Nat} : ∀ (A B : List Nat), (∀ j ∈ A, ∀ σ, then' (stepM P call ops j) (stepM P call ops i) σ = then' (stepM P call ops i) (stepM P call ops j) σ) → ∀ σ,
    opsM P call ops (A ++ i :: B) σ = opsM P call ops (i :: (A ++ B)) σ
  | [], _, _, _ => rfl
  | j :: A, B, h, σ => by
    have ih := ops_front A B fun k hk => h k (List.mem_cons_of_mem _ hk)
    have hc := h j (List.mem_cons_self ..) σ
    unfold then' at hc
    simp only [List.cons_append, opsM]
    cases hj : stepM P call ops j σ with
    | none =>
      rw [hj] at hc
      dsimp only at hc ⊢
      cases hi : stepM P call ops i σ with
      | none => rfl
      | some σ1 =>
        rw [hi] at hc
        dsimp only at hc ⊢
        rw [← hc]
    | some σ1 =>
      rw [hj] at hc
      dsimp only at hc ⊢
      rw [ih σ1]
      simp only [opsM]
      rw [hc]
      cases hi : stepM P call ops i σ with
      | none => rfl
      | some σ2 => rfl

end Go.Mini
