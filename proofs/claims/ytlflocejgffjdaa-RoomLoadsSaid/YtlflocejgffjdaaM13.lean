/-
  Regions that draw, code and calls over the abstract memory. No statement of the seat is proved here; no condition.
-/
import Derived.Test.YtlflocejgffjdaaM12
namespace Go.Mini
open Go.RowKit

variable {P : Program}

/-! ### orders -/
def maskOf (T : Array Nat) (o : Oper) : Nat := o.after.toList.foldr (fun e acc => if Region.binds .any e then (2 ^ e.on ||| T.getD e.on 0) ||| acc else acc) 0
def masks (ops : Array Oper) : Array Nat := ops.toList.foldl (fun T o => T.push (maskOf T o)) #[]
def pairOk (P : Program) (ops : Array Oper) (T : Array Nat) (o : Oper) (i j : Nat) : Bool :=
  (T.getD i 0).testBit j || (match ops[j]? with
    | some y => quietOp P y && quietOp P o && y.apart ops o
    | none => true)
def orderOkAt (P : Program) (ops : Array Oper) (T : Array Nat) (i : Nat) : Bool :=
  match ops[i]? with
  | some o => (T.getD i 0 == maskOf T o) && o.after.all (fun e => !Region.binds .any e || decide (e.on < i)) && (List.range i).all (fun j => pairOk P ops T o i j)
  | none => true
def orderOk (P : Program) (ops : Array Oper) : Bool := (List.range ops.size).all (orderOkAt P ops (masks ops))

theorem maskOf_bit {T : Array Nat} {j : Nat} : ∀ (es : List Edge), (es.foldr (fun e acc => if Region.binds .any e then (2 ^ e.on ||| T.getD e.on 0) ||| acc else acc) 0).testBit j = true →
    ∃ e ∈ es, Region.binds .any e = true ∧ (e.on = j ∨ (T.getD e.on 0).testBit j = true)
  | [], h => by simp at h
  | e :: es, h => by
    simp only [List.foldr_cons] at h
    split at h
    · rename_i hb
      rw [Nat.testBit_or, Nat.testBit_or, Nat.testBit_two_pow, Bool.or_eq_true, Bool.or_eq_true] at h
      rcases h with (h | h) | h
      · exact ⟨e, List.mem_cons_self .., hb, .inl (by simpa using h)⟩
      · exact ⟨e, List.mem_cons_self .., hb, .inr h⟩
      · obtain ⟨e', h1, h2⟩ := maskOf_bit es h
        exact ⟨e', List.mem_cons_of_mem _ h1, h2⟩
    · obtain ⟨e', h1, h2⟩ := maskOf_bit es h
      exact ⟨e', List.mem_cons_of_mem _ h1, h2⟩

/-- what is listed has all that it follows listed -/
def Closed (ops : Array Oper) (listed : Array Bool) : Prop :=
  ∀ i o, ops[i]? = some o → listed.getD i true = true → ∀ e ∈ o.after, Region.binds .any e = true → listed.getD e.on false = true
def rest (ops : Array Oper) (listed : Array Bool) : List Nat := (List.range ops.size).filter fun i => !listed.getD i true

theorem mem_rest {ops : Array Oper} {listed : Array Bool} {i : Nat} : i ∈ rest ops listed ↔ i < ops.size ∧ listed.getD i true = false := by
  simp [rest]
theorem mem_ready {ops : Array Oper} {listed : Array Bool} {i : Nat} : i ∈ Region.ready .any ops listed ↔ i < ops.size ∧ listed.getD i true = false ∧ ∃ o, ops[i]? = some o ∧ ∀ e ∈ o.after, Region.binds .any e = true → listed.getD e.on false = true := by
  unfold Region.ready
  rw [List.mem_filter, List.mem_range]
  constructor
  · rintro ⟨h1, h2⟩
    rw [Bool.and_eq_true] at h2
    refine ⟨h1, by simpa using h2.1, ?_⟩
    have h3 := h2.2
    cases ho : ops[i]? with
    | none => rw [ho] at h3; simp at h3
    | some o =>
      rw [ho] at h3
      simp only [Option.map_some, Option.getD_some] at h3
      refine ⟨o, rfl, fun e he hb => ?_⟩
      have := Array.all_eq_true_iff_forall_mem.1 h3 e he
      rw [hb] at this
      simpa using this
  · rintro ⟨h1, h2, o, ho, h3⟩
    refine ⟨h1, ?_⟩
    rw [h2, ho]
    simp only [Option.map_some, Option.getD_some, Bool.not_false, Bool.true_and]
    refine Array.all_eq_true_iff_forall_mem.2 fun e he => ?_
    cases hb : Region.binds .any e with
    | false => rfl
    | true => simpa using h3 e he hb

theorem orderOk_at {ops : Array Oper} (h : orderOk P ops = true) {i : Nat} {o : Oper} (ho : ops[i]? = some o) :
    (masks ops).getD i 0 = maskOf (masks ops) o ∧ (∀ e ∈ o.after, Region.binds .any e = true → e.on < i) ∧ ∀ j, j < i → pairOk P ops (masks ops) o i j = true := by
  have hi : i < ops.size := (Array.getElem?_eq_some_iff.1 ho).1
  have := List.all_eq_true.1 h i (List.mem_range.2 hi)
  unfold orderOkAt at this
  rw [ho] at this
  simp only [Bool.and_eq_true, beq_iff_eq] at this
  obtain ⟨⟨h1, h2⟩, h3⟩ := this
  refine ⟨h1, fun e he hb => ?_, fun j hj => List.all_eq_true.1 h3 j (List.mem_range.2 hj)⟩
  have := Array.all_eq_true_iff_forall_mem.1 h2 e he
  rw [hb] at this
  simpa using this
/-- all that comes before a listed operation is listed -/
theorem closed_mask {ops : Array Oper} (h : orderOk P ops = true) {listed : Array Bool} (hc : Closed ops listed) (hsz : listed.size = ops.size) : ∀ (n i : Nat), i < n → ∀ o, ops[i]? = some o → (∀ e ∈ o.after, Region.binds .any e = true → listed.getD e.on false = true) →
    ∀ j, ((masks ops).getD i 0).testBit j = true → listed.getD j false = true
  | 0, i, hi, _, _, _, _, _ => absurd hi (Nat.not_lt_zero i)
  | n + 1, i, hi, o, ho, hall, j, hj => by
    obtain ⟨h1, h2, _⟩ := orderOk_at h ho
    rw [h1] at hj
    obtain ⟨e, he, hb, hcase⟩ := maskOf_bit _ hj
    have he' : e ∈ o.after := by simpa using he
    rcases hcase with rfl | hcase
    · exact hall e he' hb
    · have hlt := h2 e he' hb
      have hi' : i < ops.size := (Array.getElem?_eq_some_iff.1 ho).1
      have hel := hall e he' hb
      obtain ⟨y, hy⟩ : ∃ y, ops[e.on]? = some y := ⟨ops[e.on]'(by omega), Array.getElem?_eq_getElem (by omega)⟩
      refine closed_mask h hc hsz n e.on (by omega) y hy (hc e.on y hy ?_) j hcase
      rw [Array.getD_eq_getD_getElem?, Array.getElem?_eq_getElem (by omega)] at hel ⊢
      simpa using hel

theorem rest_set {ops : Array Oper} {listed : Array Bool} {i : Nat} (hsz : listed.size = ops.size) (hi : i < ops.size) {A B : List Nat} (h : rest ops listed = A ++ i :: B) : rest ops (listed.setIfInBounds i true) = A ++ B := by
  have e1 : rest ops (listed.setIfInBounds i true) = (rest ops listed).filter (fun k => k ≠ i) := by
    unfold rest
    rw [List.filter_filter]
    apply List.filter_congr
    intro k hk
    have hk := List.mem_range.1 hk
    by_cases e : k = i
    · subst e
      simp [Array.getD_eq_getD_getElem?, hsz, hk]
    · have : (listed.setIfInBounds i true)[k]? = listed[k]? := Array.getElem?_setIfInBounds_ne (fun h => e h.symm)
      simp [Array.getD_eq_getD_getElem?, this, e]
  have hp : (rest ops listed).Pairwise (· < ·) := List.pairwise_lt_range.filter _
  rw [h] at hp e1
  rw [List.pairwise_append] at hp
  obtain ⟨p1, p2, p3⟩ := hp
  rw [List.pairwise_cons] at p2
  rw [e1, List.filter_append]
  congr 1
  · rw [List.filter_eq_self]
    intro k hk
    have := p3 k hk i (List.mem_cons_self ..)
    simp; omega
  · rw [List.filter_cons_of_neg (by simp), List.filter_eq_self]
    intro k hk
    have := p2.1 k hk
    simp; omega

theorem any_sound {base : Nat → Prop} {call : CallT} (hcall : CallOk P base call) {ops : Array Oper} (hord : orderOk P ops = true) {Q : Exit → Act → World → Prop} : ∀ (fuel : Nat) (listed : Array Bool) {σ σ' : StM}, opsM P call ops (rest ops listed) σ = some σ' →
    Closed ops listed → listed.size = ops.size → (rest ops listed).length ≤ fuel → ∀ {m : Em} {a : Act} {w : World}, ARel m σ.tmps a → Ok P m base σ.mem w →
    (∀ m' a' w', m.le m' → ARel m' σ'.tmps a' → Ok P m' base σ'.mem w' → Below base w w' → Q .normal a' w') → wpAny P .any ops Q fuel listed a w := by
  -- nothing is ready when nothing is left, and only then
  have hready : ∀ listed : Array Bool, Closed ops listed → listed.size = ops.size → Region.ready .any ops listed = [] → rest ops listed = [] := by
    intro listed hcl hsz hr
    cases hre : rest ops listed with
    | nil => rfl
    | cons i l =>
      exfalso
      have hp : (rest ops listed).Pairwise (· < ·) := List.pairwise_lt_range.filter _
      rw [hre, List.pairwise_cons] at hp
      have hi := mem_rest.1 (hre ▸ List.mem_cons_self .. : i ∈ rest ops listed)
      obtain ⟨o, ho⟩ : ∃ o, ops[i]? = some o := ⟨ops[i]'hi.1, Array.getElem?_eq_getElem hi.1⟩
      have : i ∈ Region.ready .any ops listed := mem_ready.2 ⟨hi.1, hi.2, o, ho, fun e he hb => by
        have hlt := (orderOk_at hord ho).2.1 e he hb
        cases hl : listed.getD e.on true with
        | true =>
          rw [Array.getD_eq_getD_getElem?, Array.getElem?_eq_getElem (by omega)] at hl ⊢
          simpa using hl
        | false =>
          have hm := mem_rest.2 ⟨Nat.lt_trans hlt hi.1, hl⟩
          rw [hre] at hm
          cases hm with
          | head => omega
          | tail _ hm => have := hp.1 _ hm; omega⟩
      rw [hr] at this
      cases this
  intro fuel
  induction fuel with
  | zero =>
    intro listed σ σ' hs hcl hsz hlen m a w ha hok hQ
    have hnil : rest ops listed = [] := List.eq_nil_of_length_eq_zero (Nat.le_zero.1 hlen)
    rw [hnil] at hs
    simp only [opsM, Option.some.injEq] at hs
    subst hs
    refine ⟨?_, hQ m a w m.le_refl ha hok (Below.refl _ _)⟩
    rw [List.eq_nil_iff_forall_not_mem]
    intro i hi
    obtain ⟨h1, h2, _⟩ := mem_ready.1 hi
    have := mem_rest.2 ⟨h1, h2⟩
    rw [hnil] at this
    cases this
  | succ fuel ih =>
    intro listed σ σ' hs hcl hsz hlen m a w ha hok hQ
    refine ⟨fun hr => ?_, fun i hi => ?_⟩
    · have hnil := hready listed hcl hsz hr
      rw [hnil] at hs
      simp only [opsM, Option.some.injEq] at hs
      subst hs
      exact hQ m a w m.le_refl ha hok (Below.refl _ _)
    · obtain ⟨h1, h2, o, ho, hall⟩ := mem_ready.1 hi
      have hmem := mem_rest.2 ⟨h1, h2⟩
      obtain ⟨A, B, hAB⟩ := List.append_of_mem hmem
      have hp : (rest ops listed).Pairwise (· < ·) := List.pairwise_lt_range.filter _
      rw [hAB, List.pairwise_append] at hp
      have hAlt : ∀ k ∈ A, k < i := fun k hk => hp.2.2 k hk i (List.mem_cons_self ..)
      have hmask := closed_mask hord hcl hsz (i + 1) i (Nat.lt_succ_self i) o ho hall
      rw [hAB, ops_front A B (fun j hj σ0 => ?_) σ] at hs
      · simp only [opsM] at hs
        split at hs
        · rename_i σ1 hσ1
          refine step_sound hcall hσ1 ha hok fun m1 a1 w1 hm1 ha1 hok1 hb1 => ?_
          have hset := rest_set hsz h1 hAB
          refine ih (listed.setIfInBounds i true) (by rw [hset]; exact hs) ?_ (by simpa using hsz) ?_ ha1 hok1 fun m2 a2 w2 hm2 ha2 hok2 hb2 => hQ m2 a2 w2 (Em.le_trans hm1 hm2) ha2 hok2 (hb1.trans hb2)
          · intro k y hk hl e he hb
            have old : listed.getD e.on false = true := by
              by_cases hki : k = i
              · subst hki
                rw [ho] at hk
                injection hk with hk
                subst hk
                exact hall e he hb
              · refine hcl k y hk ?_ e he hb
                have : (listed.setIfInBounds i true)[k]? = listed[k]? := Array.getElem?_setIfInBounds_ne (fun h => hki h.symm)
                rw [Array.getD_eq_getD_getElem?, this, ← Array.getD_eq_getD_getElem?] at hl
                exact hl
            by_cases hei : e.on = i
            · rw [Array.getD_eq_getD_getElem?, hei]
              simp [hsz, h1]
            · have : (listed.setIfInBounds i true)[e.on]? = listed[e.on]? := Array.getElem?_setIfInBounds_ne (fun h => hei h.symm)
              rw [Array.getD_eq_getD_getElem?, this, ← Array.getD_eq_getD_getElem?]
              exact old
          · rw [hset]
            rw [hAB] at hlen
            simp only [List.length_append, List.length_cons] at hlen ⊢
            omega
        · cases hs
      · have hjr : j ∈ rest ops listed := by rw [hAB]; exact List.mem_append_left _ hj
        obtain ⟨j1, j2⟩ := mem_rest.1 hjr
        obtain ⟨y, hy⟩ : ∃ y, ops[j]? = some y := ⟨ops[j]'j1, Array.getElem?_eq_getElem j1⟩
        have hpair := (orderOk_at hord ho).2.2 j (hAlt j hj)
        unfold pairOk at hpair
        rw [hy, Bool.or_eq_true] at hpair
        rcases hpair with hbit | hpair
        · have := hmask j hbit
          rw [Array.getD_eq_getD_getElem?, Array.getElem?_eq_getElem (by omega)] at this j2
          simp at this j2
          rw [j2] at this
          cases this
        · simp only [Bool.and_eq_true] at hpair
          exact step_comm hy ho hpair.1.1 hpair.1.2 hpair.2 σ0

end Go.Mini
