/-
  Regions whose operations draw their order, by an invariant over what is listed. No statement of the seat is proved here; no condition.
-/
import Derived.Test.YtlflocejgffjdaaM26
namespace Go.Mini
open Go.RowKit

/-- a piece of code, from the evaluator to the machine -/
theorem Run.wp {S : Seat} (hm : S.P.follows .mixedOrders = true) (hg : allGood S.P S.good = true) (ho : allOk S.P S.good = true) {base : Nat → Prop} (he : CallOk S.P base S.ext) {c : Code} {n : Nat} (hd : drawsOk S.P c = true) (hc : codeOk n c = true)
    {g : Env} {μ : Mem} {Q : ExitM → Env → Mem → Prop} (h : Run S c g μ Q) {t : Tm} (hf : Fits n t g) {m : Em} {a : Act} {w : World} (ha : ARel m t a) (hok : Ok S.P m base μ w) {R : Exit → Act → World → Prop}
    (hR : ∀ e g' μ' t' m' a' w', Q e g' μ' → Fits n t' g' → m.le m' → ARel m' t' a' → Ok S.P m' base μ' w' → Below base w w' → R e.out a' w') : c.wp S.P R a w := by
  obtain ⟨K, e, g', μ', h1, h2⟩ := h
  obtain ⟨t', h3, h4⟩ := code_fits (call_fits ho S.ext K K) c hc h1 hf
  exact code_sound (call_sound hm (good_of hg) he K K) hm K c hd h3 ha hok fun m' a' w' k1 k2 k3 k4 => hR e g' μ' t' m' a' w' h2 h4 k1 k2 k3 k4

/-- something of every operation and its place -/
def allAt (p : Nat → Oper → Prop) : List Oper → Nat → Prop
  | [], _ => True
  | o :: l, k => p k o ∧ allAt p l (k + 1)
theorem allAt_get {p : Nat → Oper → Prop} : ∀ {l : List Oper} {k : Nat}, allAt p l k → ∀ {i : Nat} {o : Oper}, l[i]? = some o → p (k + i) o
  | [], _, _, i, o, h => by simp at h
  | o :: l, k, ⟨h1, h2⟩, 0, o', h => by simp at h; subst h; exact h1
  | o :: l, k, ⟨h1, h2⟩, i + 1, o', h => by
    have := allAt_get h2 (i := i) (o := o') (by simpa using h)
    rwa [show k + (i + 1) = k + 1 + i by omega]
/-- edges go back -/
def backB (ops : Array Oper) : Bool := (List.range ops.size).all fun i => match ops[i]? with
  | some o => o.after.all fun e => !Region.binds .any e || decide (e.on < i)
  | none => true
theorem back_at {ops : Array Oper} (h : backB ops = true) {i : Nat} {o : Oper} (ho : ops[i]? = some o) : ∀ e ∈ o.after, Region.binds .any e = true → e.on < i := by
  intro e he hb
  have hi : i < ops.size := (Array.getElem?_eq_some_iff.1 ho).1
  have := List.all_eq_true.1 h i (List.mem_range.2 hi)
  rw [ho] at this
  have := Array.all_eq_true_iff_forall_mem.1 this e he
  rw [hb] at this
  simpa using this
theorem all_listed {ops : Array Oper} (hb : backB ops = true) {listed : Array Bool} (hsz : listed.size = ops.size) (hr : Region.ready .any ops listed = []) : rest ops listed = [] := by
  cases hre : rest ops listed with
  | nil => rfl
  | cons i l =>
    exfalso
    have hp : (rest ops listed).Pairwise (· < ·) := List.pairwise_lt_range.filter _
    rw [hre, List.pairwise_cons] at hp
    have hi := mem_rest.1 (hre ▸ List.mem_cons_self .. : i ∈ rest ops listed)
    obtain ⟨o, ho⟩ : ∃ o, ops[i]? = some o := ⟨ops[i]'hi.1, Array.getElem?_eq_getElem hi.1⟩
    have : i ∈ Region.ready .any ops listed := mem_ready.2 ⟨hi.1, hi.2, o, ho, fun e he hbb => by
      have hlt := back_at hb ho e he hbb
      cases hl : listed.getD e.on true with
      | true =>
        rw [Array.getD_eq_getD_getElem?, Array.getElem?_eq_getElem (by omega)] at hl ⊢
        simpa using hl
      | false =>
        have hm := mem_rest.2 ⟨Nat.lt_trans hlt hi.1, hl⟩
        rw [hre] at hm
        cases hm with
        | head => omega
        | tail _ hm => have := hp.1 _ hm; omega⟩
    rw [hr] at this
    cases this
/-- which are listed -/
def isIn (listed : Array Bool) (k : Nat) : Bool := listed.getD k false
theorem isIn_set {listed : Array Bool} {i : Nat} (hi : i < listed.size) : isIn (listed.setIfInBounds i true) = fun k => k == i || isIn listed k := by
  funext k
  unfold isIn
  by_cases h : k = i
  · subst h
    simp [Array.getD_eq_getD_getElem?, hi]
  · have : (listed.setIfInBounds i true)[k]? = listed[k]? := Array.getElem?_setIfInBounds_ne (fun hh => h hh.symm)
    rw [Array.getD_eq_getD_getElem?, this, ← Array.getD_eq_getD_getElem?]
    simp [h]
theorem draws_inv {S : Seat} (hm : S.P.follows .mixedOrders = true) (hg : allGood S.P S.good = true) (ho : allOk S.P S.good = true) {base : Nat → Prop} (he : CallOk S.P base S.ext) {ops : Array Oper} {n : Nat} (hc : ops.all (opOk n) = true) (hb : backB ops = true)
    (J : (Nat → Bool) → Env → Mem → Prop) (hJ : allAt (fun i o => ∀ L g μ, L i = false → (∀ e ∈ o.after, Region.binds .any e = true → L e.on = true) → J L g μ → RunL S ops [o] g μ (J (fun k => k == i || L k))) ops.toList 0)
    {Q : Exit → Act → World → Prop} : ∀ (fuel : Nat) (listed : Array Bool) {g : Env} {μ : Mem} {t : Tm}, listed.size = ops.size → (rest ops listed).length ≤ fuel → J (isIn listed) g μ → Fits n t g → ∀ {m : Em} {a : Act} {w : World}, ARel m t a → Ok S.P m base μ w →
    (∀ L g' μ' t' m' a' w', (∀ i, i < ops.size → L i = true) → J L g' μ' → Fits n t' g' → m.le m' → ARel m' t' a' → Ok S.P m' base μ' w' → Below base w w' → Q .normal a' w') → wpAny S.P .any ops Q fuel listed a w := by
  have full : ∀ {listed : Array Bool}, listed.size = ops.size → rest ops listed = [] → ∀ i, i < ops.size → isIn listed i = true := by
    intro listed hsz hr i hi
    cases hl : listed.getD i true with
    | true =>
      unfold isIn
      rw [Array.getD_eq_getD_getElem?, Array.getElem?_eq_getElem (by omega)] at hl ⊢
      simpa using hl
    | false =>
      have := mem_rest.2 ⟨hi, hl⟩
      rw [hr] at this
      cases this
  intro fuel
  induction fuel with
  | zero =>
    intro listed g μ t hsz hlen hj hf m a w ha hok hQ
    have hnil : rest ops listed = [] := List.eq_nil_of_length_eq_zero (Nat.le_zero.1 hlen)
    refine ⟨?_, hQ _ g μ t m a w (full hsz hnil) hj hf m.le_refl ha hok (Below.refl _ _)⟩
    rw [List.eq_nil_iff_forall_not_mem]
    intro i hi
    obtain ⟨h1, h2, _⟩ := mem_ready.1 hi
    have := mem_rest.2 ⟨h1, h2⟩
    rw [hnil] at this
    cases this
  | succ fuel ih =>
    intro listed g μ t hsz hlen hj hf m a w ha hok hQ
    refine ⟨fun hr => hQ _ g μ t m a w (full hsz (all_listed hb hsz hr)) hj hf m.le_refl ha hok (Below.refl _ _), fun i hi => ?_⟩
    obtain ⟨h1, h2, o, hio, hall⟩ := mem_ready.1 hi
    have hstep := allAt_get hJ (i := i) (o := o) (by rw [Array.getElem?_toList]; exact hio) (isIn listed) g μ
    rw [Nat.zero_add] at hstep
    have hli : isIn listed i = false := by
      unfold isIn
      rw [Array.getD_eq_getD_getElem?, Array.getElem?_eq_getElem (by omega)] at h2 ⊢
      simpa using h2
    have hrun := hstep hli hall hj
    rw [runL_cons] at hrun
    obtain ⟨K, g1, μ1, hs, hr1⟩ := hrun
    rw [runL_nil] at hr1
    have hopok : opOk n o = true := Array.all_eq_true_iff_forall_mem.1 hc o (Array.mem_of_getElem? hio)
    obtain ⟨t1, hs1, hf1⟩ := step_fits (call_fits ho S.ext K K) hio hopok hs hf
    refine step_sound (call_sound hm (good_of hg) he K K) hs1 ha hok fun m1 a1 w1 hm1 ha1 hok1 hb1 => ?_
    rw [← isIn_set (by omega)] at hr1
    refine ih (listed.setIfInBounds i true) (by simpa using hsz) ?_ hr1 hf1 ha1 hok1 fun L g' μ' t' m2 a2 w2 q1 q2 q3 hm2 ha2 hok2 hb2 => hQ L g' μ' t' m2 a2 w2 q1 q2 q3 (Em.le_trans hm1 hm2) ha2 hok2 (hb1.trans hb2)
    obtain ⟨A, B, hAB⟩ := List.append_of_mem (mem_rest.2 ⟨h1, h2⟩)
    rw [rest_set hsz h1 hAB]
    rw [hAB] at hlen
    simp only [List.length_append, List.length_cons] at hlen ⊢
    omega
/-- a region that draws -/
theorem draws_wp {S : Seat} (hm : S.P.follows .mixedOrders = true) (hg : allGood S.P S.good = true) (ho : allOk S.P S.good = true) {base : Nat → Prop} (he : CallOk S.P base S.ext) {id : Nat} {ops : Array Oper} {n : Nat} (hc : ops.all (opOk n) = true) (hb : backB ops = true)
    (J : (Nat → Bool) → Env → Mem → Prop) (hJ : allAt (fun i o => ∀ L g μ, L i = false → (∀ e ∈ o.after, Region.binds .any e = true → L e.on = true) → J L g μ → RunL S ops [o] g μ (J (fun k => k == i || L k))) ops.toList 0)
    {Q : Exit → Act → World → Prop} {g : Env} {μ : Mem} {t : Tm} (hj : J (fun _ => false) g μ) (hf : Fits n t g) {m : Em} {a : Act} {w : World} (ha : ARel m t a) (hok : Ok S.P m base μ w)
    (hQ : ∀ L g' μ' t' m' a' w', (∀ i, i < ops.size → L i = true) → J L g' μ' → Fits n t' g' → m.le m' → ARel m' t' a' → Ok S.P m' base μ' w' → Below base w w' → Q .normal a' w') : (Code.region id ops true).wp S.P Q a w := by
  have h0 : isIn (Array.replicate ops.size false) = fun _ => false := by
    funext k
    unfold isIn
    rw [Array.getD_eq_getD_getElem?]
    by_cases h : k < ops.size
    · simp [h]
    · simp [h]
  refine wp_region_any hm (draws_inv hm hg ho he hc hb J hJ ops.size _ (by simp) (by rw [rest_none]; simp) (by rw [h0]; exact hj) hf ha hok.drew ?_)
  intro L g' μ' t' m' a' w' q1 q2 q3 k1 k2 k3 k4
  exact hQ L g' μ' t' m' a' w' q1 q2 q3 k1 k2 k3 (Below.trans (Below.refl base w).drew k4)
/-- what a contract by hand gives -/
theorem Gets.ext {S : Seat} {f : FuncId} {args : List Value} {μ μ' : Mem} {v : Value} (h : S.ext f args μ = some (v, μ')) {Q : Value → Mem → Prop} (hq : Q v μ') : Gets S f args μ Q := by
  refine ⟨0, v, μ', ?_, hq⟩
  show callE S.P S.good S.ext 0 0 f args μ = _
  exact h
end Go.Mini
