/-
  The laws of built-in functions, and of slices that grow, for a step-by-step proof by rewriting. No statement of the seat is proved here; no condition.
-/
import Derived.Test.YtlflocejgffjdaaM19
namespace Go.Mini
open Go.RowKit

variable {P : Program}

theorem plainM_alike {ρ ρ' : Operand → Value} {o o' : Oper} (h1 : fastM P ρ o = none) (h2 : fastM P ρ' o' = none) (hm : mayPlain o.op = mayPlain o'.op) (ha : o.op.operands.all (fun x => plainV (ρ x)) = o'.op.operands.all (fun x => plainV (ρ' x))) (he : execOp ρ o = execOp ρ' o') : plainM P ρ o = plainM P ρ' o' := by
  unfold plainM
  rw [h1, h2, hm, ha, he]
theorem plainM_loud {ρ : Operand → Value} {o : Oper} (h1 : fastM P ρ o = none) (x : Operand) (hx : x ∈ o.op.operands) (hp : plainV (ρ x) = false) : plainM P ρ o = none := by
  unfold plainM
  rw [h1]
  dsimp only
  rw [if_neg]
  intro hh
  have := Array.all_eq_true_iff_forall_mem.1 hh.2 x hx
  rw [hp] at this
  cases this
section
variable (S : Seat) (all : Array Oper) (d : Option Tmp) (ty : TypeId) (pos : String) (af : Array Edge) (g : Env) (μ : Mem) (Q : Env → Mem → Prop)
/-! ### append -/
def appV (P : Program) (t tx : TypeId) (ty : TypeId) (a b : Value) (μ : Mem) : Option (Value × Mem) := mop P (fun o => match o with
  | .tmp 0 => a
  | _ => b) ⟨none, .call ⟨.builtin .append, #[.tmp 0, .tmp 1], #[t, tx]⟩, ty, "", #[], none⟩ μ
theorem o_append' (s x : Operand) (t tx : TypeId) : RunO S all ⟨d, .call ⟨.builtin .append, #[s, x], #[t, tx]⟩, ty, pos, af, none⟩ g μ Q = bindO (appV S.P t tx ty (evalE g s) (evalE g x) μ) fun r => Q (putE g d r.1) r.2 := by
  rw [runO_op S _ _ g μ Q rfl rfl]
  have e : mop S.P (evalE g) ⟨d, .call ⟨.builtin .append, #[s, x], #[t, tx]⟩, ty, pos, af, none⟩ μ = appV S.P t tx ty (evalE g s) (evalE g x) μ := by
    have hp : plainM S.P (evalE g) ⟨d, .call ⟨.builtin .append, #[s, x], #[t, tx]⟩, ty, pos, af, none⟩ = plainM S.P (fun o => match o with
        | .tmp 0 => evalE g s
        | _ => evalE g x) ⟨none, .call ⟨.builtin .append, #[.tmp 0, .tmp 1], #[t, tx]⟩, ty, "", #[], none⟩ := by
      refine plainM_alike rfl rfl rfl ?_ ?_
      · simp [Op.operands, Call.operands]
      · simp [execOp, resolve, invoke, builtin]
    unfold appV mop
    rw [hp]
    rfl
  rw [e]
theorem app_loud (t tx ty : TypeId) (a b : Value) (μ : Mem) (h : plainV b = false) : appV P t tx ty a b μ = appendM P t tx a b μ := by
  have hp : plainM P (fun o => match o with
      | .tmp 0 => a
      | _ => b) ⟨none, .call ⟨.builtin .append, #[.tmp 0, .tmp 1], #[t, tx]⟩, ty, "", #[], none⟩ = none := by
    refine plainM_loud rfl (.tmp 1) ?_ h
    simp [Op.operands, Call.operands]
  unfold appV mop
  rw [hp]
  rfl
/-- all that is asked of a slice type -/
structure Elem (P : Program) (t e sz by_ : Nat) (z : Value) : Prop where
  el : elemOf P t = some (e, sz, by_)
  zero : zeroM P e = some z
  zsz : z.cells.size = sz
  sz0 : sz ≠ 0
theorem Elem.parts {t e sz by_ : Nat} {z : Value} (h : Elem P t e sz by_ z) : ∃ i, P.underlying t = some (.slice e) ∧ P.info? e = some i ∧ i.size = sz ∧ i.bytes = by_ ∧ i.zero.isNone = false := by
  have h1 := h.el
  unfold elemOf at h1
  split at h1
  · rename_i e' hu
    split at h1
    · rename_i inf hi
      simp only [Option.some.injEq, Prod.mk.injEq] at h1
      obtain ⟨rfl, rfl, rfl⟩ := h1
      refine ⟨inf, hu, hi, rfl, rfl, ?_⟩
      have hz := h.zero
      unfold zeroM at hz
      rw [hi] at hz
      dsimp only at hz
      cases hzz : inf.zero with
      | none => rw [hzz] at hz; cases hz
      | some _ => rfl
    · cases h1
  · cases h1
theorem srcM_slice {tx ex : TypeId} (hx : P.underlying tx = some (.slice ex)) (sz : Nat) (μ : Mem) (a : Addr) (k c : Nat) (hk : k ≠ 0) {cells : List Value} {e' : TypeId} {own : Bool} (hr : μ.at a.block = some (.row cells e' own)) {cs : List Value} (hc : cellsIn cells a.off (k * sz) = some cs) :
    srcM P tx sz μ (.slice (some a) k c) = some (k, cs) := by
  unfold cellsIn at hc
  unfold Mem.at at hr
  split at hc
  · rename_i hl
    injection hc with hc
    subst hc
    unfold srcM
    rw [hx]
    dsimp only
    rw [if_neg hk, hr]
    dsimp only
    rw [if_pos hl]
  · cases hc
/-- to nil -/
theorem app_nil {t tx ex e sz by_ : Nat} {z : Value} (h : Elem P t e sz by_ z) (hx : P.underlying tx = some (.slice ex)) (μ : Mem) (a : Addr) (k c : Nat) (hk : k ≠ 0) {cells : List Value} {e' : TypeId} {own : Bool} (hr : μ.at a.block = some (.row cells e' own)) {cs : List Value} (hc : cellsIn cells a.off (k * sz) = some cs)
    (hb : k * by_ ≤ 70368744177664) (hm : k ≤ 1099511627776) : appendM P t tx (.slice none 0 0) (.slice (some a) k c) μ = some (.slice (some ⟨μ.next, 0, none⟩) k INF, μ.add cs e) := by
  obtain ⟨i, h1, h2, h3, h4, h5⟩ := h.parts
  have hs := srcM_slice hx sz μ a k c hk hr hc
  have hzs := h.zsz
  have hs0 := h.sz0
  unfold appendM
  simp only [h1, h2, h.zero, h3, hs]
  rw [if_neg (by simp [hs0, hzs, h5])]
  simp only [and_self, if_true]
  rw [if_neg hk, if_pos ⟨by rw [h4]; exact hb, hm⟩]
  rfl
/-- to a slice that was appended to -/
theorem app_grow {t tx ex e sz by_ : Nat} {z : Value} (h : Elem P t e sz by_ z) (hx : P.underlying tx = some (.slice ex)) (μ : Mem) (n : Nat) (sp : Option Nat) (l : Nat) (hl : l ≠ 0) {cells0 : List Value} (hr0 : μ.at n = some (.row cells0 e true)) (hl0 : cells0.length = l * sz) (a : Addr) (k c : Nat) (hk : k ≠ 0) {cells : List Value} {e' : TypeId} {own : Bool} (hr : μ.at a.block = some (.row cells e' own)) {cs : List Value} (hc : cellsIn cells a.off (k * sz) = some cs)
    (hb : (l + k) * by_ ≤ 70368744177664) (hm : l + k ≤ 1099511627776) : appendM P t tx (.slice (some ⟨n, 0, sp⟩) l INF) (.slice (some a) k c) μ = some (.slice (some ⟨μ.next, 0, none⟩) (l + k) INF, (μ.drop n).add (cells0 ++ cs) e) := by
  obtain ⟨i, h1, h2, h3, h4, h5⟩ := h.parts
  have hs := srcM_slice hx sz μ a k c hk hr hc
  have hzs := h.zsz
  have hs0 := h.sz0
  unfold Mem.at at hr0
  unfold appendM
  simp only [h1, h2, h.zero, h3, hs]
  rw [if_neg (by simp [hs0, hzs, h5])]
  rw [if_neg hk, if_pos ⟨by rw [h4]; exact hb, hm⟩, if_true, if_pos ⟨hl, trivial⟩, hr0]
  dsimp only
  have ht : cells0.take (l * sz) = cells0 := List.take_of_length_le (by omega)
  rw [ht, if_pos ⟨rfl, hl0⟩]
  rfl
/-- to a slice that is full -/
theorem app_full {t tx ex e sz by_ : Nat} {z : Value} (h : Elem P t e sz by_ z) (hx : P.underlying tx = some (.slice ex)) (μ : Mem) (a0 : Addr) (l c0 : Nat) {olds : List Value} (ho : oldM μ sz a0 l = some olds) (hc0 : c0 ≠ INF) (a : Addr) (k c : Nat) (hk : k ≠ 0) (hlc : c0 < l + k) {cells : List Value} {e' : TypeId} {own : Bool} (hr : μ.at a.block = some (.row cells e' own)) {cs : List Value} (hc : cellsIn cells a.off (k * sz) = some cs)
    (hb : (l + k) * by_ ≤ 70368744177664) (hm : l + k ≤ 1099511627776) : appendM P t tx (.slice (some a0) l c0) (.slice (some a) k c) μ = some (.slice (some ⟨μ.next, 0, none⟩) (l + k) INF, μ.add (olds ++ cs) e) := by
  obtain ⟨i, h1, h2, h3, h4, h5⟩ := h.parts
  have hs := srcM_slice hx sz μ a k c hk hr hc
  have hzs := h.zsz
  have hs0 := h.sz0
  unfold appendM
  simp only [h1, h2, h.zero, h3, hs]
  rw [if_neg (by simp [hs0, hzs, h5])]
  rw [if_neg hk, if_pos ⟨by rw [h4]; exact hb, hm⟩, if_neg hc0, if_neg (by omega), ho]
  rfl
/-- of nothing -/
theorem app_none {t tx ex e sz by_ : Nat} {z : Value} (h : Elem P t e sz by_ z) (hx : P.underlying tx = some (.slice ex)) (μ : Mem) (a0 : Addr) (l c0 : Nat) (a : Addr) (c : Nat) : appendM P t tx (.slice (some a0) l c0) (.slice (some a) 0 c) μ = some (.slice (some a0) l c0, μ) := by
  obtain ⟨i, h1, h2, h3, h4, h5⟩ := h.parts
  have hs : srcM P tx sz μ (.slice (some a) 0 c) = some (0, []) := by simp [srcM, hx]
  have hzs := h.zsz
  have hs0 := h.sz0
  unfold appendM
  simp only [h1, h2, h.zero, h3, hs]
  rw [if_neg (by simp [hs0, hzs, h5])]
  rfl

/-! ### slices that grow -/
/-- v is a slice of the call's own that holds these cells, its row named from lo on -/
def Grows (μ : Mem) (lo : Nat) (v : Value) (cells : List Value) (sz : Nat) (e : TypeId) : Prop :=
  (cells = [] ∧ (v = .slice none 0 0 ∨ ∃ a, v = .slice (some a) 0 0)) ∨
  ∃ n l, v = .slice (some ⟨n, 0, none⟩) l INF ∧ l ≠ 0 ∧ cells.length = l * sz ∧ μ.at n = some (.row cells e true) ∧ lo ≤ n ∧ n < μ.next
/-- what was named below lo is as it was -/
def Keeps (lo : Nat) (μ μ' : Mem) : Prop := μ.next ≤ μ'.next ∧ ∀ k, k < lo → μ'.at k = μ.at k
theorem Keeps.refl (lo : Nat) (μ : Mem) : Keeps lo μ μ := ⟨Nat.le_refl _, fun _ _ => rfl⟩
theorem Keeps.trans {lo : Nat} {a b c : Mem} (h : Keeps lo a b) (k : Keeps lo b c) : Keeps lo a c := ⟨Nat.le_trans h.1 k.1, fun i hi => (k.2 i hi).trans (h.2 i hi)⟩
theorem Keeps.le {lo lo' : Nat} {a b : Mem} (h : Keeps lo a b) (hl : lo' ≤ lo) : Keeps lo' a b := ⟨h.1, fun i hi => h.2 i (by omega)⟩
theorem Keeps.add {lo : Nat} {a b : Mem} (h : Keeps lo a b) (hl : lo ≤ b.next) (cells : List Value) (e : TypeId) : Keeps lo a (b.add cells e) := ⟨by rw [next_add]; have := h.1; omega, fun i hi => by rw [at_add_ne _ _ _ (by omega)]; exact h.2 i hi⟩
theorem Keeps.set {lo : Nat} {a b : Mem} (h : Keeps lo a b) {n : Nat} (hl : lo ≤ n) (cells : List Value) (e : TypeId) : Keeps lo a (b.setRow n cells e) := ⟨h.1, fun i hi => by rw [at_setRow_ne _ _ _ (by omega)]; exact h.2 i hi⟩
theorem Keeps.drop {lo : Nat} {a b : Mem} (h : Keeps lo a b) {n : Nat} (hl : lo ≤ n) : Keeps lo a (b.drop n) := ⟨h.1, fun i hi => by rw [at_drop_ne _ (by omega)]; exact h.2 i hi⟩
theorem Grows.keeps {μ μ' : Mem} {lo : Nat} {v : Value} {cells : List Value} {sz : Nat} {e : TypeId} (h : Grows μ lo v cells sz e) (hk : Keeps μ.next μ μ') : Grows μ' lo v cells sz e := by
  rcases h with h | ⟨n, l, h1, h2, h3, h4, h5, h6⟩
  · exact .inl h
  · exact .inr ⟨n, l, h1, h2, h3, (hk.2 n h6).trans h4, h5, by have := hk.1; omega⟩
theorem Grows.add {μ : Mem} {lo : Nat} {v : Value} {cells : List Value} {sz : Nat} {e : TypeId} (h : Grows μ lo v cells sz e) (cs : List Value) (e' : TypeId) : Grows (μ.add cs e') lo v cells sz e :=
  h.keeps ((Keeps.refl _ _).add (Nat.le_refl _) _ _)
theorem Grows.nil (μ : Mem) (lo sz : Nat) (e : TypeId) : Grows μ lo (.slice none 0 0) [] sz e := .inl ⟨rfl, .inl rfl⟩
/-- ONE MORE ELEMENT -/
theorem Grows.push {t tx ex e sz by_ : Nat} {z : Value} (h : Elem P t e sz by_ z) (hx : P.underlying tx = some (.slice ex)) (ty : TypeId) {μ : Mem} {lo : Nat} {v : Value} {cells cs : List Value} (hg : Grows μ lo v cells sz e) (hlo : lo ≤ μ.next) {m c : Nat} {sp : Option Nat} {e' : TypeId} {own : Bool} (hr : μ.at m = some (.row cs e' own)) (hcs : cs.length = sz)
    (hb : (cells.length / sz + 1) * by_ ≤ 70368744177664) (hm : cells.length / sz + 1 ≤ 1099511627776) :
    ∃ v' μ', appV P t tx ty v (.slice (some ⟨m, 0, sp⟩) 1 c) μ = some (v', μ') ∧ Grows μ' lo v' (cells ++ cs) sz e ∧ Keeps lo μ μ' ∧ μ'.next = μ.next + 1 := by
  have hs0 := h.sz0
  have hc : cellsIn cs 0 (1 * sz) = some cs := by
    unfold cellsIn
    rw [List.drop_zero, List.take_of_length_le (by omega), if_pos (by omega)]
  have hpl : plainV (.slice (some ⟨m, 0, sp⟩) 1 c) = false := rfl
  rw [app_loud _ _ _ _ _ _ hpl]
  rcases hg with ⟨rfl, rfl | ⟨a, rfl⟩⟩ | ⟨n, l, rfl, h2, h3, h4, h5, h6⟩
  · refine ⟨_, _, app_nil h hx μ ⟨m, 0, sp⟩ 1 c (by omega) hr hc (by simpa using hb) (by omega), .inr ⟨μ.next, 1, rfl, by omega, by simpa using hcs, ?_, hlo, by rw [next_add]; omega⟩, (Keeps.refl _ _).add hlo _ _, next_add _ _ _⟩
    exact at_add_same μ cs e
  · refine ⟨_, _, app_full h hx μ a 0 0 (olds := []) rfl (by decide) ⟨m, 0, sp⟩ 1 c (by omega) (by omega) hr hc (by simpa using hb) (by omega), .inr ⟨μ.next, 1, rfl, by omega, by simpa using hcs, ?_, hlo, by rw [next_add]; omega⟩, (Keeps.refl _ _).add hlo _ _, next_add _ _ _⟩
    exact at_add_same μ _ e
  · have hd : cells.length / sz = l := by rw [h3]; exact Nat.mul_div_cancel _ (by omega)
    rw [hd] at hb hm
    refine ⟨_, _, app_grow h hx μ n none l h2 h4 h3 ⟨m, 0, sp⟩ 1 c (by omega) hr hc hb hm, .inr ⟨μ.next, l + 1, rfl, by omega, by rw [List.length_append, h3, hcs, Nat.add_mul, Nat.one_mul], ?_, hlo, by rw [next_add, next_drop]; omega⟩, ((Keeps.refl _ _).drop h5).add hlo _ _, by rw [next_add, next_drop]⟩
    exact at_add_same (μ.drop n) _ e

/-! ### len -/
def lenV (P : Program) (t ty : TypeId) (a : Value) (μ : Mem) : Option Value := (mop P (fun _ => a) ⟨none, .call ⟨.builtin .len, #[.tmp 0], #[t]⟩, ty, "", #[], none⟩ μ).map (·.1)
theorem o_len (x : Operand) (t : TypeId) : RunO S all ⟨d, .call ⟨.builtin .len, #[x], #[t]⟩, ty, pos, af, none⟩ g μ Q = bindO (lenV S.P t ty (evalE g x) μ) fun v => Q (putE g d v) μ := by
  rw [runO_op S _ _ g μ Q rfl rfl]
  have e : mop S.P (evalE g) ⟨d, .call ⟨.builtin .len, #[x], #[t]⟩, ty, pos, af, none⟩ μ = (lenV S.P t ty (evalE g x) μ).map (·, μ) := by
    have hp : plainM S.P (evalE g) ⟨d, .call ⟨.builtin .len, #[x], #[t]⟩, ty, pos, af, none⟩ = plainM S.P (fun _ => evalE g x) ⟨none, .call ⟨.builtin .len, #[.tmp 0], #[t]⟩, ty, "", #[], none⟩ := by
      refine plainM_alike rfl rfl rfl ?_ ?_
      · simp [Op.operands, Call.operands]
      · simp [execOp, resolve, invoke, builtin]
    unfold lenV mop
    rw [hp]
    cases plainM S.P (fun _ => evalE g x) ⟨none, .call ⟨.builtin .len, #[.tmp 0], #[t]⟩, ty, "", #[], none⟩ with
    | some v => rfl
    | none =>
      dsimp only
      cases lenM S.P t (evalE g x) with
      | some v => rfl
      | none => cases lenMapM S.P t μ (evalE g x) <;> rfl
  rw [e, bindO_map]
theorem len_of {t ty : TypeId} {x v : Value} (μ : Mem) (hl : lenM P t x = some v) (hx : plainV x = false) : lenV P t ty x μ = some v := by
  have hp : plainM P (fun _ => x) ⟨none, .call ⟨.builtin .len, #[.tmp 0], #[t]⟩, ty, "", #[], none⟩ = none := by
    refine plainM_loud rfl (.tmp 0) ?_ hx
    simp [Op.operands, Call.operands]
  unfold lenV mop
  rw [hp]
  simp [hl]
theorem len_slice {t e : TypeId} (hu : P.underlying t = some (.slice e)) (ty : TypeId) (a : Addr) (l c : Nat) (μ : Mem) : lenV P t ty (.slice (some a) l c) μ = some (.int .i64 l) :=
  len_of μ (by simp [lenM, hu, goInt]) rfl
theorem len_plain {t ty : TypeId} {x v : Value} (μ : Mem) (hx : plainV x = true) (hv : plainV v = true) (h : pureOf P (Builtin.len_ #[t] ty #[x]) = some v) : lenV P t ty x μ = some v := by
  have hp : plainM P (fun _ => x) ⟨none, .call ⟨.builtin .len, #[.tmp 0], #[t]⟩, ty, "", #[], none⟩ = some v := by
    rw [plainM_value (s := Builtin.len_ #[t] ty #[x]) rfl rfl (by simp [execOp, resolve, invoke, builtin]), if_pos (by simp [Op.operands, Call.operands, hx])]
    unfold plainOf
    rw [h]
    dsimp only
    rw [if_pos hv]
  unfold lenV mop
  rw [hp]
  rfl
theorem len_nil {t e : TypeId} (hu : P.underlying t = some (.slice e)) (ty : TypeId) (μ : Mem) : lenV P t ty (.slice none 0 0) μ = some (.int .i64 0) :=
  len_plain μ rfl rfl ((pureOf_bind _ (pureOf_underlying hu)).trans rfl)
theorem len_str {t : TypeId} (hu : P.underlying t = some .string) (ty : TypeId) (s : ByteArray) (μ : Mem) : lenV P t ty (.string s) μ = some (.int .i64 s.size) :=
  len_plain μ rfl rfl ((pureOf_bind _ (pureOf_underlying hu)).trans rfl)
theorem len_grows {t e sz : Nat} {μ : Mem} {lo : Nat} {v : Value} {cells : List Value} (h : Grows μ lo v cells sz e) (hs : sz ≠ 0) (hu : P.underlying t = some (.slice e)) (ty : TypeId) (μ' : Mem) : lenV P t ty v μ' = some (.int .i64 (cells.length / sz : Nat)) := by
  rcases h with ⟨rfl, rfl | ⟨a, rfl⟩⟩ | ⟨n, l, rfl, h2, h3, h4, h5, h6⟩
  · rw [len_nil hu]; simp
  · rw [len_slice hu]; simp
  · rw [len_slice hu, h3, Nat.mul_div_cancel _ (by omega)]

/-! ### max -/
theorem o_max (x y : Operand) (t1 t2 : TypeId) : RunO S all ⟨d, .call ⟨.builtin .max, #[x, y], #[t1, t2]⟩, ty, pos, af, none⟩ g μ Q = bindO (mop S.P (evalE g) ⟨none, .call ⟨.builtin .max, #[x, y], #[t1, t2]⟩, ty, "", #[], none⟩ μ) fun r => Q (putE g d r.1) r.2 := by
  rw [runO_op S _ _ g μ Q rfl rfl]
  rfl
/-! ### copy -/
def copyV (P : Program) (t tx ty : TypeId) (a b : Value) (μ : Mem) : Option (Value × Mem) := mop P (fun o => match o with
  | .tmp 0 => a
  | _ => b) ⟨none, .call ⟨.builtin .copy, #[.tmp 0, .tmp 1], #[t, tx]⟩, ty, "", #[], none⟩ μ
theorem o_copy (s x : Operand) (t tx : TypeId) : RunO S all ⟨d, .call ⟨.builtin .copy, #[s, x], #[t, tx]⟩, ty, pos, af, none⟩ g μ Q = bindO (copyV S.P t tx ty (evalE g s) (evalE g x) μ) fun r => Q (putE g d r.1) r.2 := by
  rw [runO_op S _ _ g μ Q rfl rfl]
  have e : mop S.P (evalE g) ⟨d, .call ⟨.builtin .copy, #[s, x], #[t, tx]⟩, ty, pos, af, none⟩ μ = copyV S.P t tx ty (evalE g s) (evalE g x) μ := by
    have hp : plainM S.P (evalE g) ⟨d, .call ⟨.builtin .copy, #[s, x], #[t, tx]⟩, ty, pos, af, none⟩ = plainM S.P (fun o => match o with
        | .tmp 0 => evalE g s
        | _ => evalE g x) ⟨none, .call ⟨.builtin .copy, #[.tmp 0, .tmp 1], #[t, tx]⟩, ty, "", #[], none⟩ := by
      refine plainM_alike rfl rfl rfl ?_ ?_
      · simp [Op.operands, Call.operands]
      · simp [execOp, resolve, invoke, builtin]
    unfold copyV mop
    rw [hp]
    rfl
  rw [e]
theorem copy_loud (t tx ty : TypeId) (a b : Value) (μ : Mem) (h : plainV a = false) : copyV P t tx ty a b μ = copyM P t a b μ := by
  have hp : plainM P (fun o => match o with
      | .tmp 0 => a
      | _ => b) ⟨none, .call ⟨.builtin .copy, #[.tmp 0, .tmp 1], #[t, tx]⟩, ty, "", #[], none⟩ = none := by
    refine plainM_loud rfl (.tmp 0) ?_ h
    simp [Op.operands, Call.operands]
  unfold copyV mop
  rw [hp]
  rfl
end
end Go.Mini
