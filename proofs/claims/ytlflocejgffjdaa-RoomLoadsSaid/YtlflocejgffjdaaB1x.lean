/-
  Maps of bits in memory, and Clone: its operations draw their order, so its contract is shown by an invariant. No statement of the seat is proved here; no condition.
-/
import Derived.Test.YtlflocejgffjdaaB0
import Derived.Test.YtlflocejgffjdaaB1
import Derived.Test.YtlflocejgffjdaaM28
set_option linter.unusedSimpArgs false
namespace Go.Mini.Bits
open Go.Proofs Go.RowKit

/-- which functions are stepped through: those whose operations may come in any order -/
def good (f : FuncId) : Bool := !(f == 12 || f == 13 || f == 56 || f == 80 || f == 87)
theorem allGood_ : allGood Try.prog good = true := by kernel_rfl
theorem allOk_ : allOk Try.prog good = true := by kernel_rfl
theorem mixed_ : Try.prog.follows .mixedOrders = true := by kernel_rfl
noncomputable def S0 : Seat := ⟨Try.prog, good, extNone⟩
theorem S0_P : S0.P = Try.prog := rfl
/-- at p lies a map with the bits k, its bytes at b -/
structure IsMap (μ : Mem) (p b c : Nat) (k : List Bool) : Prop where
  st : μ.at p = some (.row [.int .i64 (k.length : Nat), .slice (some ⟨b, 0, none⟩) ((k.length + 7) / 8) c] 108 true)
  by_ : μ.at b = some (.row (nums .u8 (pack k)) 5 true)
  ne : p ≠ b
  lp : p < μ.next
  lb : b < μ.next
  pos : 1 ≤ k.length
  le : k.length ≤ 8192
theorem cellsIn_all (cells : List Value) (n : Nat) (h : cells.length = n) : cellsIn cells 0 n = some cells := by
  unfold cellsIn
  rw [List.drop_zero, List.take_of_length_le (by omega), if_pos h]
/-- the memory behind a copy of bytes -/
def cloneB (μ : Mem) (l : List Nat) : Mem := (μ.add [] 5).add (nums .u8 l) 5
theorem sclone_0 {μ : Mem} {b c n : Nat} {l : List Nat} (hb : μ.at b = some (.row (nums .u8 l) 5 true)) (hn : n = l.length) (h0 : n ≠ 0) (hlt : b < μ.next) (hmax : n ≤ 1000000) (Q : Value → Mem → Prop) :
    Gets S0 82 [.slice (some ⟨b, 0, none⟩) n c] μ Q = Q (.slice (some ⟨μ.next + 1, 0, none⟩) n INF) (cloneB μ l) := by
  refine propext (Gets.iff ?_ Q)
  refine Gets.enter (fn := Try.f82) Try.func82 rfl rfl rfl (Nat.le_of_ble_eq_true rfl) ?_
  have ha : ∀ ty, appV Try.prog 100 100 ty (.slice (some ⟨μ.next, 0, none⟩) 0 0) (.slice (some ⟨b, 0, none⟩) n c) (μ.add [] 5) = some (.slice (some ⟨μ.next + 1, 0, none⟩) n INF, (μ.add [] 5).add (nums .u8 l) 5) := fun ty => by
    rw [app_loud _ _ _ _ _ _ rfl]
    have := app_full elem100 Try.underlying100 (μ.add [] 5) ⟨μ.next, 0, none⟩ 0 0 (olds := []) rfl (by decide) ⟨b, 0, none⟩ n c h0 (by omega) (cells := nums .u8 l) (e' := 5) (own := true) (by rw [at_add_ne _ _ _ (by show μ.next ≠ b; omega)]; exact hb) (cs := nums .u8 l) (by rw [Nat.mul_one]; exact cellsIn_all _ _ (by rw [nums_length, hn])) (by omega) (by omega)
    rw [this, Nat.zero_add, next_add, List.nil_append]
  simp -implicitDefEqProofs -dsimp (disch := first | omega | (simp only [lens, List.length_set, List.length_cons, List.length_nil, List.length_append, List.length_replicate]; done) | (simp only [lens, List.length_set, List.length_cons, List.length_nil, List.length_append, List.length_replicate]; omega)) only [↓walkA, walkB, coreB, Nat.reduceEqDiff, Nat.reduceAdd, ↓reduceIte, List.toList_toArray, List.map_cons, List.map_nil, List.getElem?_cons_zero, List.getElem?_cons_succ, Option.map_some, Option.map_none, Option.isSome_some, decide_true, decide_false, typesT, S0_P, Try.f82, bin_eql_snil _ _ _ Try.underlying100, buildSlice_none 100 el100, ha, cloneB]
/-- what Clone answers with, and the memory then -/
def cloneV (μ : Mem) : Value := .pointer (some ⟨μ.next + 2, 0, none⟩)
def cloneM (μ : Mem) (k : List Bool) : Mem := (cloneB μ (pack k)).add [.int .i64 (k.length : Nat), .slice (some ⟨μ.next + 1, 0, none⟩) ((k.length + 7) / 8) INF] 108
def CloneR (args : List Value) (μ : Mem) (r : Value × Mem) : Prop := ∃ p b c k, args = [.pointer (some ⟨p, 0, none⟩)] ∧ IsMap μ p b c k ∧ r = (cloneV μ, cloneM μ k)
open Classical in
/-- the contract of Clone, as a function -/
noncomputable def extClone : CallT := fun f args μ => match f with
  | 56 => if h : ∃ r, CloneR args μ r then some h.choose else none
  | _ => none
theorem extClone_of {f : FuncId} {args : List Value} {μ : Mem} {r : Value × Mem} (h : extClone f args μ = some r) : f = 56 ∧ CloneR args μ r := by
  unfold extClone at h
  split at h
  · split at h
    · rename_i hh
      injection h with h
      exact ⟨rfl, h ▸ hh.choose_spec⟩
    · cases h
  · cases h
theorem extClone_has {args : List Value} {μ : Mem} (h : ∃ r, CloneR args μ r) : ∃ r, extClone 56 args μ = some r ∧ CloneR args μ r :=
  ⟨h.choose, dif_pos h, h.choose_spec⟩

section
variable (μ : Mem) (p b c : Nat) (k : List Bool)
/-- the invariant of Clone's last region -/
def cloneJ (L : Nat → Bool) (g : Env) (μ' : Mem) : Prop :=
  g 0 = .pointer (some ⟨p, 0, none⟩) ∧ (L 0 = true → g 5 = .pointer (some ⟨p, 0, none⟩)) ∧ (L 1 = true → g 6 = .pointer (some ⟨p, 0, none⟩)) ∧ (L 2 = true → g 7 = .pointer (some ⟨p, 0, none⟩)) ∧ (L 3 = true → g 8 = .int .i64 (k.length : Nat)) ∧
  (L 4 = true → g 9 = .pointer (some ⟨p, 0, none⟩)) ∧ (L 5 = true → g 10 = .pointer (some ⟨p, 0, none⟩)) ∧ (L 6 = true → g 11 = .pointer (some ⟨p, 1, none⟩)) ∧ (L 7 = true → g 12 = .slice (some ⟨b, 0, none⟩) ((k.length + 7) / 8) c) ∧
  (L 8 = true → g 13 = .slice (some ⟨μ.next + 1, 0, none⟩) ((k.length + 7) / 8) INF) ∧ (L 9 = true → g 14 = .agg #[.int .i64 (k.length : Nat), .slice (some ⟨μ.next + 1, 0, none⟩) ((k.length + 7) / 8) INF]) ∧
  (L 10 = true → g 15 = cloneV μ) ∧ (L 11 = true → g 2 = cloneV μ) ∧ (L 9 = true → L 8 = true) ∧ (L 10 = true → L 9 = true) ∧ (L 11 = true → L 10 = true) ∧
  μ' = if L 10 = true then cloneM μ k else if L 8 = true then cloneB μ (pack k) else μ
end
/-- the last region's operations -/
noncomputable def cloneOps : Array Oper := match Try.f56.body with
  | some (.seq _ (.seq _ (.seq (.region _ ops _) _))) => ops
  | _ => #[]
theorem cloneJ_ok {μ : Mem} {p b c : Nat} {k : List Bool} (h : IsMap μ p b c k) : allAt (fun i o => ∀ L g μ', L i = false → (∀ e ∈ o.after, Region.binds .any e = true → L e.on = true) → cloneJ μ p b c k L g μ' → RunL S0 cloneOps [o] g μ' (cloneJ μ p b c k (fun k => k == i || L k))) cloneOps.toList 0 := by
  have h0 := h.st
  have hp := h.pos
  have hl := h.le
  have h1 : (cloneB μ (pack k)).at p = μ.at p := by
    have := h.lp
    rw [cloneB, at_add_ne _ _ _ (by rw [next_add]; omega), at_add_ne _ _ _ (by omega)]
  have h2 : (cloneM μ k).at p = μ.at p := by
    have := h.lp
    rw [cloneM, at_add_ne _ _ _ (by show μ.next + 2 ≠ p; omega), h1]
  have h3 : ∀ L : Nat → Bool, (if L 10 = true then cloneM μ k else if L 8 = true then cloneB μ (pack k) else μ).at p = some (.row [.int .i64 (k.length : Nat), .slice (some ⟨b, 0, none⟩) ((k.length + 7) / 8) c] 108 true) := fun L => by
    split
    · rw [h2, h0]
    · split
      · rw [h1, h0]
      · exact h0
  refine ⟨?_, ?_, ?_, ?_, ?_, ?_, ?_, ?_, ?_, ?_, ?_, ?_, trivial⟩ <;> (intro L g μ' hL hd hj; obtain ⟨j0, j1, j2, j3, j4, j5, j6, j7, j8, j9, j10, j11, j12, c1, c2, c3, rfl⟩ := hj)
  · simp -implicitDefEqProofs -dsimp (disch := first | omega | (simp only [lens, List.length_set, List.length_cons, List.length_nil, List.length_append, List.length_replicate]; done) | (simp only [lens, List.length_set, List.length_cons, List.length_nil, List.length_append, List.length_replicate]; omega)) only [↓walkA, walkB, coreB, Nat.reduceEqDiff, Nat.reduceAdd, ↓reduceIte, List.toList_toArray, List.map_cons, List.map_nil, List.getElem?_cons_zero, List.getElem?_cons_succ, Option.map_some, Option.map_none, Option.isSome_some, decide_true, decide_false, Try.f82, typesT, S0_P, j0]
    unfold cloneJ
    simp_all [upd]
  · replace j1 := j1 (hd _ (Array.mem_of_getElem? (i := 0) rfl) rfl)
    simp -implicitDefEqProofs -dsimp (disch := first | omega | (simp only [lens, List.length_set, List.length_cons, List.length_nil, List.length_append, List.length_replicate]; done) | (simp only [lens, List.length_set, List.length_cons, List.length_nil, List.length_append, List.length_replicate]; omega)) only [↓walkA, walkB, coreB, Nat.reduceEqDiff, Nat.reduceAdd, ↓reduceIte, List.toList_toArray, List.map_cons, List.map_nil, List.getElem?_cons_zero, List.getElem?_cons_succ, Option.map_some, Option.map_none, Option.isSome_some, decide_true, decide_false, Try.f82, typesT, S0_P, j1]
    unfold cloneJ
    simp_all [upd]
  · replace j2 := j2 (hd _ (Array.mem_of_getElem? (i := 0) rfl) rfl)
    simp -implicitDefEqProofs -dsimp (disch := first | omega | (simp only [lens, List.length_set, List.length_cons, List.length_nil, List.length_append, List.length_replicate]; done) | (simp only [lens, List.length_set, List.length_cons, List.length_nil, List.length_append, List.length_replicate]; omega)) only [↓walkA, walkB, coreB, Nat.reduceEqDiff, Nat.reduceAdd, ↓reduceIte, List.toList_toArray, List.map_cons, List.map_nil, List.getElem?_cons_zero, List.getElem?_cons_succ, Option.map_some, Option.map_none, Option.isSome_some, decide_true, decide_false, Try.f82, typesT, S0_P, j2]
    unfold cloneJ
    simp_all [upd]
  · replace j3 := j3 (hd _ (Array.mem_of_getElem? (i := 0) rfl) rfl)
    simp -implicitDefEqProofs -dsimp (disch := first | omega | (simp only [lens, List.length_set, List.length_cons, List.length_nil, List.length_append, List.length_replicate]; done) | (simp only [lens, List.length_set, List.length_cons, List.length_nil, List.length_append, List.length_replicate]; omega)) only [↓walkA, walkB, coreB, Nat.reduceEqDiff, Nat.reduceAdd, ↓reduceIte, List.toList_toArray, List.map_cons, List.map_nil, List.getElem?_cons_zero, List.getElem?_cons_succ, Option.map_some, Option.map_none, Option.isSome_some, decide_true, decide_false, Try.f82, typesT, S0_P, j3, h3]
    unfold cloneJ
    simp_all [upd]
  · simp -implicitDefEqProofs -dsimp (disch := first | omega | (simp only [lens, List.length_set, List.length_cons, List.length_nil, List.length_append, List.length_replicate]; done) | (simp only [lens, List.length_set, List.length_cons, List.length_nil, List.length_append, List.length_replicate]; omega)) only [↓walkA, walkB, coreB, Nat.reduceEqDiff, Nat.reduceAdd, ↓reduceIte, List.toList_toArray, List.map_cons, List.map_nil, List.getElem?_cons_zero, List.getElem?_cons_succ, Option.map_some, Option.map_none, Option.isSome_some, decide_true, decide_false, Try.f82, typesT, S0_P, j0]
    unfold cloneJ
    simp_all [upd]
  · replace j5 := j5 (hd _ (Array.mem_of_getElem? (i := 0) rfl) rfl)
    simp -implicitDefEqProofs -dsimp (disch := first | omega | (simp only [lens, List.length_set, List.length_cons, List.length_nil, List.length_append, List.length_replicate]; done) | (simp only [lens, List.length_set, List.length_cons, List.length_nil, List.length_append, List.length_replicate]; omega)) only [↓walkA, walkB, coreB, Nat.reduceEqDiff, Nat.reduceAdd, ↓reduceIte, List.toList_toArray, List.map_cons, List.map_nil, List.getElem?_cons_zero, List.getElem?_cons_succ, Option.map_some, Option.map_none, Option.isSome_some, decide_true, decide_false, Try.f82, typesT, S0_P, j5]
    unfold cloneJ
    simp_all [upd]
  · replace j6 := j6 (hd _ (Array.mem_of_getElem? (i := 0) rfl) rfl)
    simp -implicitDefEqProofs -dsimp (disch := first | omega | (simp only [lens, List.length_set, List.length_cons, List.length_nil, List.length_append, List.length_replicate]; done) | (simp only [lens, List.length_set, List.length_cons, List.length_nil, List.length_append, List.length_replicate]; omega)) only [↓walkA, walkB, coreB, Nat.reduceEqDiff, Nat.reduceAdd, ↓reduceIte, List.toList_toArray, List.map_cons, List.map_nil, List.getElem?_cons_zero, List.getElem?_cons_succ, Option.map_some, Option.map_none, Option.isSome_some, decide_true, decide_false, Try.f82, typesT, S0_P, j6]
    unfold cloneJ
    simp_all [upd]
  · replace j7 := j7 (hd _ (Array.mem_of_getElem? (i := 0) rfl) rfl)
    simp -implicitDefEqProofs -dsimp (disch := first | omega | (simp only [lens, List.length_set, List.length_cons, List.length_nil, List.length_append, List.length_replicate]; done) | (simp only [lens, List.length_set, List.length_cons, List.length_nil, List.length_append, List.length_replicate]; omega)) only [↓walkA, walkB, coreB, Nat.reduceEqDiff, Nat.reduceAdd, ↓reduceIte, List.toList_toArray, List.map_cons, List.map_nil, List.getElem?_cons_zero, List.getElem?_cons_succ, Option.map_some, Option.map_none, Option.isSome_some, decide_true, decide_false, Try.f82, typesT, S0_P, j7, h3]
    unfold cloneJ
    simp_all [upd]
  · replace j8 := j8 (hd _ (Array.mem_of_getElem? (i := 0) rfl) rfl)
    have e9 : L 9 = false := by cases hx : L 9 with
      | false => rfl
      | true => rw [c1 hx] at hL; cases hL
    have e10 : L 10 = false := by cases hx : L 10 with
      | false => rfl
      | true => rw [c2 hx] at e9; cases e9
    have hmm : (if L 10 = true then cloneM μ k else if L 8 = true then cloneB μ (pack k) else μ) = μ := by simp [e10, hL]
    rw [hmm]
    simp -implicitDefEqProofs -dsimp (disch := first | omega | (simp only [lens, List.length_set, List.length_cons, List.length_nil, List.length_append, List.length_replicate]; done) | (simp only [lens, List.length_set, List.length_cons, List.length_nil, List.length_append, List.length_replicate]; omega)) only [↓walkA, walkB, coreB, Nat.reduceEqDiff, Nat.reduceAdd, ↓reduceIte, List.toList_toArray, List.map_cons, List.map_nil, List.getElem?_cons_zero, List.getElem?_cons_succ, Option.map_some, Option.map_none, Option.isSome_some, decide_true, decide_false, Try.f82, typesT, S0_P, j8, sclone_0 h.by_ (n := (k.length + 7) / 8) (by rw [pack_length]) (by omega) h.lb (by omega)]
    unfold cloneJ
    simp_all [upd]
  · have d3 : L 3 = true := hd _ (Array.mem_of_getElem? (i := 0) rfl) rfl
    have d8 : L 8 = true := hd _ (Array.mem_of_getElem? (i := 1) rfl) rfl
    replace j4 := j4 d3
    replace j9 := j9 d8
    simp -implicitDefEqProofs -dsimp (disch := first | omega | (simp only [lens, List.length_set, List.length_cons, List.length_nil, List.length_append, List.length_replicate]; done) | (simp only [lens, List.length_set, List.length_cons, List.length_nil, List.length_append, List.length_replicate]; omega)) only [↓walkA, walkB, coreB, Nat.reduceEqDiff, Nat.reduceAdd, ↓reduceIte, List.toList_toArray, List.map_cons, List.map_nil, List.getElem?_cons_zero, List.getElem?_cons_succ, Option.map_some, Option.map_none, Option.isSome_some, decide_true, decide_false, Try.f82, typesT, S0_P, j4, j9]
    unfold cloneJ
    simp_all [upd]
  · have d9 : L 9 = true := hd _ (Array.mem_of_getElem? (i := 0) rfl) rfl
    replace j10 := j10 d9
    have hmm : (if L 10 = true then cloneM μ k else if L 8 = true then cloneB μ (pack k) else μ) = cloneB μ (pack k) := by simp [hL, c1 d9]
    rw [hmm]
    simp -implicitDefEqProofs -dsimp (disch := first | omega | (simp only [lens, List.length_set, List.length_cons, List.length_nil, List.length_append, List.length_replicate]; done) | (simp only [lens, List.length_set, List.length_cons, List.length_nil, List.length_append, List.length_replicate]; omega)) only [↓walkA, walkB, coreB, Nat.reduceEqDiff, Nat.reduceAdd, ↓reduceIte, List.toList_toArray, List.map_cons, List.map_nil, List.getElem?_cons_zero, List.getElem?_cons_succ, Option.map_some, Option.map_none, Option.isSome_some, decide_true, decide_false, Try.f82, typesT, S0_P, j10]
    unfold cloneJ
    simp_all [upd, cloneV, cloneM]
    rfl
  · have d10 : L 10 = true := hd _ (Array.mem_of_getElem? (i := 0) rfl) rfl
    replace j11 := j11 d10
    simp -implicitDefEqProofs -dsimp (disch := first | omega | (simp only [lens, List.length_set, List.length_cons, List.length_nil, List.length_append, List.length_replicate]; done) | (simp only [lens, List.length_set, List.length_cons, List.length_nil, List.length_append, List.length_replicate]; omega)) only [↓walkA, walkB, coreB, Nat.reduceEqDiff, Nat.reduceAdd, ↓reduceIte, List.toList_toArray, List.map_cons, List.map_nil, List.getElem?_cons_zero, List.getElem?_cons_succ, Option.map_some, Option.map_none, Option.isSome_some, decide_true, decide_false, Try.f82, typesT, S0_P, j11]
    unfold cloneJ
    simp_all [upd]
theorem extClone_ok (base : Nat → Prop) : CallOk Try.prog base extClone := by
  intro f args μ v μ' hx
  obtain ⟨rfl, p, b, c, k, rfl, h, hr⟩ := extClone_of hx
  injection hr with hr1 hr2
  subst hr1 hr2
  refine ⟨⟨Try.f56, Try.func56, rfl, rfl⟩, fun m w args' ha hok => ?_⟩
  refine calls_of_wp Try.func56 rfl ?_
  have har := ARel.start (m := m) ha Try.f56.ntmps
  have hfit : Fits 16 (Tm.start [.pointer (some ⟨p, 0, none⟩)] 16) (startE [.pointer (some ⟨p, 0, none⟩)]) := fits_start (Nat.le_of_ble_eq_true rfl)
  have he : CallOk S0.P base S0.ext := extNone_ok base
  refine wp_seq (Run.wp (S := S0) mixed_ allGood_ allOk_ he (n := 16) (by kernel_rfl) (by kernel_rfl) (Q := fun e g μ' => e = .normal ∧ g 0 = .pointer (some ⟨p, 0, none⟩) ∧ μ = μ') ?_ hfit har hok ?_)
  · simp -implicitDefEqProofs -dsimp (disch := first | omega | (simp only [lens, List.length_set, List.length_cons, List.length_nil, List.length_append, List.length_replicate]; done) | (simp only [lens, List.length_set, List.length_cons, List.length_nil, List.length_append, List.length_replicate]; omega)) only [↓walkA, walkB, coreB, Nat.reduceEqDiff, Nat.reduceAdd, ↓reduceIte, List.toList_toArray, List.map_cons, List.map_nil, List.getElem?_cons_zero, List.getElem?_cons_succ, Option.map_some, Option.map_none, Option.isSome_some, decide_true, decide_false, Try.f82, typesT, S0_P]
  · rintro e g1 μ1 t1 m1 a1 w1 ⟨rfl, hg1, hμ1⟩ hf1 hm1 ha1 hok1 hb1
    subst hμ1
    refine wp_seq (Run.wp (S := S0) mixed_ allGood_ allOk_ he (n := 16) (by kernel_rfl) (by kernel_rfl) (Q := fun e g μ' => e = .normal ∧ g 0 = .pointer (some ⟨p, 0, none⟩) ∧ μ = μ') ?_ hf1 ha1 hok1 ?_)
    · simp -implicitDefEqProofs -dsimp (disch := first | omega | (simp only [lens, List.length_set, List.length_cons, List.length_nil, List.length_append, List.length_replicate]; done) | (simp only [lens, List.length_set, List.length_cons, List.length_nil, List.length_append, List.length_replicate]; omega)) only [↓walkA, walkB, coreB, Nat.reduceEqDiff, Nat.reduceAdd, ↓reduceIte, List.toList_toArray, List.map_cons, List.map_nil, List.getElem?_cons_zero, List.getElem?_cons_succ, Option.map_some, Option.map_none, Option.isSome_some, decide_true, decide_false, Try.f82, typesT, S0_P, hg1, bin_eql_pnil _ _ _ Try.underlying29]
    · rintro e g2 μ2 t2 m2 a2 w2 ⟨rfl, hg2, hμ2⟩ hf2 hm2 ha2 hok2 hb2
      subst hμ2
      refine wp_seq (draws_wp (S := S0) mixed_ allGood_ allOk_ he (n := 16) (by kernel_rfl) (by kernel_rfl) (cloneJ μ p b c k) (cloneJ_ok h) ?_ hf2 ha2 hok2 ?_)
      · exact ⟨hg2, by simp, by simp, by simp, by simp, by simp, by simp, by simp, by simp, by simp, by simp, by simp, by simp, by simp, by simp, by simp, by simp⟩
      · rintro L g3 μ3 t3 m3 a3 w3 hL hj hf3 hm3 ha3 hok3 hb3
        obtain ⟨j0, j1, j2, j3, j4, j5, j6, j7, j8, j9, j10, j11, j12, c1, c2, c3, rfl⟩ := hj
        have d10 : L 10 = true := hL 10 (by decide +kernel)
        have d11 : L 11 = true := hL 11 (by decide +kernel)
        rw [if_pos d10] at hok3
        have hv : t3.get 2 = cloneV μ := (hf3.get 2).trans (j12 d11)
        have hr : resultsM Try.prog ⟨t3, cloneM μ k⟩ Try.f56.results.toList = some [cloneV μ] := by
          show resultsM Try.prog ⟨t3, cloneM μ k⟩ [.tmp 2] = _
          simp [resultsM, resM, hv]
        obtain ⟨v', r1, r2⟩ := results_sound (σ := ⟨t3, cloneM μ k⟩) ha3 hok3 (fn := Try.f56) hr rfl
        exact wp_ret ⟨ha3.defers, v', r1, v', rfl, m3, Em.le_trans hm1 (Em.le_trans hm2 hm3), hok3, r2, hb1.trans (hb2.trans hb3)⟩
end Go.Mini.Bits
