/-
  An abstract memory for Go code: names for blocks, what is told of a name, and how a world bears it. No statement of the seat is proved here; no condition.
-/
import Derived.WalkKit
import Derived.Deep.MidRow
import Derived.Laws.AppendOwn
namespace Go.Mini
open Go.RowKit

/-! ### two lists, element by element -/
inductive All2 {α β : Type} (R : α → β → Prop) : List α → List β → Prop where
  | nil : All2 R [] []
  | cons {a : α} {b : β} {as : List α} {bs : List β} (h : R a b) (t : All2 R as bs) : All2 R (a :: as) (b :: bs)
namespace All2
variable {α β : Type} {R S : α → β → Prop} {as : List α} {bs : List β}
theorem length (h : All2 R as bs) : as.length = bs.length := by
  induction h with
  | nil => rfl
  | cons _ _ ih => simp [ih]
theorem imp (h : All2 R as bs) (hi : ∀ a b, R a b → S a b) : All2 S as bs := by
  induction h with
  | nil => exact .nil
  | cons h _ ih => exact .cons (hi _ _ h) ih
theorem get (h : All2 R as bs) : ∀ {i : Nat} {a : α}, as[i]? = some a → ∃ b, bs[i]? = some b ∧ R a b := by
  induction h with
  | nil => intro i a hi; simp at hi
  | cons h _ ih =>
    intro i a hi
    cases i with
    | zero => simp at hi; subst hi; exact ⟨_, rfl, h⟩
    | succ i => exact ih (by simpa using hi)
theorem get' (h : All2 R as bs) : ∀ {i : Nat} {b : β}, bs[i]? = some b → ∃ a, as[i]? = some a ∧ R a b := by
  induction h with
  | nil => intro i a hi; simp at hi
  | cons h _ ih =>
    intro i a hi
    cases i with
    | zero => simp at hi; subst hi; exact ⟨_, rfl, h⟩
    | succ i => exact ih (by simpa using hi)
theorem set (h : All2 R as bs) {a : α} {b : β} (hab : R a b) : ∀ i, All2 R (as.set i a) (bs.set i b) := by
  induction h with
  | nil => intro i; exact .nil
  | cons h t ih =>
    intro i
    cases i with
    | zero => exact .cons hab t
    | succ i => exact .cons h (ih i)
theorem append {as' : List α} {bs' : List β} (h : All2 R as bs) (h' : All2 R as' bs') : All2 R (as ++ as') (bs ++ bs') := by
  induction h with
  | nil => exact h'
  | cons h _ ih => exact .cons h ih
theorem drop (h : All2 R as bs) : ∀ n, All2 R (as.drop n) (bs.drop n) := by
  induction h with
  | nil => intro n; simp; exact .nil
  | cons h t ih =>
    intro n
    cases n with
    | zero => exact .cons h t
    | succ n => exact ih n
theorem take (h : All2 R as bs) : ∀ n, All2 R (as.take n) (bs.take n) := by
  induction h with
  | nil => intro n; simp; exact .nil
  | cons h t ih =>
    intro n
    cases n with
    | zero => exact .nil
    | succ n => exact .cons h (ih n)
theorem of_get (hl : as.length = bs.length) (h : ∀ (i : Nat) (a : α) (b : β), as[i]? = some a → bs[i]? = some b → R a b) : All2 R as bs := by
  induction as generalizing bs with
  | nil => cases bs with
    | nil => exact .nil
    | cons _ _ => simp at hl
  | cons a as ih => cases bs with
    | nil => simp at hl
    | cons b bs => exact .cons (h 0 a b rfl rfl) (ih (by simpa using hl) fun i x y hx hy => h (i + 1) x y (by simpa using hx) (by simpa using hy))
theorem replicate {a : α} {b : β} (h : R a b) : ∀ n, All2 R (List.replicate n a) (List.replicate n b)
  | 0 => .nil
  | n + 1 => .cons h (replicate h n)
end All2

/-! ### the memory: a tree over the names' digits -/
inductive AObj where
  /-- a row of cells of elements of type 'elem'; own: the call's own -/
  | row (cells : List Value) (elem : TypeId) (own : Bool)
  /-- a map of the call's own -/
  | map (entries : List (Value × Value))
inductive Hp where
  | nil
  | node (o : Option AObj) (l r : Hp)
def Hp.getF : Nat → Hp → Nat → Option AObj
  | 0, _, _ => none
  | _ + 1, .nil, _ => none
  | f + 1, .node o l r, n => if n = 0 then o else if n % 2 = 1 then l.getF f (n / 2) else r.getF f (n / 2 - 1)
def Hp.setF : Nat → Hp → Nat → Option AObj → Hp
  | 0, h, _, _ => h
  | f + 1, .nil, n, x => if n = 0 then .node x .nil .nil else if n % 2 = 1 then .node none (Hp.setF f .nil (n / 2) x) .nil else .node none .nil (Hp.setF f .nil (n / 2 - 1) x)
  | f + 1, .node o l r, n, x => if n = 0 then .node x l r else if n % 2 = 1 then .node o (l.setF f (n / 2) x) r else .node o l (r.setF f (n / 2 - 1) x)

/-! ### what the kernel is to reckon at once -/
def forceNat {β : Type} (n : Nat) (k : Nat → β) : β := match n with
  | .zero => k Nat.zero
  | .succ m => k (Nat.succ m)
theorem forceNat_eq {β : Type} (n : Nat) (k : Nat → β) : forceNat n k = k n := by cases n <;> rfl
def forceInt {β : Type} (n : Int) (k : Int → β) : β := match n with
  | .ofNat m => forceNat m fun m => k (.ofNat m)
  | .negSucc m => forceNat m fun m => k (.negSucc m)
theorem forceInt_eq {β : Type} (n : Int) (k : Int → β) : forceInt n k = k n := by cases n <;> simp [forceInt, forceNat_eq]
def forceCell {β : Type} (v : Value) (k : Value → β) : β := match v with
  | .bool true => k (.bool true)
  | .bool false => k (.bool false)
  | .int j n => forceInt n fun n => k (.int j n)
  | .slice none l c => k (.slice none l c)
  | .slice (some a) l c => match a with
    | ⟨b, o, s⟩ => forceNat b fun b => forceNat o fun o => forceNat l fun l => forceNat c fun c => k (.slice (some ⟨b, o, s⟩) l c)
  | .pointer (some a) => match a with
    | ⟨b, o, s⟩ => forceNat b fun b => forceNat o fun o => k (.pointer (some ⟨b, o, s⟩))
  | v => k v
theorem forceCell_eq {β : Type} (v : Value) (k : Value → β) : forceCell v k = k v := by
  unfold forceCell
  split <;> simp [forceInt_eq, forceNat_eq]
def forceList {β : Type} : List Value → (List Value → β) → β
  | [], k => k []
  | v :: l, k => forceCell v fun v => forceList l fun l => k (v :: l)
theorem forceList_eq {β : Type} : ∀ (l : List Value) (k : List Value → β), forceList l k = k l
  | [], _ => rfl
  | v :: l, k => by simp only [forceList, forceCell_eq, forceList_eq l]
def forceVal {β : Type} (v : Value) (k : Value → β) : β := match v with
  | .agg cs => forceList cs.toList fun l => k (.agg l.toArray)
  | .tuple cs => forceList cs.toList fun l => k (.tuple l.toArray)
  | v => forceCell v k
theorem forceVal_eq {β : Type} (v : Value) (k : Value → β) : forceVal v k = k v := by
  unfold forceVal
  split <;> simp [forceList_eq, forceCell_eq]
def forceObj {β : Type} (o : Option AObj) (k : Option AObj → β) : β := match o with
  | none => k none
  | some (.row cells e own) => forceList cells fun cells => k (some (.row cells e own))
  | some (.map es) => k (some (.map es))
theorem forceObj_eq {β : Type} (o : Option AObj) (k : Option AObj → β) : forceObj o k = k o := by
  unfold forceObj
  split <;> simp [forceList_eq]
def Hp.setK {β : Type} : Nat → Hp → Nat → Option AObj → (Hp → β) → β
  | 0, h, _, _, k => k h
  | f + 1, .nil, n, x, k => if n = 0 then k (.node x .nil .nil) else if n % 2 = 1 then Hp.setK f .nil (n / 2) x fun l => k (.node none l .nil) else Hp.setK f .nil (n / 2 - 1) x fun r => k (.node none .nil r)
  | f + 1, .node o l r, n, x, k => if n = 0 then k (.node x l r) else if n % 2 = 1 then l.setK f (n / 2) x fun l => k (.node o l r) else r.setK f (n / 2 - 1) x fun r => k (.node o l r)
theorem Hp.setK_eq {β : Type} (x : Option AObj) : ∀ (f : Nat) (h : Hp) (n : Nat) (k : Hp → β), h.setK f n x k = k (h.setF f n x)
  | 0, h, _, _ => by cases h <;> rfl
  | f + 1, .nil, n, k => by
    simp only [Hp.setK, Hp.setF]
    split
    · rfl
    · split
      · rw [Hp.setK_eq x f]
      · rw [Hp.setK_eq x f]
  | f + 1, .node o l r, n, k => by
    simp only [Hp.setK, Hp.setF]
    split
    · rfl
    · split
      · rw [Hp.setK_eq x f]
      · rw [Hp.setK_eq x f]

def Hp.get (h : Hp) (n : Nat) : Option AObj := h.getF (n + 1) n
def Hp.set (h : Hp) (n : Nat) (x : Option AObj) : Hp := forceObj x fun x => h.setK (n + 1) n x id

theorem Hp.getF_more : ∀ (f g : Nat) (h : Hp) (n : Nat), n < f → n < g → h.getF f n = h.getF g n
  | 0, _, _, n, hf, _ => absurd hf (Nat.not_lt_zero n)
  | _ + 1, 0, _, n, _, hg => absurd hg (Nat.not_lt_zero n)
  | f + 1, g + 1, .nil, n, _, _ => rfl
  | f + 1, g + 1, .node o l r, n, hf, hg => by
    simp only [Hp.getF]
    split
    · rfl
    · split
      · exact Hp.getF_more f g l (n / 2) (by omega) (by omega)
      · exact Hp.getF_more f g r (n / 2 - 1) (by omega) (by omega)
theorem Hp.getF_nil : ∀ (f n : Nat), Hp.getF f .nil n = none
  | 0, _ => rfl
  | _ + 1, _ => rfl
theorem Hp.getF_setF (x : Option AObj) : ∀ (f g : Nat) (h : Hp) (n m : Nat), n < f → m < g → (h.setF f n x).getF g m = if n = m then x else h.getF g m
  | 0, _, _, n, _, hf, _ => absurd hf (Nat.not_lt_zero n)
  | _ + 1, 0, _, _, m, _, hg => absurd hg (Nat.not_lt_zero m)
  | f + 1, g + 1, .nil, n, m, hf, hg => by
    simp only [Hp.setF]
    by_cases n0 : n = 0
    · rw [if_pos n0]
      subst n0
      simp only [Hp.getF]
      by_cases m0 : m = 0
      · subst m0; simp
      · rw [if_neg m0, if_neg (show ¬ (0 = m) from fun h => m0 h.symm)]
        split <;> exact Hp.getF_nil _ _
    · rw [if_neg n0]
      by_cases n1 : n % 2 = 1
      · rw [if_pos n1]
        simp only [Hp.getF]
        by_cases m0 : m = 0
        · subst m0; rw [if_pos rfl, if_neg n0]
        · rw [if_neg m0]
          by_cases m1 : m % 2 = 1
          · rw [if_pos m1, Hp.getF_setF x f g .nil (n / 2) (m / 2) (by omega) (by omega), Hp.getF_nil]
            by_cases e : n = m
            · rw [if_pos e, if_pos (by omega)]
            · rw [if_neg e, if_neg (by omega)]
          · rw [if_neg m1, if_neg (by omega), Hp.getF_nil]
      · rw [if_neg n1]
        simp only [Hp.getF]
        by_cases m0 : m = 0
        · subst m0; rw [if_pos rfl, if_neg n0]
        · rw [if_neg m0]
          by_cases m1 : m % 2 = 1
          · rw [if_pos m1, if_neg (by omega), Hp.getF_nil]
          · rw [if_neg m1, Hp.getF_setF x f g .nil (n / 2 - 1) (m / 2 - 1) (by omega) (by omega), Hp.getF_nil]
            by_cases e : n = m
            · rw [if_pos e, if_pos (by omega)]
            · rw [if_neg e, if_neg (by omega)]
  | f + 1, g + 1, .node o l r, n, m, hf, hg => by
    simp only [Hp.setF]
    by_cases n0 : n = 0
    · rw [if_pos n0]
      subst n0
      simp only [Hp.getF]
      by_cases m0 : m = 0
      · subst m0; simp
      · rw [if_neg m0, if_neg (show ¬ (0 = m) from fun h => m0 h.symm), if_neg m0]
    · rw [if_neg n0]
      by_cases n1 : n % 2 = 1
      · rw [if_pos n1]
        simp only [Hp.getF]
        by_cases m0 : m = 0
        · subst m0; rw [if_pos rfl, if_neg n0, if_pos rfl]
        · rw [if_neg m0, if_neg m0]
          by_cases m1 : m % 2 = 1
          · rw [if_pos m1, if_pos m1, Hp.getF_setF x f g l (n / 2) (m / 2) (by omega) (by omega)]
            by_cases e : n = m
            · rw [if_pos e, if_pos (by omega)]
            · rw [if_neg e, if_neg (by omega)]
          · rw [if_neg m1, if_neg m1, if_neg (by omega)]
      · rw [if_neg n1]
        simp only [Hp.getF]
        by_cases m0 : m = 0
        · subst m0; rw [if_pos rfl, if_neg n0, if_pos rfl]
        · rw [if_neg m0, if_neg m0]
          by_cases m1 : m % 2 = 1
          · rw [if_pos m1, if_pos m1, if_neg (by omega)]
          · rw [if_neg m1, if_neg m1, Hp.getF_setF x f g r (n / 2 - 1) (m / 2 - 1) (by omega) (by omega)]
            by_cases e : n = m
            · rw [if_pos e, if_pos (by omega)]
            · rw [if_neg e, if_neg (by omega)]
/-- WHAT THE MEMORY IS. -/
theorem Hp.get_set (h : Hp) (n m : Nat) (x : Option AObj) : (h.set n x).get m = if n = m then x else h.get m :=
  by
  unfold Hp.set Hp.get
  rw [forceObj_eq, Hp.setK_eq]
  exact Hp.getF_setF x (n + 1) (m + 1) h n m (by omega) (by omega)
theorem Hp.get_same (h : Hp) (n : Nat) (x : Option AObj) : (h.set n x).get n = x := by rw [Hp.get_set, if_pos rfl]
theorem Hp.get_other (h : Hp) {n m : Nat} (x : Option AObj) (e : n ≠ m) : (h.set n x).get m = h.get m := by rw [Hp.get_set, if_neg e]

/-! ### names and blocks -/
structure Mem where
  hp : Hp
  /-- the next name -/
  next : Nat
/-- Where the names lie in a world: block, offset; how many elements fit (a row that was appended to). -/
structure Em where
  blk : Nat → Nat
  off : Nat → Nat
  cap : Nat → Nat
  top : Nat
/-- an unknown capacity -/
def INF : Nat := 9223372036854775808

/-- a value in which no name stands -/
def plain : Value → Bool
  | .bool _ | .int _ _ | .float _ _ | .complex _ _ _ | .string _ | .nilFunc | .nilIface => true
  | .pointer none | .map none => true
  | .slice none l c => l == 0 && c == 0
  | .func _ first captured => first.isEmpty && captured.isEmpty
  | .iface _ v => plain v
  | _ => false

/-- no element, and none that fits, or nobody knows how many: the address is of no account -/
def loose (l c : Nat) : Prop := l = 0 ∧ (c = INF ∨ c = 0)
instance (l c : Nat) : Decidable (loose l c) := inferInstanceAs (Decidable (_ ∧ _))
/-- A cell told (left), and as it stands (right). -/
def CR (m : Em) (v v' : Value) : Prop :=
  match v with
  | .pointer (some a) => a.spot = none ∧ a.block < m.top ∧ v' = .pointer (some ⟨m.blk a.block, m.off a.block + a.off, none⟩)
  | .map (some n) => n < m.top ∧ v' = .map (some (m.blk n))
  | .slice (some a) l c => a.spot = none ∧ a.block < m.top ∧ ∃ c', l ≤ c' ∧ c' ≤ maxLen ∧ (c ≠ INF → c' = c) ∧
      ((loose l c ∧ ∃ a', v' = .slice (some a') 0 c') ∨ (¬ loose l c ∧ (c = INF → a.off = 0 → c' = m.cap a.block) ∧ v' = .slice (some ⟨m.blk a.block, m.off a.block + a.off, none⟩) l c'))
  | v => plain v = true ∧ v' = v

/-- A value that is no tuple. -/
def VR1 (m : Em) (v v' : Value) : Prop :=
  match v with
  | .agg cs => ∃ cs', v' = .agg cs' ∧ All2 (CR m) cs.toList cs'.toList
  | v => CR m v v'
/-- A value. -/
def VR (m : Em) (v v' : Value) : Prop :=
  match v with
  | .tuple vs => ∃ vs', v' = .tuple vs' ∧ All2 (VR1 m) vs.toList vs'.toList
  | v => VR1 m v v'

/-- m2 tells of all that m tells, and in the same way. -/
structure Em.le (m m2 : Em) : Prop where
  top : m.top ≤ m2.top
  blk : ∀ n, n < m.top → m2.blk n = m.blk n
  off : ∀ n, n < m.top → m2.off n = m.off n
  cap : ∀ n, n < m.top → m2.cap n = m.cap n
theorem Em.le_refl (m : Em) : m.le m := ⟨Nat.le_refl _, fun _ _ => rfl, fun _ _ => rfl, fun _ _ => rfl⟩
theorem Em.le_trans {a b c : Em} (h : a.le b) (k : b.le c) : a.le c :=
  ⟨Nat.le_trans h.top k.top, fun n hn => (k.blk n (Nat.lt_of_lt_of_le hn h.top)).trans (h.blk n hn), fun n hn => (k.off n (Nat.lt_of_lt_of_le hn h.top)).trans (h.off n hn), fun n hn => (k.cap n (Nat.lt_of_lt_of_le hn h.top)).trans (h.cap n hn)⟩

theorem CR.mono {m m2 : Em} (h : m.le m2) {v v' : Value} (hv : CR m v v') : CR m2 v v' := by
  unfold CR at *
  split at hv
  · obtain ⟨h1, h2, h3⟩ := hv
    exact ⟨h1, Nat.lt_of_lt_of_le h2 h.top, by rw [h.blk _ h2, h.off _ h2]; exact h3⟩
  · obtain ⟨h1, h2⟩ := hv
    exact ⟨Nat.lt_of_lt_of_le h1 h.top, by rw [h.blk _ h1]; exact h2⟩
  · obtain ⟨h1, h2, c', h3, h4, h5, h6⟩ := hv
    refine ⟨h1, Nat.lt_of_lt_of_le h2 h.top, c', h3, h4, h5, h6.imp id ?_⟩
    rw [h.blk _ h2, h.off _ h2, h.cap _ h2]
    exact id
  · exact hv
theorem VR1.mono {m m2 : Em} (h : m.le m2) {v v' : Value} (hv : VR1 m v v') : VR1 m2 v v' := by
  unfold VR1 at *
  split at hv
  · obtain ⟨cs', e, ha⟩ := hv
    exact ⟨cs', e, ha.imp fun _ _ => CR.mono h⟩
  · exact CR.mono h hv
theorem VR.mono {m m2 : Em} (h : m.le m2) {v v' : Value} (hv : VR m v v') : VR m2 v v' := by
  unfold VR at *
  split at hv
  · obtain ⟨cs', e, ha⟩ := hv
    exact ⟨cs', e, ha.imp fun _ _ => VR1.mono h⟩
  · exact VR1.mono h hv

/-! ### plain values are told as they are -/
/-- a value of plain cells -/
def plainV : Value → Bool
  | .agg cs => cs.toList.all plain
  | v => plain v
theorem CR.of_plain {m : Em} {v : Value} (h : plain v = true) : CR m v v := by
  unfold CR
  split
  · simp [plain] at h
  · simp [plain] at h
  · simp [plain] at h
  · exact ⟨h, rfl⟩
theorem CR.plain_eq {m : Em} {v v' : Value} (h : CR m v v') (hp : plain v = true) : v' = v := by
  unfold CR at h
  split at h
  · simp [plain] at hp
  · simp [plain] at hp
  · simp [plain] at hp
  · exact h.2
theorem all2_plain {m : Em} : ∀ {cs : List Value}, cs.all plain = true → All2 (CR m) cs cs
  | [], _ => .nil
  | c :: cs, h => by
    simp only [List.all_cons, Bool.and_eq_true] at h
    exact .cons (CR.of_plain h.1) (all2_plain h.2)
theorem all2_plain_eq {m : Em} {cs cs' : List Value} (h : All2 (CR m) cs cs') (hp : cs.all plain = true) : cs' = cs := by
  induction h with
  | nil => rfl
  | cons h _ ih =>
    simp only [List.all_cons, Bool.and_eq_true] at hp
    rw [h.plain_eq hp.1, ih hp.2]
theorem VR1.of_plain {m : Em} {v : Value} (h : plainV v = true) : VR1 m v v := by
  unfold VR1
  split
  · exact ⟨_, rfl, all2_plain (by simpa [plainV] using h)⟩
  · rename_i hn
    refine CR.of_plain ?_
    unfold plainV at h
    split at h
    · exact absurd rfl (hn _)
    · exact h
theorem VR1.plain_eq {m : Em} {v v' : Value} (h : VR1 m v v') (hp : plainV v = true) : v' = v := by
  unfold VR1 at h
  split at h
  · obtain ⟨cs', rfl, ha⟩ := h
    have := all2_plain_eq ha (by simpa [plainV] using hp)
    congr 1
    exact Array.toList_inj.1 this
  · rename_i hn
    refine CR.plain_eq h ?_
    unfold plainV at hp
    split at hp
    · exact absurd rfl (hn _)
    · exact hp
theorem VR.of_plain {m : Em} {v : Value} (h : plainV v = true) : VR m v v := by
  unfold VR
  split
  · simp [plainV, plain] at h
  · exact VR1.of_plain h
theorem VR.plain_eq {m : Em} {v v' : Value} (h : VR m v v') (hp : plainV v = true) : v' = v := by
  unfold VR at h
  split at h
  · simp [plainV, plain] at hp
  · exact VR1.plain_eq h hp
theorem VR.undef (m : Em) : VR m undef undef := ⟨#[], rfl, .nil⟩

end Go.Mini
