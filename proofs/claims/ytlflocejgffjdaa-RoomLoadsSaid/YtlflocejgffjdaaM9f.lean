/-
  Whole numbers, reckoned the short way. No statement of the seat is proved here; no condition.
-/
import Derived.Test.YtlflocejgffjdaaM9s
namespace Go.Mini
open Go.RowKit

variable {P : Program}

def fastInt (op : BinOp) (k : IntKind) (a b : Int) : Option Value :=
  match op with
  | .add => some (.int k (k.wrap (a + b)))
  | .sub => some (.int k (k.wrap (a - b)))
  | .mul => some (.int k (k.wrap (a * b)))
  | .quo => if b = 0 then none else some (.int k (k.wrap (a.tdiv b)))
  | .rem => if b = 0 then none else some (.int k (a.tmod b))
  | .and => some (.int k (k.wrap (BitVec.ofInt k.bits a &&& BitVec.ofInt k.bits b).toNat))
  | .or => some (.int k (k.wrap (BitVec.ofInt k.bits a ||| BitVec.ofInt k.bits b).toNat))
  | .xor => some (.int k (k.wrap (BitVec.ofInt k.bits a ^^^ BitVec.ofInt k.bits b).toNat))
  | .andNot => some (.int k (k.wrap (BitVec.ofInt k.bits a &&& ~~~ BitVec.ofInt k.bits b).toNat))
  | .eql => some (.bool (a == b))
  | .neq => some (.bool (a != b))
  | .lss => some (.bool (decide (a < b)))
  | .leq => some (.bool (decide (a ≤ b)))
  | .gtr => some (.bool (decide (a > b)))
  | .geq => some (.bool (decide (a ≥ b)))
  | _ => none
def fastBin (op : BinOp) (x y : Value) : Option Value :=
  match x with
  | .int k a => match y with
    | .int k' b => match op with
      | .shl => if b < 0 then none else some (.int k (k.wrap (a * 2 ^ (min b.toNat k.bits))))
      | .shr => if b < 0 then none else some (.int k (a.fdiv (2 ^ (min b.toNat k.bits))))
      | op => if k = k' then fastInt op k a b else none
    | _ => none
  | _ => none
theorem fastBin_does {op : BinOp} {t : TypeId} {ox oy : Operand} {x y v : Value} (h : fastBin op x y = some v) (w : World) : (do eqGuard op t ox oy x y; binOp op t x y).run P w = .ok v w ∧ plainV v = true := by
  unfold fastBin at h
  split at h
  · rename_i k a
    split at h
    · rename_i k' b
      split at h
      · split at h
        · cases h
        · rename_i hb
          injection h with h
          subst h
          exact ⟨by simp [eqGuard, binOp, Op.shift, hb], rfl⟩
      · split at h
        · cases h
        · rename_i hb
          injection h with h
          subst h
          exact ⟨by simp [eqGuard, binOp, Op.shift, hb], rfl⟩
      · rename_i hs1 hs2
        split at h
        · rename_i hk
          subst hk
          unfold fastInt at h
          cases op <;> first
            | (simp only [Option.some.injEq] at h
               subst h
               refine ⟨?_, rfl⟩
               first
                 | (simp [eqGuard, binOp, Op.intArith]; done)
                 | (simp [eqGuard, binOp, Op.intBits]; done)
                 | (simp [eqGuard, binOp, Op.intCmp]; done))
            | (dsimp only at h
               split at h
               · cases h
               · rename_i hb
                 injection h with h
                 subst h
                 exact ⟨by simp [eqGuard, binOp, Op.intDiv, hb], rfl⟩)
            | (exact absurd rfl hs1)
            | (exact absurd rfl hs2)
            | (simp at hs1; done)
            | (simp at hs2; done)
        · cases h
    · cases h
  · cases h

/-- a whole number to a whole number -/
def fastConv (P : Program) (dst : TypeId) (x : Value) : Option Value :=
  match x with
  | .int _ n => match P.underlying dst with
    | some (.int k) => some (.int k (k.wrap n))
    | _ => none
  | _ => none
theorem fastConv_does {src dst : TypeId} {x v : Value} {u : TypeDesc} (hs : P.underlying src = some u) (h : fastConv P dst x = some v) (w : World) : (convert src dst x).run P w = .ok v w ∧ plainV v = true := by
  unfold fastConv at h
  split at h
  · rename_i j n
    split at h
    · rename_i k hk
      injection h with h
      subst h
      refine ⟨?_, rfl⟩
      simp [convert, run_underlying hs, run_underlying hk, Conv.intToInt]
    · cases h
  · cases h

end Go.Mini
