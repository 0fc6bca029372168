/-
  Calls without arguments, evaluated: what the kernel has told of the evaluator holds of the machine. No statement of the seat is proved here; no condition.
-/
import Derived.Test.YtlflocejgffjdaaM14
namespace Go.Mini
open Go.RowKit

variable {P : Program}

def goodAt (P : Program) (f : FuncId) : Bool :=
  match P.funcs[f]? with
  | some fn => (match fn.body with
    | some c => drawsOk P c
    | none => true) && !(fn.name == "runtime.NumGoroutine")
  | none => true
def allGood (P : Program) (good : FuncId → Bool) : Bool := (List.range P.funcs.size).all fun f => !good f || goodAt P f
theorem good_of {good : FuncId → Bool} (h : allGood P good = true) : Good P good := by
  intro f fn c hg hf hb
  have hlt : f < P.funcs.size := (Array.getElem?_eq_some_iff.1 hf).1
  have := List.all_eq_true.1 h f (List.mem_range.2 hlt)
  rw [hg] at this
  unfold goodAt at this
  rw [hf] at this
  dsimp only at this
  rw [hb] at this
  simp only [Bool.not_true, Bool.false_or, Bool.and_eq_true] at this
  exact ⟨this.1, by simpa using this.2⟩
def extNone : CallT := fun _ _ _ => none
theorem extNone_ok (base : Nat → Prop) : CallOk P base extNone := fun _ _ _ _ _ h => by cases h
def mem0 : Mem := ⟨.nil, 0⟩
def em0 : Em := ⟨fun _ => 0, fun _ => 0, fun _ => 0, 0⟩
theorem get_nil (n : Nat) : Hp.nil.get n = none := Hp.getF_nil _ _
theorem ok0 (w : World) : Ok P em0 (fun k => w.heap.size ≤ k) mem0 w :=
  ⟨rfl, fun _ h => h, fun n o h => by simp [mem0, get_nil] at h, fun n h => absurd h (Nat.not_lt_zero n), fun n _ _ _ h => by simp [mem0, get_nil] at h, fun n _ h => by simp [mem0, get_nil] at h, fun n _ _ _ h => by simp [mem0, get_nil] at h⟩
def saysTrue (r : Option (Value × Mem)) : Bool :=
  match r with
  | some (.bool true, _) => true
  | _ => false
/-- A CALL OF A FUNCTION WITHOUT PARAMETERS. -/
theorem closed_call (hm : P.follows .mixedOrders = true) {good : FuncId → Bool} (hg : allGood P good = true) {N n : Nat} {f : FuncId} (h : saysTrue (callM P good extNone N n f [] mem0) = true) (w : World) :
    Calls P f #[] w fun e w' => e = .returned (.bool true) ∧ _root_.Go.RowKit.Below w.heap.size w w' := by
  unfold saysTrue at h
  split at h
  · rename_i μ' hr
    have := (call_sound (base := fun k => w.heap.size ≤ k) hm (good_of hg) (extNone_ok _) N n f [] mem0 _ μ' hr).2 em0 w [] .nil (ok0 w)
    refine this.mono fun e w' hb => ?_
    obtain ⟨v', rfl, m', _, _, hv, hbel⟩ := hb
    have : v' = .bool true := hv.plain_eq rfl
    exact ⟨by rw [this], hbel.os, hbel.tape, hbel.output, hbel.size, fun k hk => hbel.block k (Nat.not_le_of_lt hk)⟩
  · cases h

end Go.Mini
