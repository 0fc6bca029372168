/-
  The law BitsLeaves: from the evaluator to the statement. Proved: bitsLeaves_holds : Rows.BitsLeavesSaid; no condition.
-/
import Derived.Test.YtlflocejgffjdaaRows
import Derived.Test.YtlflocejgffjdaaB14
import Derived.Test.YtlflocejgffjdaaM27
import Derived.WalkKit
import Derived.ProofKit
import Derived.OpenShut
import Derived.ChangeOld
import Derived.ChangeBears
import Derived.ReadAgain
import Derived.Below
import Derived.SizedLaws
import Derived.Deep.Strs
namespace Go.Proofs.Ytlflocejgffjdaa.bitsLeaves
open Go.ChangeShapes Go.WideShapes Go.ChangeAt Go.RowKit Go.Mini Go.Mini.Bits
set_option linter.unusedVariables false
theorem own : ownKnob Try.prog.godebug = none := by kernel_rfl
theorem kids : Kids Try.prog (· < Try.prog.types.size) := kids_rows (by kernel_rfl) (by kernel_rfl)
theorem full : ∀ t e, t < Try.prog.types.size → Try.prog.underlying t = some (.slice e) → 0 < Try.prog.cellsOf e := slices_full_of Try.prog (by kernel_rfl)
theorem three : ∀ {cs : List Value}, cs.length = 3 → ∃ v0 v1 v2, cs = [v0, v1, v2]
  | [v0, v1, v2], _ => ⟨v0, v1, v2, rfl⟩
/-- one entry of the script -/
theorem act_cells {H : Type} {enc : TypeId × Value → H} {w : World} {n : Nat} {cs : List Value} {x : DataW H × List MemPlace} (h : DataW.trod enc Try.prog w 0 (fun _ => true) true n 104 cs = some x) (hl : cs.length = 3) :
    ∃ r : ActV, cs = [.int .i64 r.z, .int .i64 r.a, .int .i64 r.b] := by
  obtain ⟨y0, y1, y2, k, _, _, h0, h1, h2⟩ := Go.Deep.trod_struct3 Try.underlying104 h
  obtain ⟨z, e0, _, _⟩ := DataW.trod_int Try.underlying3 h0
  obtain ⟨a, e1, _, _⟩ := DataW.trod_int Try.underlying3 h1
  obtain ⟨b, e2, _, _⟩ := DataW.trod_int Try.underlying3 h2
  have c3 : Try.prog.cellsOf 3 = 1 := by kernel_rfl
  obtain ⟨v0, v1, v2, rfl⟩ := three hl
  rw [c3] at e0 e1 e2
  simp only [List.drop_zero, List.drop_succ_cons, List.take_succ_cons, List.take_zero, List.cons.injEq, and_true] at e0 e1 e2
  exact ⟨⟨z, a, b⟩, by rw [e0, e1, e2]⟩
theorem acts_flat (A : Nat → ActV) : ∀ l : List Nat, l.flatMap (fun i => [.int .i64 (A i).z, .int .i64 (A i).a, .int .i64 (A i).b]) = actCells (l.map A)
  | [] => rfl
  | i :: l => by
    rw [List.flatMap_cons, acts_flat A l]
    rfl
theorem flatMap_congr_lt {f g : Nat → List Value} : ∀ {l : List Nat}, (∀ i ∈ l, f i = g i) → l.flatMap f = l.flatMap g
  | [], _ => rfl
  | i :: l, h => by
    rw [List.flatMap_cons, List.flatMap_cons, h i (List.mem_cons_self ..), flatMap_congr_lt fun j hj => h j (List.mem_cons_of_mem _ hj)]
/-- what the law answers, on the machine -/
theorem ext_ok (base : Nat → Prop) : CallOk S.P base S.ext := extClone_ok base
set_option maxRecDepth 10000 in
theorem calls {H : Type} {enc : TypeId × Value → H} {w : World} {b0 : Nat} {n z : Int} {v : Value} {d : DataW H} {p : List MemPlace} (hok : Value.okWide Try.prog w .any b0 28 v) (h : DataW.Trod enc Try.prog w 0 (fun _ => true) true 28 v d p) :
    Calls Try.prog 5 #[.int .i64 n, v, .int .i64 z] w fun e w' => e = .returned (.bool true) ∧ _root_.Go.RowKit.Below w.heap.size w w' := by
  have fin : ∀ (R : List InRow) (v1 : Value), (∀ r ∈ R, r.blk < w.heap.size ∧ w.rangeAt r.blk r.off r.cells ∧ r.cells.all plain = true) → VR (emIn R) v1 v → (∃ l : List ActV, ActsAt (memOf R) v1 l ∧ l.length ≤ 9223372036854775807) →
      Calls Try.prog 5 #[.int .i64 n, v, .int .i64 z] w fun e w' => e = .returned (.bool true) ∧ _root_.Go.RowKit.Below w.heap.size w w' := by
    rintro R v1 hR hv ⟨l, hl, hll⟩
    have hg : Gets S 5 [.int .i64 n, v1, .int .i64 z] (memOf R) fun r _ => r = .bool true := by
      by_cases hn : 1 ≤ n ∧ n ≤ 8192
      · obtain ⟨m, rfl⟩ : ∃ m : Nat, n = m := ⟨n.toNat, by omega⟩
        exact law_good (by omega) (by omega) z hl hll
      · exact law_bad hn z _ v1
    refine (Gets.calls (S := S) mixed_ allGood_ allOk_ (ext_ok (fun k => w.heap.size ≤ k)) hg (m := emIn R) (args' := [.int .i64 n, v, .int .i64 z]) (.cons (VR.of_plain rfl) (.cons hv (.cons (VR.of_plain rfl) .nil))) (okIn w R hR)).mono ?_
    rintro e w' ⟨r, μ', rfl, v', rfl, m', _, _, hv', hbel⟩
    rw [hv'.plain_eq rfl]
    exact ⟨rfl, hbel.os, hbel.tape, hbel.output, hbel.size, fun k hk => hbel.block k (Nat.not_le_of_lt hk)⟩
  rcases slice_cells Try.underlying28 (sz := 3) (by kernel_rfl) hok h with rfl | ⟨b, o, l, c, C, rfl, hb, hlc, hc, hlen, hrange, nn, hC⟩
  · exact fin [] (.slice none 0 0) (by simp) (VR.of_plain rfl) ⟨[], .inl ⟨rfl, rfl⟩, by decide⟩
  · haveI : Inhabited ActV := ⟨⟨0, 0, 0⟩⟩
    obtain ⟨A, hA⟩ := Go.Deep.choose_lt (α := ActV) (n := l) (p := fun i r => C i = [.int .i64 r.z, .int .i64 r.a, .int .i64 r.b]) (fun i hi => by
      obtain ⟨x, hx⟩ := hC i hi
      exact act_cells hx (hlen i hi))
    have hcells : (List.range l).flatMap C = actCells ((List.range l).map A) := by
      rw [← acts_flat A]
      exact flatMap_congr_lt fun i hi => hA i (List.mem_range.1 hi)
    rw [hcells] at hrange
    refine fin [⟨b, o, actCells ((List.range l).map A), 104⟩] (.slice (some ⟨0, 0, none⟩) l c) ?_ (sliceIn (R := [⟨b, o, actCells ((List.range l).map A), 104⟩]) (i := 0) rfl hlc hc) ⟨(List.range l).map A, .inr ⟨0, c, false, by simp, by rw [memOf_at]; rfl, by rw [memOf_next]; exact Nat.one_pos⟩, ?_⟩
    · intro r hr
      rw [List.mem_singleton] at hr
      subst hr
      refine ⟨hb, hrange, ?_⟩
      simp [actCells, List.all_flatMap, plain]
    · rw [List.length_map, List.length_range]
      exact Nat.le_trans hlc (Nat.le_trans hc (by decide))
set_option maxRecDepth 100000 in
theorem lifted (os : Os) (started : os.Started) (H : Type) (enc : TypeId × Value → H) :
    ReturnsInHanded {} Try.checked os 5 .any (Rows.bitsLeavesSpec.pre6 enc Try.prog Try.f5 Rows.bitsLeavesRow.domain false) (Rows.bitsLeavesSpec.post enc Try.prog Try.f5 false true false false) := by
  refine returnsInHanded_of_change_sized (C := Try.checked) own started (by kernel_rfl) Try.func5
    (ChangeSpec.witness6 (enc := enc) (C := Try.checked) false ⟨#[], #[.int .i64 0, .slice none 0 0, .int .i64 0], []⟩ 8 (by kernel_rfl) (by kernel_rfl) (by kernel_rfl) (by kernel_rfl)) ?_
  intro W base args ds gs before hval0 hW hcnd hsz0 _
  have hval : ∀ (j : Nat) t v, Try.f5.params[j]? = some t → args[j]? = some v → Value.okWide Try.prog W .any base t v := hval0
  have hW' := hW
  obtain ⟨p, q, hA0, hV, rfl, hfz, hnd⟩ := hW
  have hA : DataW.TrodAll enc Try.prog W 0 (fun _ => true) true Try.f5.params.toList args.toList ds p := hA0
  rw [Try.params5] at hA hval
  have hAll := hA
  obtain ⟨v0, vs0, d0, ds0, p0, q0, hargs, rfl, rfl, h0, r0⟩ := trodAll_cons hA
  obtain ⟨v1, vs1, d1, ds1, p1, q1, rfl, rfl, rfl, h1, r1⟩ := trodAll_cons r0
  obtain ⟨v2, vs2, d2, ds2, p2, q2, rfl, rfl, rfl, h2, r2⟩ := trodAll_cons r1
  obtain ⟨rfl, rfl, rfl⟩ := trodAll_nil r2
  obtain rfl : args = #[v0, v1, v2] := by cases args; simp_all
  obtain ⟨rfl, rfl⟩ := trodVars_none hV
  obtain ⟨n, rfl, rfl, rfl, _⟩ := open_int Try.underlying3 (hval 0 3 v0 rfl rfl) h0
  obtain ⟨z, rfl, rfl, rfl, _⟩ := open_int Try.underlying3 (hval 2 3 v2 rfl rfl) h2
  refine (calls (hval 1 28 v1 rfl rfl) h1).mono fun e W' ⟨he, bel⟩ => ?_
  subst he
  exact ⟨_, rfl, _, _, _, [], _, [], hW', trodAll_mk1 (shut_bool Try.underlying4 _), again kids full bel (by decide +kernel) hAll, rfl, bel.frame _, fun h => by cases h⟩
theorem over : Rows.bitsLeavesRow.holds Try.pinned (OpenSpec.ofChange Rows.bitsLeavesSpec) :=
  OpenClaim.holds_of_wide 5 Try.f5 rfl rfl rfl rfl rfl rfl rfl ⟨rfl, rfl, rfl, rfl, rfl⟩ rfl rfl rfl rfl rfl (by kernel_rfl) Try.func5 (by kernel_rfl)
    (of_decide_eq_true (by kernel_rfl)) (by unfold Func.isWrapper; first | (rw [if_pos (by decide +kernel)]; kernel_rfl) | (rw [if_neg (by decide +kernel)]; exact ⟨rfl, rfl⟩))
    (fun os started H enc _ => lifted os started H enc)
theorem proved : Rows.BitsLeavesSaid := over
#print axioms proved
end Go.Proofs.Ytlflocejgffjdaa.bitsLeaves
namespace Go.Proofs.Ytlflocejgffjdaa
/-- The row, under a short name, for the claim. -/
theorem bitsLeaves_holds : Rows.BitsLeavesSaid := bitsLeaves.proved
end Go.Proofs.Ytlflocejgffjdaa
