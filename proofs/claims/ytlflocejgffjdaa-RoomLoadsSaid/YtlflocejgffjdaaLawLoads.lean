/-
  The law RoomLoads: from the evaluator to the statement. Proved: roomLoads_holds : Rows.RoomLoadsSaid; no condition.
-/
import Derived.Test.YtlflocejgffjdaaRows
import Derived.Test.YtlflocejgffjdaaC4
import Derived.Test.YtlflocejgffjdaaM27
import Derived.WalkKit
import Derived.ProofKit
import Derived.OpenShut
import Derived.ChangeOld
import Derived.ChangeBears
import Derived.ReadAgain
import Derived.Below
import Derived.SizedLaws
import Derived.Deep.Strs
namespace Go.Proofs.Ytlflocejgffjdaa.roomLoads
open Go.ChangeShapes Go.WideShapes Go.ChangeAt Go.RowKit Go.Mini Go.Mini.Bits
set_option linter.unusedVariables false
theorem own : ownKnob Try.prog.godebug = none := by kernel_rfl
theorem kids : Kids Try.prog (· < Try.prog.types.size) := kids_rows (by kernel_rfl) (by kernel_rfl)
theorem full : ∀ t e, t < Try.prog.types.size → Try.prog.underlying t = some (.slice e) → 0 < Try.prog.cellsOf e := slices_full_of Try.prog (by kernel_rfl)
/-- the bytes of one block -/
theorem block_cells {H : Type} {enc : TypeId × Value → H} {w : World} {n : Nat} {cs : List Value} {x : DataW H × List MemPlace} (h : DataW.trod enc Try.prog w 0 (fun _ => true) true n 38 cs = some x) : ∀ j, j < 256 → ∃ z : Nat, z < 256 ∧ cs[j]? = some (.int .u8 (z : Int)) := by
  intro j hj
  have c5 : Try.prog.cellsOf 5 = 1 := by kernel_rfl
  obtain ⟨xs, m, _, _, _, hx, hf⟩ := DataW.trod_array Try.underlying38 h
  have := hf j hj
  rw [List.getElem?_eq_getElem (by omega)] at this
  obtain ⟨z, e0, _, hw⟩ := DataW.trod_int Try.underlying5 this
  rw [c5, Nat.mul_one] at e0
  have hw' : (0 : Int) ≤ z ∧ z ≤ 255 := by
    simp only [Lit.wf, Bool.and_eq_true, decide_eq_true_eq] at hw
    exact hw
  refine ⟨z.toNat, by omega, ?_⟩
  have e1 : ((cs.drop j).take 1)[0]? = some (.int .u8 z) := by rw [e0]; rfl
  rw [List.getElem?_take_of_lt (by decide), List.getElem?_drop, Nat.add_zero] at e1
  rw [e1, Int.toNat_of_nonneg hw'.1]
/-- a row of bytes, as a function -/
theorem bytes_fn {L : List Value} {N : Nat} (hl : L.length = N) (h : ∀ j, j < N → ∃ z : Nat, z < 256 ∧ L[j]? = some (.int .u8 (z : Int))) : ∃ F : Nat → Nat, L = rowF .u8 N F ∧ ∀ x, x < N → F x < 256 := by
  obtain ⟨F, hF⟩ := Go.Deep.choose_lt (α := Nat) (n := N) (p := fun j z => z < 256 ∧ L[j]? = some (.int .u8 (z : Int))) h
  refine ⟨F, ?_, fun x hx => (hF x hx).1⟩
  apply List.ext_getElem?
  intro j
  by_cases hj : j < N
  · rw [(hF j hj).2, rowF_get _ _ _ _ hj]
  · rw [List.getElem?_eq_none (by omega), List.getElem?_eq_none (by rw [rowF_length]; omega)]
theorem ext_ok (base : Nat → Prop) : CallOk S.P base S.ext := extClone_ok base
set_option maxRecDepth 10000 in
/-- what the law answers, on the machine -/
theorem calls {H : Type} {enc : TypeId × Value → H} {w : World} {b0 : Nat} {n : Int} {v : Value} {d : DataW H} {p : List MemPlace} (hok : Value.okWide Try.prog w .any b0 33 v) (h : DataW.Trod enc Try.prog w 0 (fun _ => true) true 33 v d p) :
    Calls Try.prog 6 #[.int .i64 n, v] w fun e w' => e = .returned (.bool true) ∧ _root_.Go.RowKit.Below w.heap.size w w' := by
  have fin : ∀ (R : List InRow) (v1 : Value), (∀ r ∈ R, r.blk < w.heap.size ∧ w.rangeAt r.blk r.off r.cells ∧ r.cells.all plain = true) → VR (emIn R) v1 v → (Gets S 6 [.int .i64 n, v1] (memOf R) fun r _ => r = .bool true) →
      Calls Try.prog 6 #[.int .i64 n, v] w fun e w' => e = .returned (.bool true) ∧ _root_.Go.RowKit.Below w.heap.size w w' := by
    intro R v1 hR hv hg
    refine (Gets.calls (S := S) mixed_ allGood_ allOk_ (ext_ok (fun k => w.heap.size ≤ k)) hg (m := emIn R) (args' := [.int .i64 n, v]) (.cons (VR.of_plain rfl) (.cons hv .nil)) (okIn w R hR)).mono ?_
    rintro e w' ⟨r, μ', rfl, v', rfl, m', _, _, hv', hbel⟩
    rw [hv'.plain_eq rfl]
    exact ⟨rfl, hbel.os, hbel.tape, hbel.output, hbel.size, fun k hk => hbel.block k (Nat.not_le_of_lt hk)⟩
  rcases slice_cells Try.underlying33 (sz := 256) (by kernel_rfl) hok h with rfl | ⟨b, o, l, c, C, rfl, hb, hlc, hc, hlen, hrange, nn, hC⟩
  · refine fin [] (.slice none 0 0) (by simp) (VR.of_plain rfl) ?_
    by_cases hn : 16 ≤ n ∧ n ≤ 8192
    · obtain ⟨m, rfl⟩ : ∃ m : Nat, n = m := ⟨n.toNat, by omega⟩
      exact law6_len (by omega) (by omega) (ln := 0) (fun ty μ => len_nil Try.underlying33 ty μ) (by unfold nLeaves; omega) _
    · exact law6_bad hn _ _
  · have htot := slice_cells.flat_length (P := Try.prog) (e := 0) (sz := 0) C 256 l hlen
    obtain ⟨F, hF, hFl⟩ := bytes_fn (L := (List.range l).flatMap C) (N := 256 * l) (by rw [htot, Nat.mul_comm]) (fun j hj => by
      have := slice_cells.flat_get (P := Try.prog) (e := 0) (sz := 0) C 256 l hlen (j / 256) (j % 256) (by omega) (by omega)
      rw [show j / 256 * 256 + j % 256 = j by omega] at this
      rw [this]
      obtain ⟨x, hx⟩ := hC (j / 256) (by omega)
      exact block_cells hx (j % 256) (by omega))
    rw [hF] at hrange
    refine fin [⟨b, o, rowF .u8 (256 * l) F, 38⟩] (.slice (some ⟨0, 0, none⟩) l c) ?_ (sliceIn (R := [⟨b, o, rowF .u8 (256 * l) F, 38⟩]) (i := 0) rfl hlc hc) ?_
    · intro r hr
      rw [List.mem_singleton] at hr
      subst hr
      exact ⟨hb, hrange, nums_plain _ _⟩
    · by_cases hn : 16 ≤ n ∧ n ≤ 8192
      · obtain ⟨m, rfl⟩ : ∃ m : Nat, n = m := ⟨n.toNat, by omega⟩
        by_cases hlm : l = nLeaves m
        · subst hlm
          exact law6_good (by omega) (by omega) (e := 38) (own := false) (by rw [memOf_at]; rfl) (by rw [memOf_next]; exact Nat.one_pos) hFl
        · exact law6_len (by omega) (by omega) (ln := l) (fun ty μ => len_slice Try.underlying33 ty _ _ _ μ) hlm _
      · exact law6_bad hn _ _
set_option maxRecDepth 100000 in
theorem lifted (os : Os) (started : os.Started) (H : Type) (enc : TypeId × Value → H) :
    ReturnsInHanded {} Try.checked os 6 .any (Rows.roomLoadsSpec.pre6 enc Try.prog Try.f6 Rows.roomLoadsRow.domain false) (Rows.roomLoadsSpec.post enc Try.prog Try.f6 false true false false) := by
  refine returnsInHanded_of_change_sized (C := Try.checked) own started (by kernel_rfl) Try.func6
    (ChangeSpec.witness6 (enc := enc) (C := Try.checked) false ⟨#[], #[.int .i64 0, .slice none 0 0], []⟩ 8 (by kernel_rfl) (by kernel_rfl) (by kernel_rfl) (by kernel_rfl)) ?_
  intro W base args ds gs before hval0 hW hcnd hsz0 _
  have hval : ∀ (j : Nat) t v, Try.f6.params[j]? = some t → args[j]? = some v → Value.okWide Try.prog W .any base t v := hval0
  have hW' := hW
  obtain ⟨p, q, hA0, hV, rfl, hfz, hnd⟩ := hW
  have hA : DataW.TrodAll enc Try.prog W 0 (fun _ => true) true Try.f6.params.toList args.toList ds p := hA0
  rw [Try.params6] at hA hval
  have hAll := hA
  obtain ⟨v0, vs0, d0, ds0, p0, q0, hargs, rfl, rfl, h0, r0⟩ := trodAll_cons hA
  obtain ⟨v1, vs1, d1, ds1, p1, q1, rfl, rfl, rfl, h1, r1⟩ := trodAll_cons r0
  obtain ⟨rfl, rfl, rfl⟩ := trodAll_nil r1
  obtain rfl : args = #[v0, v1] := by cases args; simp_all
  obtain ⟨rfl, rfl⟩ := trodVars_none hV
  obtain ⟨n, rfl, rfl, rfl, _⟩ := open_int Try.underlying3 (hval 0 3 v0 rfl rfl) h0
  refine (calls (hval 1 33 v1 rfl rfl) h1).mono fun e W' ⟨he, bel⟩ => ?_
  subst he
  exact ⟨_, rfl, _, _, _, [], _, [], hW', trodAll_mk1 (shut_bool Try.underlying4 _), again kids full bel (by decide +kernel) hAll, rfl, bel.frame _, fun h => by cases h⟩
theorem over : Rows.roomLoadsRow.holds Try.pinned (OpenSpec.ofChange Rows.roomLoadsSpec) :=
  OpenClaim.holds_of_wide 6 Try.f6 rfl rfl rfl rfl rfl rfl rfl ⟨rfl, rfl, rfl, rfl, rfl⟩ rfl rfl rfl rfl rfl (by kernel_rfl) Try.func6 (by kernel_rfl)
    (of_decide_eq_true (by kernel_rfl)) (by unfold Func.isWrapper; first | (rw [if_pos (by decide +kernel)]; kernel_rfl) | (rw [if_neg (by decide +kernel)]; exact ⟨rfl, rfl⟩))
    (fun os started H enc _ => lifted os started H enc)
theorem proved : Rows.RoomLoadsSaid := over
#print axioms proved
end Go.Proofs.Ytlflocejgffjdaa.roomLoads
namespace Go.Proofs.Ytlflocejgffjdaa
/-- The row, under a short name, for the claim. -/
theorem roomLoads_holds : Rows.RoomLoadsSaid := roomLoads.proved
end Go.Proofs.Ytlflocejgffjdaa
