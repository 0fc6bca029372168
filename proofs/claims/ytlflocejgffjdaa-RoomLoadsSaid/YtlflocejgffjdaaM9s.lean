/-
  Strings and bytes over the abstract memory. No statement of the seat is proved here; no condition.
-/
import Derived.Test.YtlflocejgffjdaaM9m
import Derived.Laws.IdiomStrings
import Derived.Laws.BytesArg
namespace Go.Mini
open Go.RowKit

variable {P : Program}

def u8s : List Value → Option (List Int)
  | [] => some []
  | .int .u8 n :: r => (u8s r).map (n :: ·)
  | _ => none
theorem u8s_eq : ∀ {l : List Value} {xs : List Int}, u8s l = some xs → l = xs.map (Value.int .u8)
  | [], xs, h => by simp only [u8s, Option.some.injEq] at h; subst h; rfl
  | v :: r, xs, h => by
    unfold u8s at h
    split at h
    · rename_i e; cases e
    · rename_i n r' e
      injection e with e1 e2
      subst e1; subst e2
      cases hr : u8s r with
      | none => rw [hr] at h; cases h
      | some ys =>
        rw [hr] at h
        simp only [Option.map_some, Option.some.injEq] at h
        subst h
        simp [← u8s_eq hr]
    · cases h
def bytesStrM (P : Program) (src dst : TypeId) (x : Value) (μ : Mem) : Option Value :=
  match P.underlying src, P.underlying dst, x with
  | some (.slice e), some .string, .slice (some a) l _ => match P.underlying e with
    | some (.int .u8) => if l = 0 then some (.string (strOfNums [])) else match cellsAt μ a l with
      | some cs => (u8s cs).map fun xs => .string (strOfNums xs)
      | none => none
    | _ => none
  | _, _, _ => none
theorem bytesStrM_does {m : Em} {base : Nat → Prop} {μ : Mem} {w : World} (h : Ok P m base μ w) {src dst : TypeId} {x x' v : Value} (hx : VR m x x') (hl : bytesStrM P src dst x μ = some v) : (convert src dst x').run P w = .ok v w ∧ plainV v = true := by
  unfold bytesStrM at hl
  split at hl
  · rename_i e a l c hs hd
    split at hl
    · rename_i he
      obtain ⟨_, _, c', h3, _, _, h6⟩ := hx.slice
      split at hl
      · rename_i hl0
        subst hl0
        injection hl with hl
        subst hl
        refine ⟨?_, rfl⟩
        have key : ∀ b, (convert src dst (.slice (some b) 0 c')).run P w = .ok (.string (strOfNums [])) w := fun b => by
          have := run_convert_bytes_back (P := P) w src dst e b c' [] hs he hd (by simp)
          exact this
        rcases h6 with ⟨_, a', rfl⟩ | ⟨_, _, rfl⟩
        · exact key _
        · exact key _
      · rename_i hl0
        split at hl
        · rename_i cs hcs
          obtain ⟨xs, hxs, hv⟩ := some_map' hl
          subst hv
          obtain ⟨cs', r1, r2, r3⟩ := cellsAt_does h hcs
          have hcs' := u8s_eq hxs
          have : cs' = cs := all2_plain_eq r1 (by
            rw [hcs', List.all_eq_true]
            intro v hv
            obtain ⟨_, _, rfl⟩ := List.mem_map.1 hv
            rfl)
          subst this
          rcases h6 with ⟨hlo, _⟩ | ⟨_, _, rfl⟩
          · exact absurd hlo.1 hl0
          · refine ⟨?_, rfl⟩
            have hlen : xs.length = l := by rw [← r2, hcs', List.length_map]
            refine run_convert_bytes_arg w src e hs he _ _ l c' xs hlen (fun i hi => ?_) dst hd
            have := r3 i (.int .u8 (xs.getD i 0)) (by
              rw [hcs', List.getElem?_map, List.getElem?_eq_getElem (by omega)]
              simp [List.getD_eq_getElem?_getD, List.getElem?_eq_getElem (show i < xs.length by omega)])
            simpa [Addr.add_mid] using this
        · cases hl
    · cases hl
  · cases hl
where
  some_map' {α β : Type} {o : Option α} {f : α → β} {b : β} (h : o.map f = some b) : ∃ a, o = some a ∧ f a = b := by
    cases o with
    | none => cases h
    | some a => exact ⟨a, rfl, by simpa using h⟩

def strBytesM (P : Program) (src dst : TypeId) (x : Value) (μ : Mem) : Option (Value × Mem) :=
  match P.underlying src, P.underlying dst, x with
  | some .string, some (.slice e), .string s => match P.underlying e with
    | some (.int .u8) => if s.size ≤ 1099511627776 ∧ cellsz P e = 1 then some (.slice (some ⟨μ.next, 0, none⟩) s.size INF, (newM e (byteCells s) μ).2) else none
    | _ => none
  | _, _, _ => none
theorem strBytesM_does {m : Em} {base : Nat → Prop} {μ μ' : Mem} {w : World} (h : Ok P m base μ w) {src dst : TypeId} {x x' v : Value} (hx : VR m x x') (hl : strBytesM P src dst x μ = some (v, μ')) :
    ∃ m' v' w', (convert src dst x').run P w = .ok v' w' ∧ m.le m' ∧ Ok P m' base μ' w' ∧ VR m' v v' ∧ Below base w w' := by
  unfold strBytesM at hl
  split at hl
  · rename_i e s hs hd
    split at hl
    · rename_i he
      split at hl
      · rename_i hsz
        injection hl with hl; injection hl with q1 q2; subst q1; subst q2
        have : x' = .string s := hx.plain_eq rfl
        subst this
        have hge := grownCap_ge w s.size 0 e
        have hle := grownCap_le_maxLen w s.size 0 e (by unfold maxLen; omega)
        have hdat : s.data.size = s.size := rfl
        have hrow : (bytesRow s (grownCap w s.size 0 e)).size = grownCap w s.size 0 e := by
          simp only [bytesRow, Array.size_append, Array.size_map, Array.size_replicate, hdat]
          omega
        have hnew := heap_alloc_new w.drew (.cells (bytesRow s (grownCap w s.size 0 e)) e ((bytesRow s (grownCap w s.size 0 e)).size, (bytesRow s (grownCap w s.size 0 e)).size + 1))
        have h2 := h.drew.world (w2 := w.drew.alloc (.cells (bytesRow s (grownCap w s.size 0 e)) e ((bytesRow s (grownCap w s.size 0 e)).size, (bytesRow s (grownCap w s.size 0 e)).size + 1))) (by simp) (fun k hk => alloc_old w.drew _ k hk)
        have hcell : ∀ j, (w.drew.alloc (.cells (bytesRow s (grownCap w s.size 0 e)) e ((bytesRow s (grownCap w s.size 0 e)).size, (bytesRow s (grownCap w s.size 0 e)).size + 1))).cell? ⟨w.heap.size, 0 + j, none⟩ = (bytesRow s (grownCap w s.size 0 e))[j]? := fun j => by
          rw [Nat.zero_add]
          exact cell_of_row _ _ _ _ _ _ hnew
        have hthere : (w.drew.alloc (.cells (bytesRow s (grownCap w s.size 0 e)) e ((bytesRow s (grownCap w s.size 0 e)).size, (bytesRow s (grownCap w s.size 0 e)).size + 1))).there w.heap.size 0 (grownCap w s.size 0 e) := fun j hj => by
          refine ⟨?_, ?_⟩
          · rw [hcell, Array.getElem?_eq_getElem (by omega)]; rfl
          · have hnew' : (w.drew.alloc (.cells (bytesRow s (grownCap w s.size 0 e)) e ((bytesRow s (grownCap w s.size 0 e)).size, (bytesRow s (grownCap w s.size 0 e)).size + 1))).heap[w.heap.size]? = _ := hnew
            simp only [World.frozen?, hnew', Nat.zero_add]
            rw [hrow]
            simp
            omega
        have hx2 : All2 (CR m) (byteCells s) (byteCells s) := all2_plain (List.all_eq_true.2 fun x hx => by obtain ⟨_, _, rfl⟩ := List.mem_map.1 hx; rfl)
        have hbl : (byteCells s).length = s.size := byteCells_length s
        have hok := h2.adopt w.heap.size (grownCap w s.size 0 e) (fun n o hn => by have := h.blk n (h.live n o hn); omega) (h.low _ (Nat.le_refl _)) (by simp) hx2 e (fun j u hj => by
            rw [hcell]
            have hjl : j < s.data.size := by have := (List.getElem?_eq_some_iff.1 hj).1; omega
            rw [bytesRow_at s _ j hjl, ← hj]
            simp [byteCells, Array.getElem?_eq_getElem hjl]) (by rw [hbl]; exact fun j hj => hthere j (by omega)) (by rw [hsz.2, Nat.mul_one]; exact hthere)
        refine ⟨_, _, _, run_bytes_of_string w src dst e s hs hd he, m.le_ext _ _, hok, ⟨rfl, ?_, grownCap w s.size 0 e, hge, hle, fun hh => absurd rfl hh, ?_⟩, (below_drew w).alloc h.low _⟩
        · show μ.next < m.top + 1
          rw [h.top]; omega
        · by_cases h0 : s.size = 0
          · exact .inl ⟨⟨h0, .inl rfl⟩, ⟨w.heap.size, 0, none⟩, by rw [h0]⟩
          · refine .inr ⟨fun hh => h0 hh.1, fun _ _ => ?_, ?_⟩
            · simp [Em.ext, h.top]
            · simp only [Em.ext, h.top, if_true]
      · cases hl
    · cases hl
  · cases hl
where
  below_drew {B : Nat → Prop} (w : World) : Below B w w.drew := (Below.refl B w).drew

/-! ### a slice's row as an array -/
def arrayAtM (P : Program) (arr : TypeId) (x : Value) : Option Value :=
  match P.underlying arr, x with
  | some (.array n _), .slice (some a) l _ => if n ≤ l ∧ n ≠ 0 then some (.pointer (some a)) else none
  | _, _ => none
theorem arrayAtM_does {m : Em} {arr : TypeId} {x x' v : Value} (hx : VR m x x') (hl : arrayAtM P arr x = some v) (w : World) : ∃ v', (Instr.arrayAt arr x').run P w = .ok v' w ∧ VR m v v' := by
  unfold arrayAtM at hl
  split at hl
  · rename_i n e a l c hu
    split at hl
    · rename_i hc
      injection hl with hl
      subst hl
      obtain ⟨h1, h2, c', h3, _, _, h6⟩ := hx.slice
      rcases h6 with ⟨hlo, _⟩ | ⟨_, _, rfl⟩
      · have := hlo.1; omega
      · refine ⟨.pointer (some ⟨m.blk a.block, m.off a.block + a.off, none⟩), ?_, h1, h2, rfl⟩
        have : ¬ l < n := by omega
        simp [Instr.arrayAt, run_underlying hu, this]
    · cases hl
  · cases hl

end Go.Mini
