/-
  Maps of plain keys over the abstract memory: make, lookup, store, delete, len. No statement of the seat is proved here; no condition.
-/
import Derived.Test.YtlflocejgffjdaaM9
namespace Go.Mini
open Go.RowKit

variable {P : Program}

abbrev EntryRel (m : Em) (p : Value × Value) (e : MapEntry) : Prop := e.key = p.1 ∧ plainV p.1 = true ∧ VR m p.2 e.val

/-! ### a new map -/
theorem Ok.allocMap {m : Em} {base : Nat → Prop} {μ : Mem} {w : World} (h : Ok P m base μ w) : Ok P (m.ext w.heap.size 0) base ⟨μ.hp.set μ.next (some (.map [])), μ.next + 1⟩ (w.alloc (.map #[] 0)) := by
  have lo : ∀ n o, μ.hp.get n = some o → (m.ext w.heap.size 0).blk n = m.blk n ∧ m.blk n < w.heap.size := fun n o hn => by
    have := h.live n o hn
    exact ⟨if_neg (by omega), h.blk n this⟩
  have new : ∀ n, μ.next = n → (m.ext w.heap.size 0).blk n = w.heap.size := fun n he => by simp [Em.ext, h.top, he]
  refine ⟨by simp [Em.ext, h.top], fun k hk => h.low k (by simp at hk; omega), fun n o hn => ?_, fun n hn => ?_, fun n cs e' own hn => ?_, fun n es hn => ?_, fun n n2 o o2 hn ho hn2 ho2 hne => ?_⟩
  · simp only [Hp.get_set] at hn
    split at hn
    · have := h.top; simp [Em.ext]; omega
    · have := h.live n o hn; simp [Em.ext]; omega
  · simp only [Em.ext] at hn ⊢
    split
    · simp
    · have := h.blk n (by omega); simp; omega
  · simp only [Hp.get_set] at hn
    split at hn
    · injection hn with hn; cases hn
    · have hlt := h.live n _ hn
      exact (h.row n cs e' own hn).mono (m.le_ext _ _) hlt (alloc_old w _ _ (h.blk n hlt))
  · simp only [Hp.get_set] at hn
    split at hn
    · rename_i he
      injection hn with hn
      injection hn with hn
      subst hn
      refine ⟨⟨#[], 0, ?_, .nil⟩, ?_⟩
      · rw [new n he]; exact heap_alloc_new w _
      · rw [new n he]; exact h.low _ (Nat.le_refl _)
    · have hlt := h.live n _ hn
      exact (h.map n es hn).mono (m.le_ext _ _) hlt (alloc_old w _ _ (h.blk n hlt))
  · simp only [Hp.get_set] at hn hn2
    split at hn <;> split at hn2
    · omega
    · rename_i e1 _
      rw [new n e1, (lo n2 o2 hn2).1]
      have := (lo n2 o2 hn2).2; omega
    · rename_i _ e1
      rw [new n2 e1, (lo n o hn).1]
      have := (lo n o hn).2; omega
    · rw [(lo n o hn).1, (lo n2 o2 hn2).1]
      exact h.apart n n2 o o2 hn ho hn2 ho2 hne
def makeMapM (P : Program) (t : TypeId) (r : Option Value) (μ : Mem) : Option (Value × Mem) :=
  match r, P.underlying t with
  | none, some (.map _ _) => some (.map (some μ.next), ⟨μ.hp.set μ.next (some (.map [])), μ.next + 1⟩)
  | some (.int _ _), some (.map _ _) => some (.map (some μ.next), ⟨μ.hp.set μ.next (some (.map [])), μ.next + 1⟩)
  | _, _ => none
theorem makeMapM_does {m : Em} {base : Nat → Prop} {μ μ' : Mem} {w : World} (h : Ok P m base μ w) {t : TypeId} {r : Option Value} {v : Value} (hl : makeMapM P t r μ = some (v, μ')) :
    ∃ m' v' w', (Instr.makeMap t r).run P w = .ok v' w' ∧ m.le m' ∧ Ok P m' base μ' w' ∧ VR m' v v' ∧ Below base w w' := by
  have hrel : VR (m.ext w.heap.size 0) (.map (some μ.next)) (.map (some w.heap.size)) := by
    refine ⟨?_, ?_⟩
    · show μ.next < m.top + 1
      rw [h.top]; omega
    · simp [Em.ext, h.top]
  unfold makeMapM at hl
  split at hl
  · injection hl with hl; injection hl with q1 q2; subst q1; subst q2
    exact ⟨_, .map (some w.heap.size), w.alloc (.map #[] 0), by simp [Instr.makeMap], m.le_ext _ _, h.allocMap, hrel, (Below.refl _ _).alloc h.low _⟩
  · rename_i hu
    injection hl with hl; injection hl with q1 q2; subst q1; subst q2
    exact ⟨_, .map (some w.heap.size), w.alloc (.map #[] 0), by simp [Instr.makeMap, run_underlying hu, asInt, asIntOf], m.le_ext _ _, h.allocMap, hrel, (Below.refl _ _).alloc h.low _⟩
  · cases hl

/-! ### which entry has a key -/
def strip (e : MapEntry) : MapEntry := { key := e.key, val := undef, born := 0 }
def stripR (r : Option (Nat × Value)) : Option (Nat × Value) := r.map fun p => (p.1, undef)
theorem findNow_strip (kind : TypeDesc) (k : Value) : ∀ (l : List MapEntry) (i : Nat), Instr.findNow kind k (l.map strip) i = (Instr.findNow kind k l i).map stripR
  | [], _ => rfl
  | e :: l, i => by
    simp only [List.map_cons, Instr.findNow, strip]
    cases Instr.sameNow kind k e.key with
    | none => rfl
    | some b => cases b with
      | true => rfl
      | false => exact findNow_strip kind k l (i + 1)
theorem findAsking_strip (kt : TypeId) (k : Value) : ∀ (l : List MapEntry) (i : Nat), Instr.findAsking kt k (l.map strip) i = stripR <$> Instr.findAsking kt k l i
  | [], i => by simp [Instr.findAsking, stripR]
  | e :: l, i => by
    simp only [List.map_cons, Instr.findAsking, map_bind]
    congr 1
    funext b
    cases b with
    | true => simp [stripR, strip]
    | false => simpa using findAsking_strip kt k l (i + 1)
theorem findKey_strip (kt : TypeId) (k : Value) (l : List MapEntry) : Instr.findKey kt k (l.map strip) = stripR <$> Instr.findKey kt k l := by
  simp only [Instr.findKey, map_bind]
  congr 1
  funext d
  rw [findNow_strip]
  cases Instr.findNow d k l 0 with
  | none => exact findAsking_strip kt k l 0
  | some r => simp
theorem findNow_get (kind : TypeDesc) (k : Value) : ∀ (l : List MapEntry) (i0 i : Nat) (v : Value), Instr.findNow kind k l i0 = some (some (i, v)) → ∃ j e, i = i0 + j ∧ l[j]? = some e ∧ e.val = v
  | [], _, _, _, h => by simp [Instr.findNow] at h
  | e :: l, i0, i, v, h => by
    simp only [Instr.findNow] at h
    split at h
    · injection h with h; injection h with h; injection h with q1 q2
      exact ⟨0, e, by omega, rfl, q2⟩
    · obtain ⟨j, e', h1, h2, h3⟩ := findNow_get kind k l (i0 + 1) i v h
      exact ⟨j + 1, e', by omega, by simpa using h2, h3⟩
    · cases h
theorem findAsking_get (kt : TypeId) (k : Value) : ∀ (l : List MapEntry) (i0 i : Nat) (v : Value) (w w' : World), (Instr.findAsking kt k l i0).run P w = .ok (some (i, v)) w' → ∃ j e, i = i0 + j ∧ l[j]? = some e ∧ e.val = v
  | [], _, _, _, _, _, h => by simp [Instr.findAsking] at h
  | e :: l, i0, i, v, w, w', h => by
    simp only [Instr.findAsking, Sem.run_bind] at h
    cases hq : (Op.equal kt k e.key).run P w with
    | halt x w1 => rw [hq] at h; cases h
    | ok b w1 =>
      rw [hq] at h
      simp only [Result.andThen_ok] at h
      cases b with
      | true =>
        simp only [if_true, Sem.run_pure] at h
        injection h with h _; injection h with h; injection h with q1 q2
        exact ⟨0, e, by omega, rfl, q2⟩
      | false =>
        simp only [Bool.false_eq_true, if_false] at h
        obtain ⟨j, e', h1, h2, h3⟩ := findAsking_get kt k l (i0 + 1) i v w1 w' h
        exact ⟨j + 1, e', by omega, by simpa using h2, h3⟩
theorem findKey_get {kt : TypeId} {k : Value} {l : List MapEntry} {i : Nat} {v : Value} {w w' : World} (h : (Instr.findKey kt k l).run P w = .ok (some (i, v)) w') : ∃ e, l[i]? = some e ∧ e.val = v := by
  simp only [Instr.findKey, Sem.run_bind] at h
  cases hq : (underlying kt).run P w with
  | halt x w1 => rw [hq] at h; cases h
  | ok d w1 =>
    rw [hq] at h
    simp only [Result.andThen_ok] at h
    cases hn : Instr.findNow d k l 0 with
    | some r =>
      rw [hn] at h
      simp only [Sem.run_pure] at h
      injection h with h _
      subst h
      obtain ⟨j, e, h1, h2, h3⟩ := findNow_get d k l 0 i v hn
      rw [Nat.zero_add] at h1
      exact ⟨e, h1 ▸ h2, h3⟩
    | none =>
      rw [hn] at h
      obtain ⟨j, e, h1, h2, h3⟩ := findAsking_get kt k l 0 i v w1 w' h
      rw [Nat.zero_add] at h1
      exact ⟨e, h1 ▸ h2, h3⟩

def keysOf (es : List (Value × Value)) : List MapEntry := es.map fun p => { key := p.1, val := undef, born := 0 }
theorem keysOf_strip {m : Em} {es : List (Value × Value)} {es' : List MapEntry} (h : All2 (EntryRel m) es es') : es'.map strip = keysOf es := by
  unfold keysOf
  induction h with
  | nil => rfl
  | cons h _ ih => simp only [List.map_cons, ih, strip, h.1]
/-- the place of a key, if it has one -/
def findM (P : Program) (kt : TypeId) (k : Value) (es : List (Value × Value)) : Option (Option Nat) :=
  if plainV k then match pureOf P (Instr.checkKey es.isEmpty 10000 kt k), pureOf P (Instr.checkKey false 10000 kt k), pureOf P (Instr.findKey kt k (keysOf es)) with
    | some (), some (), some (some (i, _)) => some (some i)
    | some (), some (), some none => some none
    | _, _, _ => none
  else none
theorem findM_does {m : Em} {es : List (Value × Value)} {es' : Array MapEntry} (h : All2 (EntryRel m) es es'.toList) {kt : TypeId} {k : Value} {r : Option Nat} (hf : findM P kt k es = some r) (w : World) :
    plainV k = true ∧ (Instr.checkKey es'.isEmpty 10000 kt k).run P w = .ok () w ∧ (Instr.checkKey false 10000 kt k).run P w = .ok () w ∧
    match r with
    | none => (Instr.findKey kt k es'.toList).run P w = .ok none w
    | some i => ∃ p e, es[i]? = some p ∧ es'[i]? = some e ∧ EntryRel m p e ∧ (Instr.findKey kt k es'.toList).run P w = .ok (some (i, e.val)) w := by
  unfold findM at hf
  split at hf
  · rename_i hk
    have hemp : es'.isEmpty = es.isEmpty := by
      have hl : es.length = es'.size := h.length
      rw [Bool.eq_iff_iff, Array.isEmpty_iff_size_eq_zero, List.isEmpty_iff_length_eq_zero, hl]
    have key : ∀ r0, pureOf P (Instr.findKey kt k (keysOf es)) = some r0 → ∃ r1, (Instr.findKey kt k es'.toList).run P w = .ok r1 w ∧ stripR r1 = r0 := by
      intro r0 h2
      have hr := pureOf_run h2 w
      rw [← keysOf_strip h, findKey_strip, Sem.run_map] at hr
      cases hq : (Instr.findKey kt k es'.toList).run P w with
      | halt x w1 => rw [hq] at hr; cases hr
      | ok r1 w1 =>
        rw [hq] at hr
        simp only [Result.andThen_ok] at hr
        injection hr with h1 h2
        subst h2
        exact ⟨r1, rfl, h1⟩
    refine ⟨hk, ?_⟩
    rw [hemp]
    split at hf
    · rename_i i v' h1 h0 h2
      injection hf with hf
      subst hf
      obtain ⟨r1, hrun, hs⟩ := key _ h2
      refine ⟨pureOf_run h1 w, pureOf_run h0 w, ?_⟩
      cases r1 with
      | none => cases hs
      | some iv =>
        obtain ⟨i1, v⟩ := iv
        simp only [stripR, Option.map_some, Option.some.injEq, Prod.mk.injEq] at hs
        obtain ⟨rfl, _⟩ := hs
        obtain ⟨e, he, rfl⟩ := findKey_get hrun
        obtain ⟨p, hp, hr⟩ := h.get' he
        exact ⟨p, e, hp, by rw [← Array.getElem?_toList]; exact he, hr, hrun⟩
    · rename_i h1 h0 h2
      injection hf with hf
      subst hf
      obtain ⟨r1, hrun, hs⟩ := key _ h2
      refine ⟨pureOf_run h1 w, pureOf_run h0 w, ?_⟩
      cases r1 with
      | none => exact hrun
      | some iv => cases hs
    · cases hf
  · cases hf

/-! ### lookup -/
def entriesM (μ : Mem) (x : Value) : Option (List (Value × Value)) :=
  match x with
  | .map none => some []
  | .map (some n) => match μ.hp.get n with
    | some (.map es) => some es
    | _ => none
  | _ => none
def lookupM (P : Program) (t : TypeId) (μ : Mem) (x k : Value) (ok : Bool) : Option Value :=
  match P.underlying t, entriesM μ x with
  | some (.map kt e), some es => match findM P kt k es with
    | some (some i) => match es[i]? with
      | some p => if ok then (if isTuple p.2 then none else some (.tuple #[p.2, .bool true])) else some p.2
      | none => none
    | some none => match zeroM P e with
      | some z => if ok then some (.tuple #[z, .bool false]) else some z
      | none => none
    | none => none
  | _, _ => none
theorem VR.map {m : Em} {n : Nat} {v' : Value} (h : VR m (.map (some n)) v') : n < m.top ∧ v' = .map (some (m.blk n)) := h
theorem run_getMap {w : World} {b clock : Nat} {es : Array MapEntry} (h : w.heap[b]? = some (.map es clock)) : (getObj b).run P w = .ok (.map es clock) w := by simp [getObj, Sem.run, h]
theorem entriesM_does {m : Em} {base : Nat → Prop} {μ : Mem} {w : World} (h : Ok P m base μ w) {x x' : Value} (hx : VR m x x') {es : List (Value × Value)} (he : entriesM μ x = some es) :
    (x' = .map none ∧ es = []) ∨ ∃ n es' clock, x = .map (some n) ∧ x' = .map (some (m.blk n)) ∧ μ.hp.get n = some (.map es) ∧ w.heap[m.blk n]? = some (.map es' clock) ∧ All2 (EntryRel m) es es'.toList ∧ base (m.blk n) := by
  unfold entriesM at he
  split at he
  · injection he with he
    exact .inl ⟨hx.plain_eq rfl, he.symm⟩
  · rename_i n
    obtain ⟨h1, rfl⟩ := hx.map
    split at he
    · rename_i es0 hg
      injection he with he
      subst he
      obtain ⟨⟨es', clock, r1, r2⟩, r3⟩ := h.map _ _ hg
      exact .inr ⟨n, es', clock, rfl, rfl, hg, r1, r2, r3⟩
    · cases he
  · cases he
theorem pair_rel {m : Em} {v v' : Value} {b : Bool} (h : VR m v v') (ht : isTuple v = false) : VR m (.tuple #[v, .bool b]) (.tuple #[v', .bool b]) := by
  refine ⟨_, rfl, .cons ?_ (.cons (VR1.of_plain rfl) .nil)⟩
  cases v with
  | tuple vs => cases ht
  | _ => exact h
theorem plainV_notTuple {v : Value} (h : plainV v = true) : isTuple v = false := by
  cases v <;> first | rfl | (simp [plainV, plain] at h)
def lookSem (kt e : TypeId) (k : Value) (ok : Bool) (es : Array MapEntry) : Sem Value := do
  Instr.checkKey es.isEmpty 10000 kt k
  let (v, found) ← match ← Instr.findKey kt k es.toList with
    | some (_, v) => pure (v, true)
    | none => pure (← zeroValue e, false)
  pure (if ok then .tuple #[v, .bool found] else v)
theorem lookupM_does {m : Em} {base : Nat → Prop} {μ : Mem} {w : World} (h : Ok P m base μ w) {t : TypeId} {x x' k k' v : Value} {ok : Bool} (hx : VR m x x') (hk : VR m k k') (hl : lookupM P t μ x k ok = some v) :
    ∃ v', (Instr.lookup t x' k' ok).run P w = .ok v' w ∧ VR m v v' := by
  unfold lookupM at hl
  split at hl
  · rename_i kt e es hu he
    have hcase : ∃ es' : Array MapEntry, All2 (EntryRel m) es es'.toList ∧ (Instr.lookup t x' k' ok).run P w = (lookSem kt e k' ok es').run P w := by
      rcases entriesM_does h hx he with ⟨rfl, rfl⟩ | ⟨n, es', clock, _, rfl, _, r1, r2, _⟩
      · exact ⟨#[], .nil, by simp [Instr.lookup, lookSem, Sem.run_bind, run_underlying hu]; rfl⟩
      · exact ⟨es', r2, by simp [Instr.lookup, lookSem, Sem.run_bind, run_underlying hu, run_getMap r1]; rfl⟩
    obtain ⟨es', hrel, hes⟩ := hcase
    rw [hes]
    split at hl
    · rename_i i hf
      obtain ⟨hp, hc, hc0, hr⟩ := findM_does hrel hf w
      have : k' = k := hk.plain_eq hp
      subst this
      obtain ⟨p, en, g1, g2, g3, g4⟩ := hr
      rw [g1] at hl
      dsimp only at hl
      cases ok with
      | true =>
        simp only [if_true] at hl
        split at hl
        · cases hl
        · rename_i ht
          injection hl with hl
          subst hl
          refine ⟨.tuple #[en.val, .bool true], ?_, pair_rel g3.2.2 (by simpa using ht)⟩
          simp [lookSem, Sem.run_bind, hc, g4]
      | false =>
        simp only [Bool.false_eq_true, if_false] at hl
        injection hl with hl
        subst hl
        refine ⟨en.val, ?_, g3.2.2⟩
        simp [lookSem, Sem.run_bind, hc, g4]
    · rename_i hf
      obtain ⟨hp, hc, hc0, hr⟩ := findM_does hrel hf w
      have : k' = k := hk.plain_eq hp
      subst this
      split at hl
      · rename_i z hz
        obtain ⟨z1, z2⟩ := zeroM_run hz w
        cases ok with
        | true =>
          simp only [if_true] at hl
          injection hl with hl
          subst hl
          refine ⟨.tuple #[z, .bool false], ?_, pair_rel (VR.of_plain z2) (plainV_notTuple z2)⟩
          simp [lookSem, Sem.run_bind, hc, hr, z1]
        | false =>
          simp only [Bool.false_eq_true, if_false] at hl
          injection hl with hl
          subst hl
          refine ⟨z, ?_, VR.of_plain z2⟩
          simp [lookSem, Sem.run_bind, hc, hr, z1]
      · cases hl
    · cases hl
  · cases hl

/-! ### a map turned -/
theorem Ok.setMap {m : Em} {base : Nat → Prop} {μ : Mem} {w : World} (h : Ok P m base μ w) {n : Nat} {es : List (Value × Value)} (hn : μ.hp.get n = some (.map es)) {es2 : List (Value × Value)} {es2' : Array MapEntry} (clock : Nat) (hr : All2 (EntryRel m) es2 es2'.toList) :
    Ok P m base ⟨μ.hp.set n (some (.map es2)), μ.next⟩ { w with heap := w.heap.setIfInBounds (m.blk n) (.map es2' clock) } := by
  have hlt := h.live n _ hn
  have hb := h.blk n hlt
  have hblk : ∀ k, k ≠ m.blk n → (w.heap.setIfInBounds (m.blk n) (.map es2' clock))[k]? = w.heap[k]? := fun k hk => Array.getElem?_setIfInBounds_ne (fun e => hk e.symm)
  have old : ∀ k ob, (μ.hp.set n (some (.map es2))).get k = some ob → ob.own = true → ∃ ob', μ.hp.get k = some ob' ∧ ob'.own = true := fun k ob hk hob => by
    rw [Hp.get_set] at hk
    split at hk
    · rename_i he; exact ⟨_, he ▸ hn, rfl⟩
    · exact ⟨_, hk, hob⟩
  refine ⟨h.top, by simpa using h.low, fun k ob hk => ?_, fun k hk => by simpa using h.blk k hk, fun k cs e' own hk => ?_, fun k es' hk => ?_, fun k k2 ob ob2 hk hob hk2 hob2 hne => ?_⟩
  · simp only [Hp.get_set] at hk
    split at hk
    · rename_i he; omega
    · exact h.live k ob hk
  · simp only [Hp.get_set] at hk
    split at hk
    · injection hk with hk; cases hk
    · rename_i he
      have hlt' := h.live k _ hk
      refine (h.row k cs e' own hk).mono m.le_refl hlt' (hblk _ ?_)
      cases hown : own with
      | true => subst hown; exact fun e => h.apart k n _ _ hk rfl hn rfl (fun q => he q.symm) e
      | false => subst hown; exact fun e => (h.row k _ _ _ hk).came rfl (e ▸ (h.map n es hn).low)
  · simp only [Hp.get_set] at hk
    split at hk
    · rename_i he
      injection hk with hk
      injection hk with hk
      subst hk; subst he
      exact ⟨⟨es2', clock, by simp [hb], hr⟩, (h.map n es hn).low⟩
    · rename_i he
      exact (h.map k es' hk).mono m.le_refl (h.live k _ hk) (hblk _ fun e => h.apart k n _ _ hk rfl hn rfl (fun q => he q.symm) e)
  · obtain ⟨a, ha, ha'⟩ := old k ob hk hob
    obtain ⟨b, hb, hb'⟩ := old k2 ob2 hk2 hob2
    exact h.apart k k2 a b ha ha' hb hb' hne
theorem below_setObj {base : Nat → Prop} {b : Nat} (hb : base b) (w : World) (o : Obj) : Below base w { w with heap := w.heap.setIfInBounds b o } :=
  ⟨rfl, rfl, rfl, by simp, fun k hk => Array.getElem?_setIfInBounds_ne (fun e : b = k => hk (e ▸ hb))⟩
theorem run_setMap {w : World} {b clock : Nat} {es : Array MapEntry} (h : w.heap[b]? = some (.map es clock)) (o : Obj) : (setObj b o).run P w = .ok () { w with heap := w.heap.setIfInBounds b o } := by simp [setObj, Sem.run, h]

def mapUpdateM (P : Program) (t : TypeId) (x k v : Value) (μ : Mem) : Option Mem :=
  match P.underlying t, x with
  | some (.map kt _), .map (some n) => match μ.hp.get n with
    | some (.map es) => match findM P kt k es with
      | some (some i) => match es[i]? with
        | some p => match pureOf P (Instr.keyThatStays p.1 k) with
          | some k2 => if plainV k2 then some ⟨μ.hp.set n (some (.map (es.set i (k2, v)))), μ.next⟩ else none
          | none => none
        | none => none
      | some none => some ⟨μ.hp.set n (some (.map (es ++ [(k, v)]))), μ.next⟩
      | none => none
    | _ => none
  | _, _ => none
theorem mapUpdateM_does {m : Em} {base : Nat → Prop} {μ μ' : Mem} {w : World} (h : Ok P m base μ w) {t : TypeId} {x x' k k' v v' : Value} (hx : VR m x x') (hk : VR m k k') (hv : VR m v v') (hl : mapUpdateM P t x k v μ = some μ') :
    ∃ w', (Instr.mapUpdate t x' k' v').run P w = .ok () w' ∧ Ok P m base μ' w' ∧ Below base w w' := by
  unfold mapUpdateM at hl
  split at hl
  · rename_i kt e n hu
    obtain ⟨_, rfl⟩ := hx.map
    split at hl
    · rename_i es hg
      obtain ⟨⟨es', clock, r1, r2⟩, r3⟩ := h.map _ _ hg
      split at hl
      · rename_i i hf
        obtain ⟨hp, hc, hc0, hr⟩ := findM_does r2 hf w
        have : k' = k := hk.plain_eq hp
        subst this
        obtain ⟨p, en, g1, g2, g3, g4⟩ := hr
        rw [g1] at hl
        dsimp only at hl
        split at hl
        · rename_i k2 hk2
          split at hl
          · rename_i hpk
            injection hl with hl
            subst hl
            have hstay := pureOf_run hk2 w
            have hkey : (es'[i]?.map (·.key)).getD k' = p.1 := by rw [g2]; exact g3.1
            refine ⟨_, ?_, h.setMap (es2' := es'.modify i fun e => { e with key := k2, val := v' }) hg clock ?_, below_setObj r3 _ _⟩
            · simp only [Instr.mapUpdate, Sem.run_bind, run_underlying hu, Result.andThen_ok, run_getMap r1, hc0, g4, hkey, hstay, run_setMap r1]
            · rw [Array.toList_modify]
              refine All2.of_get (by simp [r2.length]) fun j a b ha hb => ?_
              rw [List.getElem?_set] at ha
              rw [List.getElem?_modify] at hb
              by_cases hij : i = j
              · subst hij
                have hlen := (List.getElem?_eq_some_iff.1 g1).1
                simp only [if_true, hlen, Option.some.injEq] at ha
                rw [Array.getElem?_toList, g2] at hb
                simp at hb
                subst ha; subst hb
                exact ⟨rfl, hpk, hv⟩
              · rw [if_neg hij] at ha
                simp only [hij, if_false] at hb
                obtain ⟨b', hb', r⟩ := r2.get ha
                rw [hb'] at hb
                simp at hb
                subst hb
                exact r
          · cases hl
        · cases hl
      · rename_i hf
        obtain ⟨hp, hc, hc0, hr⟩ := findM_does r2 hf w
        have : k' = k := hk.plain_eq hp
        subst this
        injection hl with hl
        subst hl
        refine ⟨_, ?_, h.setMap (es2' := es'.push { key := k', val := v', born := clock }) hg (clock + 1) ?_, below_setObj r3 _ _⟩
        · have hr' : (Instr.findKey kt k' es'.toList).run P w = .ok none w := hr
          simp only [Instr.mapUpdate, Sem.run_bind, run_underlying hu, Result.andThen_ok, run_getMap r1, hc0, hr', run_setMap r1]
        · rw [Array.toList_push]
          exact r2.append (.cons ⟨rfl, hp, hv⟩ .nil)
      · cases hl
    · cases hl
  · cases hl
def deleteM (P : Program) (t : TypeId) (x k : Value) (μ : Mem) : Option Mem :=
  match P.underlying t, x with
  | some (.map kt _), .map (some n) => match μ.hp.get n with
    | some (.map es) => match findM P kt k es with
      | some (some i) => some ⟨μ.hp.set n (some (.map (es.eraseIdx i))), μ.next⟩
      | some none => some ⟨μ.hp.set n (some (.map es)), μ.next⟩
      | none => none
    | _ => none
  | _, _ => none
theorem All2.eraseIdx {α β : Type} {R : α → β → Prop} {as : List α} {bs : List β} (h : All2 R as bs) : ∀ i, All2 R (as.eraseIdx i) (bs.eraseIdx i) := by
  induction h with
  | nil => intro i; exact .nil
  | cons h t ih =>
    intro i
    cases i with
    | zero => exact t
    | succ i => exact .cons h (ih i)
theorem deleteM_does {m : Em} {base : Nat → Prop} {μ μ' : Mem} {w : World} (h : Ok P m base μ w) {t kT ty : TypeId} {x x' k k' : Value} (hx : VR m x x') (hk : VR m k k') (hl : deleteM P t x k μ = some μ') :
    ∃ w', (Builtin.delete_ #[t, kT] ty #[x', k']).run P w = .ok undef w' ∧ Ok P m base μ' w' ∧ Below base w w' := by
  unfold deleteM at hl
  split at hl
  · rename_i kt e n hu
    obtain ⟨_, rfl⟩ := hx.map
    split at hl
    · rename_i es hg
      obtain ⟨⟨es', clock, r1, r2⟩, r3⟩ := h.map _ _ hg
      split at hl
      · rename_i i hf
        obtain ⟨hp, hc, hc0, hr⟩ := findM_does r2 hf w
        have : k' = k := hk.plain_eq hp
        subst this
        obtain ⟨p, en, g1, g2, g3, g4⟩ := hr
        injection hl with hl
        subst hl
        have hi : i < es'.size := (Array.getElem?_eq_some_iff.1 g2).1
        refine ⟨_, ?_, h.setMap (es2' := es'.eraseIdxIfInBounds i) hg clock ?_, below_setObj r3 _ _⟩
        · simp [Builtin.delete_, Sem.run_bind, run_underlying hu, run_getMap r1, hc, g4, run_setMap r1]
          rfl
        · have : (es'.eraseIdxIfInBounds i).toList = es'.toList.eraseIdx i := by
            simp [Array.eraseIdxIfInBounds, hi]
          rw [this]
          exact r2.eraseIdx i
      · rename_i hf
        obtain ⟨hp, hc, hc0, hr⟩ := findM_does r2 hf w
        have : k' = k := hk.plain_eq hp
        subst this
        injection hl with hl
        subst hl
        refine ⟨_, ?_, h.setMap (es2' := es') hg clock r2, below_setObj r3 _ _⟩
        have hr' : (Instr.findKey kt k' es'.toList).run P w = .ok none w := hr
        simp [Builtin.delete_, Sem.run_bind, run_underlying hu, run_getMap r1, hc, hr', run_setMap r1]
        rfl
      · cases hl
    · cases hl
  · cases hl
def lenMapM (P : Program) (t : TypeId) (μ : Mem) (x : Value) : Option Value :=
  match P.underlying t, entriesM μ x with
  | some (.map _ _), some es => some (goInt es.length)
  | _, _ => none
theorem lenMapM_does {m : Em} {base : Nat → Prop} {μ : Mem} {w : World} (h : Ok P m base μ w) {t ty : TypeId} {x x' v : Value} (hx : VR m x x') (hl : lenMapM P t μ x = some v) : (Builtin.len_ #[t] ty #[x']).run P w = .ok v w ∧ plainV v = true := by
  unfold lenMapM at hl
  split at hl
  · rename_i kt e es hu he
    injection hl with hl
    subst hl
    refine ⟨?_, rfl⟩
    rcases entriesM_does h hx he with ⟨rfl, rfl⟩ | ⟨n, es', clock, _, rfl, _, r1, r2, _⟩
    · simp [Builtin.len_, run_underlying hu]
    · have : es.length = es'.size := r2.length
      simp [Builtin.len_, run_underlying hu, run_getMap r1, this]
  · cases hl

end Go.Mini
