/-
  More operations of Go code over the abstract memory: append. No statement of the seat is proved here; no condition.
-/
import Derived.Test.YtlflocejgffjdaaM7
import Derived.Laws.OwnMore
namespace Go.Mini
open Go.RowKit

variable {P : Program}

theorem run_append_zero (t tx ty e : TypeId) (i : TypeInfo) (ht : P.underlying t = some (.slice e)) (hi : P.info? e = some i) (s : Value) {l c : Nat} {b : Option Addr} (hs : s = .slice b l c) (hlc : l ≤ c) (hb : b = none → l = 0 ∧ c = 0) (x : Value) {w : World} {news : List Value} (hx : Src P i.size tx x 0 news w) :
    (Builtin.append_ #[t, tx] ty #[s, x]).run P w = .ok s w := by
  subst hs
  have hn : news = [] := by have := hx.newsLen; simpa using this
  subst hn
  have hc := hx.cells
  cases b with
  | none =>
    obtain ⟨rfl, rfl⟩ := hb rfl
    rcases hx.kind with ⟨e', hk⟩ | hk <;> simp [Builtin.append_, run_underlying ht, run_underlying hk, sizeOf, typeInfo, hi, hx.len, hc]
  | some a =>
    rcases hx.kind with ⟨e', hk⟩ | hk <;> simp [Builtin.append_, run_underlying ht, run_underlying hk, sizeOf, typeInfo, hi, hx.len, hlc, hc, storeCells]

theorem oldM_does {m : Em} {base : Nat → Prop} {μ : Mem} {w : World} (h : Ok P m base μ w) {size l c c' : Nat} {a : Addr} {olds : List Value} (hl : oldM μ size a l = some olds) {s' : Value}
    (hv : (loose l c ∧ ∃ a', s' = .slice (some a') 0 c') ∨ (¬ loose l c ∧ s' = .slice (some ⟨m.blk a.block, m.off a.block + a.off, none⟩) l c')) :
    ∃ b olds', s' = .slice b l c' ∧ All2 (CR m) olds olds' ∧ olds.length = l * size ∧ ∀ w2 : World, (∀ k, w2.cell? k = w.cell? k) → (Builtin.firstCells size l s').run P w2 = .ok olds'.toArray w2 := by
  unfold oldM at hl
  split at hl
  · rename_i h0
    subst h0
    injection hl with hl
    subst hl
    rcases hv with ⟨_, a', rfl⟩ | ⟨_, rfl⟩
    · exact ⟨_, [], rfl, .nil, by simp, fun w2 _ => run_firstCells_some w2 size 0 a' 0 c' [] (by simp) (by simp)⟩
    · exact ⟨_, [], rfl, .nil, by simp, fun w2 _ => run_firstCells_some w2 size 0 _ 0 c' [] (by simp) (by simp)⟩
  · rename_i h0
    split at hl
    · rename_i cells e own hg
      split at hl
      · rename_i hlen
        injection hl with hl
        subst hl
        obtain ⟨xs', ha, hr⟩ := (h.row _ _ _ _ hg).lies
        have ha2 := (ha.drop a.off).take (l * size)
        have hlen2 := ha2.length
        rcases hv with ⟨hlo, _⟩ | ⟨_, rfl⟩
        · exact absurd hlo.1 h0
        · refine ⟨_, _, rfl, ha2, hlen, fun w2 hw => run_firstCells_some w2 size l _ l c' _ (by omega) (fun j u hj => ?_)⟩
          have hjl := (List.getElem?_eq_some_iff.1 hj).1
          rw [List.getElem?_take_of_lt (by simp at hjl; omega), List.getElem?_drop] at hj
          have := hr _ u hj
          rw [hw]
          rwa [Addr.add_mid, Nat.add_assoc]
      · cases hl
    · cases hl

theorem cell_drew (w : World) : ∀ k, w.drew.cell? k = w.cell? k := fun _ => rfl
theorem setCells_heap (b : Nat) : ∀ (vs : List Value) (o : Nat) (w : World), (w.setCells b o vs).heap.size = w.heap.size ∧ ∀ k, k ≠ b → (w.setCells b o vs).heap[k]? = w.heap[k]?
  | [], _, _ => ⟨rfl, fun _ _ => rfl⟩
  | v :: r, o, w => by
    obtain ⟨h1, h2⟩ := setCells_heap b r (o + 1) (w.setCell ⟨b, o, none⟩ v)
    refine ⟨h1.trans (by simp [World.setCell]), fun k hk => (h2 k hk).trans (_root_.Go.RowKit.Below.heap_setCell _ _ _ _ hk)⟩

theorem appendM_does {m : Em} {base : Nat → Prop} {μ μ' : Mem} {w : World} (h : Ok P m base μ w) {t tx ty : TypeId} {s s' x x' v : Value} (hs : VR m s s') (hx : VR m x x') (hl : appendM P t tx s x μ = some (v, μ')) :
    ∃ m' v' w', (Builtin.append_ #[t, tx] ty #[s', x']).run P w = .ok v' w' ∧ m.le m' ∧ Ok P m' base μ' w' ∧ VR m' v v' ∧ Below base w w' := by
  unfold appendM at hl
  split at hl
  · rename_i e ht
    split at hl
    · rename_i i hi
      split at hl
      · rename_i z n news hz hn
        obtain ⟨news', hnews, hsrc⟩ := srcM_does h hn hx
        have hnl : news.length = n * i.size := by rw [hnews.length]; exact hsrc.newsLen
        have hcz : cellsz P e = i.size := by simp [cellsz, hi]
        split at hl
        · cases hl
        · rename_i hcond
          have hsz : i.size ≠ 0 := fun hh => hcond (.inl hh)
          have hzs : z.cells.size = i.size := Classical.byContradiction fun hh => hcond (.inr (.inl hh))
          have hiz : i.zero = some z := by
            unfold zeroM at hz
            rw [hi] at hz
            dsimp only at hz
            split at hz
            · rename_i z' hz'
              split at hz
              · injection hz with hz; rw [hz', hz]
              · cases hz
            · cases hz
          -- a new row
          have hgrow : ∀ (b : Option Addr) (l c' : Nat) (olds olds' : List Value), All2 (CR m) olds olds' → olds.length = l * i.size → (Builtin.firstCells i.size l (.slice b l c')).run P w.drew = .ok olds'.toArray w.drew →
              c' < l + n → (l + n) * i.bytes ≤ 70368744177664 → l + n ≤ 1099511627776 → ∀ μ0, Ok P m base μ0 w →
              ∃ m' v' w', (Builtin.append_ #[t, tx] ty #[.slice b l c', x']).run P w = .ok v' w' ∧ m.le m' ∧ Ok P m' base (newM e (olds ++ news) μ0).2 w' ∧ VR m' (.slice (some ⟨μ0.next, 0, none⟩) (l + n) INF) v' ∧ Below base w w' := by
            intro b l c' olds olds' ho hol hf hlt hb48 hmx μ0 h0
            have hnx : Builtin.nextslicecap (l + n) c' * i.bytes ≤ 281474976710656 := by
              have := nextslicecap_le hlt
              calc Builtin.nextslicecap (l + n) c' * i.bytes ≤ (2 * (l + n)) * i.bytes := Nat.mul_le_mul_right _ this
                _ = 2 * ((l + n) * i.bytes) := Nat.mul_assoc _ _ _
                _ ≤ 281474976710656 := by omega
            have hr := run_append_grow_src (P := P) (w := w) t tx ty e i z ht hi hiz b l c' olds' hf x' n news' hsrc hlt (by omega) hnx
            have hlen : (olds ++ news).length = (l + n) * i.size := by rw [List.length_append, hol, hnl, Nat.add_mul]
            obtain ⟨m', g1, g2, g3, g4⟩ := grown_does (old := c') h0 (ho.append hnews) hi hzs hlen (by omega) hmx
            exact ⟨m', _, _, hr, g1, g2, g3, g4⟩
          split at hl
          · -- nil
            rename_i l c
            split at hl
            · rename_i hlc
              obtain ⟨rfl, rfl⟩ := hlc
              have : s' = .slice none 0 0 := hs.plain_eq rfl
              subst this
              split at hl
              · rename_i hn0
                subst hn0
                injection hl with hl; injection hl with q1 q2; subst q1; subst q2
                exact ⟨m, _, w, run_append_zero t tx ty e i ht hi _ rfl (Nat.le_refl _) (fun _ => ⟨rfl, rfl⟩) x' hsrc, m.le_refl, h, hs, Below.refl _ _⟩
              · rename_i hn0
                split at hl
                · rename_i hb
                  injection hl with hl; injection hl with q1 q2; subst q1; subst q2
                  have := hgrow none 0 0 [] [] .nil (by simp) (run_firstCells_none _ _ _ _ _) (by omega) (by rw [Nat.zero_add]; exact hb.1) (by omega) μ h
                  simpa using this
                · cases hl
            · cases hl
          · -- a row
            rename_i a l c
            obtain ⟨h1, h2, c', h3, h4, h5, h6⟩ := hs.slice
            split at hl
            · rename_i hn0
              subst hn0
              injection hl with hl; injection hl with q1 q2; subst q1; subst q2
              rcases h6 with ⟨hlo, a', rfl⟩ | ⟨hlo, _, rfl⟩
              · exact ⟨m, _, w, run_append_zero t tx ty e i ht hi _ rfl (Nat.zero_le _) (fun hh => by cases hh) x' hsrc, m.le_refl, h, hs, Below.refl _ _⟩
              · exact ⟨m, _, w, run_append_zero t tx ty e i ht hi _ rfl h3 (fun hh => by cases hh) x' hsrc, m.le_refl, h, hs, Below.refl _ _⟩
            · rename_i hn0
              split at hl
              · rename_i hb
                split at hl
                · -- the capacity is not known
                  rename_i hc
                  split at hl
                  · rename_i hla
                    split at hl
                    · rename_i cells e' hg
                      split at hl
                      · rename_i he
                        obtain ⟨he, hlen⟩ := he
                        subst he
                        injection hl with hl; injection hl with q1 q2; subst q1; subst q2
                        rcases h6 with ⟨hlo, _⟩ | ⟨hlo, hcap, rfl⟩
                        · exact absurd hlo.1 hla.1
                        · obtain ⟨xs', ha, hr⟩ := (h.row _ _ _ _ hg).lies
                          obtain ⟨o1, o2, o3, o4⟩ := (h.row _ _ _ _ hg).mine rfl
                          have hcap' := hcap hc hla.2
                          rw [o1, hla.2]
                          rw [o1] at hr
                          have ha2 := ha.take (l * i.size)
                          have hlen2 := ha2.length
                          have hrt : w.rangeAt (m.blk a.block) 0 (xs'.take (l * i.size)) := fun j u hj => by
                            have hjl := (List.getElem?_eq_some_iff.1 hj).1
                            rw [List.getElem?_take_of_lt (by simp at hjl; omega)] at hj
                            exact hr j u hj
                          by_cases hroom : l + n ≤ c'
                          · -- room
                            have hth : w.there (m.blk a.block) 0 (c' * i.size) := by rw [hcap', ← hcz]; exact o4
                            have hlc : l * i.size + n * i.size ≤ c' * i.size := by rw [← Nat.add_mul]; exact Nat.mul_le_mul_right _ hroom
                            have hnl' : news'.length = n * i.size := hsrc.newsLen
                            have hat : w.there (m.blk a.block) (l * i.size) news'.length := fun j hj => by
                              have := hth (l * i.size + j) (by omega)
                              simpa using this
                            have hrun := run_append_room_src (P := P) (w := w) t tx ty e' i ht hi (m.blk a.block) 0 l c' x' n news' hsrc hroom (fun j hj => by have := hat j hj; simpa using this.1) (fun j hj => by have := hat j hj; simpa using this.2)
                            rw [Nat.zero_add] at hrun
                            obtain ⟨sz, sb⟩ := setCells_heap (m.blk a.block) news' (l * i.size) w
                            have hfree := h.free hg
                            have ht1 := (h.forget a.block).touch (w2 := w.setCells (m.blk a.block) (l * i.size) news') (m.blk a.block) hfree (by omega) (fun k _ hk => sb k hk)
                            have hlx : (xs'.take (l * i.size)).length = l * i.size := by omega
                            have hrange : (w.setCells (m.blk a.block) (l * i.size) news').rangeAt (m.blk a.block) 0 (xs'.take (l * i.size) ++ news') := fun j u hj => by
                              by_cases hjl : j < l * i.size
                              · rw [List.getElem?_append_left (by omega)] at hj
                                rw [World.cell?_setCells_out _ _ _ _ _ (fun _ _ => Or.inl (by simpa using hjl))]
                                exact hrt j u hj
                              · rw [List.getElem?_append_right (by omega), hlx] at hj
                                have := World.rangeAt_setCells_same w (m.blk a.block) (l * i.size) news' hat (j - l * i.size) u hj
                                rwa [show l * i.size + (j - l * i.size) = 0 + j from by omega] at this
                            have hthere := World.there_setCells hth (m.blk a.block) (l * i.size) news'
                            have hok := ht1.adopt (m.blk a.block) c' hfree o2 (by rw [sz]; exact h.blk _ h2) (ha2.append hnews) e' hrange (fun j hj => hthere j (by
                              have : (cells.take (l * i.size) ++ news).length = l * i.size + n * i.size := by rw [List.length_append, hlen, hnl]
                              omega)) (by rw [hcz]; exact hthere)
                            refine ⟨_, _, _, hrun, m.le_ext _ _, hok, ⟨rfl, ?_, c', hroom, h4, fun hh => absurd rfl hh, .inr ⟨fun hh => by have := hh.1; omega, fun _ _ => ?_, ?_⟩⟩, below_setCells o2 _ _ _⟩
                            · show μ.next < m.top + 1
                              rw [h.top]; omega
                            · simp [Em.ext, h.top]
                            · simp only [Em.ext, h.top, if_true]
                          · exact hgrow _ l c' _ _ ha2 hlen (run_firstCells_some w.drew i.size l _ l c' _ (by omega) (fun j u hj => by
                              have := hrt j u hj
                              simpa [Addr.add_mid] using this)) (by omega) hb.1 hb.2 _ (h.forget a.block)
                      · cases hl
                    · cases hl
                  · cases hl
                · rename_i hc
                  have hcc := h5 hc
                  subst hcc
                  split at hl
                  · -- room
                    rename_i hroom
                    split at hl
                    · rename_i cells e' hg
                      split at hl
                      · rename_i hfit
                        injection hl with hl; injection hl with q1 q2; subst q1; subst q2
                        rcases h6 with ⟨hlo, _⟩ | ⟨hlo, hcap, rfl⟩
                        · have := hlo.2; have := hlo.1; omega
                        · obtain ⟨k1, k2⟩ := h.store hg hnews hfit
                          obtain ⟨o1, o2, _, _⟩ := (h.row _ _ _ _ hg).mine rfl
                          have hrun := run_append_room_src (P := P) (w := w) t tx ty e i ht hi (m.blk a.block) (m.off a.block + a.off) l c' x' n news' hsrc hroom (fun j hj => by rw [o1, Nat.zero_add]; exact (k2 j hj).1) (fun j hj => by rw [o1, Nat.zero_add]; exact (k2 j hj).2)
                          refine ⟨m, _, _, hrun, m.le_refl, ?_, ⟨h1, h2, c', hroom, h4, fun _ => rfl, .inr ⟨fun hh => ?_, fun hh => absurd hh hc, rfl⟩⟩, below_setCells o2 _ _ _⟩
                          · rw [o1, Nat.zero_add]; exact k1
                          · have := hh.1; omega
                      · cases hl
                    · cases hl
                  · rename_i hroom
                    split at hl
                    · rename_i olds ho
                      injection hl with hl; injection hl with q1 q2; subst q1; subst q2
                      have hv : (loose l c' ∧ ∃ a', s' = .slice (some a') 0 c') ∨ (¬ loose l c' ∧ s' = .slice (some ⟨m.blk a.block, m.off a.block + a.off, none⟩) l c') := h6.imp id fun q => ⟨q.1, q.2.2⟩
                      obtain ⟨b, olds', rfl, r1, r2, r3⟩ := oldM_does h ho hv
                      exact hgrow b l c' olds olds' r1 r2 (r3 w.drew (cell_drew w)) (by omega) hb.1 hb.2 μ h
                    · cases hl
              · cases hl
          · cases hl
      · cases hl
    · cases hl
  · cases hl

end Go.Mini
