/- Contract of Trim of package chain, in the two cases of the example. -/
import Derived.Test.YtcngblnkfiggjaaDoorChZ2
namespace Go.Proofs.YtcngblnkfiggjaaDoor.Rm
open Go Go.RowKit Go.Maps Go.Shelf
attribute [local go_sem] Oper.semAt_some

set_option maxRecDepth 100000 in
theorem plainElem_bool_inv {v : Value} {z : DataW Unit × List MemPlace} (h : plainElem Tryd.prog 4 v = some z) : ∃ b, v = .bool b ∧ z = (.lit (.bool b), []) := by
  unfold plainElem at h
  rw [Tryd.underlying4] at h
  cases v <;> simp at h
  exact ⟨_, rfl, h.symm⟩
theorem zero4 (w : World) : (zeroValue 4).run Tryd.prog w = .ok (.bool false) w := by kernel_rfl
theorem lookup_bool {w : World} {b n : Nat} {D : DataW Unit} (h : w.ownsMap Tryd.prog 3 (plainElem Tryd.prog 4) b n D) {k : Int} (hk : (Lit.int .i64 k).wf = true) {q : Bool} (hq : D.atKey (.int .i64 k) (.lit (.bool false)) = .lit (.bool q)) :
    (Instr.lookup 99 (.map (some b)) (.int .i64 k) false).run Tryd.prog w = .ok (.bool q) w := by
  obtain ⟨v, ps, hrun, hv⟩ := h.lookup law3 Tryd.underlying99 (zero4 w) (plainElem_bool Tryd.underlying4 false) (keyOf_int_mk Tryd.underlying3 hk)
  obtain ⟨b', rfl, hb⟩ := plainElem_bool_inv hv
  rw [hq] at hb
  cases hb
  exact hrun
/-- The map of what is seen. -/
def SeenM (W : World) (Bm k : Nat) : Prop := ∃ D : DataW Unit, W.ownsMap Tryd.prog 3 (plainElem Tryd.prog 4) Bm (k + 1) D ∧ ∀ j : Int, D.atKey (.int .i64 j) (.lit (.bool false)) = .lit (.bool (decide (j = 0 ∨ (k = 1 ∧ j = 1))))

theorem SeenM.step {W w5 : World} {Bm : Nat} (h : SeenM W Bm 0) (hb : w5.heap[Bm]? = W.heap[Bm]?) : ∃ w6, (Instr.mapUpdate 99 (.map (some Bm)) (.int .i64 1) (.bool true)).run Tryd.prog w5 = .ok () w6 ∧ SeenM w6 Bm 1 ∧ w5.grownBy w6 (some Bm) := by
  obtain ⟨D, ho, hD⟩ := h
  have ho5 := map_carry ho hb (Nat.le_refl _)
  obtain ⟨w6, hrun, ho6, ht⟩ := ho5.store law3 Tryd.underlying99 (by unfold maxLen; omega) (key := .int .i64 1) (keyOf_int_mk Tryd.underlying3 (by decide)) (plainElem_bool Tryd.underlying4 true)
  refine ⟨w6, hrun, ⟨_, ho6, fun j => ?_⟩, ht.grown⟩
  by_cases hj : j = 1
  · subst hj
    rw [Maps.atKey_put_same ho5.isMap (k := .int .i64 1) trivial]
    rfl
  · rw [Maps.atKey_put_other (by simpa using hj), hD]
    simp [hj]
theorem SeenM.start (W : World) : ∃ w6, (Instr.mapUpdate 99 (.map (some W.heap.size)) (.int .i64 0) (.bool true)).run Tryd.prog (W.alloc (.map #[] 0)) = .ok () w6 ∧ SeenM w6 W.heap.size 0 ∧ (W.alloc (.map #[] 0)).grownBy w6 (some W.heap.size) ∧ w6.heap.size = W.heap.size + 1 := by
  have ho5 := World.ownsMap_made (H := Unit) W Tryd.prog 3 (plainElem Tryd.prog 4)
  obtain ⟨w6, hrun, ho6, ht⟩ := ho5.store law3 Tryd.underlying99 (by unfold maxLen; omega) (key := .int .i64 0) (keyOf_int_mk Tryd.underlying3 (by decide)) (plainElem_bool Tryd.underlying4 true)
  refine ⟨w6, hrun, ⟨_, ho6, fun j => ?_⟩, ht.grown, ?_⟩
  rotate_left
  · obtain ⟨es, cl, es', cl', _, rfl⟩ := ht
    simp [Go.ChangeMaps.setBlock]
  by_cases hj : j = 0
  · subst hj
    rw [Maps.atKey_put_same ho5.isMap (k := .int .i64 0) trivial]
    rfl
  · rw [Maps.atKey_put_other (by simpa using hj)]
    simp [hj]
    rfl
theorem SeenM.carry {W W' : World} {Bm k : Nat} (h : SeenM W Bm k) (hb : W'.heap[Bm]? = W.heap[Bm]?) : SeenM W' Bm k := by
  obtain ⟨D, ho, hD⟩ := h
  exact ⟨D, map_carry ho hb (Nat.le_refl _), hD⟩
theorem SeenM.lt {W : World} {Bm k : Nat} (h : SeenM W Bm k) : Bm < W.heap.size := by
  obtain ⟨D, ho, _⟩ := h
  exact map_lt ho
theorem SeenM.look {W : World} {Bm k : Nat} (h : SeenM W Bm k) {j : Int} (hj : j = 0 ∨ j = 1) : (Instr.lookup 99 (.map (some Bm)) (.int .i64 j) false).run Tryd.prog W = .ok (.bool (decide (j = 0 ∨ (k = 1 ∧ j = 1)))) W := by
  obtain ⟨D, ho, hD⟩ := h
  exact lookup_bool ho (by rcases hj with rfl | rfl <;> decide) (hD j)
theorem two_of {xs : List Stp} {q p : Int} {cy cx : Cl} (h : xs.map keyS = [(q, cy), (p, cx)]) : ∃ vy vx, xs = [⟨q, cy, vy⟩, ⟨p, cx, vx⟩] := by
  match xs, h with
  | [⟨a, b, vy⟩, ⟨c, d, vx⟩], h =>
    simp only [keyS, List.map_cons, List.map_nil, List.cons.injEq, Prod.mk.injEq, and_true] at h
    obtain ⟨⟨rfl, rfl⟩, rfl, rfl⟩ := h
    exact ⟨vy, vx, rfl⟩
/-- What Trim holds ahead of its second loop. -/
structure TrM (w1 : World) (va : Value) (k : Nat) (W : World) : Prop where
  m : SeenM W (w1.heap.size + 1) k
  a : Boxed W w1.heap.size 22 va
  r : Boxed W (w1.heap.size + 2) 99 (.map (some (w1.heap.size + 1)))
  below : Below w1.heap.size w1 W
  size : w1.heap.size + 3 ≤ W.heap.size
theorem TrM.start (w1 : World) (va : Value) : ∃ w6, (Instr.mapUpdate 99 (.map (some (w1.heap.size + 1))) (.int .i64 0) (.bool true)).run Tryd.prog ((w1.alloc (.cells #[va] 22)).alloc (.map #[] 0)) = .ok () w6 ∧ w6.heap.size = w1.heap.size + 2 ∧ TrM w1 va 0 (w6.alloc (.cells #[.map (some (w1.heap.size + 1))] 99)) := by
  obtain ⟨w6, hrun, hm, hg, hs6⟩ := SeenM.start (w1.alloc (.cells #[va] 22))
  rw [show (w1.alloc (.cells #[va] 22)).heap.size = w1.heap.size + 1 by simp] at hrun hm hg
  have hgs := hg.size
  simp only [World.size_alloc] at hgs
  have hb : ∀ k, k < w1.heap.size + 1 → w6.heap[k]? = (w1.alloc (.cells #[va] 22)).heap[k]? := fun k hk => (hg.block k (by simp; omega) (by simp; omega)).trans (Below.heap_alloc _ _ _ (by simp; omega))
  rw [World.size_alloc] at hs6
  refine ⟨w6, hrun, hs6, hm.carry (Below.heap_alloc _ _ _ hm.lt), ?_, ?_, ?_, by simp; omega⟩
  · exact (Below.heap_alloc _ _ _ (by omega)).trans ((hb _ (by omega)).trans (heap_alloc_new _ _))
  · rw [← hs6]; exact heap_alloc_new _ _
  · refine ⟨hg.os, hg.tape, hg.output, by simp; omega, fun k hk => ?_⟩
    exact (Below.heap_alloc _ _ _ (by omega)).trans ((hb k (by omega)).trans (Below.heap_alloc _ _ _ hk))
theorem TrM.keep {w1 : World} {va : Value} {k : Nat} {A B : World} (h : TrM w1 va k A) (hb : Below (w1.heap.size + 3) A B) : TrM w1 va k B :=
  ⟨h.m.carry (hb.block _ (by omega)), (hb.block _ (by omega)).trans h.a, (hb.block _ (by omega)).trans h.r, h.below.trans (hb.mono (by omega)), Nat.le_trans h.size hb.size⟩
theorem TrM.step {w1 : World} {va : Value} {A B : World} (h : TrM w1 va 0 A) (hb : Below (w1.heap.size + 3) A B) : ∃ w6, (Instr.mapUpdate 99 (.map (some (w1.heap.size + 1))) (.int .i64 1) (.bool true)).run Tryd.prog B = .ok () w6 ∧ TrM w1 va 1 w6 := by
  have hB := h.keep hb
  obtain ⟨w6, hrun, hm, hg⟩ := hB.m.step (w5 := B) rfl
  have hgs := hg.size
  have hsz := hB.size
  refine ⟨w6, hrun, hm, (hg.block _ (by omega) (by simp)).trans hB.a, (hg.block _ (by omega) (by simp)).trans hB.r, ?_, by omega⟩
  exact hB.below.trans ⟨hg.os, hg.tape, hg.output, hgs, fun k hk => hg.block k (by omega) (by simp; omega)⟩

/-- The variables of Trim's second loop: next, live, out. -/
structure TrI (s : Nat) (wr : World) (vl : Value) (nx : Int) (lv : Bool) (vo : Value) (ou : List Int) (W : World) : Prop where
  nxt : Boxed W s 3 (.int .i64 nx)
  liv : Boxed W (s + 1) 4 (.bool lv)
  out : Boxed W (s + 2) 22 vo
  bx : Boxed W (s + 3) 42 vl
  own : OwnZ W (s + 6) vo ou
  below : Below s wr W
  size : s + 6 ≤ W.heap.size
theorem TrI.keep {s : Nat} {wr : World} {vl : Value} {nx : Int} {lv : Bool} {vo : Value} {ou : List Int} {A B : World} (h : TrI s wr vl nx lv vo ou A) (hb : ∀ k, k < A.heap.size → (k < s + 4 ∨ s + 6 ≤ k) → B.heap[k]? = A.heap[k]?) (ho : B.os = A.os ∧ B.tape = A.tape ∧ B.output = A.output) (hs : A.heap.size ≤ B.heap.size) : TrI s wr vl nx lv vo ou B := by
  have hsz := h.size
  exact ⟨(hb _ (by omega) (.inl (by omega))).trans h.nxt, (hb _ (by omega) (.inl (by omega))).trans h.liv, (hb _ (by omega) (.inl (by omega))).trans h.out, (hb _ (by omega) (.inl (by omega))).trans h.bx,
    row_carry h.own (fun k hk => hb k (OwnZ.lt h.own hk).2 (.inr (OwnZ.lt h.own hk).1)),
    ⟨ho.1.trans h.below.os, ho.2.1.trans h.below.tape, ho.2.2.trans h.below.output, Nat.le_trans h.below.size hs, fun k hk => (hb k (by omega) (.inl (by omega))).trans (h.below.block k hk)⟩, Nat.le_trans h.size hs⟩
theorem TrI.put {s : Nat} {wr : World} {vl : Value} {nx : Int} {lv : Bool} {vo : Value} {ou : List Int} {A : World} (h : TrI s wr vl nx lv vo ou A) (o : _root_.Go.Obj) : TrI s wr vl nx lv vo ou (A.putObj (s + 5) o) :=
  h.keep (fun k _ hk => World.putObj_heap_other (by omega)) (putObj_parts _ _ _) (by rw [World.putObj_size]; exact Nat.le_refl _)
theorem TrI.set {s : Nat} {wr : World} {vl : Value} {nx : Int} {lv : Bool} {vo : Value} {ou : List Int} {A : World} (h : TrI s wr vl nx lv vo ou A) (nx' : Int) (lv' : Bool) :
    TrI s wr vl nx' lv' vo ou ((A.setCell ⟨s + 1, 0, none⟩ (.bool lv')).setCell ⟨s, 0, none⟩ (.int .i64 nx')) ∧ ∀ k, k ≠ s → k ≠ s + 1 → ((A.setCell ⟨s + 1, 0, none⟩ (.bool lv')).setCell ⟨s, 0, none⟩ (.int .i64 nx')).heap[k]? = A.heap[k]? := by
  have ho : ∀ k, k ≠ s → k ≠ s + 1 → ((A.setCell ⟨s + 1, 0, none⟩ (.bool lv')).setCell ⟨s, 0, none⟩ (.int .i64 nx')).heap[k]? = A.heap[k]? := fun k h1 h2 => by
    rw [Below.heap_setCell _ _ _ _ h1, Below.heap_setCell _ _ _ _ h2]
  have e1 := Joins.block_setCell (show A.heap[s + 1]? = some (.cells #[.bool lv] 4 (0, 0)) from h.liv) (i := 0) (.bool lv')
  simp only [List.setIfInBounds_toArray, List.set_cons_zero] at e1
  have e0' : (A.setCell ⟨s + 1, 0, none⟩ (.bool lv')).heap[s]? = some (.cells #[.int .i64 nx] 3 (0, 0)) := by
    rw [Below.heap_setCell _ _ _ _ (show s ≠ s + 1 by omega)]; exact h.nxt
  have e0 := Joins.block_setCell e0' (i := 0) (.int .i64 nx')
  simp only [List.setIfInBounds_toArray, List.set_cons_zero] at e0
  have hb0 := ((Below.refl 0 A).setCell (p := ⟨s + 1, 0, none⟩) (Nat.zero_le _) (.bool lv')).setCell (p := ⟨s, 0, none⟩) (Nat.zero_le _) (.int .i64 nx')
  have hb := (h.below.setCell (p := ⟨s + 1, 0, none⟩) (by simp) (.bool lv')).setCell (p := ⟨s, 0, none⟩) (Nat.le_refl _) (.int .i64 nx')
  have hsz := hb0.size
  have := h.size
  refine ⟨⟨e0, ?_, (ho _ (by omega) (by omega)).trans h.out, (ho _ (by omega) (by omega)).trans h.bx, row_carry h.own (fun k hk => ho k (by have := (OwnZ.lt h.own hk).1; omega) (by have := (OwnZ.lt h.own hk).1; omega)), hb, by omega⟩, ho⟩
  unfold Boxed
  rw [Below.heap_setCell _ _ _ _ (show s + 1 ≠ s by omega)]; exact e1
theorem TrI.setOut {s : Nat} {wr : World} {vl : Value} {nx : Int} {lv : Bool} {vo vo' : Value} {ou ou' : List Int} {A W : World} (h : TrI s wr vl nx lv vo ou A) (ho : OwnZ W (s + 6) vo' ou') (g : A.grownBy W vo.ownBlock) :
    TrI s wr vl nx lv vo' ou' (W.setCell ⟨s + 2, 0, none⟩ vo') ∧ ∀ k, k < A.heap.size → k ≠ s + 2 → some k ≠ vo.ownBlock → (W.setCell ⟨s + 2, 0, none⟩ vo').heap[k]? = A.heap[k]? := by
  have hsz := h.size
  have hgs := g.size
  have hl : ∀ k, k < s + 6 → W.heap[k]? = A.heap[k]? := fun k hk => g.block k (by omega) (fun e => by have := (OwnZ.lt h.own e.symm).1; omega)
  have hk2 : ∀ k, k ≠ s + 2 → (W.setCell ⟨s + 2, 0, none⟩ vo').heap[k]? = W.heap[k]? := fun k hk => Below.heap_setCell _ _ _ _ hk
  have e1 := Joins.block_setCell (show W.heap[s + 2]? = some (.cells #[vo] 22 (0, 0)) from (hl _ (by omega)).trans h.out) (i := 0) vo'
  simp only [List.setIfInBounds_toArray, List.set_cons_zero] at e1
  have hB : Below s wr W := ⟨g.os.trans h.below.os, g.tape.trans h.below.tape, g.output.trans h.below.output, by have := h.below.size; omega, fun k hk => (hl k (by omega)).trans (h.below.block k hk)⟩
  have hb0 := (Below.refl 0 W).setCell (p := ⟨s + 2, 0, none⟩) (Nat.zero_le _) vo'
  have hsz' := hb0.size
  refine ⟨⟨(hk2 _ (by omega)).trans ((hl _ (by omega)).trans h.nxt), (hk2 _ (by omega)).trans ((hl _ (by omega)).trans h.liv), e1, (hk2 _ (by omega)).trans ((hl _ (by omega)).trans h.bx), row_carry ho (fun k hk => hk2 k (by have := (OwnZ.lt ho hk).1; omega)),
    hB.setCell (p := ⟨s + 2, 0, none⟩) (by simp) vo', by omega⟩, fun k hk h2 hn => (hk2 k h2).trans (g.block k hk hn)⟩
def nxF (b : Bool) (q p : Int) (k : Nat) : Int := if b then (if k = 0 then 0 else if k = 1 then p else q) else 0
def lvF (b : Bool) (k : Nat) : Bool := b && k == 1
def ouF (b : Bool) (q p : Int) (k : Nat) : List Int := if b then [] else [p, q].take k
def TrP (b : Bool) (q p : Int) (s : Nat) (wr : World) (vl : Value) (pre : List (Nat × Stp)) (W : World) : Prop := ∃ vo, TrI s wr vl (nxF b q p pre.length) (lvF b pre.length) vo (ouF b q p pre.length) W

end Go.Proofs.YtcngblnkfiggjaaDoor.Rm
