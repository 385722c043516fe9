/- Inside a round of All of package chain: what holds while the two rows grow. -/
import Derived.Test.YtcngblnkfiggjaaDoorChX0
import Derived.Test.YtcngblnkfiggjaaDoorChX1
namespace Go.Proofs.YtcngblnkfiggjaaDoor.Rm
open Go Go.RowKit Go.Maps Go.Shelf

/-- Inside a round of All: u3, u4: what the two variables hold; vl, va: the two rows. -/
structure MidP (w A0 A : World) (r' : Loop) (o7 : _root_.Go.Obj) (all pl : List Stp) (pa : List Int) (u3 u4 vl va : Value) (tag : Nat → Nat) (W : World) : Prop where
  b0 : Boxed W w.heap.size 42 (.slice none 0 0)
  b1 : Boxed W (w.heap.size + 1) 22 (.slice none 0 0)
  b2 : Boxed W (w.heap.size + 2) 27 (.int .i64 0)
  b3 : Boxed W (w.heap.size + 3) 42 u3
  b4 : Boxed W (w.heap.size + 4) 22 u4
  rl : W.ownsRow (w.heap.size + 10) 24 6 vl pl.length (rowC pl)
  ra : OwnZ W (w.heap.size + 10) va pa
  rx : ∀ x ∈ all, OwnZ W (w.heap.size + 10) x.v x.cl.ws
  t0 : tag A.heap.size = 0
  t1 : ∀ k, vl.ownBlock = some k → tag k = 1
  t2 : ∀ k, va.ownBlock = some k → tag k = 2
  t3 : ∀ x ∈ all, ∀ k, x.v.ownBlock = some k → tag k = 3
  fl : ∀ k, vl.ownBlock = some k → k < A0.heap.size ∨ A.heap.size ≤ k
  fa : ∀ k, va.ownBlock = some k → k < A0.heap.size ∨ A.heap.size ≤ k
  bd : W.heap[w.heap.size + 7]? = some (.deferred (some []))
  bl : W.heap[w.heap.size + 7 + 1]? = some (.loop r')
  bx : W.heap[A.heap.size]? = some o7
  below : Below w.heap.size w W
  kp : ∀ k, k < A.heap.size → k ≠ w.heap.size + 8 → (k < w.heap.size ∨ k = w.heap.size + 6 ∨ k = w.heap.size + 5 ∨ k = w.heap.size + 9 ∨ A0.heap.size ≤ k) → W.heap[k]? = A.heap[k]?
  os : W.os = A.os ∧ W.tape = A.tape ∧ W.output = A.output
  size : A.heap.size + 1 ≤ W.heap.size
  n0 : w.heap.size + 10 ≤ A0.heap.size ∧ A0.heap.size ≤ A.heap.size
section
variable {w A0 A : World} {r' : Loop} {o7 : _root_.Go.Obj} {all pl : List Stp} {pa : List Int} {u3 u4 vl va : Value} {tag : Nat → Nat} {W : World}
theorem MidP.drew (h : MidP w A0 A r' o7 all pl pa u3 u4 vl va tag W) : MidP w A0 A r' o7 all pl pa u3 u4 vl va tag W.drew :=
  ⟨h.b0, h.b1, h.b2, h.b3, h.b4, h.rl, h.ra, h.rx, h.t0, h.t1, h.t2, h.t3, h.fl, h.fa, h.bd, h.bl, h.bx, h.below.drew, h.kp, h.os, h.size, h.n0⟩
theorem MidP.alloc (h : MidP w A0 A r' o7 all pl pa u3 u4 vl va tag W) (o : _root_.Go.Obj) :
    ∃ tag', MidP w A0 A r' o7 all pl pa u3 u4 vl va tag' (W.alloc o) ∧ tag' W.heap.size = 4 ∧ (∀ k, k < W.heap.size → tag' k = tag k) := by
  have hsz := h.size
  have hn := h.n0
  obtain ⟨tg, htg⟩ : ∃ tg : Nat → Nat, ∀ k, tg k = if k = W.heap.size then 4 else tag k := ⟨_, fun _ => rfl⟩
  have hlt : ∀ k, k < W.heap.size → tg k = tag k := fun k hk => by rw [htg, if_neg (by omega)]
  have hb : ∀ k, k < W.heap.size → (W.alloc o).heap[k]? = W.heap[k]? := fun k hk => Below.heap_alloc _ _ _ hk
  refine ⟨tg, ⟨(hb _ (by omega)).trans h.b0, (hb _ (by omega)).trans h.b1, (hb _ (by omega)).trans h.b2, (hb _ (by omega)).trans h.b3, (hb _ (by omega)).trans h.b4,
    h.rl.alloc o, World.ownsRow.alloc h.ra o, fun x hx => World.ownsRow.alloc (h.rx x hx) o, (hlt _ (by omega)).trans h.t0, fun k hk => (hlt k (h.rl.lt k hk).2).trans (h.t1 k hk), fun k hk => (hlt k (OwnZ.lt h.ra hk).2).trans (h.t2 k hk),
    fun x hx k hk => (hlt k (OwnZ.lt (h.rx x hx) hk).2).trans (h.t3 x hx k hk), h.fl, h.fa, (hb _ (by omega)).trans h.bd, (hb _ (by omega)).trans h.bl, (hb _ (by omega)).trans h.bx, h.below.alloc h.below.size o,
    fun k hk h8 hc => (hb k (by omega)).trans (h.kp k hk h8 hc), h.os, by simp; omega, h.n0⟩, by rw [htg, if_pos rfl], hlt⟩
theorem MidP.appL (h : MidP w A0 A r' o7 all pl pa u3 u4 vl va tag W) {W' : World} {v' : Value} {y : Stp} (ho : W'.ownsRow (w.heap.size + 10) 24 6 v' (pl.length + 1) (rowC pl ++ rowC [y])) (g : W.grownBy W' vl.ownBlock) (hv : v'.ownBlock = vl.ownBlock ∨ v'.ownBlock = some W.heap.size) :
    ∃ tag', MidP w A0 A r' o7 all (pl ++ [y]) pa u3 u4 v' va tag' W' ∧ (∀ k, k < W.heap.size → tag' k = tag k) ∧ (∀ k, k < W.heap.size → tag k ≠ 1 → W'.heap[k]? = W.heap[k]?) := by
  have hsz := h.size
  have hn := h.n0
  have hgs := g.size
  obtain ⟨tg, htg⟩ : ∃ tg : Nat → Nat, ∀ k, tg k = if k = W.heap.size then 1 else tag k := ⟨_, fun _ => rfl⟩
  have hlt : ∀ k, k < W.heap.size → tg k = tag k := fun k hk => by rw [htg, if_neg (by omega)]
  have hb : ∀ k, k < W.heap.size → tag k ≠ 1 → W'.heap[k]? = W.heap[k]? := fun k hk ht => g.block k hk (fun e => ht (h.t1 k e.symm))
  have hl : ∀ k, k < w.heap.size + 10 → W'.heap[k]? = W.heap[k]? := fun k hk => g.block k (by omega) (fun e => by have := (h.rl.lt k e.symm).1; omega)
  refine ⟨tg, ⟨(hl _ (by omega)).trans h.b0, (hl _ (by omega)).trans h.b1, (hl _ (by omega)).trans h.b2, (hl _ (by omega)).trans h.b3, (hl _ (by omega)).trans h.b4,
    ?_, row_carry h.ra (fun k hk => hb k (OwnZ.lt h.ra hk).2 (by rw [h.t2 k hk]; decide)), fun x hx => row_carry (h.rx x hx) (fun k hk => hb k (OwnZ.lt (h.rx x hx) hk).2 (by rw [h.t3 x hx k hk]; decide)),
    (hlt _ (by omega)).trans h.t0, fun k hk => ?_, fun k hk => (hlt k (OwnZ.lt h.ra hk).2).trans (h.t2 k hk), fun x hx k hk => (hlt k (OwnZ.lt (h.rx x hx) hk).2).trans (h.t3 x hx k hk), fun k hk => ?_, h.fa,
    (hl _ (by omega)).trans h.bd, (hl _ (by omega)).trans h.bl, (hb _ (by omega) (by rw [h.t0]; decide)).trans h.bx, ⟨g.os.trans h.below.os, g.tape.trans h.below.tape, g.output.trans h.below.output, by omega, fun k hk => (hl k (by omega)).trans (h.below.block k hk)⟩,
    fun k hk h8 hc => (g.block k (by omega) (fun e => ?_)).trans (h.kp k hk h8 hc), ⟨g.os.trans h.os.1, g.tape.trans h.os.2.1, g.output.trans h.os.2.2⟩, by omega, h.n0⟩, hlt, hb⟩
  · rw [rowC_append, List.length_append, List.length_singleton]; exact ho
  · rcases hv with e | e
    · rw [e] at hk
      rw [hlt k (h.rl.lt k hk).2]; exact h.t1 k hk
    · rw [e, Option.some.injEq] at hk
      rw [htg, if_pos hk.symm]
  · rcases hv with e | e
    · rw [e] at hk; exact h.fl k hk
    · rw [e, Option.some.injEq] at hk
      omega
  · have h1 := h.fl k e.symm
    have h2 := (h.rl.lt k e.symm).1
    omega
theorem MidP.appA (h : MidP w A0 A r' o7 all pl pa u3 u4 vl va tag W) {W' : World} {v' : Value} {y : Int} (ho : W'.ownsRow (w.heap.size + 10) 3 1 v' (pa.length + 1) (ints pa ++ [.int .i64 y])) (g : W.grownBy W' va.ownBlock) (hv : v'.ownBlock = va.ownBlock ∨ v'.ownBlock = some W.heap.size) :
    ∃ tag', MidP w A0 A r' o7 all pl (pa ++ [y]) u3 u4 vl v' tag' W' ∧ (∀ k, k < W.heap.size → tag' k = tag k) ∧ (∀ k, k < W.heap.size → tag k ≠ 2 → W'.heap[k]? = W.heap[k]?) := by
  have hsz := h.size
  have hn := h.n0
  have hgs := g.size
  obtain ⟨tg, htg⟩ : ∃ tg : Nat → Nat, ∀ k, tg k = if k = W.heap.size then 2 else tag k := ⟨_, fun _ => rfl⟩
  have hlt : ∀ k, k < W.heap.size → tg k = tag k := fun k hk => by rw [htg, if_neg (by omega)]
  have hb : ∀ k, k < W.heap.size → tag k ≠ 2 → W'.heap[k]? = W.heap[k]? := fun k hk ht => g.block k hk (fun e => ht (h.t2 k e.symm))
  have hl : ∀ k, k < w.heap.size + 10 → W'.heap[k]? = W.heap[k]? := fun k hk => g.block k (by omega) (fun e => by have := (OwnZ.lt h.ra e.symm).1; omega)
  refine ⟨tg, ⟨(hl _ (by omega)).trans h.b0, (hl _ (by omega)).trans h.b1, (hl _ (by omega)).trans h.b2, (hl _ (by omega)).trans h.b3, (hl _ (by omega)).trans h.b4,
    row_carry h.rl (fun k hk => hb k (h.rl.lt k hk).2 (by rw [h.t1 k hk]; decide)), ?_, fun x hx => row_carry (h.rx x hx) (fun k hk => hb k (OwnZ.lt (h.rx x hx) hk).2 (by rw [h.t3 x hx k hk]; decide)),
    (hlt _ (by omega)).trans h.t0, fun k hk => (hlt k (h.rl.lt k hk).2).trans (h.t1 k hk), fun k hk => ?_, fun x hx k hk => (hlt k (OwnZ.lt (h.rx x hx) hk).2).trans (h.t3 x hx k hk), h.fl, fun k hk => ?_,
    (hl _ (by omega)).trans h.bd, (hl _ (by omega)).trans h.bl, (hb _ (by omega) (by rw [h.t0]; decide)).trans h.bx, ⟨g.os.trans h.below.os, g.tape.trans h.below.tape, g.output.trans h.below.output, by omega, fun k hk => (hl k (by omega)).trans (h.below.block k hk)⟩,
    fun k hk h8 hc => (g.block k (by omega) (fun e => ?_)).trans (h.kp k hk h8 hc), ⟨g.os.trans h.os.1, g.tape.trans h.os.2.1, g.output.trans h.os.2.2⟩, by omega, h.n0⟩, hlt, hb⟩
  · unfold OwnZ
    rw [List.length_append, List.length_singleton]
    have : ints (pa ++ [y]) = ints pa ++ [.int .i64 y] := by simp [ints]
    rw [this]; exact ho
  · rcases hv with e | e
    · rw [e] at hk
      rw [hlt k (OwnZ.lt h.ra hk).2]; exact h.t2 k hk
    · rw [e, Option.some.injEq] at hk
      rw [htg, if_pos hk.symm]
  · rcases hv with e | e
    · rw [e] at hk; exact h.fa k hk
    · rw [e, Option.some.injEq] at hk
      omega
  · have h1 := h.fa k e.symm
    have h2 := (OwnZ.lt h.ra e.symm).1
    omega
theorem MidP.cells {xp : Int} {xcl : Cl} {xv : Value} (h : MidP w A0 A r' (box7 xp xcl xv) all pl pa u3 u4 vl va tag W) : W.cell? ⟨w.heap.size + 3, 0, none⟩ = some u3 ∧ W.cell? ⟨w.heap.size + 4, 0, none⟩ = some u4 ∧ W.cell? ⟨A.heap.size, 0, none⟩ = some (.int .i64 xp) ∧ W.cell? ⟨A.heap.size, 1, none⟩ = some (.int .i64 xcl.t) ∧ W.cell? ⟨A.heap.size, 2, none⟩ = some (.int .i64 xcl.r) ∧ W.cell? ⟨A.heap.size, 3, none⟩ = some (.int .i64 xcl.s) ∧ W.cell? ⟨A.heap.size, 4, none⟩ = some (.bool xcl.d) ∧ W.cell? ⟨A.heap.size, 5, none⟩ = some (.int .i64 xcl.p) ∧ W.cell? ⟨A.heap.size, 6, none⟩ = some xv :=
  ⟨h.b3.cell, h.b4.cell, (box7_cells h.bx).1⟩
end
theorem MidP.fin {w A0 A : World} {r' : Loop} {o7 : _root_.Go.Obj} {all : List Stp} {u3 u4 vl va : Value} {tag : Nat → Nat} {W : World} {pa : List Int} (h : MidP w A0 A r' o7 all all pa u3 u4 vl va tag W) (hpa : pa = all.map Stp.p) :
    ((W.setCell ⟨w.heap.size + 3, 0, none⟩ vl).setCell ⟨w.heap.size + 4, 0, none⟩ va).heap[w.heap.size + 7]? = some (.deferred (some [])) ∧ ((W.setCell ⟨w.heap.size + 3, 0, none⟩ vl).setCell ⟨w.heap.size + 4, 0, none⟩ va).heap[w.heap.size + 7 + 1]? = some (.loop r') ∧
      AllP w all ((W.setCell ⟨w.heap.size + 3, 0, none⟩ vl).setCell ⟨w.heap.size + 4, 0, none⟩ va) ∧ ∀ r'', KpW w.heap.size (w.heap.size + 6) (w.heap.size + 5) (w.heap.size + 9) A0 A (((W.setCell ⟨w.heap.size + 3, 0, none⟩ vl).setCell ⟨w.heap.size + 4, 0, none⟩ va).putObj (w.heap.size + 7 + 1) (.loop r'')) := by
  subst hpa
  have hsz := h.size
  have hn := h.n0
  have hb0 := ((Below.refl 0 W).setCell (p := ⟨w.heap.size + 3, 0, none⟩) (Nat.zero_le _) vl).setCell (p := ⟨w.heap.size + 4, 0, none⟩) (Nat.zero_le _) va
  have hb := (h.below.setCell (p := ⟨w.heap.size + 3, 0, none⟩) (by simp) vl).setCell (p := ⟨w.heap.size + 4, 0, none⟩) (by simp) va
  have ho : ∀ k, k ≠ w.heap.size + 3 → k ≠ w.heap.size + 4 → ((W.setCell ⟨w.heap.size + 3, 0, none⟩ vl).setCell ⟨w.heap.size + 4, 0, none⟩ va).heap[k]? = W.heap[k]? := fun k h3 h4 => by
    rw [Below.heap_setCell _ _ _ _ h4, Below.heap_setCell _ _ _ _ h3]
  have e3 := Joins.block_setCell (show W.heap[w.heap.size + 3]? = some (.cells #[u3] 42 (0, 0)) from h.b3) (i := 0) vl
  simp only [List.setIfInBounds_toArray, List.set_cons_zero] at e3
  have e3' : Boxed ((W.setCell ⟨w.heap.size + 3, 0, none⟩ vl).setCell ⟨w.heap.size + 4, 0, none⟩ va) (w.heap.size + 3) 42 vl := by
    unfold Boxed
    rw [Below.heap_setCell _ _ _ _ (show w.heap.size + 3 ≠ w.heap.size + 4 by omega)]; exact e3
  have e4' : (W.setCell ⟨w.heap.size + 3, 0, none⟩ vl).heap[w.heap.size + 4]? = some (.cells #[u4] 22 (0, 0)) := by
    rw [Below.heap_setCell _ _ _ _ (show w.heap.size + 4 ≠ w.heap.size + 3 by omega)]; exact h.b4
  have e4 := Joins.block_setCell e4' (i := 0) va
  simp only [List.setIfInBounds_toArray, List.set_cons_zero] at e4
  have hsz' := hb0.size
  obtain ⟨B, hB⟩ : ∃ B, (W.setCell ⟨w.heap.size + 3, 0, none⟩ vl).setCell ⟨w.heap.size + 4, 0, none⟩ va = B := ⟨_, rfl⟩
  rw [hB] at hb0 hb ho e3' e4 hsz' ⊢
  refine ⟨(ho _ (by omega) (by omega)).trans h.bd, (ho _ (by omega) (by omega)).trans h.bl, ⟨vl, va, tag, (ho _ (by omega) (by omega)).trans h.b0, (ho _ (by omega) (by omega)).trans h.b1, (ho _ (by omega) (by omega)).trans h.b2, e3', e4,
    row_carry h.rl (fun k hk => ho k (by have := (h.rl.lt k hk).1; omega) (by have := (h.rl.lt k hk).1; omega)), row_carry h.ra (fun k hk => ho k (by have := (OwnZ.lt h.ra hk).1; omega) (by have := (OwnZ.lt h.ra hk).1; omega)),
    fun x hx => row_carry (h.rx x hx) (fun k hk => ho k (by have := (OwnZ.lt (h.rx x hx) hk).1; omega) (by have := (OwnZ.lt (h.rx x hx) hk).1; omega)), h.t1, h.t2, h.t3, hb, by omega⟩, fun r'' => ⟨?_, ?_, ?_, ?_, fun k hk hc => ?_⟩⟩
  · exact hb0.os.trans h.os.1
  · exact hb0.tape.trans h.os.2.1
  · exact hb0.output.trans h.os.2.2
  · rw [World.putObj_size]; omega
  · by_cases h8 : k = w.heap.size + 8
    · omega
    · exact (World.putObj_heap_other (by omega)).trans ((ho k (by omega) (by omega)).trans (h.kp k hk h8 hc))

theorem row_base {w : World} {a b : Nat} {e : TypeId} {sz : Nat} {v : Value} {n : Nat} {xs : List Value} (h : b ≤ a) (ho : w.ownsRow a e sz v n xs) : w.ownsRow b e sz v n xs := by
  obtain ⟨h1, h2⟩ := ho
  refine ⟨h1, ?_⟩
  rcases h2 with y | ⟨g, cp, cur, y1, y2, y3⟩
  · exact Or.inl y
  · exact Or.inr ⟨g, cp, cur, y1, Nat.le_trans h y2, y3⟩
/-- How All ends: the three results are stored. -/
def fin3 (b : Nat) (W : World) (vl va : Value) : World := (((W.setCell ⟨b, 0, none⟩ vl).setCell ⟨b + 1, 0, none⟩ va).setCell ⟨b + 2, 0, none⟩ (.int .i64 0)).drew
theorem AllI.fin {w : World} {pre : List Stp} {vl va : Value} {tag : Nat → Nat} {A : World} (h : AllI w pre vl va tag A) :
    Boxed (fin3 w.heap.size A vl va) w.heap.size 42 vl ∧ Boxed (fin3 w.heap.size A vl va) (w.heap.size + 1) 22 va ∧ Boxed (fin3 w.heap.size A vl va) (w.heap.size + 2) 27 (.int .i64 0) ∧ (∀ k, w.heap.size + 3 ≤ k → (fin3 w.heap.size A vl va).heap[k]? = A.heap[k]?) ∧ Below w.heap.size w (fin3 w.heap.size A vl va) := by
  have e1 := Joins.block_setCell (show A.heap[w.heap.size]? = some (.cells #[.slice none 0 0] 42 (0, 0)) from h.b0) (i := 0) vl
  simp only [List.setIfInBounds_toArray, List.set_cons_zero] at e1
  have e2' : (A.setCell ⟨w.heap.size, 0, none⟩ vl).heap[w.heap.size + 1]? = some (.cells #[.slice none 0 0] 22 (0, 0)) := by
    rw [Below.heap_setCell _ _ _ _ (show w.heap.size + 1 ≠ w.heap.size by omega)]; exact h.b1
  have e2 := Joins.block_setCell e2' (i := 0) va
  simp only [List.setIfInBounds_toArray, List.set_cons_zero] at e2
  have e3' : ((A.setCell ⟨w.heap.size, 0, none⟩ vl).setCell ⟨w.heap.size + 1, 0, none⟩ va).heap[w.heap.size + 2]? = some (.cells #[.int .i64 0] 27 (0, 0)) := by
    rw [Below.heap_setCell _ _ _ _ (show w.heap.size + 2 ≠ w.heap.size + 1 by omega), Below.heap_setCell _ _ _ _ (show w.heap.size + 2 ≠ w.heap.size by omega)]; exact h.b2
  have e3 := Joins.block_setCell e3' (i := 0) (.int .i64 0)
  simp only [List.setIfInBounds_toArray, List.set_cons_zero] at e3
  unfold fin3 Boxed
  refine ⟨?_, ?_, ?_, fun k hk => ?_, ?_⟩
  · rw [drew_heap, Below.heap_setCell _ _ _ _ (show w.heap.size ≠ w.heap.size + 2 by omega), Below.heap_setCell _ _ _ _ (show w.heap.size ≠ w.heap.size + 1 by omega)]; exact e1
  · rw [drew_heap, Below.heap_setCell _ _ _ _ (show w.heap.size + 1 ≠ w.heap.size + 2 by omega)]; exact e2
  · rw [drew_heap]; exact e3
  · rw [drew_heap, Below.heap_setCell _ _ _ _ (by show k ≠ w.heap.size + 2; omega), Below.heap_setCell _ _ _ _ (by show k ≠ w.heap.size + 1; omega), Below.heap_setCell _ _ _ _ (by show k ≠ w.heap.size; omega)]
  · exact (((h.below.setCell (p := ⟨w.heap.size, 0, none⟩) (by simp) vl).setCell (p := ⟨w.heap.size + 1, 0, none⟩) (by simp) va).setCell (p := ⟨w.heap.size + 2, 0, none⟩) (by simp) (.int .i64 0)).drew

/-- The beginning of a round. -/
theorem MidP.start {w A0 A Wb : World} {r' : Loop} {o7 : _root_.Go.Obj} {pre : List Stp} {x : Stp} {vl va : Value} {tag : Nat → Nat} (h0 : AllI w pre vl va tag A0) (h : AllI w pre vl va tag Wb) (hA : A0.heap.size ≤ A.heap.size) (hn : w.heap.size + 9 < A0.heap.size)
    (hx : OwnZ Wb A0.heap.size x.v x.cl.ws) (hxA : ∀ k, x.v.ownBlock = some k → k < A.heap.size) (hbd : Wb.heap[w.heap.size + 7]? = some (.deferred (some []))) (hbl : Wb.heap[w.heap.size + 7 + 1]? = some (.loop r')) (hbx : Wb.heap[A.heap.size]? = some o7)
    (hoth : ∀ k, k < A.heap.size → k ≠ w.heap.size + 8 → Wb.heap[k]? = A.heap[k]?) (hos : Wb.os = A.os ∧ Wb.tape = A.tape ∧ Wb.output = A.output) (hsz : Wb.heap.size = A.heap.size + 1) :
    ∃ tag', MidP w A0 A r' o7 (pre ++ [x]) pre (pre.map Stp.p) vl va vl va tag' Wb := by
  obtain ⟨tg, htg⟩ : ∃ tg : Nat → Nat, ∀ k, tg k = if x.v.ownBlock = some k then 3 else if k = A.heap.size then 0 else tag k := ⟨_, fun _ => rfl⟩
  have hold : ∀ k, k < A0.heap.size → tg k = tag k := fun k hk => by
    rw [htg, if_neg (fun e => by have := (OwnZ.lt hx e).1; omega), if_neg (by omega)]
  refine ⟨tg, h.b0, h.b1, h.b2, h.b3, h.b4, h.rl, h.ra, fun y hy => ?_, ?_, fun k hk => (hold k (h0.rl.lt k hk).2).trans (h.t1 k hk), fun k hk => (hold k (OwnZ.lt h0.ra hk).2).trans (h.t2 k hk), fun y hy k hk => ?_,
    fun k hk => .inl (h0.rl.lt k hk).2, fun k hk => .inl (OwnZ.lt h0.ra hk).2, hbd, hbl, hbx, h.below, fun k hk h8 _ => hoth k hk h8, hos, by omega, by omega, hA⟩
  · rcases List.mem_append.1 hy with h1 | h1
    · exact h.rx y h1
    · rw [List.mem_singleton] at h1
      subst h1
      exact OwnZ.base (by omega) hx
  · rw [htg, if_neg (fun e => by have := hxA _ e; omega), if_pos rfl]
  · rcases List.mem_append.1 hy with h1 | h1
    · exact (hold k (OwnZ.lt (h0.rx y h1) hk).2).trans (h.t3 y h1 k hk)
    · rw [List.mem_singleton] at h1
      subst h1
      rw [htg, if_pos hk]

end Go.Proofs.YtcngblnkfiggjaaDoor.Rm
