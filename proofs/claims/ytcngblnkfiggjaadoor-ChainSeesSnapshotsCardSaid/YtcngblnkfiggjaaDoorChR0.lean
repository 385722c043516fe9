/- Contract of At of package chain, over a chain that is read. -/
import Derived.Test.YtcngblnkfiggjaaDoorChK
import Derived.WalkMore
namespace Go.Proofs.YtcngblnkfiggjaaDoor.Rm
open Go Go.RowKit Go.Maps Go.Shelf

/-- A step in a box. -/
def box7 (p : Int) (c : Cl) (v : Value) : _root_.Go.Obj := .cells #[.int .i64 p, .int .i64 c.t, .int .i64 c.r, .int .i64 c.s, .bool c.d, .int .i64 c.p, v] 73
theorem box7_cells {w : World} {B : Nat} {p : Int} {c : Cl} {v : Value} (h : w.heap[B]? = some (box7 p c v)) : (w.cell? ⟨B, 0, none⟩ = some (.int .i64 p) ∧ w.cell? ⟨B, 1, none⟩ = some (.int .i64 c.t) ∧ w.cell? ⟨B, 2, none⟩ = some (.int .i64 c.r) ∧ w.cell? ⟨B, 3, none⟩ = some (.int .i64 c.s) ∧ w.cell? ⟨B, 4, none⟩ = some (.bool c.d) ∧ w.cell? ⟨B, 5, none⟩ = some (.int .i64 c.p) ∧ w.cell? ⟨B, 6, none⟩ = some v) ∧ (∀ i, w.frozen? ⟨B, i, none⟩ = false) ∧ B < w.heap.size := by
  refine ⟨?_, fun i => Joins.unfrozen_of_block h i, (Array.getElem?_eq_some_iff.1 h).1⟩
  unfold box7 at h
  simp [World.cell?, h]
abbrev set7 (w : World) (B : Nat) (x0 x1 x2 x3 x4 x5 x6 : Value) : World :=
  ((((((w.setCell ⟨B, 0, none⟩ x0).setCell ⟨B, 1, none⟩ x1).setCell ⟨B, 2, none⟩ x2).setCell ⟨B, 3, none⟩ x3).setCell ⟨B, 4, none⟩ x4).setCell ⟨B, 5, none⟩ x5).setCell ⟨B, 6, none⟩ x6
theorem put7 (w : World) (B : Nat) (t : TypeId) (a0 a1 a2 a3 a4 a5 a6 x0 x1 x2 x3 x4 x5 x6 : Value) (h : w.heap[B]? = some (.cells #[a0, a1, a2, a3, a4, a5, a6] t (0, 0))) :
    (set7 w B x0 x1 x2 x3 x4 x5 x6).heap[B]? = some (.cells #[x0, x1, x2, x3, x4, x5, x6] t (0, 0)) := by
  have h0 := Joins.block_setCell h (i := 0) x0
  have h1 := Joins.block_setCell h0 (i := 1) x1
  have h2 := Joins.block_setCell h1 (i := 2) x2
  have h3 := Joins.block_setCell h2 (i := 3) x3
  have h4 := Joins.block_setCell h3 (i := 4) x4
  have h5 := Joins.block_setCell h4 (i := 5) x5
  have h6 := Joins.block_setCell h5 (i := 6) x6
  simpa using h6
theorem put7_below {w0 : World} {n : Nat} (w : World) (B : Nat) (x0 x1 x2 x3 x4 x5 x6 : Value) (h : Below n w0 w) (hB : n ≤ B) : Below n w0 (set7 w B x0 x1 x2 x3 x4 x5 x6) :=
  ((((((h.setCell (p := ⟨B, 0, none⟩) hB x0).setCell (p := ⟨B, 1, none⟩) hB x1).setCell (p := ⟨B, 2, none⟩) hB x2).setCell (p := ⟨B, 3, none⟩) hB x3).setCell (p := ⟨B, 4, none⟩) hB x4).setCell (p := ⟨B, 5, none⟩) hB x5).setCell (p := ⟨B, 6, none⟩) hB x6
theorem put7_other (w : World) (B : Nat) (x0 x1 x2 x3 x4 x5 x6 : Value) {k : Nat} (hk : k ≠ B) : (set7 w B x0 x1 x2 x3 x4 x5 x6).heap[k]? = w.heap[k]? := by
  rw [Below.heap_setCell _ _ _ _ hk, Below.heap_setCell _ _ _ _ hk, Below.heap_setCell _ _ _ _ hk, Below.heap_setCell _ _ _ _ hk, Below.heap_setCell _ _ _ _ hk, Below.heap_setCell _ _ _ _ hk, Below.heap_setCell _ _ _ _ hk]
/-- What At holds between two rounds. -/
structure AtI (w : World) (snap : Int) (f : _root_.Go.Obj) (W : World) : Prop where
  b0 : Boxed W w.heap.size 3 (.int .i64 snap)
  b1 : W.heap[w.heap.size + 1]? = some zero6
  b2 : Boxed W (w.heap.size + 2) 3 (.int .i64 0)
  b3 : Boxed W (w.heap.size + 3) 27 (.int .i64 0)
  b4 : W.heap[w.heap.size + 4]? = some f
  below : Below w.heap.size w W
  size : w.heap.size + 9 ≤ W.heap.size
theorem AtI.keep {w : World} {snap : Int} {f : _root_.Go.Obj} {A B : World} (h : AtI w snap f A) (hb : ∀ k, k < w.heap.size + 5 → B.heap[k]? = A.heap[k]?) (ho : B.os = A.os ∧ B.tape = A.tape ∧ B.output = A.output) (hs : A.heap.size ≤ B.heap.size) : AtI w snap f B :=
  ⟨(hb _ (by omega)).trans h.b0, (hb _ (by omega)).trans h.b1, (hb _ (by omega)).trans h.b2, (hb _ (by omega)).trans h.b3, (hb _ (by omega)).trans h.b4,
    ⟨ho.1.trans h.below.os, ho.2.1.trans h.below.tape, ho.2.2.trans h.below.output, Nat.le_trans h.below.size hs, fun k hk => (hb k (by omega)).trans (h.below.block k hk)⟩, Nat.le_trans h.size hs⟩
theorem AtI.step {w : World} {snap : Int} {f : _root_.Go.Obj} {A B : World} (h : AtI w snap f A) (hs : StepW (w.heap.size + 6) (w.heap.size + 9) A B) : AtI w snap f B :=
  h.keep (fun k hk => hs.block k (by have := h.size; omega) (by unfold ownW; omega)) ⟨hs.os, hs.tape, hs.output⟩ hs.size
theorem putObj_parts (A : World) (l : Nat) (o : _root_.Go.Obj) : (A.putObj l o).os = A.os ∧ (A.putObj l o).tape = A.tape ∧ (A.putObj l o).output = A.output := ⟨rfl, rfl, rfl⟩
theorem AtI.put {w : World} {snap : Int} {f : _root_.Go.Obj} {A : World} (h : AtI w snap f A) (o : _root_.Go.Obj) : AtI w snap f (A.putObj (w.heap.size + 8) o) :=
  h.keep (fun k hk => World.putObj_heap_other (by omega)) (putObj_parts _ _ _) (by rw [World.putObj_size]; exact Nat.le_refl _)

/-- The object of At after a step is found. -/
theorem AtI.found {w : World} {snap : Int} {p : Int} {cl : Cl} {v : Value} {A : World} (h : AtI w snap (box7 0 Cl.zero (.slice none 0 0)) A) : AtI w snap (box7 p cl v) (set7 A (w.heap.size + 4) (.int .i64 p) (.int .i64 cl.t) (.int .i64 cl.r) (.int .i64 cl.s) (.bool cl.d) (.int .i64 cl.p) v) := by
  have hb := put7_below A (w.heap.size + 4) (.int .i64 p) (.int .i64 cl.t) (.int .i64 cl.r) (.int .i64 cl.s) (.bool cl.d) (.int .i64 cl.p) v h.below (by omega)
  have hb0 := (put7_below A (w.heap.size + 4) (.int .i64 p) (.int .i64 cl.t) (.int .i64 cl.r) (.int .i64 cl.s) (.bool cl.d) (.int .i64 cl.p) v (Below.refl 0 A) (by omega)).size
  exact ⟨(put7_other _ _ _ _ _ _ _ _ _ (by omega)).trans h.b0, (put7_other _ _ _ _ _ _ _ _ _ (by omega)).trans h.b1, (put7_other _ _ _ _ _ _ _ _ _ (by omega)).trans h.b2, (put7_other _ _ _ _ _ _ _ _ _ (by omega)).trans h.b3, put7 _ _ 73 _ _ _ _ _ _ _ _ _ _ _ _ _ _ h.b4, hb, Nat.le_trans h.size hb0⟩
/-- How At ends: the three results are stored. -/
def fin8 (b : Nat) (W : World) (p : Int) (cl : Cl) (v : Value) : World :=
  (((set6 W (b + 1) (.int .i64 cl.t) (.int .i64 cl.r) (.int .i64 cl.s) (.bool cl.d) (.int .i64 cl.p) v).setCell ⟨b + 2, 0, none⟩ (.int .i64 p)).setCell ⟨b + 3, 0, none⟩ (.int .i64 0)).drew
theorem AtI.fin {w : World} {snap : Int} {f : _root_.Go.Obj} {A : World} (h : AtI w snap f A) (p : Int) (cl : Cl) (v : Value) :
    (fin8 w.heap.size A p cl v).heap[w.heap.size + 1]? = some (boxC cl v) ∧ Boxed (fin8 w.heap.size A p cl v) (w.heap.size + 2) 3 (.int .i64 p) ∧ Boxed (fin8 w.heap.size A p cl v) (w.heap.size + 3) 27 (.int .i64 0) ∧ (∀ k, w.heap.size + 4 ≤ k → (fin8 w.heap.size A p cl v).heap[k]? = A.heap[k]?) ∧ Below w.heap.size w (fin8 w.heap.size A p cl v) := by
  have e1 := put6 A (w.heap.size + 1) 24 _ _ _ _ _ _ (.int .i64 cl.t) (.int .i64 cl.r) (.int .i64 cl.s) (.bool cl.d) (.int .i64 cl.p) v h.b1
  have e2 : (set6 A (w.heap.size + 1) (.int .i64 cl.t) (.int .i64 cl.r) (.int .i64 cl.s) (.bool cl.d) (.int .i64 cl.p) v).heap[w.heap.size + 2]? = some (.cells #[.int .i64 0] 3 (0, 0)) := (put6_other _ _ _ _ _ _ _ _ (by omega)).trans h.b2
  have e3 := Joins.block_setCell e2 (i := 0) (.int .i64 p)
  simp only [List.setIfInBounds_toArray, List.set_cons_zero] at e3
  have e4 : ((set6 A (w.heap.size + 1) (.int .i64 cl.t) (.int .i64 cl.r) (.int .i64 cl.s) (.bool cl.d) (.int .i64 cl.p) v).setCell ⟨w.heap.size + 2, 0, none⟩ (.int .i64 p)).heap[w.heap.size + 3]? = some (.cells #[.int .i64 0] 27 (0, 0)) := by
    rw [Below.heap_setCell _ _ _ _ (show w.heap.size + 3 ≠ w.heap.size + 2 by omega), put6_other _ _ _ _ _ _ _ _ (by omega)]; exact h.b3
  have e5 := Joins.block_setCell e4 (i := 0) (.int .i64 0)
  simp only [List.setIfInBounds_toArray, List.set_cons_zero] at e5
  unfold fin8 Boxed
  refine ⟨?_, ?_, ?_, fun k hk => ?_, ?_⟩
  · rw [drew_heap, Below.heap_setCell _ _ _ _ (show w.heap.size + 1 ≠ w.heap.size + 3 by omega), Below.heap_setCell _ _ _ _ (show w.heap.size + 1 ≠ w.heap.size + 2 by omega)]; exact e1
  · rw [drew_heap, Below.heap_setCell _ _ _ _ (show w.heap.size + 2 ≠ w.heap.size + 3 by omega)]; exact e3
  · rw [drew_heap]; exact e5
  · rw [drew_heap, Below.heap_setCell _ _ _ _ (by show k ≠ w.heap.size + 3; omega), Below.heap_setCell _ _ _ _ (by show k ≠ w.heap.size + 2; omega), put6_other _ _ _ _ _ _ _ _ (by omega)]
  · exact (((put6_below A (w.heap.size + 1) (.int .i64 cl.t) (.int .i64 cl.r) (.int .i64 cl.s) (.bool cl.d) (.int .i64 cl.p) v h.below (by omega)).setCell (p := ⟨w.heap.size + 2, 0, none⟩) (by simp) (.int .i64 p)).setCell (p := ⟨w.heap.size + 3, 0, none⟩) (by simp) (.int .i64 0)).drew
/-- What a snapshot sees of a chain: the pointer and the cell. -/
def seenK (its : List It) (snap : Int) : Int × Cl :=
  match (its.map keyI).find? (fun x => decide (x.2.s ≤ snap)) with
  | some x => x
  | none => (0, Cl.zero)


end Go.Proofs.YtcngblnkfiggjaaDoor.Rm
