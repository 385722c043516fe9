/- Helpers for All of package chain: rows of cells. -/
import Derived.Test.YtcngblnkfiggjaaDoorChR0
namespace Go.Proofs.YtcngblnkfiggjaaDoor.Rm
open Go Go.RowKit Go.Maps Go.Shelf

/-- The cells of a row of cells. -/
def rowC (l : List Stp) : List Value := l.flatMap fun x => [.int .i64 x.cl.t, .int .i64 x.cl.r, .int .i64 x.cl.s, .bool x.cl.d, .int .i64 x.cl.p, x.v]
theorem rowC_append (a b : List Stp) : rowC (a ++ b) = rowC a ++ rowC b := by unfold rowC; exact List.flatMap_append
theorem rowC_length (l : List Stp) : (rowC l).length = l.length * 6 := by
  induction l with
  | nil => rfl
  | cons x r ih => unfold rowC at *; simp only [List.flatMap_cons, List.length_append, ih, List.length_cons, List.length_nil]; omega
theorem info24 : (Tryd.prog.info? 24).map (fun i => (i.zero, i.size, i.bytes)) = some (some (.agg #[.int .i64 0, .int .i64 0, .int .i64 0, .bool false, .int .i64 0, .slice none 0 0]), 6, 64) := by kernel_rfl
/-- What All holds between two rounds. -/
structure AllI (w : World) (pre : List Stp) (vl va : Value) (tag : Nat → Nat) (W : World) : Prop where
  b0 : Boxed W w.heap.size 42 (.slice none 0 0)
  b1 : Boxed W (w.heap.size + 1) 22 (.slice none 0 0)
  b2 : Boxed W (w.heap.size + 2) 27 (.int .i64 0)
  b3 : Boxed W (w.heap.size + 3) 42 vl
  b4 : Boxed W (w.heap.size + 4) 22 va
  rl : W.ownsRow (w.heap.size + 10) 24 6 vl pre.length (rowC pre)
  ra : OwnZ W (w.heap.size + 10) va (pre.map Stp.p)
  rx : ∀ x ∈ pre, OwnZ W (w.heap.size + 10) x.v x.cl.ws
  t1 : ∀ k, vl.ownBlock = some k → tag k = 1
  t2 : ∀ k, va.ownBlock = some k → tag k = 2
  t3 : ∀ x ∈ pre, ∀ k, x.v.ownBlock = some k → tag k = 3
  below : Below w.heap.size w W
  size : w.heap.size + 9 ≤ W.heap.size
theorem AllI.keep {w : World} {pre : List Stp} {vl va : Value} {tag : Nat → Nat} {A B : World} (h : AllI w pre vl va tag A) (hb : ∀ k, k < A.heap.size → (k < w.heap.size + 5 ∨ w.heap.size + 10 ≤ k) → B.heap[k]? = A.heap[k]?) (ho : B.os = A.os ∧ B.tape = A.tape ∧ B.output = A.output) (hs : A.heap.size ≤ B.heap.size) : AllI w pre vl va tag B := by
  have hsz := h.size
  exact ⟨(hb _ (by omega) (.inl (by omega))).trans h.b0, (hb _ (by omega) (.inl (by omega))).trans h.b1, (hb _ (by omega) (.inl (by omega))).trans h.b2, (hb _ (by omega) (.inl (by omega))).trans h.b3, (hb _ (by omega) (.inl (by omega))).trans h.b4,
    row_carry h.rl (fun k hk => hb k (World.ownsRow.lt h.rl k hk).2 (.inr (World.ownsRow.lt h.rl k hk).1)), row_carry h.ra (fun k hk => hb k (OwnZ.lt h.ra hk).2 (.inr (OwnZ.lt h.ra hk).1)),
    fun x hx => row_carry (h.rx x hx) (fun k hk => hb k (OwnZ.lt (h.rx x hx) hk).2 (.inr (OwnZ.lt (h.rx x hx) hk).1)), h.t1, h.t2, h.t3,
    ⟨ho.1.trans h.below.os, ho.2.1.trans h.below.tape, ho.2.2.trans h.below.output, Nat.le_trans h.below.size hs, fun k hk => (hb k (by omega) (.inl (by omega))).trans (h.below.block k hk)⟩, Nat.le_trans h.size hs⟩
theorem AllI.step {w : World} {pre : List Stp} {vl va : Value} {tag : Nat → Nat} {A B : World} (h : AllI w pre vl va tag A) (hs : StepW (w.heap.size + 6) (w.heap.size + 9) A B) : AllI w pre vl va tag B :=
  h.keep (fun k hk hc => hs.block k hk (by unfold ownW; omega)) ⟨hs.os, hs.tape, hs.output⟩ hs.size
theorem AllI.put {w : World} {pre : List Stp} {vl va : Value} {tag : Nat → Nat} {A : World} (h : AllI w pre vl va tag A) (o : _root_.Go.Obj) : AllI w pre vl va tag (A.putObj (w.heap.size + 8) o) :=
  h.keep (fun k _ hk => World.putObj_heap_other (by omega)) (putObj_parts _ _ _) (by rw [World.putObj_size]; exact Nat.le_refl _)
/-- Between two rounds of All. -/
def AllP (w : World) (pre : List Stp) (W : World) : Prop := ∃ vl va tag, AllI w pre vl va tag W

end Go.Proofs.YtcngblnkfiggjaaDoor.Rm
