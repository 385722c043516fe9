/- A memory of two lines of zeros: contract of New of package memory, there. -/
import Derived.Test.YtcngblnkfiggjaaDoorWalkH
namespace Go.Proofs.YtcngblnkfiggjaaDoor.Rm
open Go Go.RowKit Go.Maps

/-- Two lines as New makes them. -/
def lines2 : Array Value := #[.int .i64 0, .int .i64 0, .int .i64 0, .int .i64 0, .int .i64 0, .int .i64 0, .int .i64 0, .int .i64 0, .int .i64 0, .slice none 0 0, .int .i64 0, .int .i64 0, .int .i64 0, .int .i64 0, .int .i64 0, .int .i64 0, .int .i64 0, .int .i64 0, .int .i64 0, .int .i64 0, .slice none 0 0, .int .i64 0]
theorem make2 (w : World) : (Instr.makeSlice 91 (.int .i64 2) (.int .i64 2)).run Tryd.prog w = .ok (.slice (some ⟨w.heap.size, 0, none⟩) 2 2) (w.alloc (.cells lines2 98)) := by kernel_rfl

set_option maxHeartbeats 2000000 in
set_option maxRecDepth 100000 in
theorem new2 (w : World) : Calls Tryd.prog 28 #[.int .i64 2] w fun e w' => ∃ Bm Bl, e = .returned (.pointer (some ⟨Bm, 0, none⟩)) ∧ w'.cell? ⟨Bm, 0, none⟩ = some (.slice (some ⟨Bl, 0, none⟩) 2 2) ∧ w.heap.size ≤ Bm ∧ Bm < w'.heap.size ∧ Below w.heap.size w w' := by
  have hmk := make2
  have hmm := @run_makeMap Tryd.prog
  have HB := Lib.hid (show Below w.heap.size w (w.alloc (.cells lines2 98)) from (Below.refl _ _).alloc (Nat.le_refl _) _)
  have HL := Lib.hid (show (w.alloc (.cells lines2 98)).heap[w.heap.size]? = some (.cells lines2 98 (0, 0)) from heap_alloc_new _ _)
  go_enter Tryd.func28, Tryd.ntmps28
  go_wp2_with fail
  refine (encode0 _).mono ?_
  rintro e w1 ⟨rfl, hb1⟩
  have hL1 : w1.heap[w.heap.size]? = some (.cells lines2 98 (0, 0)) := (hb1.block _ (by simp)).trans HL.out
  have HB1 := Lib.hid (below_next HB.out hb1)
  have c8 : w1.cell? ⟨w.heap.size, 8, none⟩ = some (.int .i64 0) := by simp [World.cell?, hL1, lines2]
  have c19 : w1.cell? ⟨w.heap.size, 19, none⟩ = some (.int .i64 0) := by simp [World.cell?, hL1, lines2]
  have f8 : w1.frozen? ⟨w.heap.size, 8, none⟩ = false := Joins.unfrozen_of_block hL1 8
  have f19 : w1.frozen? ⟨w.heap.size, 19, none⟩ = false := Joins.unfrozen_of_block hL1 19
  have hlt : w.heap.size < w1.heap.size := (Array.getElem?_eq_some_iff.1 hL1).1
  clear hb1 hL1
  go_wp2
  refine wp_loop_rounds 3 ?_
  rw [rounds_succ]
  go_wp2
  rw [rounds_succ]
  go_wp2
  rw [rounds_succ]
  go_wp2
  have HBX := Lib.hid (show Below w.heap.size w ((((w1.setCell ⟨w.heap.size, 8, none⟩ (.int .i64 0)).setCell ⟨w.heap.size, 19, none⟩ (.int .i64 0)).alloc (.map #[] 0)).alloc (.cells #[.slice (some ⟨w.heap.size, 0, none⟩) 2 2, .map (some w1.heap.size), .int .i64 0, .slice none 0 0] 102)) from by
    have b1 := (HB1.out.setCell (p := ⟨w.heap.size, 8, none⟩) (Nat.le_refl _) (.int .i64 0)).setCell (p := ⟨w.heap.size, 19, none⟩) (Nat.le_refl _) (.int .i64 0)
    exact (b1.alloc b1.size _).alloc (by have := b1.size; simp at this ⊢; omega) _)
  go_ret
  exact ⟨w1.heap.size + 1, w.heap.size, rfl, by go_simp, by omega, by simp, HBX.out⟩

end Go.Proofs.YtcngblnkfiggjaaDoor.Rm
