/- Contracts of Check and Fix of package code on a line of zeros (printed by gen_c.py). -/
import Derived.Test.YtcngblnkfiggjaaDoorChC
namespace Go.Proofs.YtcngblnkfiggjaaDoor.Rm
open Go Go.RowKit Go.Maps

theorem put8 (w : World) (B : Nat) (t : TypeId) (a0 a1 a2 a3 a4 a5 a6 a7 x0 x1 x2 x3 x4 x5 x6 x7 : Value) (h : w.heap[B]? = some (.cells #[a0, a1, a2, a3, a4, a5, a6, a7] t (0, 0))) :
    ((((((((w.setCell ⟨B, 0, none⟩ x0).setCell ⟨B, 1, none⟩ x1).setCell ⟨B, 2, none⟩ x2).setCell ⟨B, 3, none⟩ x3).setCell ⟨B, 4, none⟩ x4).setCell ⟨B, 5, none⟩ x5).setCell ⟨B, 6, none⟩ x6).setCell ⟨B, 7, none⟩ x7).heap[B]? = some (.cells #[x0, x1, x2, x3, x4, x5, x6, x7] t (0, 0)) := by
  have h0 := Joins.block_setCell h (i := 0) x0
  have h1 := Joins.block_setCell h0 (i := 1) x1
  have h2 := Joins.block_setCell h1 (i := 2) x2
  have h3 := Joins.block_setCell h2 (i := 3) x3
  have h4 := Joins.block_setCell h3 (i := 4) x4
  have h5 := Joins.block_setCell h4 (i := 5) x5
  have h6 := Joins.block_setCell h5 (i := 6) x6
  have h7 := Joins.block_setCell h6 (i := 7) x7
  simpa using h7
theorem put8_below {w0 : World} {n : Nat} (w : World) (B : Nat) (x0 x1 x2 x3 x4 x5 x6 x7 : Value) (h : Below n w0 w) (hB : n ≤ B) : Below n w0 ((((((((w.setCell ⟨B, 0, none⟩ x0).setCell ⟨B, 1, none⟩ x1).setCell ⟨B, 2, none⟩ x2).setCell ⟨B, 3, none⟩ x3).setCell ⟨B, 4, none⟩ x4).setCell ⟨B, 5, none⟩ x5).setCell ⟨B, 6, none⟩ x6).setCell ⟨B, 7, none⟩ x7) :=
  (((((((h.setCell (p := ⟨B, 0, none⟩) hB x0).setCell (p := ⟨B, 1, none⟩) hB x1).setCell (p := ⟨B, 2, none⟩) hB x2).setCell (p := ⟨B, 3, none⟩) hB x3).setCell (p := ⟨B, 4, none⟩) hB x4).setCell (p := ⟨B, 5, none⟩) hB x5).setCell (p := ⟨B, 6, none⟩) hB x6).setCell (p := ⟨B, 7, none⟩) hB x7
theorem at_old {w : World} {o x : _root_.Go.Obj} {k : Nat} (h : w.heap[k]? = some x) : (w.alloc o).heap[k]? = some x := (Below.heap_alloc _ _ _ (Array.getElem?_eq_some_iff.1 h).1).trans h
theorem cell_blk {w : World} {B j : Nat} {a : Array Value} {t : TypeId} {u : Value} {z : Nat × Nat} (h : w.heap[B]? = some (.cells a t z)) (hj : a[j]? = some u) : w.cell? ⟨B, j, none⟩ = some u := by simp [World.cell?, h, hj]

set_option maxHeartbeats 1000000 in
set_option maxRecDepth 100000 in
theorem check0 (w : World) : Calls Tryd.prog 96 #[.agg #[.int .i64 0, .int .i64 0, .int .i64 0, .int .i64 0, .int .i64 0, .int .i64 0, .int .i64 0, .int .i64 0], .int .i64 0] w fun e w' => e = .returned (.tuple #[.int .i64 0, .int .i64 0, .int .i64 0]) ∧ Below w.heap.size w w' := by
  go_enter Tryd.func96, Tryd.ntmps96
  go_wp2_with fail
  obtain ⟨W0, hW0⟩ : ∃ W0, ((((w.alloc (.cells #[.int .i64 0, .int .i64 0, .int .i64 0, .int .i64 0, .int .i64 0, .int .i64 0, .int .i64 0, .int .i64 0] 93)).alloc (.cells #[.int .i64 0] 3)).alloc (.cells #[.int .i64 0] 3)).alloc (.cells #[.int .i64 0] 3)) = W0 := ⟨_, rfl⟩
  have s0 : W0.heap.size = w.heap.size + 4 := by rw [← hW0]; simp
  have b0 : W0.heap[w.heap.size]? = some (.cells #[.int .i64 0, .int .i64 0, .int .i64 0, .int .i64 0, .int .i64 0, .int .i64 0, .int .i64 0, .int .i64 0] 93 (0, 0)) := by rw [← hW0]; exact at_old (at_old (at_old (heap_alloc_new _ _)))
  have b1 : W0.heap[w.heap.size + 1]? = some (.cells #[.int .i64 0] 3 (0, 0)) := by rw [← hW0]; exact at_old (at_old (new_at (by simp)))
  have b2 : W0.heap[w.heap.size + 1 + 1]? = some (.cells #[.int .i64 0] 3 (0, 0)) := by rw [← hW0]; exact at_old (new_at (by simp))
  have b3 : W0.heap[w.heap.size + 1 + 1 + 1]? = some (.cells #[.int .i64 0] 3 (0, 0)) := by rw [← hW0]; exact new_at (by simp)
  have B0 : Below w.heap.size w W0 := by rw [← hW0]; exact ((((Below.refl _ _).alloc (Nat.le_refl _) _).alloc (by simp) _).alloc (by simp; omega) _).alloc (by simp; omega) _
  rw [hW0]
  clear hW0
  refine (valid0 _).mono ?_
  rintro e w1 ⟨rfl, hb1⟩
  have z0 := (hb1.block w.heap.size (by omega)).trans b0
  have d0 : w1.cell? ⟨w.heap.size, 0, none⟩ = some (.int .i64 0) := cell_blk z0 rfl
  have d1 : w1.cell? ⟨w.heap.size, 1, none⟩ = some (.int .i64 0) := cell_blk z0 rfl
  have d2 : w1.cell? ⟨w.heap.size, 2, none⟩ = some (.int .i64 0) := cell_blk z0 rfl
  have d3 : w1.cell? ⟨w.heap.size, 3, none⟩ = some (.int .i64 0) := cell_blk z0 rfl
  have d4 : w1.cell? ⟨w.heap.size, 4, none⟩ = some (.int .i64 0) := cell_blk z0 rfl
  have d5 : w1.cell? ⟨w.heap.size, 5, none⟩ = some (.int .i64 0) := cell_blk z0 rfl
  have d6 : w1.cell? ⟨w.heap.size, 6, none⟩ = some (.int .i64 0) := cell_blk z0 rfl
  have d7 : w1.cell? ⟨w.heap.size, 7, none⟩ = some (.int .i64 0) := cell_blk z0 rfl
  have HB1 := Lib.hid hb1
  have H0 := Lib.hid B0
  have Hb1 := Lib.hid b1
  have Hb2 := Lib.hid b2
  have Hb3 := Lib.hid b3
  have hs1 := hb1.size
  clear hb1 z0 b0 b1 b2 b3 B0
  go_wp2_with fail
  refine (sum0 _).mono ?_
  rintro e w2 ⟨rfl, hb2⟩
  have hs2 := hb2.size
  have z1 := (hb2.block (w.heap.size + 1) (by omega)).trans ((HB1.out.block (w.heap.size + 1) (by omega)).trans Hb1.out)
  have z2 := (hb2.block (w.heap.size + 1 + 1) (by omega)).trans ((HB1.out.block (w.heap.size + 1 + 1) (by omega)).trans Hb2.out)
  have z3 := (hb2.block (w.heap.size + 1 + 1 + 1) (by omega)).trans ((HB1.out.block (w.heap.size + 1 + 1 + 1) (by omega)).trans Hb3.out)
  have e1 : w2.cell? ⟨w.heap.size + 1, 0, none⟩ = some (.int .i64 0) := cell_blk z1 rfl
  have e2 : w2.cell? ⟨w.heap.size + 1 + 1, 0, none⟩ = some (.int .i64 0) := cell_blk z2 rfl
  have e3 : w2.cell? ⟨w.heap.size + 1 + 1 + 1, 0, none⟩ = some (.int .i64 0) := cell_blk z3 rfl
  have f1 : w2.frozen? ⟨w.heap.size + 1, 0, none⟩ = false := Joins.unfrozen_of_block z1 0
  have f2 : w2.frozen? ⟨w.heap.size + 1 + 1, 0, none⟩ = false := Joins.unfrozen_of_block z2 0
  have f3 : w2.frozen? ⟨w.heap.size + 1 + 1 + 1, 0, none⟩ = false := Joins.unfrozen_of_block z3 0
  have HB2 := Lib.hid (below_next H0.out (below_next HB1.out hb2))
  have hw1 : w.heap.size + 1 < w2.heap.size := by omega
  have hw2 : w.heap.size + 1 + 1 < w2.heap.size := by omega
  have hw3 : w.heap.size + 1 + 1 + 1 < w2.heap.size := by omega
  have hx1 : bits .and .i64 0 511 = 0 := by kernel_rfl
  have hx2 : bits .xor .i64 0 0 = 0 := by kernel_rfl
  have hx3 : bits .xor .i64 0 (bits .and .i64 0 511) = 0 := by kernel_rfl
  clear hb2 z1 z2 z3 d0 d1 d2 d3 d4 d5 d6 d7
  go_wp2_with (go_at_call 89; refine (ones0 _).mono ?_; rintro e w3 ⟨rfl, rfl⟩)
  have q1 : ((((w2.setCell ⟨w.heap.size + 1, 0, none⟩ (.int .i64 0)).setCell ⟨w.heap.size + 1 + 1, 0, none⟩ (.int .i64 0)).setCell ⟨w.heap.size + 1 + 1 + 1, 0, none⟩ (.int .i64 0)).alloc (.cells #[.int .i64 0] 3)).cell? ⟨w.heap.size + 1, 0, none⟩ = some (.int .i64 0) := by go_simp
  have q2 : ((((w2.setCell ⟨w.heap.size + 1, 0, none⟩ (.int .i64 0)).setCell ⟨w.heap.size + 1 + 1, 0, none⟩ (.int .i64 0)).setCell ⟨w.heap.size + 1 + 1 + 1, 0, none⟩ (.int .i64 0)).alloc (.cells #[.int .i64 0] 3)).cell? ⟨w.heap.size + 1 + 1, 0, none⟩ = some (.int .i64 0) := by go_simp
  have q3 : ((((w2.setCell ⟨w.heap.size + 1, 0, none⟩ (.int .i64 0)).setCell ⟨w.heap.size + 1 + 1, 0, none⟩ (.int .i64 0)).setCell ⟨w.heap.size + 1 + 1 + 1, 0, none⟩ (.int .i64 0)).alloc (.cells #[.int .i64 0] 3)).cell? ⟨w.heap.size + 1 + 1 + 1, 0, none⟩ = some (.int .i64 0) := by go_simp
  have HF := Lib.hid (show Below w.heap.size w ((((w2.setCell ⟨w.heap.size + 1, 0, none⟩ (.int .i64 0)).setCell ⟨w.heap.size + 1 + 1, 0, none⟩ (.int .i64 0)).setCell ⟨w.heap.size + 1 + 1 + 1, 0, none⟩ (.int .i64 0)).alloc (.cells #[.int .i64 0] 3)) from
    (((HB2.out.setCell (p := ⟨w.heap.size + 1, 0, none⟩) (by simp) _).setCell (p := ⟨w.heap.size + 1 + 1, 0, none⟩) (by simp; omega) _).setCell (p := ⟨w.heap.size + 1 + 1 + 1, 0, none⟩) (by simp; omega) _).alloc (by simp; omega) _)
  obtain ⟨Wf, hWf⟩ : ∃ Wf, ((((w2.setCell ⟨w.heap.size + 1, 0, none⟩ (.int .i64 0)).setCell ⟨w.heap.size + 1 + 1, 0, none⟩ (.int .i64 0)).setCell ⟨w.heap.size + 1 + 1 + 1, 0, none⟩ (.int .i64 0)).alloc (.cells #[.int .i64 0] 3)) = Wf := ⟨_, rfl⟩
  rw [hWf] at q1 q2 q3 HF ⊢
  clear hWf
  refine bodyPost_ret (v := .tuple #[.int .i64 0, .int .i64 0, .int .i64 0]) (by simp [results, Tryd.f96, go_sem, q1, q2, q3]) rfl ?_
  exact ⟨rfl, HF.out⟩

set_option maxHeartbeats 1000000 in
set_option maxRecDepth 100000 in
theorem fix0 (w : World) : Calls Tryd.prog 122 #[.agg #[.int .i64 0, .int .i64 0, .int .i64 0, .int .i64 0, .int .i64 0, .int .i64 0, .int .i64 0, .int .i64 0], .int .i64 0] w fun e w' => e = .returned (.tuple #[.agg #[.int .i64 0, .int .i64 0, .int .i64 0, .int .i64 0, .int .i64 0, .int .i64 0, .int .i64 0, .int .i64 0], .int .i64 0, .int .i64 0]) ∧ Below w.heap.size w w' := by
  go_enter Tryd.func122, Tryd.ntmps122
  go_wp2_with fail
  obtain ⟨W0, hW0⟩ : ∃ W0, (w.alloc (.cells #[.int .i64 0, .int .i64 0, .int .i64 0, .int .i64 0, .int .i64 0, .int .i64 0, .int .i64 0, .int .i64 0] 93)).alloc (.cells #[.int .i64 0, .int .i64 0, .int .i64 0, .int .i64 0, .int .i64 0, .int .i64 0, .int .i64 0, .int .i64 0] 93) = W0 := ⟨_, rfl⟩
  have s0 : W0.heap.size = w.heap.size + 2 := by rw [← hW0]; simp
  have b0 : W0.heap[w.heap.size]? = some (.cells #[.int .i64 0, .int .i64 0, .int .i64 0, .int .i64 0, .int .i64 0, .int .i64 0, .int .i64 0, .int .i64 0] 93 (0, 0)) := by rw [← hW0]; exact at_old (heap_alloc_new _ _)
  have b1 : W0.heap[w.heap.size + 1]? = some (.cells #[.int .i64 0, .int .i64 0, .int .i64 0, .int .i64 0, .int .i64 0, .int .i64 0, .int .i64 0, .int .i64 0] 93 (0, 0)) := by rw [← hW0]; exact new_at (by simp)
  have B0 : Below w.heap.size w W0 := by rw [← hW0]; exact ((Below.refl _ _).alloc (Nat.le_refl _) _).alloc (by simp) _
  rw [hW0]
  clear hW0
  refine (valid0 _).mono ?_
  rintro e w1 ⟨rfl, hb1⟩
  have z0 := (hb1.block w.heap.size (by omega)).trans b0
  have z1 := (hb1.block (w.heap.size + 1) (by omega)).trans b1
  have d0 : w1.cell? ⟨w.heap.size, 0, none⟩ = some (.int .i64 0) := cell_blk z0 rfl
  have d1 : w1.cell? ⟨w.heap.size, 1, none⟩ = some (.int .i64 0) := cell_blk z0 rfl
  have d2 : w1.cell? ⟨w.heap.size, 2, none⟩ = some (.int .i64 0) := cell_blk z0 rfl
  have d3 : w1.cell? ⟨w.heap.size, 3, none⟩ = some (.int .i64 0) := cell_blk z0 rfl
  have d4 : w1.cell? ⟨w.heap.size, 4, none⟩ = some (.int .i64 0) := cell_blk z0 rfl
  have d5 : w1.cell? ⟨w.heap.size, 5, none⟩ = some (.int .i64 0) := cell_blk z0 rfl
  have d6 : w1.cell? ⟨w.heap.size, 6, none⟩ = some (.int .i64 0) := cell_blk z0 rfl
  have d7 : w1.cell? ⟨w.heap.size, 7, none⟩ = some (.int .i64 0) := cell_blk z0 rfl
  have HB1 := Lib.hid (below_next B0 hb1)
  have Hz0 := Lib.hid z0
  have Hz1 := Lib.hid z1
  have hs1 := hb1.size
  clear hb1 z0 z1 b0 b1 B0
  go_wp2_with fail
  refine (check0 _).mono ?_
  rintro e w2 ⟨rfl, hb2⟩
  have hs2 := hb2.size
  have z0 := (hb2.block w.heap.size (by omega)).trans Hz0.out
  have z1 := (hb2.block (w.heap.size + 1) (by omega)).trans Hz1.out
  clear d0 d1 d2 d3 d4 d5 d6 d7
  have d0 : w2.cell? ⟨w.heap.size, 0, none⟩ = some (.int .i64 0) := cell_blk z0 rfl
  have d1 : w2.cell? ⟨w.heap.size, 1, none⟩ = some (.int .i64 0) := cell_blk z0 rfl
  have d2 : w2.cell? ⟨w.heap.size, 2, none⟩ = some (.int .i64 0) := cell_blk z0 rfl
  have d3 : w2.cell? ⟨w.heap.size, 3, none⟩ = some (.int .i64 0) := cell_blk z0 rfl
  have d4 : w2.cell? ⟨w.heap.size, 4, none⟩ = some (.int .i64 0) := cell_blk z0 rfl
  have d5 : w2.cell? ⟨w.heap.size, 5, none⟩ = some (.int .i64 0) := cell_blk z0 rfl
  have d6 : w2.cell? ⟨w.heap.size, 6, none⟩ = some (.int .i64 0) := cell_blk z0 rfl
  have d7 : w2.cell? ⟨w.heap.size, 7, none⟩ = some (.int .i64 0) := cell_blk z0 rfl
  have f0 : w2.frozen? ⟨w.heap.size + 1, 0, none⟩ = false := Joins.unfrozen_of_block z1 0
  have g0 : w2.cell? ⟨w.heap.size + 1, 0, none⟩ = some (.int .i64 0) := cell_blk z1 rfl
  have f1 : w2.frozen? ⟨w.heap.size + 1, 1, none⟩ = false := Joins.unfrozen_of_block z1 1
  have g1 : w2.cell? ⟨w.heap.size + 1, 1, none⟩ = some (.int .i64 0) := cell_blk z1 rfl
  have f2 : w2.frozen? ⟨w.heap.size + 1, 2, none⟩ = false := Joins.unfrozen_of_block z1 2
  have g2 : w2.cell? ⟨w.heap.size + 1, 2, none⟩ = some (.int .i64 0) := cell_blk z1 rfl
  have f3 : w2.frozen? ⟨w.heap.size + 1, 3, none⟩ = false := Joins.unfrozen_of_block z1 3
  have g3 : w2.cell? ⟨w.heap.size + 1, 3, none⟩ = some (.int .i64 0) := cell_blk z1 rfl
  have f4 : w2.frozen? ⟨w.heap.size + 1, 4, none⟩ = false := Joins.unfrozen_of_block z1 4
  have g4 : w2.cell? ⟨w.heap.size + 1, 4, none⟩ = some (.int .i64 0) := cell_blk z1 rfl
  have f5 : w2.frozen? ⟨w.heap.size + 1, 5, none⟩ = false := Joins.unfrozen_of_block z1 5
  have g5 : w2.cell? ⟨w.heap.size + 1, 5, none⟩ = some (.int .i64 0) := cell_blk z1 rfl
  have f6 : w2.frozen? ⟨w.heap.size + 1, 6, none⟩ = false := Joins.unfrozen_of_block z1 6
  have g6 : w2.cell? ⟨w.heap.size + 1, 6, none⟩ = some (.int .i64 0) := cell_blk z1 rfl
  have f7 : w2.frozen? ⟨w.heap.size + 1, 7, none⟩ = false := Joins.unfrozen_of_block z1 7
  have g7 : w2.cell? ⟨w.heap.size + 1, 7, none⟩ = some (.int .i64 0) := cell_blk z1 rfl
  have HB2 := Lib.hid (below_next HB1.out hb2)
  have Hz := Lib.hid z1
  have hw1 : w.heap.size + 1 < w2.heap.size := by omega
  clear hb2 z0 z1
  go_wp2
  have hP := put8 w2 (w.heap.size + 1) 93 _ _ _ _ _ _ _ _ (.int .i64 0) (.int .i64 0) (.int .i64 0) (.int .i64 0) (.int .i64 0) (.int .i64 0) (.int .i64 0) (.int .i64 0) Hz.out
  have HF := Lib.hid (put8_below w2 (w.heap.size + 1) (.int .i64 0) (.int .i64 0) (.int .i64 0) (.int .i64 0) (.int .i64 0) (.int .i64 0) (.int .i64 0) (.int .i64 0) HB2.out (by omega))
  obtain ⟨Wf, hWf⟩ : ∃ Wf, ((((((((w2.setCell ⟨w.heap.size + 1, 0, none⟩ (.int .i64 0)).setCell ⟨w.heap.size + 1, 1, none⟩ (.int .i64 0)).setCell ⟨w.heap.size + 1, 2, none⟩ (.int .i64 0)).setCell ⟨w.heap.size + 1, 3, none⟩ (.int .i64 0)).setCell ⟨w.heap.size + 1, 4, none⟩ (.int .i64 0)).setCell ⟨w.heap.size + 1, 5, none⟩ (.int .i64 0)).setCell ⟨w.heap.size + 1, 6, none⟩ (.int .i64 0)).setCell ⟨w.heap.size + 1, 7, none⟩ (.int .i64 0)) = Wf := ⟨_, rfl⟩
  rw [hWf] at hP HF ⊢
  clear hWf
  have q0 : Wf.cell? ⟨w.heap.size + 1, 0, none⟩ = some (.int .i64 0) := cell_blk hP rfl
  have q1 : Wf.cell? ⟨w.heap.size + 1, 1, none⟩ = some (.int .i64 0) := cell_blk hP rfl
  have q2 : Wf.cell? ⟨w.heap.size + 1, 2, none⟩ = some (.int .i64 0) := cell_blk hP rfl
  have q3 : Wf.cell? ⟨w.heap.size + 1, 3, none⟩ = some (.int .i64 0) := cell_blk hP rfl
  have q4 : Wf.cell? ⟨w.heap.size + 1, 4, none⟩ = some (.int .i64 0) := cell_blk hP rfl
  have q5 : Wf.cell? ⟨w.heap.size + 1, 5, none⟩ = some (.int .i64 0) := cell_blk hP rfl
  have q6 : Wf.cell? ⟨w.heap.size + 1, 6, none⟩ = some (.int .i64 0) := cell_blk hP rfl
  have q7 : Wf.cell? ⟨w.heap.size + 1, 7, none⟩ = some (.int .i64 0) := cell_blk hP rfl
  refine bodyPost_ret (v := .tuple #[.agg #[.int .i64 0, .int .i64 0, .int .i64 0, .int .i64 0, .int .i64 0, .int .i64 0, .int .i64 0, .int .i64 0], .int .i64 0, .int .i64 0]) (by simp [results, Tryd.f122, go_sem, q0, q1, q2, q3, q4, q5, q6, q7]) rfl ?_
  exact ⟨rfl, HF.out⟩

end Go.Proofs.YtcngblnkfiggjaaDoor.Rm
