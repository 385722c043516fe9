/- For Trim of package chain: IndexFunc over two cells; Reverse of none and of two numbers. -/
import Derived.Test.YtcngblnkfiggjaaDoorChZ1
namespace Go.Proofs.YtcngblnkfiggjaaDoor.Rm
open Go Go.RowKit Go.Maps Go.Shelf

set_option maxHeartbeats 1000000 in
theorem stamp_any (w : World) (c : Cl) (ao : Option Addr) (n cap : Nat) (Bk : Nat) (s : Int) (hk : w.cell? ⟨Bk, 0, none⟩ = some (.int .i64 s)) (hlt : Bk < w.heap.size) :
    Calls Tryd.prog 69 #[clV c (.slice ao n cap), .pointer (some ⟨Bk, 0, none⟩)] w fun e w' => e = .returned (.bool (decide (c.s ≤ s))) ∧ Below w.heap.size w w' := by
  have HB := Lib.hid (show Below w.heap.size w (w.alloc (.cells #[.int .i64 c.t, .int .i64 c.r, .int .i64 c.s, .bool c.d, .int .i64 c.p, .slice ao n cap] 24)) from (Below.refl _ _).alloc (Nat.le_refl _) _)
  have hk' := (HB.out.cell (p := ⟨Bk, 0, none⟩) hlt).trans hk
  unfold clV
  go_enter Tryd.func69, Tryd.ntmps69
  go_wp2
  go_ret
  exact ⟨rfl, HB.out⟩

set_option maxRecDepth 100000 in
set_option maxHeartbeats 1000000 in
theorem idx2_any (w : World) (base g cap : Nat) (x y : Stp) (hrow : w.ownsRow base 24 6 (.slice (some ⟨g, 0, none⟩) 2 cap) 2 (rowC [x, y])) (hx : ∃ ao n c, x.v = .slice ao n c) (hy : ∃ ao n c, y.v = .slice ao n c) (Bk : Nat) (s : Int) (hk : w.cell? ⟨Bk, 0, none⟩ = some (.int .i64 s)) (hlt : Bk < w.heap.size) (hxs : s < x.cl.s) (hys : y.cl.s ≤ s) :
    Calls Tryd.prog 68 #[.slice (some ⟨g, 0, none⟩) 2 cap, .func (.func 69) #[] #[.pointer (some ⟨Bk, 0, none⟩)]] w fun e w' => e = .returned (.int .i64 1) ∧ Below w.heap.size w w' := by
  obtain ⟨ax, nx, cx, hxv⟩ := hx
  obtain ⟨ay, ny, cy, hyv⟩ := hy
  have hg : g < w.heap.size := (hrow.lt g rfl).2
  have HC := Lib.hid (fun (W : World) (hb : Below w.heap.size w W) (j : Nat) (hj : j < [x, y].length) => row_cells (xs := [x, y]) (row_carry (w' := W) hrow (fun k hk => by cases hk; exact hb.block _ hg)) hj)
  have HK := Lib.hid (fun (W : World) (hb : Below w.heap.size w W) => (hb.cell (p := ⟨Bk, 0, none⟩) hlt).trans hk)
  clear hrow hk
  go_enter Tryd.func68, Tryd.ntmps68
  go_wp2
  go_loopw [8] (fun i wr => ∃ k : Nat, k ≤ 1 ∧ i = .int .i64 k ∧ Below w.heap.size w wr) (fun i _ => 2 - (RowKit.intOf i).toNat)
  case atStart => exact ⟨0, by omega, rfl, Below.refl _ _⟩
  case round =>
    obtain ⟨k, hk, rfl, hB⟩ := hrel
    obtain rfl | rfl : k = 0 ∨ k = 1 := by omega
    · obtain ⟨q0, q1, q2, q3, q4, q5⟩ := HC.out wr hB 0 (by simp)
      rw [show nthS [x, y] 0 = x from rfl, hxv] at q5
      rw [show nthS [x, y] 0 = x from rfl] at q0 q1 q2 q3 q4
      have hs := stamp_any wr x.cl ax nx cx Bk s (HK.out wr hB) (by have := hB.size; omega)
      unfold clV at hs
      have HS := Lib.hid hs
      clear hs
      go_wp2_with fail
      refine HS.out.mono ?_
      rintro e w1 ⟨rfl, hb1⟩
      have hd : decide (x.cl.s ≤ s) = false := decide_eq_false (by omega)
      rw [hd]
      have HN := Lib.hid (hB.trans (hb1.mono hB.size))
      clear hb1 q0 q1 q2 q3 q4 q5
      go_wp2
      go_roundw
      case rel => exact ⟨1, by omega, rfl, HN.out⟩
      case measure => simp [RowKit.intOf]
    · obtain ⟨q0, q1, q2, q3, q4, q5⟩ := HC.out wr hB 1 (by simp)
      rw [show nthS [x, y] 1 = y from rfl, hyv] at q5
      rw [show nthS [x, y] 1 = y from rfl] at q0 q1 q2 q3 q4
      have hs := stamp_any wr y.cl ay ny cy Bk s (HK.out wr hB) (by have := hB.size; omega)
      unfold clV at hs
      have HS := Lib.hid hs
      clear hs
      go_wp2_with fail
      refine HS.out.mono ?_
      rintro e w1 ⟨rfl, hb1⟩
      have hd : decide (y.cl.s ≤ s) = true := decide_eq_true hys
      rw [hd]
      have HN := Lib.hid (hB.trans (hb1.mono hB.size))
      clear hb1 q0 q1 q2 q3 q4 q5
      go_wp2
      go_ret
      exact ⟨rfl, HN.out⟩

set_option maxHeartbeats 1000000 in
theorem rev0_any (w : World) (ao : Option Addr) (cap : Nat) : Calls Tryd.prog 71 #[.slice ao 0 cap] w fun e w' => (∃ v, e = .returned v) ∧ w = w' := by
  go_enter Tryd.func71, Tryd.ntmps71
  go_wp2
  refine wp_loop_rounds 1 ?_
  rw [rounds_succ]
  go_wp2
  go_end0
  exact ⟨⟨_, rfl⟩, rfl⟩

set_option maxHeartbeats 2000000 in
set_option maxRecDepth 100000 in
theorem rev2_any (w : World) (base g cap : Nat) (a b : Int) (hrow : OwnZ w base (.slice (some ⟨g, 0, none⟩) 2 cap) [a, b]) :
    Calls Tryd.prog 71 #[.slice (some ⟨g, 0, none⟩) 2 cap] w fun e w' => (∃ v, e = .returned v) ∧ w' = ((w.setCell ⟨g, 0, none⟩ (.int .i64 b)).setCell ⟨g, 1, none⟩ (.int .i64 a)).drew := by
  have c0 : w.cell? ⟨g, 0, none⟩ = some (.int .i64 a) := hrow.cellAt 0 (by simp)
  have c1 : w.cell? ⟨g, 1, none⟩ = some (.int .i64 b) := hrow.cellAt 1 (by simp)
  have f0 : w.frozen? ⟨g, 0, none⟩ = false := hrow.frozenAt 0
  have f1 : w.frozen? ⟨g, 1, none⟩ = false := hrow.frozenAt 1
  clear hrow
  go_enter Tryd.func71, Tryd.ntmps71
  go_wp2
  refine wp_loop_rounds 2 ?_
  rw [rounds_succ]
  go_wp2
  go_region
  all_goals
    go_wp2
    rw [rounds_succ]
    go_wp2
    go_end0
    exact ⟨⟨_, rfl⟩, rfl⟩
theorem rev2_own {w : World} {base g cap : Nat} {a b : Int} (hrow : OwnZ w base (.slice (some ⟨g, 0, none⟩) 2 cap) [a, b]) : OwnZ ((w.setCell ⟨g, 0, none⟩ (.int .i64 b)).setCell ⟨g, 1, none⟩ (.int .i64 a)).drew base (.slice (some ⟨g, 0, none⟩) 2 cap) [b, a] := by
  exact ((hrow.stored 0 (.int .i64 b)).1.stored 1 (.int .i64 a)).1

end Go.Proofs.YtcngblnkfiggjaaDoor.Rm
