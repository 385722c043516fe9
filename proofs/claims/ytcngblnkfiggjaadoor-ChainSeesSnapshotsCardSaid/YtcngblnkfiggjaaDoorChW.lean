/- Contract of Load of a view without entries: what the memory shows. -/
import Derived.Test.YtcngblnkfiggjaaDoorChV
import Derived.RangeFuncNested
import Derived.RangeFuncBound
import Derived.RangeFuncCalls
import Derived.RangeFuncLeaves
import Derived.Shelf.Abstract
import Derived.OwnWalkIn
import Derived.TacticsInMore
import Derived.LoopNIn
import Derived.LoopIn
namespace Go.Proofs.YtcngblnkfiggjaaDoor.Rm
open Go Go.RowKit Go.Maps Go.Shelf
attribute [local go_sem] Oper.semAt_some

/-- A postcondition that allows no panic: so it does not read the activation there. -/
def NoPanic (Q : Exit → Act → World → Prop) : Exit → Act → World → Prop
  | .panic _, _, _ => False
  | e, a, w => Q e a w
theorem NoPanic.le {Q : Exit → Act → World → Prop} (e : Exit) (a : Act) (w : World) (h : NoPanic Q e a w) : Q e a w := by
  cases e <;> first | exact h | exact h.elim
theorem NoPanic.normal {Q : Exit → Act → World → Prop} {a : Act} {w : World} : NoPanic Q .normal a w = Q .normal a w := rfl

set_option maxRecDepth 100000 in
set_option maxHeartbeats 1000000 in
theorem back0_in (F : Fence) (n : Nat) (h99 : F.fn 99) (hro : F.round = none) (l Bs : Nat) (W : World) (hBs : W.cell? ⟨Bs, 0, none⟩ = some (.slice none 0 0)) :
    CallsIn F n Tryd.prog 99 #[.func (.yield l) #[] #[], .pointer (some ⟨Bs, 0, none⟩)] W fun e W' => (∃ v, e = .returned v) ∧ W = W' := by
  refine callsIn_of_wp Tryd.func99 rfl h99 ?_ hro
  simp only [Tryd.ntmps99, List.size_toArray, List.length_cons, List.length_nil, Nat.reduceAdd, Nat.reduceSub, Array.replicate_succ, Array.replicate_zero, List.push_toArray, List.append_toArray, List.nil_append, List.cons_append]
  gi_wp2
  refine wpIn_loop_rounds 1 ?_
  rw [roundsIn_succ]
  gi_wp2
  go_end0
  exact ⟨⟨_, rfl⟩, rfl⟩
theorem back0_stops (F : Fence) (n : Nat) (h99 : F.fn 99) (hro : F.round = none) (Bs n₀ : Nat) (w : World) (hBs : Bs < w.heap.size) (hc : w.cell? ⟨Bs, 0, none⟩ = some (.slice none 0 0)) :
    SeqStopsK F n Tryd.prog 99 #[.pointer (some ⟨Bs, 0, none⟩)] (fun x : Nat × (Int × Int) => #[Value.int .i64 (x.1 : Int), Value.agg #[.int .i64 x.2.1, .int .i64 x.2.2]]) (Below n₀) (fun ys => ys = []) (fun _ => False) 0 w := fun l J Jx W hW _ _ hY h0 => by
  have hc' := (hW.cell (p := ⟨Bs, 0, none⟩) hBs).trans hc
  exact (back0_in F n h99 hro l Bs W hc').mono fun e W' ⟨he, hw⟩ => ⟨he, .inl ⟨[], rfl, hw ▸ h0⟩⟩
set_option maxHeartbeats 1000000 in
theorem backE_in (F : Fence) (n : Nat) (h80 : F.fn 80) (hro : F.round = none) (a : Option Addr) (len cap : Nat) (w : World) :
    CallsIn F n Tryd.prog 80 #[.slice a len cap] w fun e w' => e = .returned (.func (.func 99) #[] #[.pointer (some ⟨w.heap.size, 0, none⟩)]) ∧ w' = w.alloc (.cells #[.slice a len cap] 51) := by
  refine callsIn_of_wp Tryd.func80 rfl h80 ?_ hro
  simp only [Tryd.ntmps80, List.size_toArray, List.length_cons, List.length_nil, Nat.reduceAdd, Nat.reduceSub, Array.replicate_succ, Array.replicate_zero, List.push_toArray, List.append_toArray, List.nil_append, List.cons_append]
  gi_wp2
  go_ret
  exact ⟨rfl, rfl⟩

set_option maxRecDepth 100000 in
set_option maxHeartbeats 2000000 in
theorem vload_any (w : World) (Bv Bm n : Nat) (M : Int → Int) (F : Nat → Prop) (c : Nat) (h : CV w Bv Bm n M F c) (hc : c < 100000) (k j : Nat) (hk : k < n) (hj : j < 8) (x : Int) (hx : x = 8 * k + j) :
    Calls Tryd.prog 48 #[.pointer (some ⟨Bv, 0, none⟩), .int .i64 x] w fun e w' => e = .returned (.tuple #[.int .i64 (M x), .int .i64 0]) ∧ Below w.heap.size w w' := by
  refine (callsIn_wide (n := 3)).1 ?_
  have hro : Fence.wide.round = none := rfl
  have h80 : Fence.wide.fn 80 := trivial
  have h99 : Fence.wide.fn 99 := trivial
  have hBlt : Bv < w.heap.size := h.lt
  have c1 : w.cell? ⟨Bv, 1, none⟩ = some (.slice none 0 0) := cell_blk h.blk rfl
  have hW1 : Below w.heap.size w (((w.alloc (.cells #[.int .i64 x] 3)).alloc (.cells #[.int .i64 0] 3)).alloc (.cells #[.int .i64 0] 27)) := (((Below.refl _ w).alloc (Nat.le_refl _) _).alloc (by simp) _).alloc (by simp; omega) _
  have k1 := (hW1.cell (p := ⟨Bv, 1, none⟩) hBlt).trans c1
  have HV := Lib.hid h
  have HB1 := Lib.hid hW1
  have HLD := Lib.hid (show ∀ W : World, Below w.heap.size w W → Calls Tryd.prog 81 #[.pointer (some ⟨Bm, 0, none⟩), .int .i64 x] W fun e w' => e = .returned (.tuple #[.int .i64 (M x), .int .i64 0]) ∧ Below W.heap.size W w' from
    fun W hb => load_any W Bm n M F c (h.below hb).mem hc k j hk hj x hx)
  clear h hW1 c1 hx
  refine callsIn_of_wp_marks Tryd.func48 rfl trivial ?_ hro
  simp only [Tryd.ntmps48, List.size_toArray, List.length_cons, List.length_nil, Nat.reduceAdd, Nat.reduceSub, Array.replicate_succ, Array.replicate_zero, List.push_toArray, List.append_toArray, List.nil_append, List.cons_append]
  gi_wp2_with (gi_at_call 80; refine (backE_in Fence.wide _ h80 hro _ _ _ _).mono ?_; rintro e w' ⟨rfl, rfl⟩)
  have bX := (((Boxed.new w 3 (.int .i64 x)).alloc (.cells #[.int .i64 0] 3)).alloc (.cells #[.int .i64 0] 27)).alloc (.cells #[.slice none 0 0] 51)
  have bR := ((Boxed.new (w.alloc (.cells #[.int .i64 x] 3)) 3 (.int .i64 0)).alloc (.cells #[.int .i64 0] 27)).alloc (.cells #[.slice none 0 0] 51)
  have bE := (Boxed.new ((w.alloc (.cells #[.int .i64 x] 3)).alloc (.cells #[.int .i64 0] 3)) 27 (.int .i64 0)).alloc (.cells #[.slice none 0 0] 51)
  have bS := Boxed.new (((w.alloc (.cells #[.int .i64 x] 3)).alloc (.cells #[.int .i64 0] 3)).alloc (.cells #[.int .i64 0] 27)) 51 (.slice none 0 0)
  simp only [World.size_alloc] at bR bE bS
  have hB0 : Below w.heap.size w ((((w.alloc (.cells #[.int .i64 x] 3)).alloc (.cells #[.int .i64 0] 3)).alloc (.cells #[.int .i64 0] 27)).alloc (.cells #[.slice none 0 0] 51)) := HB1.out.alloc (by simp; omega) _
  have hsz : ((((w.alloc (.cells #[.int .i64 x] 3)).alloc (.cells #[.int .i64 0] 3)).alloc (.cells #[.int .i64 0] 27)).alloc (.cells #[.slice none 0 0] 51)).heap.size = w.heap.size + 4 := by simp
  obtain ⟨W0, hW0⟩ : ∃ W0, (((w.alloc (.cells #[.int .i64 x] 3)).alloc (.cells #[.int .i64 0] 3)).alloc (.cells #[.int .i64 0] 27)).alloc (.cells #[.slice none 0 0] 51) = W0 := ⟨_, rfl⟩
  rw [hW0] at bX bR bE bS hB0 hsz ⊢
  clear hW0 k1
  refine wpIn_rangeFunc_ownH hro (by omega) (gf := 99) (lb := #[.pointer (some ⟨w.heap.size + 1 + 1 + 1, 0, none⟩)]) rfl h99 (enters_of Tryd.func99 (by kernel_rfl) rfl)
    (back0_stops Fence.wide _ h99 hro (w.heap.size + 1 + 1 + 1) (w.heap.size + 4) W0 (by omega) bS.cell) belowK_t (belowK_b (by omega)) (Below.refl _ _) (fun _ => rfl)
    (fun pre W => ((pre = []) ∧ (Boxed W w.heap.size 3 (.int .i64 x) ∧ Boxed W (w.heap.size + 1) 3 (.int .i64 0)) ∧ Boxed W (w.heap.size + 1 + 1) 27 (.int .i64 0) ∧ Boxed W (w.heap.size + 1 + 1 + 1) 51 (.slice none 0 0)) ∧ Below w.heap.size w W)
    (fun c pre W => False)
    (OwnFrom.and (OwnFrom.and (ownFrom_pure _ _) (OwnFrom.and (OwnFrom.and (Own.from (boxed_own _ _ _) _) (Own.from (boxed_own _ _ _) _)) (OwnFrom.and (Own.from (boxed_own _ _ _) _) (Own.from (boxed_own _ _ _) _)))) (ownFrom_below (Nat.le_refl _) (by omega)))
    (fun c => ownFrom_pure _ _)
    ⟨⟨rfl, ⟨bX, bR⟩, bE, bS⟩, hB0⟩
    (fun z a' W => True)
    (fun z a' _ X Y row hs hg hr => hs)
    ?assign ?body ?done ?stop
  case assign =>
    rintro l pre z W K ⟨⟨hp, ⟨bX1, bR1⟩, bE1, bS1⟩, hB1⟩ hK
    have hlt := bS1.lt
    gi_wp2
    exact hK _ _ ((KeepsOthers.alloc _ _).from _) ((Below.refl _ W).alloc (by omega) _) ⟨⟨hp, ⟨bX1.alloc _, bR1.alloc _⟩, bE1.alloc _, bS1.alloc _⟩, hB1.alloc hB1.size _⟩ trivial
  case body =>
    rintro l pre z a' W hl _ ⟨⟨rfl, _⟩, _⟩ _ hlt
    exact absurd hlt (by simp)
  case done =>
    rintro D ys W hD rfl ⟨⟨_, ⟨bX1, bR1⟩, bE1, bS1⟩, hB1⟩ hK
    have hDW : D < W.heap.size := (Array.getElem?_eq_some_iff.1 hK).1
    have m0 : W.cell? ⟨Bv, 0, none⟩ = some (.pointer (some ⟨Bm, 0, none⟩)) := (hB1.cell (p := ⟨Bv, 0, none⟩) hBlt).trans (cell_blk HV.out.blk rfl)
    have x0 := bX1.cell
    have l1 := bR1.lt
    have l2 := bE1.lt
    have HA := Lib.hid (show ∀ w1 : World, Below W.drew.heap.size W.drew w1 → (w1.cell? ⟨w.heap.size + 1, 0, none⟩ = some (.int .i64 0) ∧ w1.frozen? ⟨w.heap.size + 1, 0, none⟩ = false ∧ w1.cell? ⟨w.heap.size + 1 + 1, 0, none⟩ = some (.int .i64 0) ∧ w1.frozen? ⟨w.heap.size + 1 + 1, 0, none⟩ = false) ∧ w1.heap[D]? = some (.deferred (some [])) ∧ Below w.heap.size w w1 ∧ w.heap.size + 1 + 1 < w1.heap.size ∧ Hid (Boxed w1 (w.heap.size + 1) 3 (.int .i64 0) ∧ Boxed w1 (w.heap.size + 1 + 1) 27 (.int .i64 0)) from fun w1 hb => by
      have e1 : Boxed w1 (w.heap.size + 1) 3 (.int .i64 0) := (hb.block (w.heap.size + 1) l1).trans bR1
      have e2 : Boxed w1 (w.heap.size + 1 + 1) 27 (.int .i64 0) := (hb.block (w.heap.size + 1 + 1) l2).trans bE1
      exact ⟨⟨e1.cell, e1.frozen, e2.cell, e2.frozen⟩, (hb.block D hDW).trans hK, below_next hB1.drew hb, Nat.lt_of_lt_of_le l2 hb.size, e1, e2⟩)
    clear bX1 bR1 bE1 bS1
    gi_wp2
    refine wpIn_wide.2 (wp_mono (Q := NoPanic _) ?_ NoPanic.le)
    go_region_with (go_at_call 81; refine (HLD.out _ hB1.drew).mono ?_; rintro e w1 ⟨rfl, hb1⟩; obtain ⟨⟨r0, r1, r2, r3⟩, r4, r5, r6, r7⟩ := HA.out w1 hb1)
    all_goals
      rw [NoPanic.normal]
      have b1 : Boxed ((w1.setCell ⟨w.heap.size + 1, 0, none⟩ (.int .i64 (M x))).setCell ⟨w.heap.size + 1 + 1, 0, none⟩ (.int .i64 0)) (w.heap.size + 1) 3 (.int .i64 (M x)) := (r7.out.1.set _).other (by omega) _
      have b2 : Boxed ((w1.setCell ⟨w.heap.size + 1, 0, none⟩ (.int .i64 (M x))).setCell ⟨w.heap.size + 1 + 1, 0, none⟩ (.int .i64 0)) (w.heap.size + 1 + 1) 27 (.int .i64 0) := (r7.out.2.other (by omega) _).set _
      have hK2 : ((w1.setCell ⟨w.heap.size + 1, 0, none⟩ (.int .i64 (M x))).setCell ⟨w.heap.size + 1 + 1, 0, none⟩ (.int .i64 0)).heap[D]? = some (.deferred (some [])) := by
        rw [Below.heap_setCell _ _ _ _ (show D ≠ w.heap.size + 1 + 1 by omega), Below.heap_setCell _ _ _ _ (show D ≠ w.heap.size + 1 by omega)]; exact r4
      have hB2 : Below w.heap.size w ((w1.setCell ⟨w.heap.size + 1, 0, none⟩ (.int .i64 (M x))).setCell ⟨w.heap.size + 1 + 1, 0, none⟩ (.int .i64 0)) := (r5.setCell (p := ⟨w.heap.size + 1, 0, none⟩) (by simp) _).setCell (p := ⟨w.heap.size + 1 + 1, 0, none⟩) (by simp; omega) _
      gi_wp2
      refine ⟨by simp, .inl ⟨_, _, rfl, run_takeDeferred hK2, ?_⟩⟩
      have hc4 := cell_kept b1.cell (grownBy_putObj' _ D (.deferred none)) (fun r e => by cases e; exact ⟨_, hK2, rfl⟩)
      have hc5 := cell_kept b2.cell (grownBy_putObj' _ D (.deferred none)) (fun r e => by cases e; exact ⟨_, hK2, rfl⟩)
      refine ⟨.tuple #[.int .i64 (M x), .int .i64 0], ?_, rfl, hB2.trans (belowK_b (w := w) (Nat.le_refl _) _ D _ _ (by omega) hK2 rfl rfl)⟩
      simp [results, Tryd.f48, go_sem, hc4, hc5]
  case stop =>
    rintro D c pre W hD hx _ hK
    exact hx.elim

end Go.Proofs.YtcngblnkfiggjaaDoor.Rm
