/- Contract of Load of a view of package redo, where an entry has the address. -/
import Derived.Test.YtcngblnkfiggjaaDoorWalkL
namespace Go.Proofs.YtcngblnkfiggjaaDoor.Rm
open Go Go.RowKit Go.Maps Go.Shelf
attribute [local go_sem] Oper.semAt_some

/-- The last entry with the address x has the value y. -/
def Hit (es : List (Int × Int)) (x y : Int) : Prop := ∃ k, k < es.length ∧ (downE es k).2.1 = x ∧ (downE es k).2.2 = y ∧ ∀ j, j < k → (downE es j).2.1 ≠ x

set_option maxRecDepth 100000 in
set_option maxHeartbeats 2000000 in
theorem load_in (F : Fence) (n : Nat) (h48 : F.fn 48) (h80 : F.fn 80) (h99 : F.fn 99) (hro : F.round = none) (hn : 3 ≤ n) (w0 w : World) (Bv Bm g cap : Nat) (es : List (Int × Int)) (x y : Int) (h : VO w0 w Bv Bm (.slice (some ⟨g, 0, none⟩) es.length cap) es) (hlen : es.length < 1000000) (hit : Hit es x y) :
    CallsIn F n Tryd.prog 48 #[.pointer (some ⟨Bv, 0, none⟩), .int .i64 x] w fun e W' => e = .returned (.tuple #[.int .i64 y, .int .i64 0]) ∧ Below w.heap.size w W' := by
  have h1 : 1 ≤ n := by omega
  obtain ⟨c0, c1, f1⟩ := h.cells
  have hBlt : Bv < w.heap.size := (Array.getElem?_eq_some_iff.1 h.blk).1
  have hW1 : Below w.heap.size w (((w.alloc (.cells #[.int .i64 x] 3)).alloc (.cells #[.int .i64 0] 3)).alloc (.cells #[.int .i64 0] 27)) := (((Below.refl _ w).alloc (Nat.le_refl _) _).alloc (by simp) _).alloc (by simp; omega) _
  have k1 := (hW1.cell (p := ⟨Bv, 1, none⟩) hBlt).trans c1
  have HIT := Lib.hid hit
  have HV := Lib.hid h
  have HB1 := Lib.hid hW1
  clear hit h hW1 c0 c1 f1
  refine callsIn_of_wp_marks Tryd.func48 rfl h48 ?_ hro
  simp only [Tryd.ntmps48, List.size_toArray, List.length_cons, List.length_nil, Nat.reduceAdd, Nat.reduceSub, Array.replicate_succ, Array.replicate_zero, List.push_toArray, List.append_toArray, List.nil_append, List.cons_append]
  gi_wp2_with (gi_at_call 80; refine (back_in F (n - 1) h80 hro _ _ _ _).mono ?_; rintro e w' ⟨rfl, rfl⟩)
  have bX := (((Boxed.new w 3 (.int .i64 x)).alloc (.cells #[.int .i64 0] 3)).alloc (.cells #[.int .i64 0] 27)).alloc (.cells #[.slice (some ⟨g, 0, none⟩) es.length cap] 51)
  have bR := ((Boxed.new (w.alloc (.cells #[.int .i64 x] 3)) 3 (.int .i64 0)).alloc (.cells #[.int .i64 0] 27)).alloc (.cells #[.slice (some ⟨g, 0, none⟩) es.length cap] 51)
  have bE := (Boxed.new ((w.alloc (.cells #[.int .i64 x] 3)).alloc (.cells #[.int .i64 0] 3)) 27 (.int .i64 0)).alloc (.cells #[.slice (some ⟨g, 0, none⟩) es.length cap] 51)
  have bS := Boxed.new (((w.alloc (.cells #[.int .i64 x] 3)).alloc (.cells #[.int .i64 0] 3)).alloc (.cells #[.int .i64 0] 27)) 51 (.slice (some ⟨g, 0, none⟩) es.length cap)
  simp only [World.size_alloc] at bR bE bS
  have hB0 : Below w.heap.size w ((((w.alloc (.cells #[.int .i64 x] 3)).alloc (.cells #[.int .i64 0] 3)).alloc (.cells #[.int .i64 0] 27)).alloc (.cells #[.slice (some ⟨g, 0, none⟩) es.length cap] 51)) := HB1.out.alloc (by simp; omega) _
  have hsz : ((((w.alloc (.cells #[.int .i64 x] 3)).alloc (.cells #[.int .i64 0] 3)).alloc (.cells #[.int .i64 0] 27)).alloc (.cells #[.slice (some ⟨g, 0, none⟩) es.length cap] 51)).heap.size = w.heap.size + 4 := by simp
  have hrd := (HV.out.own.rd.below hB0)
  obtain ⟨W0, hW0⟩ : ∃ W0, (((w.alloc (.cells #[.int .i64 x] 3)).alloc (.cells #[.int .i64 0] 3)).alloc (.cells #[.int .i64 0] 27)).alloc (.cells #[.slice (some ⟨g, 0, none⟩) es.length cap] 51) = W0 := ⟨_, rfl⟩
  rw [hW0] at bX bR bE bS hB0 hsz hrd ⊢
  clear hW0 k1
  have hpos : 0 < es.length := by obtain ⟨k, hk, _⟩ := HIT.out; omega
  have hcap : es.length ≤ cap ∧ cap ≤ 9223372036854775807 := by
    obtain ⟨_, ⟨h2, _⟩ | ⟨g', cap', cur, h2, hb, hh, hn, hm, hsz, hx⟩⟩ := HV.out.own
    · cases h2
    · cases h2
      unfold maxLen at hm
      exact ⟨hn, by omega⟩
  have hgl : g < w.heap.size := (HV.out.own.lt (k := g) rfl).2
  have hcells : ∀ j, j < es.length → W0.cell? ⟨g, 0 + j * 2, none⟩ = some (.int .i64 (nth es j).1) ∧ W0.cell? ⟨g, 0 + j * 2 + 1, none⟩ = some (.int .i64 (nth es j).2) := fun j hj => by
    obtain ⟨b, off, e, _, _, _, q1, q2⟩ := hrd.at hj
    simp only [Option.some.injEq, Addr.mk.injEq, and_true] at e
    obtain ⟨rfl, rfl⟩ := e
    exact ⟨q1, q2⟩
  refine wpIn_rangeFunc_ownH hro h1 (gf := 99) (lb := #[.pointer (some ⟨w.heap.size + 1 + 1 + 1, 0, none⟩)]) rfl h99 (enters_of Tryd.func99 (by kernel_rfl) rfl)
    (back_stops F (n - 1) h99 hro (by omega) (w.heap.size + 1 + 1 + 1) (w.heap.size + 4) g 0 cap es hlen hcap hpos (by omega) (by omega) W0 (by omega) (by omega) bS.cell hcells) belowK_t (belowK_b (by omega)) (Below.refl _ _) (fun _ => rfl)
    (fun pre W => ((∀ p ∈ pre, p.2.1 ≠ x) ∧ (Boxed W w.heap.size 3 (.int .i64 x) ∧ Boxed W (w.heap.size + 1) 3 (.int .i64 0)) ∧ Boxed W (w.heap.size + 1 + 1) 27 (.int .i64 0) ∧ Boxed W (w.heap.size + 1 + 1 + 1) 51 (.slice (some ⟨g, 0, none⟩) es.length cap)) ∧ Below w.heap.size w W)
    (fun c pre W => (c = .ret ∧ ∃ ini last, pre = ini ++ [last] ∧ (∀ p ∈ ini, p.2.1 ≠ x) ∧ last.2.1 = x ∧ Boxed W (w.heap.size + 1) 3 (.int .i64 last.2.2) ∧ Boxed W (w.heap.size + 1 + 1) 27 (.int .i64 0)) ∧ Below w.heap.size w W)
    (OwnFrom.and (OwnFrom.and (ownFrom_pure _ _) (OwnFrom.and (OwnFrom.and (Own.from (boxed_own _ _ _) _) (Own.from (boxed_own _ _ _) _)) (OwnFrom.and (Own.from (boxed_own _ _ _) _) (Own.from (boxed_own _ _ _) _)))) (ownFrom_below (Nat.le_refl _) (by omega)))
    (fun c => OwnFrom.and (Own.from (fun s X Y row hs hg hr => by obtain ⟨e0, ini, last, e1, e2, e3, e4, e5⟩ := hs; exact ⟨e0, ini, last, e1, e2, e3, boxed_own (w.heap.size + 1) 3 (fun (_ : Unit) => Value.int .i64 last.2.2) () X Y row e4 hg hr, boxed_own (w.heap.size + 1 + 1) 27 (fun (_ : Unit) => Value.int .i64 0) () X Y row e5 hg hr⟩) _) (ownFrom_below (Nat.le_refl _) (by omega)))
    ⟨⟨by simp, ⟨bX, bR⟩, bE, bS⟩, hB0⟩
    (fun z a' W => ∃ Bx, w.heap.size + 3 < Bx ∧ W.heap[Bx]? = some (.cells #[.int .i64 z.2.1, .int .i64 z.2.2] 55 (0, 0)) ∧ a' = { tmps := #[.pointer (some ⟨Bv, 0, none⟩), .int .i64 x, undef, .pointer (some ⟨w.heap.size, 0, none⟩), .pointer (some ⟨w.heap.size + 1, 0, none⟩), .pointer (some ⟨w.heap.size + 1 + 1, 0, none⟩), undef, .pointer (some ⟨Bx, 0, none⟩), .pointer (some ⟨Bv, 0, none⟩), .pointer (some ⟨Bv, 0, none⟩), .pointer (some ⟨Bv, 1, none⟩), .slice (some ⟨g, 0, none⟩) es.length cap, .func (.func 99) #[] #[.pointer (some ⟨w.heap.size + 1 + 1 + 1, 0, none⟩)], .int .i64 (z.1 : Int), .agg #[.int .i64 z.2.1, .int .i64 z.2.2], undef, undef, undef, undef, undef, undef, undef, undef, undef, undef, undef, undef, undef, undef, undef], defers := [] })
    (fun z a' _ X Y row hs hg hr => by
      obtain ⟨Bx, e1, e2, e3⟩ := hs
      exact ⟨Bx, e1, (hg.block Bx (Array.getElem?_eq_some_iff.1 e2).1 (fun e => by obtain ⟨_, o, ho, hc⟩ := hr Bx e.symm; rw [e2] at ho; cases ho; cases hc)).trans e2, e3⟩)
    ?assign ?body ?done ?stop
  case assign =>
    rintro l pre z W K ⟨⟨hp, ⟨bX1, bR1⟩, bE1, bS1⟩, hB1⟩ hK
    have hlt := bS1.lt
    gi_wp2
    exact hK _ _ ((KeepsOthers.alloc _ _).from _) ((Below.refl _ W).alloc (by omega) _) ⟨⟨hp, ⟨bX1.alloc _, bR1.alloc _⟩, bE1.alloc _, bS1.alloc _⟩, hB1.alloc hB1.size _⟩ ⟨W.heap.size, by omega, World.alloc_heap_new W _, rfl⟩
  case body =>
    rintro l pre z a' W hl _ ⟨⟨hp, ⟨bX1, bR1⟩, bE1, bS1⟩, hB1⟩ ⟨Bx, hBx, hcx, rfl⟩ hlt
    have cX := bX1.cell
    have cR := bR1.cell
    have fR := bR1.frozen
    have cE := bE1.cell
    have fE := bE1.frozen
    have d0 : W.cell? ⟨Bx, 0, none⟩ = some (.int .i64 z.2.1) := by simp [World.cell?, hcx]
    have d1 : W.cell? ⟨Bx, 1, none⟩ = some (.int .i64 z.2.2) := by simp [World.cell?, hcx]
    by_cases heq : z.2.1 = x
    · have hq : (z.2.1 == x) = true := by simpa using heq
      gi_wp2
      refine ⟨((KeepsOthers.setCell _ _ _).trans (KeepsOthers.setCell _ _ _)).from _, ⟨rfl, pre, z, rfl, hp, heq, (bR1.set _).other (by omega) _, (bE1.other (by omega) _).set _⟩, ?_⟩
      exact (hB1.setCell (p := ⟨w.heap.size + 1, 0, none⟩) (by simp) _).setCell (p := ⟨w.heap.size + 1 + 1, 0, none⟩) (by simp; omega) _
    · have hq : (z.2.1 == x) = false := by simpa using heq
      gi_wp2
      exact ⟨KeepsFrom.refl _ _, Below.refl _ _, ⟨⟨fun p hp' => (List.mem_append.1 hp').elim (hp p) (fun e => by rw [List.mem_singleton] at e; rw [e]; exact heq), ⟨bX1, bR1⟩, bE1, bS1⟩, hB1⟩⟩
  case done =>
    rintro D ys W hD rfl ⟨⟨hp, _⟩, _⟩ hK
    exfalso
    obtain ⟨k, hk, e1, _⟩ := HIT.out
    exact hp (downE es k) (by simp only [upto, List.mem_map, List.mem_range]; exact ⟨k, hk, rfl⟩) e1
  case stop =>
    rintro D c pre W hD ⟨k, hk, rfl⟩ ⟨⟨rfl, ini, last, e1, e2, e3, bR1, bE1⟩, hB⟩ hK
    gi_wp2
    refine ⟨by simp, .inl ⟨_, _, rfl, run_takeDeferred hK, ?_⟩⟩
    have hc4 := cell_kept bR1.cell (grownBy_putObj' _ D (.deferred none)) (fun r e => by cases e; exact ⟨_, hK, rfl⟩)
    have hc5 := cell_kept bE1.cell (grownBy_putObj' _ D (.deferred none)) (fun r e => by cases e; exact ⟨_, hK, rfl⟩)
    obtain ⟨k', rfl⟩ : ∃ k', k = k' + 1 := by
      cases k with
      | zero => simp [upto] at e1
      | succ k' => exact ⟨k', rfl⟩
    rw [upto_succ] at e1
    obtain ⟨rfl, e5⟩ := List.append_inj' e1 rfl
    obtain rfl : downE es k' = last := by simpa using e5
    obtain ⟨q, hq, g1, g2, g3⟩ := HIT.out
    have hqk : q = k' := by
      rcases Nat.lt_trichotomy q k' with hlt | heq | hgt
      · exact absurd g1 (e2 (downE es q) (by simp only [upto, List.mem_map, List.mem_range]; exact ⟨q, hlt, rfl⟩))
      · exact heq
      · exact absurd e3 (g3 k' hgt)
    subst hqk
    rw [g2] at hc4
    refine ⟨.tuple #[.int .i64 y, .int .i64 0], ?_, rfl, hB.trans (belowK_b (w := w) (Nat.le_refl _) W D _ _ (by omega) hK rfl rfl)⟩
    simp [results, Tryd.f48, go_sem, hc4, hc5]

end Go.Proofs.YtcngblnkfiggjaaDoor.Rm
