/- Contracts of shows and Load of package memory: what is pending, over zeros (printed by gen_l.py). -/
import Derived.Test.YtcngblnkfiggjaaDoorChS
namespace Go.Proofs.YtcngblnkfiggjaaDoor.Rm
open Go Go.RowKit Go.Maps
attribute [local go_sem ↓] Go.wp_at_zero Go.wp_at_succ

def arr8 (f : Int → Int) : Array Value := #[.int .i64 (f 0), .int .i64 (f 1), .int .i64 (f 2), .int .i64 (f 3), .int .i64 (f 4), .int .i64 (f 5), .int .i64 (f 6), .int .i64 (f 7)]
theorem arr8_set (f : Int → Int) (q : Nat) (hq : q < 8) (x : Int) : (arr8 f).setIfInBounds q (.int .i64 x) = arr8 (fun i => if i = (q : Int) then x else f i) := by
  rcases (show q = 0 ∨ q = 1 ∨ q = 2 ∨ q = 3 ∨ q = 4 ∨ q = 5 ∨ q = 6 ∨ q = 7 by omega) with rfl | rfl | rfl | rfl | rfl | rfl | rfl | rfl <;> simp [arr8]
theorem arr8_at (f : Int → Int) (q : Nat) (hq : q < 8) : (arr8 f)[q]? = some (.int .i64 (f q)) := by
  rcases (show q = 0 ∨ q = 1 ∨ q = 2 ∨ q = 3 ∨ q = 4 ∨ q = 5 ∨ q = 6 ∨ q = 7 by omega) with rfl | rfl | rfl | rfl | rfl | rfl | rfl | rfl <;> rfl
theorem arr8_zero : arr8 (shown []) = #[.int .i64 0, .int .i64 0, .int .i64 0, .int .i64 0, .int .i64 0, .int .i64 0, .int .i64 0, .int .i64 0] := rfl
theorem shown_take {l : List (Int × Int)} {j : Nat} (h : j < l.length) : shown (l.take (j + 1)) = fun i => if i = (nth l j).1 then (nth l j).2 else shown (l.take j) i := by
  funext i
  rw [take_item h, shown_snoc]

theorem drew_size (w : World) : w.drew.heap.size = w.heap.size := rfl
theorem fz8 {w : World} {B : Nat} {t : TypeId} (h : w.heap[B]? = some (.cells #[.int .i64 0, .int .i64 0, .int .i64 0, .int .i64 0, .int .i64 0, .int .i64 0, .int .i64 0, .int .i64 0] t (0, 0))) : w.frozen? ⟨B, 0, none⟩ = false ∧ w.cell? ⟨B, 0, none⟩ = some (.int .i64 0) ∧ w.frozen? ⟨B, 1, none⟩ = false ∧ w.cell? ⟨B, 1, none⟩ = some (.int .i64 0) ∧ w.frozen? ⟨B, 2, none⟩ = false ∧ w.cell? ⟨B, 2, none⟩ = some (.int .i64 0) ∧ w.frozen? ⟨B, 3, none⟩ = false ∧ w.cell? ⟨B, 3, none⟩ = some (.int .i64 0) ∧ w.frozen? ⟨B, 4, none⟩ = false ∧ w.cell? ⟨B, 4, none⟩ = some (.int .i64 0) ∧ w.frozen? ⟨B, 5, none⟩ = false ∧ w.cell? ⟨B, 5, none⟩ = some (.int .i64 0) ∧ w.frozen? ⟨B, 6, none⟩ = false ∧ w.cell? ⟨B, 6, none⟩ = some (.int .i64 0) ∧ w.frozen? ⟨B, 7, none⟩ = false ∧ w.cell? ⟨B, 7, none⟩ = some (.int .i64 0) :=
  ⟨Joins.unfrozen_of_block h 0, cell_blk h rfl, Joins.unfrozen_of_block h 1, cell_blk h rfl, Joins.unfrozen_of_block h 2, cell_blk h rfl, Joins.unfrozen_of_block h 3, cell_blk h rfl, Joins.unfrozen_of_block h 4, cell_blk h rfl, Joins.unfrozen_of_block h 5, cell_blk h rfl, Joins.unfrozen_of_block h 6, cell_blk h rfl, Joins.unfrozen_of_block h 7, cell_blk h rfl⟩
/-- The world while shows puts what is pending into its words. -/
structure Shw (w wr : World) (Bw : Nat) (l : List (Int × Int)) : Prop where
  blk : wr.heap[Bw]? = some (.cells (arr8 (shown l)) 93 (0, 0))
  zer : wr.heap[w.heap.size]? = some (.cells #[.int .i64 0, .int .i64 0, .int .i64 0, .int .i64 0, .int .i64 0, .int .i64 0, .int .i64 0, .int .i64 0] 93 (0, 0))
  below : Below w.heap.size w wr
theorem Shw.lt {w wr : World} {Bw : Nat} {l : List (Int × Int)} (h : Shw w wr Bw l) : Bw < wr.heap.size := (Array.getElem?_eq_some_iff.1 h.blk).1
theorem Shw.fits {w wr : World} {Bw : Nat} {l : List (Int × Int)} (h : Shw w wr Bw l) {q : Nat} (hq : q < 8) : wr.frozen? ⟨Bw, q, none⟩ = false ∧ wr.cell? ⟨Bw, q, none⟩ = some (.int .i64 (shown l q)) :=
  ⟨Joins.unfrozen_of_block h.blk q, cell_blk h.blk (arr8_at _ q hq)⟩
theorem Shw.next {w wr : World} {Bw : Nat} {l : List (Int × Int)} {j : Nat} (h : Shw w wr Bw (l.take j)) {q : Nat} (hq : q < 8) (he : (nth l j).1 = (q : Int)) (hj : j < l.length) (hne : w.heap.size ≠ Bw) (hlt : w.heap.size < Bw) (o : _root_.Go.Obj) :
    Shw w ((wr.setCell ⟨Bw, q, none⟩ (.int .i64 (nth l j).2)).alloc o) Bw (l.take (j + 1)) := by
  refine ⟨?_, ?_, ?_⟩
  · have := Joins.block_setCell h.blk (i := q) (.int .i64 (nth l j).2)
    rw [arr8_set _ q hq] at this
    rw [at_old this, shown_take hj, he]
  · exact at_old ((Below.heap_setCell _ _ _ _ hne).trans h.zer)
  · have := h.below.setCell (p := ⟨Bw, q, none⟩) (Nat.le_of_lt hlt) (.int .i64 (nth l j).2)
    exact this.alloc this.size _

set_option maxHeartbeats 4000000 in
set_option maxRecDepth 100000 in
theorem shows_any (w : World) (Bl k : Nat) (l : List (Int × Int)) (v : Value) (hBl : Bl < w.heap.size) (hs : w.cell? ⟨Bl, k * 11, none⟩ = some (.int .i64 0) ∧ w.cell? ⟨Bl, k * 11 + 1, none⟩ = some (.int .i64 0) ∧ w.cell? ⟨Bl, k * 11 + 2, none⟩ = some (.int .i64 0) ∧ w.cell? ⟨Bl, k * 11 + 3, none⟩ = some (.int .i64 0) ∧ w.cell? ⟨Bl, k * 11 + 4, none⟩ = some (.int .i64 0) ∧ w.cell? ⟨Bl, k * 11 + 5, none⟩ = some (.int .i64 0) ∧ w.cell? ⟨Bl, k * 11 + 6, none⟩ = some (.int .i64 0) ∧ w.cell? ⟨Bl, k * 11 + 7, none⟩ = some (.int .i64 0) ∧ w.cell? ⟨Bl, k * 11 + 8, none⟩ = some (.int .i64 0)) (hv : w.cell? ⟨Bl, k * 11 + 9, none⟩ = some v) (hown : w.ownsRow 0 141 2 v l.length (itemCells l)) (hwrd : ∀ p ∈ l, 0 ≤ p.1 ∧ p.1 < 8) (hl : l.length < 1000000) :
    Calls Tryd.prog 100 #[.pointer (some ⟨Bl, k * 11, none⟩), .int .i64 (l.length : Int)] w fun e w' => e = .returned (.tuple #[.agg (arr8 (shown l)), .int .i64 0]) ∧ Below w.heap.size w w' := by
  obtain ⟨s0, s1, s2, s3, s4, s5, s6, s7, s8⟩ := hs
  have HS := Lib.hid (show ∀ w2 : World, Below w.heap.size w w2 → Below w.heap.size w w2 ∧ w2.cell? ⟨Bl, k * 11, none⟩ = some (.int .i64 0) ∧ w2.cell? ⟨Bl, k * 11 + 1, none⟩ = some (.int .i64 0) ∧ w2.cell? ⟨Bl, k * 11 + 2, none⟩ = some (.int .i64 0) ∧ w2.cell? ⟨Bl, k * 11 + 3, none⟩ = some (.int .i64 0) ∧ w2.cell? ⟨Bl, k * 11 + 4, none⟩ = some (.int .i64 0) ∧ w2.cell? ⟨Bl, k * 11 + 5, none⟩ = some (.int .i64 0) ∧ w2.cell? ⟨Bl, k * 11 + 6, none⟩ = some (.int .i64 0) ∧ w2.cell? ⟨Bl, k * 11 + 7, none⟩ = some (.int .i64 0) ∧ w2.cell? ⟨Bl, k * 11 + 8, none⟩ = some (.int .i64 0) from fun w2 hb => ⟨hb, (hb.cell hBl).trans s0, (hb.cell hBl).trans s1, (hb.cell hBl).trans s2, (hb.cell hBl).trans s3, (hb.cell hBl).trans s4, (hb.cell hBl).trans s5, (hb.cell hBl).trans s6, (hb.cell hBl).trans s7, (hb.cell hBl).trans s8⟩)
  have HB0 : Below w.heap.size w (w.alloc (.cells #[.int .i64 0, .int .i64 0, .int .i64 0, .int .i64 0, .int .i64 0, .int .i64 0, .int .i64 0, .int .i64 0] 93)) := (Below.refl _ w).alloc (Nat.le_refl _) _
  have H0 := Lib.hid HB0
  have H9 := Lib.hid (show ((w.alloc (.cells #[.int .i64 0, .int .i64 0, .int .i64 0, .int .i64 0, .int .i64 0, .int .i64 0, .int .i64 0, .int .i64 0] 93)).alloc (.cells #[.int .i64 0, .int .i64 0, .int .i64 0, .int .i64 0, .int .i64 0, .int .i64 0, .int .i64 0, .int .i64 0] 93)).drew.heap[w.heap.size + 1]? = some (.cells #[.int .i64 0, .int .i64 0, .int .i64 0, .int .i64 0, .int .i64 0, .int .i64 0, .int .i64 0, .int .i64 0] 93 (0, 0)) from new_at (by simp))
  have HV := Lib.hid hv
  have HW := Lib.hid hwrd
  have HOWN := Lib.hid hown
  obtain ⟨ao, cap, hsh⟩ := owns_shape hown
  subst hsh
  clear HB0 hv hwrd hown s0 s1 s2 s3 s4 s5 s6 s7 s8
  go_enter Tryd.func100, Tryd.ntmps100
  go_wp2
  go_region_held3 (fun w' => Below w.heap.size w w' ∧ w'.cell? ⟨Bl, k * 11, none⟩ = some (.int .i64 0) ∧ w'.cell? ⟨Bl, k * 11 + 1, none⟩ = some (.int .i64 0) ∧ w'.cell? ⟨Bl, k * 11 + 2, none⟩ = some (.int .i64 0) ∧ w'.cell? ⟨Bl, k * 11 + 3, none⟩ = some (.int .i64 0) ∧ w'.cell? ⟨Bl, k * 11 + 4, none⟩ = some (.int .i64 0) ∧ w'.cell? ⟨Bl, k * 11 + 5, none⟩ = some (.int .i64 0) ∧ w'.cell? ⟨Bl, k * 11 + 6, none⟩ = some (.int .i64 0) ∧ w'.cell? ⟨Bl, k * 11 + 7, none⟩ = some (.int .i64 0) ∧ w'.cell? ⟨Bl, k * 11 + 8, none⟩ = some (.int .i64 0)) ((with_reducible refine HS.out _ ?_; first | with_reducible exact And.left (by assumption) | with_reducible exact H0.out | with_reducible exact H0.out.drew | with_reducible exact (Below.alloc H0.out H0.out.size _).drew | with_reducible exact hS1 | (with_reducible refine Below.alloc ?ba ?bb _; (case ba => exact And.left (by assumption)); (case bb => exact Below.size (w := w) (And.left (by assumption)))) | (with_reducible refine put8_below _ _ _ _ _ _ _ _ _ _ ?ba ?bb; (case ba => exact And.left (by assumption)); first | omega | (have hsz1 := hb1.size; rw [drew_size] at hsz1; simp at hsz1; omega)))) ((go_simp; go_at_call 122; refine (fix0 _).mono ?_; rintro e w1 ⟨rfl, hb1⟩; have hS1 : Below w.heap.size w w1 := below_next (And.left (by assumption)) hb1; try (have b8 := hb1.block (w.heap.size + 1) (by rw [drew_size]; simp); have b9 := b8.trans H9.out; have hw9 : w.heap.size + 1 < w1.heap.size := Nat.lt_of_lt_of_le (by rw [drew_size]; simp) hb1.size; obtain ⟨f0, g0, f1, g1, f2, g2, f3, g3, f4, g4, f5, g5, f6, g6, f7, g7⟩ := fz8 b9; have HB9 := Lib.hid b9; clear b8 b9)))
  · have hz4 : w1.heap[w.heap.size]? = some (.cells #[.int .i64 0, .int .i64 0, .int .i64 0, .int .i64 0, .int .i64 0, .int .i64 0, .int .i64 0, .int .i64 0] 93 (0, 0)) := (hb1.block w.heap.size (by rw [drew_size]; simp)).trans (heap_alloc_new w _)
    have hlt1 : w.heap.size < w1.heap.size := (Array.getElem?_eq_some_iff.1 hz4).1
    have hPw := heap_alloc_new w1 (.cells #[.int .i64 0, .int .i64 0, .int .i64 0, .int .i64 0, .int .i64 0, .int .i64 0, .int .i64 0, .int .i64 0] 93 (0, 0))
    have hP4 : (w1.alloc (.cells #[.int .i64 0, .int .i64 0, .int .i64 0, .int .i64 0, .int .i64 0, .int .i64 0, .int .i64 0, .int .i64 0] 93)).heap[w.heap.size]? = some (.cells #[.int .i64 0, .int .i64 0, .int .i64 0, .int .i64 0, .int .i64 0, .int .i64 0, .int .i64 0, .int .i64 0] 93 (0, 0)) := at_old hz4
    have HBw := hS1.alloc hS1.size (.cells #[.int .i64 0, .int .i64 0, .int .i64 0, .int .i64 0, .int .i64 0, .int .i64 0, .int .i64 0, .int .i64 0] 93 (0, 0))
    obtain ⟨Wf, hWf⟩ : ∃ Wf, w1.alloc (.cells #[.int .i64 0, .int .i64 0, .int .i64 0, .int .i64 0, .int .i64 0, .int .i64 0, .int .i64 0, .int .i64 0] 93) = Wf := ⟨_, rfl⟩
    rw [hWf] at hPw hP4 HBw ⊢
    clear hWf hz4 hb1 hS1
    obtain ⟨Bw, hBw⟩ : ∃ Bw, w1.heap.size = Bw := ⟨_, rfl⟩
    rw [hBw] at hPw hlt1 ⊢
    have hv2 := (HBw.cell (p := ⟨Bl, k * 11 + 9, none⟩) hBl).trans HV.out
    have hne : w.heap.size ≠ Bw := by omega
    have HBw1 := Lib.hid HBw
    have HPw := Lib.hid hPw
    have HP4 := Lib.hid hP4
    clear HBw hBw hPw hP4 HS H0 H9
    rename_i hX
    clear hX
    obtain ⟨hx1, ⟨hnil, hl0⟩ | ⟨g, cap', cur, hsl, _, hh, hn, hm, _⟩⟩ := HOWN.out
    · obtain rfl : l = [] := List.eq_nil_of_length_eq_zero hl0
      simp only [Value.slice.injEq] at hnil
      obtain ⟨rfl, _, rfl⟩ := hnil
      have p1 : Shw w Wf Bw [] := ⟨HPw.out, HP4.out, HBw1.out⟩
      have hc := fun (q : Nat) (hq : q < 8) => (p1.fits hq).2
      have c0 : Wf.cell? ⟨Bw, 0, none⟩ = some (.int .i64 (shown [] 0)) := by simpa using hc 0 (by omega)
      have c1 : Wf.cell? ⟨Bw, 1, none⟩ = some (.int .i64 (shown [] 1)) := by simpa using hc 1 (by omega)
      have c2 : Wf.cell? ⟨Bw, 2, none⟩ = some (.int .i64 (shown [] 2)) := by simpa using hc 2 (by omega)
      have c3 : Wf.cell? ⟨Bw, 3, none⟩ = some (.int .i64 (shown [] 3)) := by simpa using hc 3 (by omega)
      have c4 : Wf.cell? ⟨Bw, 4, none⟩ = some (.int .i64 (shown [] 4)) := by simpa using hc 4 (by omega)
      have c5 : Wf.cell? ⟨Bw, 5, none⟩ = some (.int .i64 (shown [] 5)) := by simpa using hc 5 (by omega)
      have c6 : Wf.cell? ⟨Bw, 6, none⟩ = some (.int .i64 (shown [] 6)) := by simpa using hc 6 (by omega)
      have c7 : Wf.cell? ⟨Bw, 7, none⟩ = some (.int .i64 (shown [] 7)) := by simpa using hc 7 (by omega)
      obtain ⟨f0, g0, f1, g1, f2, g2, f3, g3, f4, g4, f5, g5, f6, g6, f7, g7⟩ := fz8 p1.zer
      have hwl : w.heap.size < Wf.heap.size := (Array.getElem?_eq_some_iff.1 p1.zer).1
      have HP := Lib.hid p1
      clear p1 hc
      go_wp2
      refine wp_loop_rounds 1 ?_
      rw [rounds_succ]
      go_wp2
      have hP := put8 Wf w.heap.size 93 _ _ _ _ _ _ _ _ (.int .i64 (shown [] 0)) (.int .i64 (shown [] 1)) (.int .i64 (shown [] 2)) (.int .i64 (shown [] 3)) (.int .i64 (shown [] 4)) (.int .i64 (shown [] 5)) (.int .i64 (shown [] 6)) (.int .i64 (shown [] 7)) HP.out.zer
      have HF := Lib.hid (put8_below Wf w.heap.size (.int .i64 (shown [] 0)) (.int .i64 (shown [] 1)) (.int .i64 (shown [] 2)) (.int .i64 (shown [] 3)) (.int .i64 (shown [] 4)) (.int .i64 (shown [] 5)) (.int .i64 (shown [] 6)) (.int .i64 (shown [] 7)) HP.out.below (Nat.le_refl _))
      obtain ⟨We, hWe⟩ : ∃ We, ((((((((Wf.setCell ⟨w.heap.size, 0, none⟩ (.int .i64 (shown [] 0))).setCell ⟨w.heap.size, 1, none⟩ (.int .i64 (shown [] 1))).setCell ⟨w.heap.size, 2, none⟩ (.int .i64 (shown [] 2))).setCell ⟨w.heap.size, 3, none⟩ (.int .i64 (shown [] 3))).setCell ⟨w.heap.size, 4, none⟩ (.int .i64 (shown [] 4))).setCell ⟨w.heap.size, 5, none⟩ (.int .i64 (shown [] 5))).setCell ⟨w.heap.size, 6, none⟩ (.int .i64 (shown [] 6))).setCell ⟨w.heap.size, 7, none⟩ (.int .i64 (shown [] 7))) = We := ⟨_, rfl⟩
      rw [hWe] at hP HF ⊢
      clear hWe
      have r0 : We.cell? ⟨w.heap.size, 0, none⟩ = some (.int .i64 (shown [] 0)) := cell_blk hP rfl
      have r1 : We.cell? ⟨w.heap.size, 1, none⟩ = some (.int .i64 (shown [] 1)) := cell_blk hP rfl
      have r2 : We.cell? ⟨w.heap.size, 2, none⟩ = some (.int .i64 (shown [] 2)) := cell_blk hP rfl
      have r3 : We.cell? ⟨w.heap.size, 3, none⟩ = some (.int .i64 (shown [] 3)) := cell_blk hP rfl
      have r4 : We.cell? ⟨w.heap.size, 4, none⟩ = some (.int .i64 (shown [] 4)) := cell_blk hP rfl
      have r5 : We.cell? ⟨w.heap.size, 5, none⟩ = some (.int .i64 (shown [] 5)) := cell_blk hP rfl
      have r6 : We.cell? ⟨w.heap.size, 6, none⟩ = some (.int .i64 (shown [] 6)) := cell_blk hP rfl
      have r7 : We.cell? ⟨w.heap.size, 7, none⟩ = some (.int .i64 (shown [] 7)) := cell_blk hP rfl
      refine bodyPost_ret (v := .tuple #[.agg #[.int .i64 (shown [] 0), .int .i64 (shown [] 1), .int .i64 (shown [] 2), .int .i64 (shown [] 3), .int .i64 (shown [] 4), .int .i64 (shown [] 5), .int .i64 (shown [] 6), .int .i64 (shown [] 7)], .int .i64 0]) (by simp [results, Tryd.f100, go_sem, r0, r1, r2, r3, r4, r5, r6, r7]) rfl ?_
      exact ⟨rfl, HF.out⟩
    · simp only [Value.slice.injEq] at hsl
      obtain ⟨rfl, _, rfl⟩ := hsl
      have hgl : g < w.heap.size := (Array.getElem?_eq_some_iff.1 hh).1
      have HQ := Lib.hid (Seg.pair (Seg.of_owns HOWN.out) rfl)
      unfold maxLen at hm
      clear HOWN hx1 hh
      go_wp2
      go_loopw [37] (fun i wr => ∃ k : Nat, k ≤ l.length ∧ i = .int .i64 k ∧ Shw w wr Bw (l.take k)) (fun i _ => l.length - (RowKit.intOf i).toNat)
      case atStart => exact ⟨0, Nat.zero_le _, rfl, HPw.out, HP4.out, HBw1.out⟩
      case round =>
        obtain ⟨j, hj, rfl, p1⟩ := hrel
        by_cases hlt : j < l.length
        · obtain ⟨q1, q2⟩ := HQ.out j hlt
          obtain ⟨x0, x1⟩ := HW.out _ (List.mem_of_getElem? (nth_getElem hlt))
          obtain ⟨q, hq⟩ := Int.eq_ofNat_of_zero_le x0
          have hq8 : q < 8 := by omega
          obtain ⟨hf, hc⟩ := p1.fits hq8
          have d1 : wr.cell? ⟨g, j * 2, none⟩ = some (.int .i64 (nth l j).1) := by simpa using (p1.below.cell (p := ⟨g, 0 + j * 2, none⟩) hgl).trans q1
          have d2 : wr.cell? ⟨g, j * 2 + 1, none⟩ = some (.int .i64 (nth l j).2) := by simpa using (p1.below.cell (p := ⟨g, 0 + j * 2 + 1, none⟩) hgl).trans q2
          rw [hq] at d1
          have hBwl := p1.lt
          have HN := Lib.hid (p1.next hq8 hq hlt hne hlt1)
          clear p1 q1 q2
          go_wp2
          go_roundw
          case rel => exact ⟨j + 1, by omega, by go_num, HN.out _⟩
          case measure => simp [RowKit.intOf]; omega
        · obtain rfl : j = l.length := by omega
          rw [List.take_length] at p1
          have hc := fun (q : Nat) (hq : q < 8) => (p1.fits hq).2
          have c0 : wr.cell? ⟨Bw, 0, none⟩ = some (.int .i64 (shown l 0)) := by simpa using hc 0 (by omega)
          have c1 : wr.cell? ⟨Bw, 1, none⟩ = some (.int .i64 (shown l 1)) := by simpa using hc 1 (by omega)
          have c2 : wr.cell? ⟨Bw, 2, none⟩ = some (.int .i64 (shown l 2)) := by simpa using hc 2 (by omega)
          have c3 : wr.cell? ⟨Bw, 3, none⟩ = some (.int .i64 (shown l 3)) := by simpa using hc 3 (by omega)
          have c4 : wr.cell? ⟨Bw, 4, none⟩ = some (.int .i64 (shown l 4)) := by simpa using hc 4 (by omega)
          have c5 : wr.cell? ⟨Bw, 5, none⟩ = some (.int .i64 (shown l 5)) := by simpa using hc 5 (by omega)
          have c6 : wr.cell? ⟨Bw, 6, none⟩ = some (.int .i64 (shown l 6)) := by simpa using hc 6 (by omega)
          have c7 : wr.cell? ⟨Bw, 7, none⟩ = some (.int .i64 (shown l 7)) := by simpa using hc 7 (by omega)
          obtain ⟨f0, g0, f1, g1, f2, g2, f3, g3, f4, g4, f5, g5, f6, g6, f7, g7⟩ := fz8 p1.zer
          have hwl : w.heap.size < wr.heap.size := (Array.getElem?_eq_some_iff.1 p1.zer).1
          have HP := Lib.hid p1
          clear p1 hc
          go_wp2
          have hP := put8 wr w.heap.size 93 _ _ _ _ _ _ _ _ (.int .i64 (shown l 0)) (.int .i64 (shown l 1)) (.int .i64 (shown l 2)) (.int .i64 (shown l 3)) (.int .i64 (shown l 4)) (.int .i64 (shown l 5)) (.int .i64 (shown l 6)) (.int .i64 (shown l 7)) HP.out.zer
          have HF := Lib.hid (put8_below wr w.heap.size (.int .i64 (shown l 0)) (.int .i64 (shown l 1)) (.int .i64 (shown l 2)) (.int .i64 (shown l 3)) (.int .i64 (shown l 4)) (.int .i64 (shown l 5)) (.int .i64 (shown l 6)) (.int .i64 (shown l 7)) HP.out.below (Nat.le_refl _))
          obtain ⟨We, hWe⟩ : ∃ We, ((((((((wr.setCell ⟨w.heap.size, 0, none⟩ (.int .i64 (shown l 0))).setCell ⟨w.heap.size, 1, none⟩ (.int .i64 (shown l 1))).setCell ⟨w.heap.size, 2, none⟩ (.int .i64 (shown l 2))).setCell ⟨w.heap.size, 3, none⟩ (.int .i64 (shown l 3))).setCell ⟨w.heap.size, 4, none⟩ (.int .i64 (shown l 4))).setCell ⟨w.heap.size, 5, none⟩ (.int .i64 (shown l 5))).setCell ⟨w.heap.size, 6, none⟩ (.int .i64 (shown l 6))).setCell ⟨w.heap.size, 7, none⟩ (.int .i64 (shown l 7))) = We := ⟨_, rfl⟩
          rw [hWe] at hP HF ⊢
          clear hWe
          have r0 : We.cell? ⟨w.heap.size, 0, none⟩ = some (.int .i64 (shown l 0)) := cell_blk hP rfl
          have r1 : We.cell? ⟨w.heap.size, 1, none⟩ = some (.int .i64 (shown l 1)) := cell_blk hP rfl
          have r2 : We.cell? ⟨w.heap.size, 2, none⟩ = some (.int .i64 (shown l 2)) := cell_blk hP rfl
          have r3 : We.cell? ⟨w.heap.size, 3, none⟩ = some (.int .i64 (shown l 3)) := cell_blk hP rfl
          have r4 : We.cell? ⟨w.heap.size, 4, none⟩ = some (.int .i64 (shown l 4)) := cell_blk hP rfl
          have r5 : We.cell? ⟨w.heap.size, 5, none⟩ = some (.int .i64 (shown l 5)) := cell_blk hP rfl
          have r6 : We.cell? ⟨w.heap.size, 6, none⟩ = some (.int .i64 (shown l 6)) := cell_blk hP rfl
          have r7 : We.cell? ⟨w.heap.size, 7, none⟩ = some (.int .i64 (shown l 7)) := cell_blk hP rfl
          refine bodyPost_ret (v := .tuple #[.agg #[.int .i64 (shown l 0), .int .i64 (shown l 1), .int .i64 (shown l 2), .int .i64 (shown l 3), .int .i64 (shown l 4), .int .i64 (shown l 5), .int .i64 (shown l 6), .int .i64 (shown l 7)], .int .i64 0]) (by simp [results, Tryd.f100, go_sem, r0, r1, r2, r3, r4, r5, r6, r7]) rfl ?_
          exact ⟨rfl, HF.out⟩

  · have hz4 : w1.heap[w.heap.size]? = some (.cells #[.int .i64 0, .int .i64 0, .int .i64 0, .int .i64 0, .int .i64 0, .int .i64 0, .int .i64 0, .int .i64 0] 93 (0, 0)) := (hb1.block w.heap.size (by rw [drew_size]; simp; omega)).trans (at_old (heap_alloc_new w _))
    have hP4 : ((((((((w1.setCell ⟨w.heap.size + 1, 0, none⟩ (.int .i64 0)).setCell ⟨w.heap.size + 1, 1, none⟩ (.int .i64 0)).setCell ⟨w.heap.size + 1, 2, none⟩ (.int .i64 0)).setCell ⟨w.heap.size + 1, 3, none⟩ (.int .i64 0)).setCell ⟨w.heap.size + 1, 4, none⟩ (.int .i64 0)).setCell ⟨w.heap.size + 1, 5, none⟩ (.int .i64 0)).setCell ⟨w.heap.size + 1, 6, none⟩ (.int .i64 0)).setCell ⟨w.heap.size + 1, 7, none⟩ (.int .i64 0)).heap[w.heap.size]? = some (.cells #[.int .i64 0, .int .i64 0, .int .i64 0, .int .i64 0, .int .i64 0, .int .i64 0, .int .i64 0, .int .i64 0] 93 (0, 0)) := by
      rw [Below.heap_setCell _ _ _ _ (Nat.ne_of_lt (Nat.lt_succ_self _)), Below.heap_setCell _ _ _ _ (Nat.ne_of_lt (Nat.lt_succ_self _)), Below.heap_setCell _ _ _ _ (Nat.ne_of_lt (Nat.lt_succ_self _)), Below.heap_setCell _ _ _ _ (Nat.ne_of_lt (Nat.lt_succ_self _)), Below.heap_setCell _ _ _ _ (Nat.ne_of_lt (Nat.lt_succ_self _)), Below.heap_setCell _ _ _ _ (Nat.ne_of_lt (Nat.lt_succ_self _)), Below.heap_setCell _ _ _ _ (Nat.ne_of_lt (Nat.lt_succ_self _)), Below.heap_setCell _ _ _ _ (Nat.ne_of_lt (Nat.lt_succ_self _))]
      exact hz4
    have hlt1 : w.heap.size < w.heap.size + 1 := Nat.lt_succ_self _
    have hPw := put8 w1 (w.heap.size + 1) 93 _ _ _ _ _ _ _ _ (.int .i64 0) (.int .i64 0) (.int .i64 0) (.int .i64 0) (.int .i64 0) (.int .i64 0) (.int .i64 0) (.int .i64 0) HB9.out
    have HBw := put8_below w1 (w.heap.size + 1) (.int .i64 0) (.int .i64 0) (.int .i64 0) (.int .i64 0) (.int .i64 0) (.int .i64 0) (.int .i64 0) (.int .i64 0) hS1 (Nat.le_succ _)
    obtain ⟨Wf, hWf⟩ : ∃ Wf, ((((((((w1.setCell ⟨w.heap.size + 1, 0, none⟩ (.int .i64 0)).setCell ⟨w.heap.size + 1, 1, none⟩ (.int .i64 0)).setCell ⟨w.heap.size + 1, 2, none⟩ (.int .i64 0)).setCell ⟨w.heap.size + 1, 3, none⟩ (.int .i64 0)).setCell ⟨w.heap.size + 1, 4, none⟩ (.int .i64 0)).setCell ⟨w.heap.size + 1, 5, none⟩ (.int .i64 0)).setCell ⟨w.heap.size + 1, 6, none⟩ (.int .i64 0)).setCell ⟨w.heap.size + 1, 7, none⟩ (.int .i64 0)) = Wf := ⟨_, rfl⟩
    rw [hWf] at hPw hP4 HBw ⊢
    clear hWf hz4 hb1 hS1
    obtain ⟨Bw, hBw⟩ : ∃ Bw, w.heap.size + 1 = Bw := ⟨_, rfl⟩
    rw [hBw] at hPw hlt1 ⊢
    have hv2 := (HBw.cell (p := ⟨Bl, k * 11 + 9, none⟩) hBl).trans HV.out
    have hne : w.heap.size ≠ Bw := by omega
    have HBw1 := Lib.hid HBw
    have HPw := Lib.hid hPw
    have HP4 := Lib.hid hP4
    clear HBw hBw hPw hP4 HB9 f0 f1 f2 f3 f4 f5 f6 f7 g0 g1 g2 g3 g4 g5 g6 g7 HS H0 H9 hw9
    rename_i hX
    clear hX
    obtain ⟨hx1, ⟨hnil, hl0⟩ | ⟨g, cap', cur, hsl, _, hh, hn, hm, _⟩⟩ := HOWN.out
    · obtain rfl : l = [] := List.eq_nil_of_length_eq_zero hl0
      simp only [Value.slice.injEq] at hnil
      obtain ⟨rfl, _, rfl⟩ := hnil
      have p1 : Shw w Wf Bw [] := ⟨HPw.out, HP4.out, HBw1.out⟩
      have hc := fun (q : Nat) (hq : q < 8) => (p1.fits hq).2
      have c0 : Wf.cell? ⟨Bw, 0, none⟩ = some (.int .i64 (shown [] 0)) := by simpa using hc 0 (by omega)
      have c1 : Wf.cell? ⟨Bw, 1, none⟩ = some (.int .i64 (shown [] 1)) := by simpa using hc 1 (by omega)
      have c2 : Wf.cell? ⟨Bw, 2, none⟩ = some (.int .i64 (shown [] 2)) := by simpa using hc 2 (by omega)
      have c3 : Wf.cell? ⟨Bw, 3, none⟩ = some (.int .i64 (shown [] 3)) := by simpa using hc 3 (by omega)
      have c4 : Wf.cell? ⟨Bw, 4, none⟩ = some (.int .i64 (shown [] 4)) := by simpa using hc 4 (by omega)
      have c5 : Wf.cell? ⟨Bw, 5, none⟩ = some (.int .i64 (shown [] 5)) := by simpa using hc 5 (by omega)
      have c6 : Wf.cell? ⟨Bw, 6, none⟩ = some (.int .i64 (shown [] 6)) := by simpa using hc 6 (by omega)
      have c7 : Wf.cell? ⟨Bw, 7, none⟩ = some (.int .i64 (shown [] 7)) := by simpa using hc 7 (by omega)
      obtain ⟨f0, g0, f1, g1, f2, g2, f3, g3, f4, g4, f5, g5, f6, g6, f7, g7⟩ := fz8 p1.zer
      have hwl : w.heap.size < Wf.heap.size := (Array.getElem?_eq_some_iff.1 p1.zer).1
      have HP := Lib.hid p1
      clear p1 hc
      go_wp2
      refine wp_loop_rounds 1 ?_
      rw [rounds_succ]
      go_wp2
      have hP := put8 Wf w.heap.size 93 _ _ _ _ _ _ _ _ (.int .i64 (shown [] 0)) (.int .i64 (shown [] 1)) (.int .i64 (shown [] 2)) (.int .i64 (shown [] 3)) (.int .i64 (shown [] 4)) (.int .i64 (shown [] 5)) (.int .i64 (shown [] 6)) (.int .i64 (shown [] 7)) HP.out.zer
      have HF := Lib.hid (put8_below Wf w.heap.size (.int .i64 (shown [] 0)) (.int .i64 (shown [] 1)) (.int .i64 (shown [] 2)) (.int .i64 (shown [] 3)) (.int .i64 (shown [] 4)) (.int .i64 (shown [] 5)) (.int .i64 (shown [] 6)) (.int .i64 (shown [] 7)) HP.out.below (Nat.le_refl _))
      obtain ⟨We, hWe⟩ : ∃ We, ((((((((Wf.setCell ⟨w.heap.size, 0, none⟩ (.int .i64 (shown [] 0))).setCell ⟨w.heap.size, 1, none⟩ (.int .i64 (shown [] 1))).setCell ⟨w.heap.size, 2, none⟩ (.int .i64 (shown [] 2))).setCell ⟨w.heap.size, 3, none⟩ (.int .i64 (shown [] 3))).setCell ⟨w.heap.size, 4, none⟩ (.int .i64 (shown [] 4))).setCell ⟨w.heap.size, 5, none⟩ (.int .i64 (shown [] 5))).setCell ⟨w.heap.size, 6, none⟩ (.int .i64 (shown [] 6))).setCell ⟨w.heap.size, 7, none⟩ (.int .i64 (shown [] 7))) = We := ⟨_, rfl⟩
      rw [hWe] at hP HF ⊢
      clear hWe
      have r0 : We.cell? ⟨w.heap.size, 0, none⟩ = some (.int .i64 (shown [] 0)) := cell_blk hP rfl
      have r1 : We.cell? ⟨w.heap.size, 1, none⟩ = some (.int .i64 (shown [] 1)) := cell_blk hP rfl
      have r2 : We.cell? ⟨w.heap.size, 2, none⟩ = some (.int .i64 (shown [] 2)) := cell_blk hP rfl
      have r3 : We.cell? ⟨w.heap.size, 3, none⟩ = some (.int .i64 (shown [] 3)) := cell_blk hP rfl
      have r4 : We.cell? ⟨w.heap.size, 4, none⟩ = some (.int .i64 (shown [] 4)) := cell_blk hP rfl
      have r5 : We.cell? ⟨w.heap.size, 5, none⟩ = some (.int .i64 (shown [] 5)) := cell_blk hP rfl
      have r6 : We.cell? ⟨w.heap.size, 6, none⟩ = some (.int .i64 (shown [] 6)) := cell_blk hP rfl
      have r7 : We.cell? ⟨w.heap.size, 7, none⟩ = some (.int .i64 (shown [] 7)) := cell_blk hP rfl
      refine bodyPost_ret (v := .tuple #[.agg #[.int .i64 (shown [] 0), .int .i64 (shown [] 1), .int .i64 (shown [] 2), .int .i64 (shown [] 3), .int .i64 (shown [] 4), .int .i64 (shown [] 5), .int .i64 (shown [] 6), .int .i64 (shown [] 7)], .int .i64 0]) (by simp [results, Tryd.f100, go_sem, r0, r1, r2, r3, r4, r5, r6, r7]) rfl ?_
      exact ⟨rfl, HF.out⟩
    · simp only [Value.slice.injEq] at hsl
      obtain ⟨rfl, _, rfl⟩ := hsl
      have hgl : g < w.heap.size := (Array.getElem?_eq_some_iff.1 hh).1
      have HQ := Lib.hid (Seg.pair (Seg.of_owns HOWN.out) rfl)
      unfold maxLen at hm
      clear HOWN hx1 hh
      go_wp2
      go_loopw [37] (fun i wr => ∃ k : Nat, k ≤ l.length ∧ i = .int .i64 k ∧ Shw w wr Bw (l.take k)) (fun i _ => l.length - (RowKit.intOf i).toNat)
      case atStart => exact ⟨0, Nat.zero_le _, rfl, HPw.out, HP4.out, HBw1.out⟩
      case round =>
        obtain ⟨j, hj, rfl, p1⟩ := hrel
        by_cases hlt : j < l.length
        · obtain ⟨q1, q2⟩ := HQ.out j hlt
          obtain ⟨x0, x1⟩ := HW.out _ (List.mem_of_getElem? (nth_getElem hlt))
          obtain ⟨q, hq⟩ := Int.eq_ofNat_of_zero_le x0
          have hq8 : q < 8 := by omega
          obtain ⟨hf, hc⟩ := p1.fits hq8
          have d1 : wr.cell? ⟨g, j * 2, none⟩ = some (.int .i64 (nth l j).1) := by simpa using (p1.below.cell (p := ⟨g, 0 + j * 2, none⟩) hgl).trans q1
          have d2 : wr.cell? ⟨g, j * 2 + 1, none⟩ = some (.int .i64 (nth l j).2) := by simpa using (p1.below.cell (p := ⟨g, 0 + j * 2 + 1, none⟩) hgl).trans q2
          rw [hq] at d1
          have hBwl := p1.lt
          have HN := Lib.hid (p1.next hq8 hq hlt hne hlt1)
          clear p1 q1 q2
          go_wp2
          go_roundw
          case rel => exact ⟨j + 1, by omega, by go_num, HN.out _⟩
          case measure => simp [RowKit.intOf]; omega
        · obtain rfl : j = l.length := by omega
          rw [List.take_length] at p1
          have hc := fun (q : Nat) (hq : q < 8) => (p1.fits hq).2
          have c0 : wr.cell? ⟨Bw, 0, none⟩ = some (.int .i64 (shown l 0)) := by simpa using hc 0 (by omega)
          have c1 : wr.cell? ⟨Bw, 1, none⟩ = some (.int .i64 (shown l 1)) := by simpa using hc 1 (by omega)
          have c2 : wr.cell? ⟨Bw, 2, none⟩ = some (.int .i64 (shown l 2)) := by simpa using hc 2 (by omega)
          have c3 : wr.cell? ⟨Bw, 3, none⟩ = some (.int .i64 (shown l 3)) := by simpa using hc 3 (by omega)
          have c4 : wr.cell? ⟨Bw, 4, none⟩ = some (.int .i64 (shown l 4)) := by simpa using hc 4 (by omega)
          have c5 : wr.cell? ⟨Bw, 5, none⟩ = some (.int .i64 (shown l 5)) := by simpa using hc 5 (by omega)
          have c6 : wr.cell? ⟨Bw, 6, none⟩ = some (.int .i64 (shown l 6)) := by simpa using hc 6 (by omega)
          have c7 : wr.cell? ⟨Bw, 7, none⟩ = some (.int .i64 (shown l 7)) := by simpa using hc 7 (by omega)
          obtain ⟨f0, g0, f1, g1, f2, g2, f3, g3, f4, g4, f5, g5, f6, g6, f7, g7⟩ := fz8 p1.zer
          have hwl : w.heap.size < wr.heap.size := (Array.getElem?_eq_some_iff.1 p1.zer).1
          have HP := Lib.hid p1
          clear p1 hc
          go_wp2
          have hP := put8 wr w.heap.size 93 _ _ _ _ _ _ _ _ (.int .i64 (shown l 0)) (.int .i64 (shown l 1)) (.int .i64 (shown l 2)) (.int .i64 (shown l 3)) (.int .i64 (shown l 4)) (.int .i64 (shown l 5)) (.int .i64 (shown l 6)) (.int .i64 (shown l 7)) HP.out.zer
          have HF := Lib.hid (put8_below wr w.heap.size (.int .i64 (shown l 0)) (.int .i64 (shown l 1)) (.int .i64 (shown l 2)) (.int .i64 (shown l 3)) (.int .i64 (shown l 4)) (.int .i64 (shown l 5)) (.int .i64 (shown l 6)) (.int .i64 (shown l 7)) HP.out.below (Nat.le_refl _))
          obtain ⟨We, hWe⟩ : ∃ We, ((((((((wr.setCell ⟨w.heap.size, 0, none⟩ (.int .i64 (shown l 0))).setCell ⟨w.heap.size, 1, none⟩ (.int .i64 (shown l 1))).setCell ⟨w.heap.size, 2, none⟩ (.int .i64 (shown l 2))).setCell ⟨w.heap.size, 3, none⟩ (.int .i64 (shown l 3))).setCell ⟨w.heap.size, 4, none⟩ (.int .i64 (shown l 4))).setCell ⟨w.heap.size, 5, none⟩ (.int .i64 (shown l 5))).setCell ⟨w.heap.size, 6, none⟩ (.int .i64 (shown l 6))).setCell ⟨w.heap.size, 7, none⟩ (.int .i64 (shown l 7))) = We := ⟨_, rfl⟩
          rw [hWe] at hP HF ⊢
          clear hWe
          have r0 : We.cell? ⟨w.heap.size, 0, none⟩ = some (.int .i64 (shown l 0)) := cell_blk hP rfl
          have r1 : We.cell? ⟨w.heap.size, 1, none⟩ = some (.int .i64 (shown l 1)) := cell_blk hP rfl
          have r2 : We.cell? ⟨w.heap.size, 2, none⟩ = some (.int .i64 (shown l 2)) := cell_blk hP rfl
          have r3 : We.cell? ⟨w.heap.size, 3, none⟩ = some (.int .i64 (shown l 3)) := cell_blk hP rfl
          have r4 : We.cell? ⟨w.heap.size, 4, none⟩ = some (.int .i64 (shown l 4)) := cell_blk hP rfl
          have r5 : We.cell? ⟨w.heap.size, 5, none⟩ = some (.int .i64 (shown l 5)) := cell_blk hP rfl
          have r6 : We.cell? ⟨w.heap.size, 6, none⟩ = some (.int .i64 (shown l 6)) := cell_blk hP rfl
          have r7 : We.cell? ⟨w.heap.size, 7, none⟩ = some (.int .i64 (shown l 7)) := cell_blk hP rfl
          refine bodyPost_ret (v := .tuple #[.agg #[.int .i64 (shown l 0), .int .i64 (shown l 1), .int .i64 (shown l 2), .int .i64 (shown l 3), .int .i64 (shown l 4), .int .i64 (shown l 5), .int .i64 (shown l 6), .int .i64 (shown l 7)], .int .i64 0]) (by simp [results, Tryd.f100, go_sem, r0, r1, r2, r3, r4, r5, r6, r7]) rfl ?_
          exact ⟨rfl, HF.out⟩


end Go.Proofs.YtcngblnkfiggjaaDoor.Rm
