/- Contract of New of package memory: a memory of lines of zeros. Contracts of Over, M and Lines. -/
import Derived.Test.YtcngblnkfiggjaaDoorChU
namespace Go.Proofs.YtcngblnkfiggjaaDoor.Rm
open Go Go.RowKit Go.Maps
attribute [local go_sem ↓] Go.wp_at_zero Go.wp_at_succ

/-- A line as New makes it. -/
def zline : Value := .agg #[.int .i64 0, .int .i64 0, .int .i64 0, .int .i64 0, .int .i64 0, .int .i64 0, .int .i64 0, .int .i64 0, .int .i64 0, .slice none 0 0, .int .i64 0]
theorem info98 : (Tryd.prog.info? 98).map (fun i => (i.zero, i.size, i.bytes)) = some (some zline, 11, 104) := by kernel_rfl
/-- The cells of so many lines. -/
def zlines (n : Nat) : Array Value := madeCells zline.cells (n * 11)
theorem makeN (w : World) (n : Nat) (hn : n ≤ 1000) : (Instr.makeSlice 91 (.int .i64 (n : Int)) (.int .i64 (n : Int))).run Tryd.prog w = .ok (.slice (some ⟨w.heap.size, 0, none⟩) n n) (w.alloc (.cells (zlines n) 98)) := by
  obtain ⟨i0, hi0, hz0, hz1, hz2⟩ := info_parts info98
  have := run_make (P := Tryd.prog) w 91 98 i0 zline Tryd.underlying91 hi0 hz0 .i64 .i64 (n : Int) (n : Int) (by omega) (Int.le_refl _) (by rw [hz2]; omega) (by omega)
  rw [hz1] at this
  simpa [zlines] using this
theorem zlines_at (n i q : Nat) (hi : i < n) (hq : q < 11) : (zlines n)[i * 11 + q]? = some (zline.cells[q]!) := by
  unfold zlines madeCells
  have h1 : i * 11 + q < n * 11 := by omega
  have h2 : (i * 11 + q) % zline.cells.size = q := by
    show (i * 11 + q) % 11 = q
    omega
  simp [h1, h2]
theorem zlines_zero (n i q : Nat) (hi : i < n) (hq : q < 9) : (zlines n)[i * 11 + q]? = some (.int .i64 0) := by
  rw [zlines_at n i q hi (by omega)]
  rcases (show q = 0 ∨ q = 1 ∨ q = 2 ∨ q = 3 ∨ q = 4 ∨ q = 5 ∨ q = 6 ∨ q = 7 ∨ q = 8 by omega) with rfl | rfl | rfl | rfl | rfl | rfl | rfl | rfl | rfl <;> rfl
theorem set_same {L : Array Value} {i : Nat} {v : Value} (h : L[i]? = some v) : L.setIfInBounds i v = L := by
  obtain ⟨hl, he⟩ := Array.getElem?_eq_some_iff.1 h
  apply Array.ext_getElem?
  intro j
  by_cases e : i = j
  · subst e; rw [Array.getElem?_setIfInBounds_self_of_lt hl, h]
  · rw [Array.getElem?_setIfInBounds_ne e]

/-- A new memory, as an object. -/
theorem MO.made {w w1 : World} {Bl n : Nat} (hn : 1 ≤ n ∧ n ≤ 1000) (hL : w1.heap[Bl]? = some (.cells (zlines n) 98 (0, 0))) (hb : w.heap.size ≤ Bl) (hB : Below w.heap.size w w1) :
    ∃ F, MO ((w1.alloc (.map #[] 0)).alloc (.cells #[.slice (some ⟨Bl, 0, none⟩) n n, .map (some w1.heap.size), .int .i64 0, .slice none 0 0] 102)) (w1.heap.size + 1) n (fun _ => 0) F 0 ∧ (∀ k, F k → w.heap.size ≤ k) ∧
      Below w.heap.size w ((w1.alloc (.map #[] 0)).alloc (.cells #[.slice (some ⟨Bl, 0, none⟩) n n, .map (some w1.heap.size), .int .i64 0, .slice none 0 0] 102)) := by
  have hlt : Bl < w1.heap.size := (Array.getElem?_eq_some_iff.1 hL).1
  have hsz := hB.size
  refine ⟨_, ⟨Bl, w1.heap.size, .slice none 0 0, 0, [], (fun _ => .slice none 0 0), (fun _ => []), zlines n, .map [], (fun k => if k = w1.heap.size + 1 then 0 else if k = Bl then 1 else 2), ?_, ?_, ?_, ?_, ?_, ?_, ?_, ?_, ?_, ?_, ?_, ?_, ?_, ?_, ?_, hn, ?_, ?_, rfl⟩, ?_, ?_⟩
  · exact new_at (by simp)
  · exact at_old (at_old hL)
  · exact fun i hi j hj => zlines_zero n i j hi hj
  · exact fun i hi => zlines_at n i 9 hi (by omega)
  · exact fun i hi => ⟨0, zlines_at n i 10 hi (by omega)⟩
  · exact fun i hi => World.ownsRow_nil _ _ _ _
  · exact World.ownsRow_nil _ _ _ _
  · exact (World.ownsMap_made w1 Tryd.prog 3 (plainElem Tryd.prog 4)).alloc _
  · simp
  · show (if Bl = w1.heap.size + 1 then 0 else if Bl = Bl then 1 else 2) = 1
    rw [if_neg (by omega), if_pos rfl]
  · show (if w1.heap.size = w1.heap.size + 1 then 0 else if w1.heap.size = Bl then 1 else 2) = 2
    rw [if_neg (by omega), if_neg (by omega)]
  · intro k hk; cases hk
  · intro i hi k hk; cases hk
  · omega
  · intro i hi; simp
  · intro i hi p hp; cases hp
  · intro i hi j h0 h1; rfl
  · intro k hk
    rcases hk with h1 | h1 | h1 | h1 | ⟨i, hi, h1⟩
    · omega
    · omega
    · omega
    · cases h1
    · cases h1
  · exact (hB.alloc hsz _).alloc (by simp; omega) _

set_option maxHeartbeats 2000000 in
set_option maxRecDepth 100000 in
theorem new_any (w : World) (n : Nat) (hn : 1 ≤ n ∧ n ≤ 1000) : Calls Tryd.prog 28 #[.int .i64 (n : Int)] w fun e w' => ∃ Bm F, e = .returned (.pointer (some ⟨Bm, 0, none⟩)) ∧ MO w' Bm n (fun _ => 0) F 0 ∧ (∀ k, F k → w.heap.size ≤ k) ∧ Below w.heap.size w w' := by
  obtain ⟨hn1, hn2⟩ := hn
  have hmk := fun w => makeN w n hn2
  have hmm := @run_makeMap Tryd.prog
  have i1 : ¬ (n : Int) < 1 := by omega
  have i2 : ¬ (4096 : Int) < n := by omega
  have HB := Lib.hid (show Below w.heap.size w (w.alloc (.cells (zlines n) 98)) from (Below.refl _ _).alloc (Nat.le_refl _) _)
  have HL := Lib.hid (show (w.alloc (.cells (zlines n) 98)).heap[w.heap.size]? = some (.cells (zlines n) 98 (0, 0)) from heap_alloc_new _ _)
  go_enter Tryd.func28, Tryd.ntmps28
  go_wp2_with fail
  refine (encode0 _).mono ?_
  rintro e w1 ⟨rfl, hb1⟩
  have HL1 := Lib.hid (show w1.heap[w.heap.size]? = some (.cells (zlines n) 98 (0, 0)) from (hb1.block _ (by simp)).trans HL.out)
  have HB1 := Lib.hid (below_next HB.out hb1)
  clear hb1
  go_wp2
  go_loopw [18] (fun i wr => ∃ k : Nat, k ≤ n ∧ i = .int .i64 k ∧ Hid (wr.heap[w.heap.size]? = some (.cells (zlines n) 98 (0, 0)) ∧ Below w.heap.size w wr)) (fun i _ => n - (RowKit.intOf i).toNat)
  case atStart => exact ⟨0, Nat.zero_le _, rfl, HL1.out, HB1.out⟩
  case round =>
    obtain ⟨k, hk, rfl, hP⟩ := hrel
    by_cases hlt : k < n
    · have c8 : wr.cell? ⟨w.heap.size, k * 11 + 8, none⟩ = some (.int .i64 0) := cell_blk hP.out.1 (zlines_zero n k 8 hlt (by omega))
      have f8 : wr.frozen? ⟨w.heap.size, k * 11 + 8, none⟩ = false := Joins.unfrozen_of_block hP.out.1 _
      have HN := Lib.hid (show (wr.setCell ⟨w.heap.size, k * 11 + 8, none⟩ (.int .i64 0)).heap[w.heap.size]? = some (.cells (zlines n) 98 (0, 0)) ∧ Below w.heap.size w (wr.setCell ⟨w.heap.size, k * 11 + 8, none⟩ (.int .i64 0)) from by
        refine ⟨?_, hP.out.2.setCell (p := ⟨w.heap.size, k * 11 + 8, none⟩) (Nat.le_refl _) _⟩
        have := Joins.block_setCell hP.out.1 (i := k * 11 + 8) (.int .i64 0)
        rwa [set_same (zlines_zero n k 8 hlt (by omega))] at this)
      have i3 : (k : Int) < n := by omega
      go_wp2
      go_roundw
      case rel => exact ⟨k + 1, by omega, by go_num, HN.out⟩
      case measure => simp [RowKit.intOf]; omega
    · obtain rfl : k = n := by omega
      obtain ⟨F, hF⟩ := MO.made (w := w) ⟨hn1, hn2⟩ hP.out.1 (Nat.le_refl _) hP.out.2
      have HF := Lib.hid hF
      clear hF
      go_wp2
      go_ret
      exact ⟨_, F, rfl, HF.out.1, HF.out.2.1, HF.out.2.2⟩

/-- The view at block Bv over the memory at block Bm; nothing is set. -/
structure CV (w : World) (Bv Bm n : Nat) (M : Int → Int) (F : Nat → Prop) (c : Nat) : Prop where
  blk : w.heap[Bv]? = some (.cells #[.pointer (some ⟨Bm, 0, none⟩), .slice none 0 0] 86 (0, 0))
  mem : MO w Bm n M F c
  out : ¬ F Bv
theorem CV.lt {w : World} {Bv Bm n : Nat} {M : Int → Int} {F : Nat → Prop} {c : Nat} (h : CV w Bv Bm n M F c) : Bv < w.heap.size := (Array.getElem?_eq_some_iff.1 h.blk).1
theorem CV.below {w w' : World} {Bv Bm n : Nat} {M : Int → Int} {F : Nat → Prop} {c : Nat} (h : CV w Bv Bm n M F c) (hb : Below w.heap.size w w') : CV w' Bv Bm n M F c :=
  ⟨(hb.block _ h.lt).trans h.blk, h.mem.below hb, h.out⟩
theorem CV.moves {w w' : World} {Bv Bm n n' : Nat} {M M' : Int → Int} {F F' : Nat → Prop} {c c' : Nat} (h : CV w Bv Bm n M F c) (hm : MO w' Bm n' M' F' c') (hv : Moves F F' w w') : CV w' Bv Bm n' M' F' c' :=
  ⟨(hv.block _ h.lt h.out).trans h.blk, hm, fun hF => by
    rcases hv.sub _ hF with h1 | h1
    · exact h.out h1
    · have := h.lt; omega⟩
set_option maxHeartbeats 400000 in
theorem cover_any (w : World) (Bm n : Nat) (M : Int → Int) (F : Nat → Prop) (c : Nat) (h : MO w Bm n M F c) :
    Calls Tryd.prog 29 #[.pointer (some ⟨Bm, 0, none⟩)] w fun e w' => ∃ Bv, e = .returned (.pointer (some ⟨Bv, 0, none⟩)) ∧ CV w' Bv Bm n M F c ∧ w.heap.size ≤ Bv ∧ Below w.heap.size w w' := by
  have HB := Lib.hid (show Below w.heap.size w (w.alloc (.cells #[.pointer (some ⟨Bm, 0, none⟩), .slice none 0 0] 86)) from (Below.refl _ _).alloc (Nat.le_refl _) _)
  have HV := Lib.hid (show CV (w.alloc (.cells #[.pointer (some ⟨Bm, 0, none⟩), .slice none 0 0] 86)) w.heap.size Bm n M F c from ⟨heap_alloc_new _ _, h.below HB.out, fun hF => by have := h.lt hF; omega⟩)
  clear h
  go_enter Tryd.func29, Tryd.ntmps29
  go_wp2
  go_ret
  exact ⟨_, rfl, HV.out, Nat.le_refl _, HB.out⟩
set_option maxHeartbeats 400000 in
theorem mlines_any (w : World) (Bm n : Nat) (M : Int → Int) (F : Nat → Prop) (c : Nat) (h : MO w Bm n M F c) :
    Calls Tryd.prog 62 #[.pointer (some ⟨Bm, 0, none⟩)] w fun e w' => e = .returned (.int .i64 n) ∧ w = w' := by
  obtain ⟨Bl, hm, _, _⟩ := h.top
  clear h
  go_enter Tryd.func62, Tryd.ntmps62
  go_wp2
  go_ret
  exact ⟨rfl, rfl⟩
set_option maxHeartbeats 400000 in
theorem baseM_any (w : World) (v : Value) (a : Option Addr) (hv : v = .pointer a) :
    Calls Tryd.prog 50 #[.agg #[v]] w fun e w' => e = .returned v ∧ Below w.heap.size w w' := by
  subst hv
  have HB := Lib.hid (show Below w.heap.size w (w.alloc (.cells #[.pointer a] 84)) from (Below.refl _ _).alloc (Nat.le_refl _) _)
  go_enter Tryd.func50, Tryd.ntmps50
  go_wp2
  go_ret
  exact ⟨rfl, HB.out⟩

end Go.Proofs.YtcngblnkfiggjaaDoor.Rm
