/- A view of package redo: contracts of Size, M, Entries and Back. -/
import Derived.Test.YtcngblnkfiggjaaDoorWalkJ
namespace Go.Proofs.YtcngblnkfiggjaaDoor.Rm
open Go Go.RowKit Go.Maps

set_option maxHeartbeats 400000 in
theorem size_any (w0 w : World) (Bv Bm : Nat) (v : Value) (es : List (Int × Int)) (h : VO w0 w Bv Bm v es) :
    Calls Tryd.prog 52 #[.pointer (some ⟨Bv, 0, none⟩)] w fun e w' => e = .returned (.int .i64 (es.length : Int)) ∧ w = w' := by
  obtain ⟨c0, c1, f1⟩ := h.cells
  obtain ⟨av, cv, hsh⟩ := h.own.shape
  clear h
  subst hsh
  go_enter Tryd.func52, Tryd.ntmps52
  go_wp2
  go_ret
  exact ⟨rfl, rfl⟩
set_option maxHeartbeats 400000 in
theorem m_any (w : World) (p : Value) (hp : ∃ a, p = .pointer a) :
    Calls Tryd.prog 50 #[.agg #[p]] w fun e w' => e = .returned p ∧ Below w.heap.size w w' := by
  obtain ⟨a, rfl⟩ := hp
  have HB := Lib.hid (show Below w.heap.size w (w.alloc (.cells #[.pointer a] 84)) from (Below.refl _ _).alloc (Nat.le_refl _) _)
  go_enter Tryd.func50, Tryd.ntmps50
  go_wp2
  go_ret
  exact ⟨rfl, HB.out⟩
set_option maxHeartbeats 1000000 in
theorem entries_any (w0 w : World) (Bv Bm : Nat) (v : Value) (es : List (Int × Int)) (h : VO w0 w Bv Bm v es) (hl : es.length < 1000) (hw : wfE es) :
    Calls Tryd.prog 49 #[.pointer (some ⟨Bv, 0, none⟩)] w fun e w' => ∃ r, e = .returned r ∧ OwnI w' w.heap.size r (mergeE es) ∧ Below w.heap.size w w' := by
  obtain ⟨c0, c1, f1⟩ := h.cells
  obtain ⟨av, cv, hsh⟩ := h.own.shape
  have hrd := h.own.rd
  clear h
  subst hsh
  have HM := Lib.hid (merged_any w av cv es hrd (by omega) hw)
  clear hrd hw
  go_enter Tryd.func49, Tryd.ntmps49
  go_wp2_with fail
  refine HM.out.mono ?_
  rintro e w1 ⟨r, rfl, hr, hb⟩
  have HR := Lib.hid hr
  clear hr
  go_wp2
  go_ret
  exact ⟨_, rfl, HR.out, hb⟩

theorem OwnI.take {w : World} {base g n cap : Nat} {es : List (Int × Int)} (h : OwnI w base (.slice (some ⟨g, 0, none⟩) n cap) es) {k : Nat} (hk : k ≤ es.length) : OwnI w base (.slice (some ⟨g, 0, none⟩) k cap) (es.take k) := by
  have hl : (es.take k).length = k := by simp; omega
  have hc : itemCells (es.take k) = (itemCells es).take (k * 2) := by
    have e : itemCells es = itemCells (es.take k) ++ itemCells (es.drop k) := by rw [← itemCells_append, List.take_append_drop]
    have e2 : (itemCells (es.take k)).length = k * 2 := by rw [itemCells_length, hl]
    rw [e, ← e2, List.take_left]
  obtain ⟨h1, ⟨h2, _⟩ | ⟨g', cap', cur, h2, hb, hh, hn, hm, hsz, hx⟩⟩ := h
  · cases h2
  · cases h2
    refine ⟨itemCells_length _, Or.inr ⟨g, cap, cur, by rw [hl], hb, hh, by omega, hm, hsz, ?_⟩⟩
    rw [hl, hc, ← hx, List.take_take]
    congr 1
    omega

set_option maxHeartbeats 2000000 in
set_option maxRecDepth 100000 in
theorem back_any (w0 w : World) (Bv Bm g cap : Nat) (es : List (Int × Int)) (h : VO w0 w Bv Bm (.slice (some ⟨g, 0, none⟩) es.length cap) es) (hl : 2 ≤ es.length) (hl2 : es.length < 1000) :
    Calls Tryd.prog 51 #[.pointer (some ⟨Bv, 0, none⟩), .int .i64 2] w fun e w' => e = .returned (.tuple #[]) ∧ VO w0 w' Bv Bm (.slice (some ⟨g, 0, none⟩) 2 cap) (es.take 2) ∧ w' = (w.setCell ⟨Bv, 1, none⟩ (.slice (some ⟨g, 0, none⟩) 2 cap)).drew := by
  obtain ⟨c0, c1, f1⟩ := h.cells
  have hcap : es.length ≤ cap ∧ cap ≤ 9223372036854775807 := by
    obtain ⟨_, ⟨h2, _⟩ | ⟨g', cap', cur, h2, hb, hh, hn, hm, hsz, hx⟩⟩ := h.own
    · cases h2
    · cases h2
      unfold maxLen at hm
      exact ⟨hn, by omega⟩
  obtain ⟨hc1, hc2⟩ := hcap
  have HN := Lib.hid (show VO w0 (w.setCell ⟨Bv, 1, none⟩ (.slice (some ⟨g, 0, none⟩) 2 cap)).drew Bv Bm (.slice (some ⟨g, 0, none⟩) 2 cap) (es.take 2) from by
    obtain ⟨Bl, hm⟩ := h.mem
    have e1 : (w.setCell ⟨Bv, 1, none⟩ (.slice (some ⟨g, 0, none⟩) 2 cap)).heap[Bm]? = w.heap[Bm]? := Below.heap_setCell _ _ _ _ (fun e => h.ne.1 e.symm)
    have hV : VO w0 (w.setCell ⟨Bv, 1, none⟩ (.slice (some ⟨g, 0, none⟩) 2 cap)) Bv Bm (.slice (some ⟨g, 0, none⟩) 2 cap) (es.take 2) := by
      refine ⟨?_, ⟨Bl, (World.cell?_of_block (w := w) (a := ⟨Bm, 0, none⟩) e1).trans hm⟩, ?_, h.ne, ⟨h.new.1, h.new.2.1, by simpa using h.new.2.2⟩, h.below.setCell h.new.1 _⟩
      · have := Joins.block_setCell h.blk (i := 1) (.slice (some ⟨g, 0, none⟩) 2 cap)
        simpa using this
      · exact row_carry (h.own.take hl) (fun k hk => Below.heap_setCell _ _ _ _ (fun e => h.ne.2.1 (by have e' : k = Bv := e; rw [← e']; exact hk)))
    exact hV.by ⟨rfl, rfl, rfl, Nat.le_refl _, fun _ _ => rfl⟩)
  clear h
  have i1 : (2 : Int) ≤ (es.length : Int) := by omega
  have HMX : Hid ((max 0 (min 2 (es.length : Int))).toNat = 2) := by show _ = _; omega
  have i2 : (2 : Int) ≤ (cap : Int) := by omega
  go_enter Tryd.func51, Tryd.ntmps51
  go_wp2
  go_region
  all_goals go_wp2
  all_goals go_end0
  all_goals rw [HMX.out]
  all_goals exact ⟨rfl, HN.out, rfl⟩

end Go.Proofs.YtcngblnkfiggjaaDoor.Rm
