/- A view of package redo over a memory of two lines: contracts of Over, Set, Size, M and Entries. -/
import Derived.Test.YtcngblnkfiggjaaDoorWalkI
namespace Go.Proofs.YtcngblnkfiggjaaDoor.Rm
open Go Go.RowKit Go.Maps

/-- The view at block Bv, over the memory at block Bm, made since w0: its entries are es. -/
structure VO (w0 w : World) (Bv Bm : Nat) (v : Value) (es : List (Int × Int)) : Prop where
  blk : w.heap[Bv]? = some (.cells #[.pointer (some ⟨Bm, 0, none⟩), v] 86 (0, 0))
  mem : ∃ Bl, w.cell? ⟨Bm, 0, none⟩ = some (.slice (some ⟨Bl, 0, none⟩) 2 2)
  own : OwnI w w0.heap.size v es
  ne : Bv ≠ Bm ∧ v.ownBlock ≠ some Bv ∧ v.ownBlock ≠ some Bm
  new : w0.heap.size ≤ Bv ∧ w0.heap.size ≤ Bm ∧ Bm < w.heap.size
  below : Below w0.heap.size w0 w
theorem VO.by {w0 w w' : World} {Bv Bm : Nat} {v : Value} {es : List (Int × Int)} (h : VO w0 w Bv Bm v es) (hb : Below w.heap.size w w') : VO w0 w' Bv Bm v es := by
  obtain ⟨Bl, hl⟩ := h.mem
  exact ⟨(hb.block _ (Array.getElem?_eq_some_iff.1 h.blk).1).trans h.blk, ⟨Bl, (hb.cell h.new.2.2).trans hl⟩, h.own.carry hb, h.ne, ⟨h.new.1, h.new.2.1, Nat.lt_of_lt_of_le h.new.2.2 hb.size⟩, below_next h.below hb⟩
theorem VO.cells {w0 w : World} {Bv Bm : Nat} {v : Value} {es : List (Int × Int)} (h : VO w0 w Bv Bm v es) : w.cell? ⟨Bv, 0, none⟩ = some (.pointer (some ⟨Bm, 0, none⟩)) ∧ w.cell? ⟨Bv, 1, none⟩ = some v ∧ w.frozen? ⟨Bv, 1, none⟩ = false := by
  refine ⟨by simp [World.cell?, h.blk], by simp [World.cell?, h.blk], Joins.unfrozen_of_block h.blk 1⟩

set_option maxHeartbeats 400000 in
theorem over_any (w0 w : World) (Bm Bl : Nat) (hm : w.cell? ⟨Bm, 0, none⟩ = some (.slice (some ⟨Bl, 0, none⟩) 2 2)) (h1 : w0.heap.size ≤ Bm) (h2 : Bm < w.heap.size) (hb : Below w0.heap.size w0 w) :
    Calls Tryd.prog 29 #[.pointer (some ⟨Bm, 0, none⟩)] w fun e w' => ∃ Bv, e = .returned (.pointer (some ⟨Bv, 0, none⟩)) ∧ VO w0 w' Bv Bm (.slice none 0 0) [] := by
  have HV := Lib.hid (show VO w0 (w.alloc (.cells #[.pointer (some ⟨Bm, 0, none⟩), .slice none 0 0] 86)) w.heap.size Bm (.slice none 0 0) [] from
    ⟨heap_alloc_new _ _, ⟨Bl, by rw [((Below.refl w.heap.size w).alloc (Nat.le_refl _) _).cell h2]; exact hm⟩, OwnI.nil _ _, ⟨by omega, by simp [Value.ownBlock], by simp [Value.ownBlock]⟩, ⟨hb.size, h1, by simp; omega⟩, hb.alloc hb.size _⟩)
  clear hm hb
  go_enter Tryd.func29, Tryd.ntmps29
  go_wp2
  go_ret
  exact ⟨_, rfl, HV.out⟩
set_option maxHeartbeats 400000 in
theorem lines2_any (w : World) (Bm Bl : Nat) (hm : w.cell? ⟨Bm, 0, none⟩ = some (.slice (some ⟨Bl, 0, none⟩) 2 2)) :
    Calls Tryd.prog 62 #[.pointer (some ⟨Bm, 0, none⟩)] w fun e w' => e = .returned (.int .i64 2) ∧ w = w' := by
  go_enter Tryd.func62, Tryd.ntmps62
  go_wp2
  go_ret
  exact ⟨rfl, rfl⟩
set_option maxHeartbeats 400000 in
theorem has2_any (w : World) (Bm Bl : Nat) (x : Int) (hm : w.cell? ⟨Bm, 0, none⟩ = some (.slice (some ⟨Bl, 0, none⟩) 2 2)) (h0 : 0 ≤ x) (h1 : x < 16) :
    Calls Tryd.prog 79 #[.pointer (some ⟨Bm, 0, none⟩), .int .i64 x] w fun e w' => e = .returned (.bool true) ∧ w = w' := by
  have HL := Lib.hid (lines2_any w Bm Bl hm)
  have hd : 0 ≤ x.tdiv 8 ∧ x.tdiv 8 < 2 := by rw [Int.tdiv_eq_ediv_of_nonneg h0]; omega
  obtain ⟨d1, d2⟩ := hd
  go_enter Tryd.func79, Tryd.ntmps79
  go_wp2_with (go_at_call 62; refine HL.out.mono ?_; rintro e w1 ⟨rfl, hw1⟩; subst hw1)
  go_ret
  exact ⟨rfl, rfl⟩

set_option maxHeartbeats 1000000 in
set_option maxRecDepth 100000 in
theorem set_any (w0 w : World) (Bv Bm : Nat) (v : Value) (es : List (Int × Int)) (x y : Int) (h : VO w0 w Bv Bm v es) (h0 : 0 ≤ x) (h1 : x < 16) (hy0 : 0 ≤ y) (hy1 : y ≤ 1000) (hes : es.length < 1000) :
    Calls Tryd.prog 47 #[.pointer (some ⟨Bv, 0, none⟩), .int .i64 x, .int .i64 y] w fun e w' => e = .returned (.int .i64 0) ∧ ∃ v', VO w0 w' Bv Bm v' (es ++ [(x, y)]) := by
  obtain ⟨c0, c1, f1⟩ := h.cells
  obtain ⟨Bl, hm⟩ := h.mem
  have HH := Lib.hid (has2_any w Bm Bl x hm h0 h1)
  have hBlt : Bv < w.heap.size := (Array.getElem?_eq_some_iff.1 h.blk).1
  have p2a := h.own.alloc (.cells #[.int .i64 x, .int .i64 y] 55)
  have hone := RdI.one w x y w.heap.size rfl
  have hsz := h.below.size
  obtain ⟨av, nv, cv, hsh⟩ := h.own.form
  have HV := Lib.hid h
  clear h hm
  subst hsh
  go_enter Tryd.func47, Tryd.ntmps47
  go_wp2_with fail
  refine HH.out.mono ?_
  rintro e w1 ⟨rfl, hw1⟩
  subst hw1
  go_wp2_with (at_builtin; refine wpList_append_rdI_at _ rfl _ _ rfl rfl w0.heap.size _ _ es [(x, y)] rfl rfl p2a hone ?a1 ?a2 ?_)
  case a1 => first | omega | (simp; omega)
  case a2 => first | omega | (simp; omega)
  intro v1 w1 hrow1 hg1 hv1
  have hblk1 : w1.heap[Bv]? = some (.cells #[.pointer (some ⟨Bm, 0, none⟩), .slice av nv cv] 86 (0, 0)) := by
    rw [hg1.block Bv (by simp; omega) (fun e => HV.out.ne.2.1 e.symm), Below.heap_alloc _ _ _ hBlt]; exact HV.out.blk
  have hv1n : v1.ownBlock ≠ some Bv ∧ v1.ownBlock ≠ some Bm := by
    rcases hv1 with e | e
    · rw [e]; exact HV.out.ne.2
    · rw [e]
      have := HV.out.new
      simp
      omega
  have g1 : w1.cell? ⟨Bv, 1, none⟩ = some (.slice av nv cv) := by simp [World.cell?, hblk1]
  have fr1 : w1.frozen? ⟨Bv, 1, none⟩ = false := Joins.unfrozen_of_block hblk1 1
  have hN : Hid (VO w0 (w1.setCell ⟨Bv, 1, none⟩ v1) Bv Bm v1 (es ++ [(x, y)])) := by
    obtain ⟨Bl, hm⟩ := HV.out.mem
    have hBm := HV.out.new.2.2
    refine ⟨?_, ⟨Bl, ?_⟩, ?_, ⟨HV.out.ne.1, hv1n.1, hv1n.2⟩, ⟨HV.out.new.1, HV.out.new.2.1, ?_⟩, ?_⟩
    · have := Joins.block_setCell hblk1 (i := 1) v1
      simpa using this
    · have e1 : (w1.setCell ⟨Bv, 1, none⟩ v1).heap[Bm]? = w.heap[Bm]? := by
        rw [Below.heap_setCell _ _ _ _ (fun e => HV.out.ne.1 e.symm), hg1.block Bm (by simp; omega) (fun e => HV.out.ne.2.2 e.symm), Below.heap_alloc _ _ _ hBm]
      exact (World.cell?_of_block (w := w) (a := ⟨Bm, 0, none⟩) e1).trans hm
    · exact row_carry hrow1 (fun k hk => Below.heap_setCell _ _ _ _ (fun e => hv1n.1 (by rw [hk, e])))
    · have := hg1.size; simp at this ⊢; omega
    · exact ((HV.out.below.alloc HV.out.below.size _).grown hg1 (by simp; omega) (fun j hj => (HV.out.own.lt hj).1)).setCell HV.out.new.1 _
  obtain ⟨a1, n1, c1', hsh1⟩ := hrow1.form
  subst hsh1
  clear hrow1 hg1 hv1 hv1n hblk1 p2a hone
  go_wp2
  go_ret
  exact ⟨rfl, _, hN.out⟩

end Go.Proofs.YtcngblnkfiggjaaDoor.Rm
