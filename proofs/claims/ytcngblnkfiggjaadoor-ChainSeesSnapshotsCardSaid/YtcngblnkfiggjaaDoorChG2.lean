/- What the statement of the snapshots holds while its chain grows. -/
import Derived.Test.YtcngblnkfiggjaaDoorChG1
namespace Go.Proofs.YtcngblnkfiggjaaDoor.Rm
open Go Go.RowKit Go.Maps

/-- A slice of bools that is read. -/
def RdB (w : World) (v : Value) (bs : List Bool) : Prop :=
  (∃ ao cap, v = .slice ao 0 cap ∧ bs = []) ∨
  ∃ b off cap, v = .slice (some ⟨b, off, none⟩) bs.length cap ∧ 0 < bs.length ∧ bs.length ≤ cap ∧ cap ≤ maxLen ∧ b < w.heap.size ∧ ∀ j, j < bs.length → w.cell? ⟨b, off + j, none⟩ = some (.bool (bs.getD j false))
theorem RdB.carry {w w' : World} {v : Value} {bs : List Bool} {B : Nat} (h : RdB w v bs) (hb : Below B w w') (hB : w.heap.size ≤ B) : RdB w' v bs := by
  rcases h with h | ⟨b, off, cap, rfl, h0, hc, hm, h1, h2⟩
  · exact Or.inl h
  · exact Or.inr ⟨b, off, cap, rfl, h0, hc, hm, by have := hb.size; omega, fun j hj => (World.cell?_of_block (hb.block b (by omega))).trans (h2 j hj)⟩
theorem RdB.shape {w : World} {v : Value} {bs : List Bool} (h : RdB w v bs) : ∃ ao cap, v = .slice ao bs.length cap := by
  rcases h with ⟨ao, cap, rfl, rfl⟩ | ⟨b, off, cap, rfl, _⟩
  · exact ⟨_, _, rfl⟩
  · exact ⟨_, _, rfl⟩

/-- Between two rounds: i cells are written; vl: the slice of the cells, whose words are read at xs. -/
structure GI (w : World) (gaps : List Int) (dead : List Bool) (Bv Bm i : Nat) (M : Int → Int) (F : Nat → Prop) (c : Nat) (vl : Value) (xs : List Stp) (W : World) : Prop where
  cv : CV W Bv Bm 40 M F c
  low : ∀ k, F k → w.heap.size ≤ k
  lowv : w.heap.size ≤ Bv
  below : Below w.heap.size w W
  len : xs.length = i
  cls : ∀ j, j < i → (nthS xs j).cl = cellG gaps dead j
  row : W.ownsRow w.heap.size 24 6 vl i (rowC xs)
  rowF : ∀ b, vl.ownBlock = some b → ¬ F b ∧ b ≠ Bv
  wrd : ∀ x ∈ xs, Rd W x.v x.cl.ws ∧ ∀ b, x.v.ownBlock = some b → b < W.heap.size ∧ ¬ F b ∧ vl.ownBlock ≠ some b
section
variable {w : World} {gaps : List Int} {dead : List Bool} {Bv Bm i : Nat} {M : Int → Int} {F : Nat → Prop} {c : Nat} {vl : Value} {xs : List Stp} {W : World}
theorem GI.next {W' : World} (h : GI w gaps dead Bv Bm i M F c vl xs W) (hb : Below W.heap.size W W') : GI w gaps dead Bv Bm i M F c vl xs W' := by
  have hsz := h.below.size
  exact ⟨h.cv.below hb, h.low, h.lowv, h.below.trans (hb.mono (by omega)), h.len, h.cls, row_carry h.row (fun k hk => hb.block k (h.row.lt k hk).2), h.rowF,
    fun x hx => ⟨(h.wrd x hx).1.below hb, fun b hb' => ⟨Nat.lt_of_lt_of_le ((h.wrd x hx).2 b hb').1 hb.size, ((h.wrd x hx).2 b hb').2⟩⟩⟩
theorem GI.moves {M' : Int → Int} {F' : Nat → Prop} {c' : Nat} {W' : World} (h : GI w gaps dead Bv Bm i M F c vl xs W) (hc : CV W' Bv Bm 40 M' F' c') (hm : Moves F F' W W') : GI w gaps dead Bv Bm i M' F' c' vl xs W' := by
  have hsz := h.below.size
  have hnF : ∀ b, b < W.heap.size → ¬ F b → ¬ F' b := fun b hb hF hF' => by
    rcases hm.sub b hF' with h1 | h1
    · exact hF h1
    · omega
  refine ⟨hc, fun k hk => ?_, h.lowv, h.below.trans (hm.below h.low hsz), h.len, h.cls, row_carry h.row (fun k hk => hm.block k (h.row.lt k hk).2 (h.rowF k hk).1), fun b hb => ⟨hnF b (h.row.lt b hb).2 (h.rowF b hb).1, (h.rowF b hb).2⟩, fun x hx => ?_⟩
  · rcases hm.sub k hk with h1 | h1
    · exact h.low k h1
    · omega
  · obtain ⟨hr, hb⟩ := h.wrd x hx
    exact ⟨hr.carry hm.size (fun k hk hk' => hm.block k hk' (hb k hk).2.1), fun b hb' => ⟨Nat.lt_of_lt_of_le (hb b hb').1 hm.size, hnF b (hb b hb').1 (hb b hb').2.1, (hb b hb').2.2⟩⟩
theorem GI.app {W' : World} {v' : Value} {y : Stp} (h : GI w gaps dead Bv Bm i M F c vl xs W) (hy : y.cl = cellG gaps dead i) (hyv : Rd W y.v y.cl.ws ∧ ∀ b, y.v.ownBlock = some b → b < W.heap.size ∧ ¬ F b ∧ vl.ownBlock ≠ some b)
    (ho : W'.ownsRow w.heap.size 24 6 v' (i + 1) (rowC xs ++ rowC [y])) (g : W.grownBy W' vl.ownBlock) (hv : v'.ownBlock = vl.ownBlock ∨ v'.ownBlock = some W.heap.size) : GI w gaps dead Bv Bm (i + 1) M F c v' (xs ++ [y]) W' := by
  have hsz := h.below.size
  have hgs := g.size
  have hBv := h.cv.lt
  have hall : ∀ x ∈ xs ++ [y], Rd W x.v x.cl.ws ∧ ∀ b, x.v.ownBlock = some b → b < W.heap.size ∧ ¬ F b ∧ vl.ownBlock ≠ some b := fun x hx => by
    rcases List.mem_append.1 hx with h1 | h1
    · exact h.wrd x h1
    · rw [List.mem_singleton] at h1; subst h1; exact hyv
  have hF : ∀ k, F k → W'.heap[k]? = W.heap[k]? := fun k hk => g.block k (h.cv.mem.lt hk) (fun e => (h.rowF k e.symm).1 hk)
  refine ⟨⟨(g.block _ hBv (fun e => (h.rowF Bv e.symm).2 rfl)).trans h.cv.blk, h.cv.mem.carry hF, h.cv.out⟩, h.low, h.lowv, ?_, by rw [List.length_append, List.length_singleton, h.len], fun j hj => ?_, by rw [rowC_append]; exact ho, fun b hb => ?_, fun x hx => ?_⟩
  · exact h.below.trans ⟨g.os, g.tape, g.output, g.size, fun k hk => g.block k (by omega) (fun e => by have := (h.row.lt k e.symm).1; omega)⟩
  · unfold nthS
    rw [List.getD_eq_getElem?_getD]
    by_cases e : j < i
    · rw [List.getElem?_append_left (by rw [h.len]; exact e)]
      have := h.cls j e
      unfold nthS at this
      rwa [List.getD_eq_getElem?_getD] at this
    · obtain rfl : j = i := by omega
      rw [List.getElem?_append_right (by rw [h.len]; exact Nat.le_refl _), h.len]
      simpa using hy
  · rcases hv with e | e
    · rw [e] at hb; exact h.rowF b hb
    · rw [e, Option.some.injEq] at hb
      subst hb
      exact ⟨fun hF => by have := h.cv.mem.lt hF; omega, by omega⟩
  · obtain ⟨hr, hb⟩ := hall x hx
    refine ⟨hr.carry g.size (fun k hk hk' => g.block k hk' (fun e => (hb k hk).2.2 e.symm)), fun b hb' => ⟨Nat.lt_of_lt_of_le (hb b hb').1 g.size, (hb b hb').2.1, ?_⟩⟩
    rcases hv with e | e
    · rw [e]; exact (hb b hb').2.2
    · rw [e]
      intro e2
      rw [Option.some.injEq] at e2
      have := (hb b hb').1
      omega
end

end Go.Proofs.YtcngblnkfiggjaaDoor.Rm
