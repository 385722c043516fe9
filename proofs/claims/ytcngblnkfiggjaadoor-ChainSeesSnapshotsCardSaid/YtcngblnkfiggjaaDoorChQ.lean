/- The object of package memory after a store and after a flush. -/
import Derived.Test.YtcngblnkfiggjaaDoorChN
namespace Go.Proofs.YtcngblnkfiggjaaDoor.Rm
open Go Go.RowKit Go.Maps

theorem MO.bounds {w : World} {Bm n : Nat} {M : Int → Int} {F : Nat → Prop} {c : Nat} (h : MO w Bm n M F c) : 1 ≤ n ∧ n ≤ 1000 := by
  obtain ⟨_, _, _, _, _, _, _, _, _, _, h⟩ := h; exact h.cnt

/-- The object after one more store is pending. -/
theorem MO.putted {w wa w1 w3 : World} {Bm n : Nat} {M : Int → Int} {F : Nat → Prop} {c Bl Bb : Nat} {ve v' : Value} {nE : Nat} {xe : List Value} {vs : Nat → Value} {P : Nat → List (Int × Int)} {L : Array Value} {D D' : DataW Unit} {tag : Nat → Nat} (h : MOx w Bm n M F c Bl Bb ve nE xe vs P L D tag)
    (k : Nat) (hk : k < n) (j : Nat) (hj : j < 8) (x : Int) (hba : Below w.heap.size w wa)
    (hrow : w1.ownsRow 0 141 2 v' ((P k).length + 1) (itemCells (P k) ++ [.int .i64 (j : Int), .int .i64 x])) (hg : wa.grownBy w1 (vs k).ownBlock) (hv : v'.ownBlock = (vs k).ownBlock ∨ v'.ownBlock = some wa.heap.size)
    (hg3 : (w1.setCell ⟨Bl, k * 11 + 9, none⟩ v').grownBy w3 (some Bb)) (hown3 : w3.ownsMap Tryd.prog 3 (plainElem Tryd.prog 4) Bb (c + 1) D') :
    ∃ F', MO w3 Bm n (upd M (8 * k + j) x) F' (c + 1) ∧ Moves F F' w w3 := by
  have hm : MO w Bm n M F c := ⟨_, _, _, _, _, _, _, _, _, _, h⟩
  have hBm := (Array.getElem?_eq_some_iff.1 h.top).1
  have hBl := (Array.getElem?_eq_some_iff.1 h.lns).1
  have hBb := map_lt h.bsy
  have hsz := hba.size
  have hsz1 := hg.size
  have hvk : ∀ b, (vs k).ownBlock = some b → tag b = 4 + k ∧ b < w.heap.size := fun b hb => ⟨h.tg4 k hk b hb, (World.ownsRow.lt (h.own k hk) b hb).2⟩
  have hFk : ∀ b, (vs k).ownBlock = some b → F b := fun b hb => by rw [h.fF]; exact Or.inr (Or.inr (Or.inr (Or.inr ⟨k, hk, hb⟩)))
  have hkeep : ∀ b, b < w.heap.size → (vs k).ownBlock ≠ some b → w1.heap[b]? = w.heap[b]? := fun b hb hne => (hg.block b (by omega) (fun e => hne e.symm)).trans (hba.block b hb)
  have hkeep2 : ∀ b, b < w1.heap.size → b ≠ Bl → b ≠ Bb → w3.heap[b]? = w1.heap[b]? := fun b hb h1 h2 => by
    rw [hg3.block b (by simpa using hb) (fun e => h2 (by cases e; rfl)), Below.heap_setCell _ _ _ _ h1]
  have hkeep3 : ∀ b, b < w.heap.size → (vs k).ownBlock ≠ some b → b ≠ Bl → b ≠ Bb → w3.heap[b]? = w.heap[b]? := fun b hb h1 h2 h3 => (hkeep2 b (by omega) h2 h3).trans (hkeep b hb h1)
  have nt : ∀ b, tag b ≠ 4 + k → (vs k).ownBlock ≠ some b := fun b hb e => hb (hvk b e).1
  have n0 : Bm ≠ Bl := fun e => by have a := h.tg0; have b := h.tg1; rw [e] at a; omega
  have n1 : Bm ≠ Bb := fun e => by have a := h.tg0; have b := h.tg2; rw [e] at a; omega
  have n2 : Bl ≠ Bb := fun e => by have a := h.tg1; have b := h.tg2; rw [e] at a; omega
  have hv' : ∀ b, v'.ownBlock = some b → (vs k).ownBlock = some b ∨ b = wa.heap.size := fun b hb => by
    rcases hv with e | e
    · exact Or.inl (e ▸ hb)
    · rw [e] at hb; cases hb; exact Or.inr rfl
  have hlt : ∀ b, v'.ownBlock = some b → b < w1.heap.size := fun b hb => (World.ownsRow.lt hrow b hb).2
  have hL : w1.heap[Bl]? = some (.cells L 98 (0, 0)) := (hkeep Bl hBl (nt Bl (by rw [h.tg1]; omega))).trans h.lns
  refine ⟨_, ⟨Bl, Bb, ve, nE, xe, (fun i => if i = k then v' else vs i), (fun i => if i = k then P k ++ [((j : Int), x)] else P i), L.setIfInBounds (k * 11 + 9) v', D', (fun b => if b = wa.heap.size then 4 + k else tag b), ?_, ?_, ?_, ?_, ?_, ?_, ?_, hown3, ?_, ?_, ?_, ?_, ?_, ?_, ?_, h.cnt, ?_, ?_, rfl⟩, ?_⟩
  · exact (hkeep3 Bm hBm (nt Bm (by rw [h.tg0]; omega)) n0 n1).trans h.top
  · rw [hg3.block Bl (by simp; omega) (fun e => n2 (by cases e; rfl))]
    exact Joins.block_setCell hL (i := k * 11 + 9) v'
  · intro i hi q hq
    rw [Array.getElem?_setIfInBounds_ne (by omega)]
    exact h.zer i hi q hq
  · intro i hi
    show _ = some (if i = k then v' else vs i)
    by_cases e : i = k
    · subst e
      rw [if_pos rfl, Array.getElem?_setIfInBounds_self_of_lt]
      have := h.pnd i hi
      exact (Array.getElem?_eq_some_iff.1 this).1
    · rw [if_neg e, Array.getElem?_setIfInBounds_ne (by omega)]
      exact h.pnd i hi
  · intro i hi
    obtain ⟨m, hm'⟩ := h.mrk i hi
    exact ⟨m, by rw [Array.getElem?_setIfInBounds_ne (by omega)]; exact hm'⟩
  · intro i hi
    show w3.ownsRow 0 141 2 (if i = k then v' else vs i) (if i = k then P k ++ [((j : Int), x)] else P i).length (itemCells (if i = k then P k ++ [((j : Int), x)] else P i))
    by_cases e : i = k
    · subst e
      simp only [if_pos]
      rw [itemCells_append, List.length_append]
      refine row_carry hrow (fun b hb => hkeep2 b (hlt b hb) ?_ ?_)
      · intro e
        subst e
        rcases hv' _ hb with h1 | h1
        · have := (hvk _ h1).1; rw [h.tg1] at this; omega
        · omega
      · intro e
        subst e
        rcases hv' _ hb with h1 | h1
        · have := (hvk _ h1).1; rw [h.tg2] at this; omega
        · omega
    · simp only [if_neg e]
      refine row_carry (h.own i hi) (fun b hb => ?_)
      have ht := h.tg4 i hi b hb
      have hbl := (World.ownsRow.lt (h.own i hi) b hb).2
      exact hkeep3 b hbl (nt b (by omega)) (fun e => by rw [e, h.tg1] at ht; omega) (fun e => by rw [e, h.tg2] at ht; omega)
  · refine row_carry h.evs (fun b hb => ?_)
    have ht := h.tg3 b hb
    exact hkeep3 b (World.ownsRow.lt h.evs b hb).2 (nt b (by omega)) (fun e => by rw [e, h.tg1] at ht; omega) (fun e => by rw [e, h.tg2] at ht; omega)
  · show (if Bm = wa.heap.size then 4 + k else tag Bm) = 0
    rw [if_neg (by omega)]; exact h.tg0
  · show (if Bl = wa.heap.size then 4 + k else tag Bl) = 1
    rw [if_neg (by omega)]; exact h.tg1
  · show (if Bb = wa.heap.size then 4 + k else tag Bb) = 2
    rw [if_neg (by omega)]; exact h.tg2
  · intro b hb
    have := (World.ownsRow.lt h.evs b hb).2
    show (if b = wa.heap.size then 4 + k else tag b) = 3
    rw [if_neg (by omega)]; exact h.tg3 b hb
  · intro i hi b hb
    show (if b = wa.heap.size then 4 + k else tag b) = 4 + i
    by_cases e : i = k
    · subst e
      simp only [if_pos] at hb
      rcases hv' b hb with h1 | h1
      · have := hvk b h1
        rw [if_neg (by omega)]; exact this.1
      · rw [if_pos h1]
    · simp only [if_neg e] at hb
      have := (World.ownsRow.lt (h.own i hi) b hb).2
      rw [if_neg (by omega)]; exact h.tg4 i hi b hb
  · have := h.len; omega
  · intro i hi
    show (if i = k then P k ++ [((j : Int), x)] else P i).length ≤ c + 1
    have h1 := h.lep i hi
    by_cases e : i = k
    · subst e; rw [if_pos rfl]; simp; omega
    · rw [if_neg e]; omega
  · intro i hi p hp
    have hp : p ∈ (if i = k then P k ++ [((j : Int), x)] else P i) := hp
    by_cases e : i = k
    · subst e
      rw [if_pos rfl] at hp
      rcases List.mem_append.1 hp with h1 | h1
      · exact h.wrd i hi p h1
      · rw [List.mem_singleton] at h1; rw [h1]; exact ⟨by simp, by simp; omega⟩
    · rw [if_neg e] at hp; exact h.wrd i hi p hp
  · intro i hi q h0 h1
    show shown (if i = k then P k ++ [((j : Int), x)] else P i) q = upd M (8 * k + j) x (8 * i + q)
    unfold upd
    by_cases e : i = k
    · subst e
      rw [if_pos rfl, shown_snoc, h.mem i hi q h0 h1]
      by_cases e2 : q = (j : Int)
      · rw [if_pos e2, if_pos (by omega)]
      · rw [if_neg e2, if_neg (by omega)]
    · rw [if_neg e, h.mem i hi q h0 h1, if_neg (by omega)]
  · refine ⟨hg3.os.trans ?_, hg3.tape.trans ?_, hg3.output.trans ?_, by have := hg3.size; simp at this; omega, ?_, ?_⟩
    · exact hg.os.trans hba.os
    · exact hg.tape.trans hba.tape
    · exact hg.output.trans hba.output
    · intro b hb hF
      exact hkeep3 b hb (fun e => hF (hFk b e)) (fun e => hF (by rw [h.fF]; exact Or.inr (Or.inl e))) (fun e => hF (by rw [h.fF]; exact Or.inr (Or.inr (Or.inl e))))
    · intro b hb
      rw [h.fF]
      rcases hb with h1 | h1 | h1 | h1 | ⟨i, hi, h1⟩
      · exact Or.inl (Or.inl h1)
      · exact Or.inl (Or.inr (Or.inl h1))
      · exact Or.inl (Or.inr (Or.inr (Or.inl h1)))
      · exact Or.inl (Or.inr (Or.inr (Or.inr (Or.inl h1))))
      · by_cases e : i = k
        · subst e
          simp only [if_pos] at h1
          rcases hv' b h1 with h2 | h2
          · exact Or.inl (Or.inr (Or.inr (Or.inr (Or.inr ⟨i, hi, h2⟩))))
          · right; omega
        · simp only [if_neg e] at h1
          exact Or.inl (Or.inr (Or.inr (Or.inr (Or.inr ⟨i, hi, h1⟩))))
/-- The object after the mark of a line is set. -/
theorem MO.marked {w wa : World} {Bm n : Nat} {M : Int → Int} {F : Nat → Prop} {c Bl Bb : Nat} {ve : Value} {nE : Nat} {xe : List Value} {vs : Nat → Value} {P : Nat → List (Int × Int)} {L : Array Value} {D : DataW Unit} {tag : Nat → Nat} (h : MOx w Bm n M F c Bl Bb ve nE xe vs P L D tag)
    (k : Nat) (hk : k < n) (m : Int) (hba : Below w.heap.size w wa) : MO (wa.setCell ⟨Bl, k * 11 + 10, none⟩ (.int .i64 m)) Bm n M F c ∧ Moves F F w (wa.setCell ⟨Bl, k * 11 + 10, none⟩ (.int .i64 m)) := by
  have hm : MO w Bm n M F c := ⟨_, _, _, _, _, _, _, _, _, _, h⟩
  have hFl : F Bl := by rw [h.fF]; exact Or.inr (Or.inl rfl)
  have hkeep : ∀ b, b < w.heap.size → b ≠ Bl → (wa.setCell ⟨Bl, k * 11 + 10, none⟩ (.int .i64 m)).heap[b]? = w.heap[b]? := fun b hb hne => by
    rw [Below.heap_setCell _ _ _ _ hne]; exact hba.block b hb
  have n0 : Bm ≠ Bl := fun e => by have a := h.tg0; have b := h.tg1; rw [e] at a; omega
  have n2 : Bb ≠ Bl := fun e => by have a := h.tg2; have b := h.tg1; rw [e] at a; omega
  have hBl := (Array.getElem?_eq_some_iff.1 h.lns).1
  refine ⟨⟨Bl, Bb, ve, nE, xe, vs, P, L.setIfInBounds (k * 11 + 10) (.int .i64 m), D, tag, ?_, ?_, ?_, ?_, ?_, ?_, ?_, ?_, h.tg0, h.tg1, h.tg2, h.tg3, h.tg4, h.len, h.lep, h.cnt, h.wrd, h.mem, h.fF⟩, ?_⟩
  · exact (hkeep Bm (Array.getElem?_eq_some_iff.1 h.top).1 n0).trans h.top
  · exact Joins.block_setCell ((hba.block Bl hBl).trans h.lns) (i := k * 11 + 10) _
  · intro i hi q hq
    rw [Array.getElem?_setIfInBounds_ne (by omega)]
    exact h.zer i hi q hq
  · intro i hi
    rw [Array.getElem?_setIfInBounds_ne (by omega)]
    exact h.pnd i hi
  · intro i hi
    obtain ⟨m', hm'⟩ := h.mrk i hi
    by_cases e : i = k
    · subst e
      exact ⟨m, Array.getElem?_setIfInBounds_self_of_lt (Array.getElem?_eq_some_iff.1 hm').1⟩
    · exact ⟨m', by rw [Array.getElem?_setIfInBounds_ne (by omega)]; exact hm'⟩
  · intro i hi
    refine row_carry (h.own i hi) (fun b hb => hkeep b (World.ownsRow.lt (h.own i hi) b hb).2 (fun e => ?_))
    have := h.tg4 i hi b hb; rw [e, h.tg1] at this; omega
  · refine row_carry h.evs (fun b hb => hkeep b (World.ownsRow.lt h.evs b hb).2 (fun e => ?_))
    have := h.tg3 b hb; rw [e, h.tg1] at this; omega
  · exact map_carry h.bsy (hkeep Bb (map_lt h.bsy) n2) (Nat.le_refl _)
  · exact ⟨hba.os, hba.tape, hba.output, by have := hba.size; simpa using this, fun b hb hF => hkeep b hb (fun e => hF (e ▸ hFl)), fun b hb => Or.inl hb⟩

end Go.Proofs.YtcngblnkfiggjaaDoor.Rm
