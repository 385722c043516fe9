/- A script (a slice of calls) that came in, as a walk reads it; contract of few: whether a script is small enough to be played. -/
import Derived.Test.YtphmfmfbneoljaaWalkN
import Derived.Deep.Slices
import Derived.OpenShut
namespace Go.Proofs.Ytphmfmfbneoljaa.Ep
open Go Go.RowKit Go.Maps Go.ChangeShapes Go.WideShapes Go.ChangeAt

theorem cells3 : Try.prog.cellsOf 3 = 1 := by kernel_rfl
theorem cells29 : Try.prog.cellsOf 29 = 1 := by kernel_rfl
theorem cells34 : Try.prog.cellsOf 34 = 3 := by kernel_rfl

/-- A call of a script: its kind, its number, the slice of its blocks as a value, and the blocks. -/
structure Call where
  kind : Int
  a : Int
  v : Value
  bs : List Int
def Call.ok (w : World) (c : Call) : Prop := (Lit.int .i64 c.kind).wf = true ∧ (Lit.int .i64 c.a).wf = true ∧ Rd w c.v c.bs ∧ (∀ x ∈ c.bs, (Lit.int .i64 x).wf = true) ∧ (∀ k, c.v.ownBlock = some k → c.bs ≠ [] → k < w.heap.size)
def nthC (l : List Call) (j : Nat) : Call := l.getD j ⟨0, 0, .slice none 0 0, []⟩
/-- A script that is read. -/
def Script (w : World) (u : Value) (l : List Call) : Prop :=
  (∃ ao cap, u = .slice ao 0 cap ∧ l = []) ∨
  ∃ b off cap, u = .slice (some ⟨b, off, none⟩) l.length cap ∧ 0 < l.length ∧ l.length ≤ cap ∧ cap ≤ maxLen ∧ b < w.heap.size ∧
    ∀ j, j < l.length → w.cell? ⟨b, off + j * 3, none⟩ = some (.int .i64 (nthC l j).kind) ∧ w.cell? ⟨b, off + j * 3 + 1, none⟩ = some (.int .i64 (nthC l j).a) ∧ w.cell? ⟨b, off + j * 3 + 2, none⟩ = some (nthC l j).v ∧ (nthC l j).ok w

/-- A slice of ints in a cell that has been read. -/
theorem rd_of_trod {H : Type} {enc : TypeId × Value → H} {w : World} {base : Nat} {sp : Nat → Bool} {held : Bool} {fuel : Nat} {v : Value} {y : DataW H × List MemPlace} (h : DataW.trod enc Try.prog w base sp held fuel 29 [v] = some y) :
    ∃ bs : List Int, Rd w v bs ∧ (∀ x ∈ bs, (Lit.int .i64 x).wf = true) ∧ (∀ k, v.ownBlock = some k → bs ≠ [] → k < w.heap.size) := by
  rcases open_ints Try.underlying29 Try.underlying3 cells3 h with ⟨h1, _⟩ | ⟨a, len, cap, zs, h1, _, hl, hm, hz, _, hc, hw⟩
  · cases h1
    exact ⟨[], Or.inl ⟨_, _, rfl, rfl⟩, by simp, fun _ _ h => absurd rfl h⟩
  · cases h1
    have hlen : len ≤ zs.length := by rw [hz]; split <;> omega
    by_cases h0 : len = 0
    · subst h0
      exact ⟨[], Or.inl ⟨_, _, rfl, rfl⟩, by simp, fun _ _ h => absurd rfl h⟩
    · obtain ⟨b, off, rfl, hc'⟩ := ints_at hc (by omega)
      have hb : b < w.heap.size := World.block_lt_of_cell? w _ (hc' 0 (by omega))
      refine ⟨zs.take len, Or.inr ⟨b, off, cap, by rw [List.length_take, Nat.min_eq_left hlen], by rw [List.length_take]; omega, by rw [List.length_take]; omega, hm, hb, fun j hj => ?_⟩, fun x hx => hw x (List.mem_of_mem_take hx), fun k hk _ => by cases hk; exact hb⟩
      rw [List.length_take] at hj
      rw [hc' j (by omega)]
      unfold nthI
      rw [List.getD_eq_getElem?_getD, List.getD_eq_getElem?_getD, List.getElem?_take_of_lt (by omega)]

set_option maxRecDepth 100000 in
theorem script_of_trod {H : Type} {enc : TypeId × Value → H} {w : World} {base : Nat} {sp : Nat → Bool} {held : Bool} {fuel : Nat} {u : Value} {x : DataW H × List MemPlace} (h : DataW.trod enc Try.prog w base sp held fuel 22 [u] = some x) :
    ∃ l : List Call, Script w u l := by
  rcases Deep.open_slice Try.underlying22 h with ⟨h1, _⟩ | ⟨a, len, cap, m, n, D, Pl, h1, hb, hl, hm, hmm, _, hi⟩
  · cases h1
    exact ⟨[], Or.inl ⟨_, _, rfl, rfl⟩⟩
  · cases h1
    have hlm : len ≤ m := by rw [hmm]; split <;> omega
    by_cases h0 : len = 0
    · subst h0
      exact ⟨[], Or.inl ⟨_, _, rfl, rfl⟩⟩
    · have hel : ∀ i, i < len → ∃ c : Call, w.cell? (a.add (i * 3)) = some (.int .i64 c.kind) ∧ w.cell? ((a.add (i * 3)).add 1) = some (.int .i64 c.a) ∧ w.cell? ((a.add (i * 3)).add 2) = some c.v ∧ c.ok w := by
        intro i hi'
        obtain ⟨cs', hc, ht⟩ := hi i (by omega)
        rw [cells34] at hc
        obtain ⟨_, hcl, hat⟩ := World.cells?_some hc
        obtain ⟨ys, n', _, _, _, hyl, hf⟩ := DataW.trod_struct Try.underlying34 ht
        match cs', hcl with
        | [c0, c1, c2], _ =>
          match ys, hyl with
          | [y0, y1, y2], _ =>
            have f0 := hf 0 _ rfl
            have f1 := hf 1 _ rfl
            have f2 := hf 2 _ rfl
            obtain ⟨z0, e0, _, w0⟩ := DataW.trod_int Try.underlying3 (by simpa using f0)
            obtain ⟨z1, e1, _, w1⟩ := DataW.trod_int Try.underlying3 (by simpa using f1)
            have s0 : c0 = .int .i64 z0 := by simpa [cells3] using e0
            have s1 : c1 = .int .i64 z1 := by simpa [cells3] using e1
            obtain ⟨bs, r1, r2, r3⟩ := rd_of_trod (w := w) (v := c2) (by simpa [cells29] using f2)
            have a0 := hat 0 (by omega)
            have a1 := hat 1 (by omega)
            have a2 := hat 2 (by omega)
            refine ⟨⟨z0, z1, c2, bs⟩, ?_, ?_, ?_, w0, w1, r1, r2, r3⟩
            · rw [← s0]; simpa [Addr.add] using a0
            · rw [← s1]; simpa using a1
            · simpa using a2
      have hex : ∃ f : Nat → Call, ∀ i, i < len → w.cell? (a.add (i * 3)) = some (.int .i64 (f i).kind) ∧ w.cell? ((a.add (i * 3)).add 1) = some (.int .i64 (f i).a) ∧ w.cell? ((a.add (i * 3)).add 2) = some (f i).v ∧ (f i).ok w := by
        refine ⟨fun i => if hi' : i < len then Classical.choose (hel i hi') else ⟨0, 0, .slice none 0 0, []⟩, fun i hi' => ?_⟩
        simp only [dif_pos hi']
        exact Classical.choose_spec (hel i hi')
      obtain ⟨f, hf⟩ := hex
      obtain ⟨b, off, spot⟩ := a
      have hspot : spot = none := by
        have := World.cell?_spot (hf 0 (by omega)).1
        simpa [Addr.add] using this
      subst hspot
      have hb' : b < w.heap.size := by have := World.block_lt_of_cell? w _ (hf 0 (by omega)).1; simpa [Addr.add] using this
      refine ⟨(List.range len).map f, Or.inr ⟨b, off, cap, by simp, by simp; omega, by simpa using hl, hm, hb', fun j hj => ?_⟩⟩
      simp at hj
      have hn : nthC ((List.range len).map f) j = f j := by unfold nthC; rw [List.getD_eq_getElem?_getD]; simp [hj]
      rw [hn]
      have := hf j hj
      simpa [Addr.add_lit] using this

end Go.Proofs.Ytphmfmfbneoljaa.Ep
