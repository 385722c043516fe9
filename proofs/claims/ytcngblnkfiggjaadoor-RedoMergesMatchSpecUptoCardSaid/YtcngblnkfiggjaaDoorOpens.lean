/- Records out of the argument that came in, and how many entries they have. -/
import Derived.Test.YtcngblnkfiggjaaDoorWalkO
import Derived.Test.YtcngblnkfiggjaaDoorRows
import Derived.Deep.Slices
import Derived.OpenShut
namespace Go.Proofs.YtcngblnkfiggjaaDoor.Rm
open Go Go.RowKit Go.Maps Go.ChangeShapes Go.WideShapes Go.ChangeAt

theorem cells3 : Tryd.prog.cellsOf 3 = 1 := by kernel_rfl
theorem cells51 : Tryd.prog.cellsOf 51 = 1 := by kernel_rfl
theorem cells55 : Tryd.prog.cellsOf 55 = 2 := by kernel_rfl
theorem cells78 : Tryd.prog.cellsOf 78 = 2 := by kernel_rfl
theorem bulk_one {H : Type} (d : DataW H) : 1 ≤ Rows.uptoBulk d := by
  cases d with
  | lit l => cases l <;> simp [Rows.uptoBulk]
  | nil => simp [Rows.uptoBulk]
  | ptr d => simp [Rows.uptoBulk]
  | slice elems spare => simp [Rows.uptoBulk]
  | agg parts => simp [Rows.uptoBulk]
  | iface t d => simp [Rows.uptoBulk]
  | map entries => simp [Rows.uptoBulk]
  | held h => simp [Rows.uptoBulk]
theorem bulk_length {H : Type} (l : List (DataW H)) : l.length ≤ Rows.uptoBulkAll l := by
  induction l with
  | nil => simp [Rows.uptoBulkAll]
  | cons x r ih => have := bulk_one x; simp only [Rows.uptoBulkAll, List.length_cons]; omega
theorem bulk_slice {H : Type} (elems spare : List (DataW H)) : Rows.uptoBulkAll elems ≤ Rows.uptoBulk (.slice elems spare) := by
  simp only [Rows.uptoBulk]; omega
theorem bulk_sum {H : Type} (f : Nat → Rec) (D : Nat → DataW H) (ks : List Nat) (h : ∀ i ∈ ks, (f i).es.length ≤ Rows.uptoBulk (D i)) : (allE (ks.map f)).length ≤ Rows.uptoBulkAll (ks.map D) := by
  induction ks with
  | nil => simp [allE, Rows.uptoBulkAll]
  | cons k r ih =>
    have h1 := h k (by simp)
    have h2 := ih (fun i hi => h i (by simp [hi]))
    simp only [allE, List.map_cons, List.flatMap_cons, List.length_append, Rows.uptoBulkAll] at h2 ⊢
    omega

set_option maxRecDepth 100000 in
theorem rdI_of_trod {H : Type} {enc : TypeId × Value → H} {w : World} {base : Nat} {sp : Nat → Bool} {held : Bool} {fuel : Nat} {v : Value} {y : DataW H × List MemPlace} (h : DataW.trod enc Tryd.prog w base sp held fuel 51 [v] = some y) :
    ∃ es : List (Int × Int), RdI w v es ∧ wfE es ∧ es.length ≤ Rows.uptoBulk y.1 := by
  rcases Deep.open_slice Tryd.underlying51 h with ⟨h1, _⟩ | ⟨a, len, cap, m, n, D, Pl, h1, hb, hl, hm, hmm, rfl, hi⟩
  · cases h1
    exact ⟨[], Or.inl ⟨_, _, rfl, rfl⟩, (fun p hp => nomatch hp), by simp⟩
  · cases h1
    have hlm : len ≤ m := by rw [hmm]; split <;> omega
    by_cases h0 : len = 0
    · subst h0
      exact ⟨[], Or.inl ⟨_, _, rfl, rfl⟩, (fun p hp => nomatch hp), by simp⟩
    · have hel : ∀ i, i < len → ∃ c : Int × Int, w.cell? (a.add (i * 2)) = some (.int .i64 c.1) ∧ w.cell? ((a.add (i * 2)).add 1) = some (.int .i64 c.2) ∧ (Lit.int .i64 c.1).wf = true ∧ (Lit.int .i64 c.2).wf = true := by
        intro i hi'
        obtain ⟨cs', hc, ht⟩ := hi i (by omega)
        rw [cells55] at hc
        obtain ⟨_, hcl, hat⟩ := World.cells?_some hc
        obtain ⟨y0, y1, n', _, _, f0, f1⟩ := trod_struct2 Tryd.underlying55 ht
        match cs', hcl with
        | [c0, c1], _ =>
          obtain ⟨z0, e0, _, w0⟩ := DataW.trod_int Tryd.underlying3 f0
          obtain ⟨z1, e1, _, w1⟩ := DataW.trod_int Tryd.underlying3 f1
          have s0 : c0 = .int .i64 z0 := by simpa [cells3] using e0
          have s1 : c1 = .int .i64 z1 := by simpa [cells3] using e1
          have a0 := hat 0 (by omega)
          have a1 := hat 1 (by omega)
          refine ⟨(z0, z1), ?_, ?_, w0, w1⟩
          · rw [← s0]; simpa [Addr.add] using a0
          · rw [← s1]; simpa using a1
      have hex : ∃ f : Nat → Int × Int, ∀ i, i < len → w.cell? (a.add (i * 2)) = some (.int .i64 (f i).1) ∧ w.cell? ((a.add (i * 2)).add 1) = some (.int .i64 (f i).2) ∧ (Lit.int .i64 (f i).1).wf = true ∧ (Lit.int .i64 (f i).2).wf = true := by
        refine ⟨fun i => if hi' : i < len then Classical.choose (hel i hi') else (0, 0), fun i hi' => ?_⟩
        simp only [dif_pos hi']
        exact Classical.choose_spec (hel i hi')
      obtain ⟨f, hf⟩ := hex
      obtain ⟨b, off, spot⟩ := a
      have hspot : spot = none := by
        have := World.cell?_spot (hf 0 (by omega)).1
        simpa [Addr.add] using this
      subst hspot
      have hb' : b < w.heap.size := by have := World.block_lt_of_cell? w _ (hf 0 (by omega)).1; simpa [Addr.add] using this
      refine ⟨(List.range len).map f, Or.inr ⟨b, off, cap, by simp, by simp; omega, by simpa using hl, hm, hb', fun j hj => ?_⟩, fun p hp => ?_, ?_⟩
      · simp at hj
        have hn : nth ((List.range len).map f) j = f j := by unfold nth; rw [List.getD_eq_getElem?_getD]; simp [hj]
        rw [hn]
        have := hf j hj
        have h2 := And.intro this.1 this.2.1
        simpa [Addr.add_lit] using h2
      · obtain ⟨i, hi', rfl⟩ := List.mem_map.1 hp
        exact (hf i (by simpa using hi')).2.2
      · have h1 := bulk_length ((List.range len).map D)
        have h2 := bulk_slice ((List.range len).map D) ((List.range (m - len)).map fun j => D (len + j))
        simp only [List.length_map, List.length_range] at h1 ⊢
        omega

set_option maxRecDepth 100000 in
theorem recs_of_trod {H : Type} {enc : TypeId × Value → H} {w : World} {base : Nat} {sp : Nat → Bool} {held : Bool} {fuel : Nat} {u : Value} {x : DataW H × List MemPlace} (h : DataW.trod enc Tryd.prog w base sp held fuel 50 [u] = some x) :
    ∃ l : List Rec, Recs w u l ∧ wfE (allE l) ∧ (allE l).length ≤ Rows.uptoBulk x.1 ∧ l.length ≤ Rows.uptoBulk x.1 := by
  rcases Deep.open_slice Tryd.underlying50 h with ⟨h1, _⟩ | ⟨a, len, cap, m, n, D, Pl, h1, hb, hl, hm, hmm, rfl, hi⟩
  · cases h1
    exact ⟨[], Or.inl ⟨_, _, rfl, rfl⟩, (fun p hp => by simp [allE] at hp), by simp [allE], by simp⟩
  · cases h1
    have hlm : len ≤ m := by rw [hmm]; split <;> omega
    by_cases h0 : len = 0
    · subst h0
      exact ⟨[], Or.inl ⟨_, _, rfl, rfl⟩, (fun p hp => by simp [allE] at hp), by simp [allE], by simp⟩
    · have hel : ∀ i, i < len → ∃ c : Rec, w.cell? (a.add (i * 2)) = some (.int .i64 c.num) ∧ w.cell? ((a.add (i * 2)).add 1) = some c.v ∧ c.ok w ∧ c.es.length ≤ Rows.uptoBulk (D i) := by
        intro i hi'
        obtain ⟨cs', hc, ht⟩ := hi i (by omega)
        rw [cells78] at hc
        obtain ⟨_, hcl, hat⟩ := World.cells?_some hc
        obtain ⟨y0, y1, n', hx, _, f0, f1⟩ := trod_struct2 Tryd.underlying78 ht
        match cs', hcl with
        | [c0, c1], _ =>
          obtain ⟨z0, e0, _, w0⟩ := DataW.trod_int Tryd.underlying3 f0
          have s0 : c0 = .int .i64 z0 := by simpa [cells3] using e0
          obtain ⟨es, r1, r2, r3⟩ := rdI_of_trod (w := w) (v := c1) (by simpa [cells51] using f1)
          have a0 := hat 0 (by omega)
          have a1 := hat 1 (by omega)
          refine ⟨⟨z0, c1, es⟩, ?_, ?_, ⟨r1, r2⟩, ?_⟩
          · rw [← s0]; simpa [Addr.add] using a0
          · simpa using a1
          · rw [show D i = .agg [y0.1, y1.1] from congrArg Prod.fst hx]
            simp only [Rows.uptoBulk, Rows.uptoBulkAll]
            show es.length ≤ _
            omega
      have hex : ∃ f : Nat → Rec, ∀ i, i < len → w.cell? (a.add (i * 2)) = some (.int .i64 (f i).num) ∧ w.cell? ((a.add (i * 2)).add 1) = some (f i).v ∧ (f i).ok w ∧ (f i).es.length ≤ Rows.uptoBulk (D i) := by
        refine ⟨fun i => if hi' : i < len then Classical.choose (hel i hi') else ⟨0, .slice none 0 0, []⟩, fun i hi' => ?_⟩
        simp only [dif_pos hi']
        exact Classical.choose_spec (hel i hi')
      obtain ⟨f, hf⟩ := hex
      obtain ⟨b, off, spot⟩ := a
      have hspot : spot = none := by
        have := World.cell?_spot (hf 0 (by omega)).1
        simpa [Addr.add] using this
      subst hspot
      have hb' : b < w.heap.size := by have := World.block_lt_of_cell? w _ (hf 0 (by omega)).1; simpa [Addr.add] using this
      have h2 := bulk_slice ((List.range len).map D) ((List.range (m - len)).map fun j => D (len + j))
      refine ⟨(List.range len).map f, Or.inr ⟨b, off, cap, by simp, by simp; omega, by simpa using hl, hm, hb', fun j hj => ?_⟩, fun p hp => ?_, ?_, ?_⟩
      · simp at hj
        have hn : nthR ((List.range len).map f) j = f j := by unfold nthR; rw [List.getD_eq_getElem?_getD]; simp [hj]
        rw [hn]
        have := hf j hj
        have h2 := And.intro this.1 (And.intro this.2.1 this.2.2.1)
        simpa [Addr.add_lit] using h2
      · obtain ⟨r, hr, hp'⟩ := List.mem_flatMap.1 hp
        obtain ⟨i, hi', rfl⟩ := List.mem_map.1 hr
        exact (hf i (by simpa using hi')).2.2.1.2 p hp'
      · exact Nat.le_trans (bulk_sum f D (List.range len) (fun i hi' => (hf i (by simpa using hi')).2.2.2)) h2
      · have h1 := bulk_length ((List.range len).map D)
        simp only [List.length_map, List.length_range] at h1 ⊢
        omega

end Go.Proofs.YtcngblnkfiggjaaDoor.Rm
