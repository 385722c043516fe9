/- The tables of package pointer out of what the card lays; a cell and a slice of ints out of the arguments; a world for the witness. Shared by the chain laws' cards. -/
import Derived.Test.YtcngblnkfiggjaaDoorCards
import Derived.Test.YtcngblnkfiggjaaDoorTie
import Derived.Test.YtcngblnkfiggjaaDoorChP
import Derived.Deep.Slices
import Derived.WalkKit
import Derived.ProofKit
import Derived.OpenShut
import Derived.ChangeOld
import Derived.Below
import Derived.Deep.DeepHandedRow
import Derived.Lib.LaidTab
namespace Go.Proofs.YtcngblnkfiggjaaDoor.Rm
open Go Go.ChangeShapes Go.WideShapes Go.ChangeAt Go.RowKit

theorem own : ownKnob Tryd.prog.godebug = none := by kernel_rfl
theorem laidOut : laidOutB Tryd.prog = true := by kernel_rfl
theorem gPtr : Tryd.prog.globalNamed "alum/pointer.pointers" = some 0 := by kernel_rfl
theorem gPtrType : (Tryd.prog.globals[0]?).map (·.type) = some 121 := by kernel_rfl
theorem gHdr : Tryd.prog.globalNamed "alum/pointer.headers" = some 2 := by kernel_rfl
theorem gHdrType : (Tryd.prog.globals[2]?).map (·.type) = some 179 := by kernel_rfl
theorem cellsP120 : Tryd.prog.cellsOf 120 = 2 := by kernel_rfl
theorem cellsP3 : Tryd.prog.cellsOf 3 = 1 := by kernel_rfl
theorem cellsP4 : Tryd.prog.cellsOf 4 = 1 := by kernel_rfl
theorem cellsP22 : Tryd.prog.cellsOf 22 = 1 := by kernel_rfl
theorem cellsP24 : Tryd.prog.cellsOf 24 = 6 := by kernel_rfl

set_option maxRecDepth 100000 in
theorem pair_cells {H : Type} {enc : TypeId × Value → H} {w : World} {base : Nat} {sp : Nat → Bool} {held : Bool} {fuel : Nat} {cs : List Value} {a b : Int} {x : DataW H × List MemPlace}
    (h : DataW.trod enc Tryd.prog w base sp held fuel 120 cs = some x) (hx : x.1 = .agg [.lit (.int .i64 a), .lit (.int .i64 b)]) : cs = [.int .i64 a, .int .i64 b] := by
  obtain ⟨y0, y1, n, rfl, hl, h0, h1⟩ := trod_struct2 Tryd.underlying120 h
  obtain ⟨z0, e0, r0, _⟩ := DataW.trod_int Tryd.underlying3 h0
  obtain ⟨z1, e1, r1, _⟩ := DataW.trod_int Tryd.underlying3 h1
  simp only [r0, r1, DataW.agg.injEq, List.cons.injEq, DataW.lit.injEq, Lit.int.injEq, true_and, and_true] at hx
  obtain ⟨rfl, rfl⟩ := hx
  rw [cellsP120] at hl
  match cs, hl with
  | [c0, c1], _ =>
    simp [cellsP3] at e0 e1
    rw [e0, e1]
theorem cell_of_elem {cs : List Value} {i : Nat} {a b : Value} (h : (cs.drop (i * 2)).take 2 = [a, b]) : cs[i * 2]? = some a ∧ cs[i * 2 + 1]? = some b := by
  have h0 := congrArg (·[0]?) h
  have h1 := congrArg (·[1]?) h
  simp [List.getElem?_take, List.getElem?_drop] at h0 h1
  exact ⟨h0, h1⟩

set_option maxRecDepth 100000 in
theorem tabs_of {W : World} (h : laidMet Tryd.prog [("alum/pointer.pointers", Rows.laid_alum_pointer_pointers), ("alum/pointer.headers", Rows.laid_alum_pointer_headers), ("math/bits.deBruijn32tab", Rows.laid_math_bits_deBruijn32tab), ("math/bits.deBruijn64tab", Rows.laid_math_bits_deBruijn64tab)] W) : Tabs W := by
  obtain ⟨ps, ⟨g, t, cs, fuel, p, q, hg, ht, hvar, hd, ⟨g', t', cs', fuel', p', q', hg', ht', hvar', hd', _, _⟩, _⟩, _⟩ := h
  obtain rfl := Option.some.inj (gPtr.symm.trans hg)
  obtain rfl := Option.some.inj (gPtrType.symm.trans ht)
  obtain rfl := Option.some.inj (gHdr.symm.trans hg')
  obtain rfl := Option.some.inj (gHdrType.symm.trans ht')
  obtain ⟨xs, m, _, hx, hl, hn, he⟩ := DataW.trod_array Tryd.underlying121 hd
  obtain ⟨xs', m', _, hx', hl', hn', he'⟩ := DataW.trod_array Tryd.underlying179 hd'
  match xs, hn with
  | [x0, x1], _ =>
  match xs', hn' with
  | [y0, y1, y2], _ =>
  simp only [Rows.laid_alum_pointer_pointers, Rows.laid_alum_pointer_headers, Prod.mk.injEq, DataW.agg.injEq, List.map_cons, List.map_nil, List.cons.injEq, and_true] at hx hx'
  obtain ⟨⟨a0, a1⟩, _⟩ := hx
  obtain ⟨⟨b0, b1, b2⟩, _⟩ := hx'
  have k0 := cell_of_elem (i := 0) (pair_cells (he 0 (by decide)) a0.symm)
  have k1 := cell_of_elem (i := 1) (pair_cells (he 1 (by decide)) a1.symm)
  have l0 := cell_of_elem (i := 0) (pair_cells (he' 0 (by decide)) b0.symm)
  have l1 := cell_of_elem (i := 1) (pair_cells (he' 1 (by decide)) b1.symm)
  have l2 := cell_of_elem (i := 2) (pair_cells (he' 2 (by decide)) b2.symm)
  have v : ∀ i, W.cell? ⟨0, i, none⟩ = cs[i]? := fun i => World.var?_cell gPtr hvar i
  have v' : ∀ i, W.cell? ⟨2, i, none⟩ = cs'[i]? := fun i => World.var?_cell gHdr hvar' i
  simp only [Array.getElem?_toList] at k0 k1 l0 l1 l2
  have s1 := World.block_lt_of_cell? W _ ((v' 0).trans l0.1)
  exact ⟨(v 0).trans k0.1, (v 1).trans k0.2, (v 2).trans k1.1, (v 3).trans k1.2, (v' 0).trans l0.1, (v' 1).trans l0.2, (v' 2).trans l1.1, (v' 3).trans l1.2, (v' 4).trans l2.1, (v' 5).trans l2.2, s1⟩

set_option maxRecDepth 100000 in
theorem rd_of_trod {H : Type} {enc : TypeId × Value → H} {w : World} {base : Nat} {sp : Nat → Bool} {held : Bool} {fuel : Nat} {v : Value} {y : DataW H × List MemPlace} (h : DataW.trod enc Tryd.prog w base sp held fuel 22 [v] = some y) :
    ∃ bs : List Int, Rd w v bs ∧ (∀ x ∈ bs, (Lit.int .i64 x).wf = true) := by
  rcases open_ints Tryd.underlying22 Tryd.underlying3 cellsP3 h with ⟨h1, _⟩ | ⟨a, len, cap, zs, h1, _, hl, hm, hz, _, hc, hw⟩
  · cases h1
    exact ⟨[], Or.inl ⟨_, _, rfl, rfl⟩, by simp⟩
  · cases h1
    have hlen : len ≤ zs.length := by rw [hz]; split <;> omega
    by_cases h0 : len = 0
    · subst h0
      exact ⟨[], Or.inl ⟨_, _, rfl, rfl⟩, by simp⟩
    · obtain ⟨b, off, rfl, hc'⟩ := ints_at hc (by omega)
      have hb : b < w.heap.size := World.block_lt_of_cell? w _ (hc' 0 (by omega))
      refine ⟨zs.take len, Or.inr ⟨b, off, cap, by rw [List.length_take, Nat.min_eq_left hlen], by rw [List.length_take]; omega, by rw [List.length_take]; omega, hm, hb, fun j hj => ?_⟩, fun x hx => hw x (List.mem_of_mem_take hx)⟩
      rw [List.length_take] at hj
      rw [hc' j (by omega)]
      unfold nthI
      rw [List.getD_eq_getElem?_getD, List.getD_eq_getElem?_getD, List.getElem?_take_of_lt (by omega)]
set_option maxRecDepth 100000 in
/-- A cell that came in. -/
theorem cell_of_trod {H : Type} {enc : TypeId × Value → H} {w : World} {base : Nat} {sp : Nat → Bool} {held : Bool} {r : Reach} {b0 : Nat} {v : Value} {d : DataW H} {p : List MemPlace}
    (hv : Value.okWide Tryd.prog w r b0 24 v) (h : DataW.Trod enc Tryd.prog w base sp held 24 v d p) : ∃ (c : Cl) (u : Value), v = clV c u ∧ Rd w u c.ws ∧ (Lit.int .i64 c.t).wf = true ∧ (Lit.int .i64 c.r).wf = true ∧ (Lit.int .i64 c.s).wf = true ∧ (Lit.int .i64 c.p).wf = true := by
  obtain ⟨cs, rfl, hsz⟩ := okWide_struct Tryd.underlying24 hv
  obtain ⟨l⟩ := cs
  match l, hsz.trans cellsP24 with
  | [c0, c1, c2, c3, c4, c5], _ =>
    obtain ⟨fuel, hf⟩ := h
    obtain ⟨xs, n, _, hx, _, hlen, hg⟩ := DataW.trod_struct Tryd.underlying24 hf
    match xs, hlen with
    | [y0, y1, y2, y3, y4, y5], _ =>
      obtain ⟨z0, e0, _, w0⟩ := DataW.trod_int Tryd.underlying3 (by simpa using hg 0 _ rfl)
      have s0 : c0 = .int .i64 z0 := by simpa [Value.cells, cellsP3] using e0
      obtain ⟨z1, e1, _, w1⟩ := DataW.trod_int Tryd.underlying3 (by simpa using hg 1 _ rfl)
      have s1 : c1 = .int .i64 z1 := by simpa [Value.cells, cellsP3] using e1
      obtain ⟨z2, e2, _, w2⟩ := DataW.trod_int Tryd.underlying3 (by simpa using hg 2 _ rfl)
      have s2 : c2 = .int .i64 z2 := by simpa [Value.cells, cellsP3] using e2
      obtain ⟨z3, e3, _⟩ := DataW.trod_bool Tryd.underlying4 (by simpa using hg 3 _ rfl)
      have s3 : c3 = .bool z3 := by simpa [Value.cells, cellsP3, cellsP4] using e3
      obtain ⟨z4, e4, _, w4⟩ := DataW.trod_int Tryd.underlying3 (by simpa using hg 4 _ rfl)
      have s4 : c4 = .int .i64 z4 := by simpa [Value.cells, cellsP3, cellsP4] using e4
      obtain ⟨ws, hr, _⟩ := rd_of_trod (w := w) (v := c5) (by simpa [Value.cells, cellsP3, cellsP4, cellsP22] using hg 5 _ rfl)
      subst s0 s1 s2 s3 s4
      exact ⟨⟨z0, z1, z2, z3, z4, ws⟩, c5, rfl, hr, w0, w1, w2, w4⟩

/-- A world for the witness: the settled one, the tables holding what their initialisers lay. -/
def lay (cs : Array Value) : _root_.Go.Obj → _root_.Go.Obj
  | .cells _ t frozen => .cells cs t frozen
  | o => o
noncomputable def t32 : Array Value := #[.int .u8 0, .int .u8 1, .int .u8 28, .int .u8 2, .int .u8 29, .int .u8 14, .int .u8 24, .int .u8 3, .int .u8 30, .int .u8 22, .int .u8 20, .int .u8 15, .int .u8 25, .int .u8 17, .int .u8 4, .int .u8 8, .int .u8 31, .int .u8 27, .int .u8 13, .int .u8 23, .int .u8 21, .int .u8 19, .int .u8 16, .int .u8 7, .int .u8 26, .int .u8 12, .int .u8 18, .int .u8 6, .int .u8 11, .int .u8 5, .int .u8 10, .int .u8 9]
noncomputable def t64 : Array Value := #[.int .u8 0, .int .u8 1, .int .u8 56, .int .u8 2, .int .u8 57, .int .u8 49, .int .u8 28, .int .u8 3, .int .u8 61, .int .u8 58, .int .u8 42, .int .u8 50, .int .u8 38, .int .u8 29, .int .u8 17, .int .u8 4, .int .u8 62, .int .u8 47, .int .u8 59, .int .u8 36, .int .u8 45, .int .u8 43, .int .u8 51, .int .u8 22, .int .u8 53, .int .u8 39, .int .u8 33, .int .u8 30, .int .u8 24, .int .u8 18, .int .u8 12, .int .u8 5, .int .u8 63, .int .u8 55, .int .u8 48, .int .u8 27, .int .u8 60, .int .u8 41, .int .u8 37, .int .u8 16, .int .u8 46, .int .u8 35, .int .u8 44, .int .u8 21, .int .u8 52, .int .u8 32, .int .u8 23, .int .u8 11, .int .u8 54, .int .u8 26, .int .u8 40, .int .u8 15, .int .u8 34, .int .u8 20, .int .u8 31, .int .u8 10, .int .u8 25, .int .u8 14, .int .u8 19, .int .u8 9, .int .u8 13, .int .u8 8, .int .u8 7, .int .u8 6]
noncomputable def g32 : Nat := (Tryd.prog.globalNamed "math/bits.deBruijn32tab").getD 0
noncomputable def g64 : Nat := (Tryd.prog.globalNamed "math/bits.deBruijn64tab").getD 0
noncomputable def laidWorld (os : Os) : World :=
  { World.holding Tryd.prog os ⟨#[], #[], []⟩ with heap := Array.modify (Array.modify (Array.modify (Array.modify (World.holding Tryd.prog os ⟨#[], #[], []⟩).heap g32 (lay t32)) g64 (lay t64)) 0 (lay #[.int .i64 0, .int .i64 12, .int .i64 12, .int .i64 20])) 2 (lay #[.int .i64 0, .int .i64 4, .int .i64 4, .int .i64 3, .int .i64 7, .int .i64 20]) }

end Go.Proofs.YtcngblnkfiggjaaDoor.Rm
