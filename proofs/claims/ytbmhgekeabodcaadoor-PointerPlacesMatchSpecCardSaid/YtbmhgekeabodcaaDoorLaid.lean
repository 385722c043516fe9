/- What the two listed tables hold, as cells; a world for the witness. Shared by the pointer laws' cards. -/
import Derived.Test.YtbmhgekeabodcaaDoorCards
import Derived.Test.YtbmhgekeabodcaaDoorTie
import Derived.Test.YtbmhgekeabodcaaDoorWalkF
import Derived.WalkKit
import Derived.ProofKit
import Derived.OpenShut
import Derived.Deep.DeepHandedRow
import Derived.Lib.LaidTab
namespace Go.Proofs.YtbmhgekeabodcaaDoor.Ptr
open Go Go.ChangeShapes Go.WideShapes Go.ChangeAt Go.RowKit

theorem own : ownKnob Tryd.prog.godebug = none := by kernel_rfl
theorem gPtr : Tryd.prog.globalNamed "alum/pointer.pointers" = some 0 := by kernel_rfl
theorem gPtrType : (Tryd.prog.globals[0]?).map (·.type) = some 46 := by kernel_rfl
theorem gHdr : Tryd.prog.globalNamed "alum/pointer.headers" = some 1 := by kernel_rfl
theorem gHdrType : (Tryd.prog.globals[1]?).map (·.type) = some 48 := by kernel_rfl
theorem cells46 : Tryd.prog.cellsOf 46 = 4 := by kernel_rfl
theorem cells48 : Tryd.prog.cellsOf 48 = 6 := by kernel_rfl
theorem cells45 : Tryd.prog.cellsOf 45 = 2 := by kernel_rfl
theorem cells3 : Tryd.prog.cellsOf 3 = 1 := by kernel_rfl

theorem pair_cells {H : Type} {enc : TypeId × Value → H} {w : World} {base : Nat} {sp : Nat → Bool} {held : Bool} {fuel : Nat} {cs : List Value} {a b : Int} {x : DataW H × List MemPlace}
    (h : DataW.trod enc Tryd.prog w base sp held fuel 45 cs = some x) (hx : x.1 = .agg [.lit (.int .i64 a), .lit (.int .i64 b)]) : cs = [.int .i64 a, .int .i64 b] := by
  obtain ⟨y0, y1, n, rfl, hl, h0, h1⟩ := trod_struct2 Tryd.underlying45 h
  obtain ⟨z0, e0, r0, _⟩ := DataW.trod_int Tryd.underlying3 h0
  obtain ⟨z1, e1, r1, _⟩ := DataW.trod_int Tryd.underlying3 h1
  simp only [r0, r1, DataW.agg.injEq, List.cons.injEq, DataW.lit.injEq, Lit.int.injEq, true_and, and_true] at hx
  obtain ⟨rfl, rfl⟩ := hx
  rw [cells45] at hl
  match cs, hl with
  | [c0, c1], _ =>
    simp [cells3] at e0 e1
    rw [e0, e1]

theorem cell_of_elem {cs : List Value} {i : Nat} {a b : Value} (h : (cs.drop (i * 2)).take 2 = [a, b]) : cs[i * 2]? = some a ∧ cs[i * 2 + 1]? = some b := by
  have h0 := congrArg (·[0]?) h
  have h1 := congrArg (·[1]?) h
  simp [List.getElem?_take, List.getElem?_drop] at h0 h1
  exact ⟨h0, h1⟩

theorem tabs_of {W : World} (h : laidMet Tryd.prog [("alum/pointer.pointers", Rows.laid_alum_pointer_pointers), ("alum/pointer.headers", Rows.laid_alum_pointer_headers)] W) : Tabs W := by
  obtain ⟨ps, ⟨g, t, cs, fuel, p, q, hg, ht, hvar, hd, ⟨g', t', cs', fuel', p', q', hg', ht', hvar', hd', _, _⟩, _⟩, _⟩ := h
  obtain rfl := Option.some.inj (gPtr.symm.trans hg)
  obtain rfl := Option.some.inj (gPtrType.symm.trans ht)
  obtain rfl := Option.some.inj (gHdr.symm.trans hg')
  obtain rfl := Option.some.inj (gHdrType.symm.trans ht')
  obtain ⟨xs, m, _, hx, hl, hn, he⟩ := DataW.trod_array Tryd.underlying46 hd
  obtain ⟨xs', m', _, hx', hl', hn', he'⟩ := DataW.trod_array Tryd.underlying48 hd'
  match xs, hn with
  | [x0, x1], _ =>
  match xs', hn' with
  | [y0, y1, y2], _ =>
  simp only [Rows.laid_alum_pointer_pointers, Rows.laid_alum_pointer_headers, Prod.mk.injEq, DataW.agg.injEq, List.map_cons, List.map_nil, List.cons.injEq, and_true] at hx hx'
  obtain ⟨⟨a0, a1⟩, _⟩ := hx
  obtain ⟨⟨b0, b1, b2⟩, _⟩ := hx'
  have k0 := cell_of_elem (i := 0) (pair_cells (he 0 (by decide)) a0.symm)
  have k1 := cell_of_elem (i := 1) (pair_cells (he 1 (by decide)) a1.symm)
  have l0 := cell_of_elem (i := 0) (pair_cells (he' 0 (by decide)) b0.symm)
  have l1 := cell_of_elem (i := 1) (pair_cells (he' 1 (by decide)) b1.symm)
  have l2 := cell_of_elem (i := 2) (pair_cells (he' 2 (by decide)) b2.symm)
  have v : ∀ i, W.cell? ⟨0, i, none⟩ = cs[i]? := fun i => World.var?_cell gPtr hvar i
  have v' : ∀ i, W.cell? ⟨1, i, none⟩ = cs'[i]? := fun i => World.var?_cell gHdr hvar' i
  simp only [Array.getElem?_toList] at k0 k1 l0 l1 l2
  have s1 := World.block_lt_of_cell? W _ ((v' 0).trans l0.1)
  exact ⟨(v 0).trans k0.1, (v 1).trans k0.2, (v 2).trans k1.1, (v 3).trans k1.2, (v' 0).trans l0.1, (v' 1).trans l0.2, (v' 2).trans l1.1, (v' 3).trans l1.2, (v' 4).trans l2.1, (v' 5).trans l2.2, s1⟩

/-- A world for the witness: the settled one, the tables holding what their initialisers lay. -/
def lay (cs : Array Value) : Obj → Obj
  | .cells _ t frozen => .cells cs t frozen
  | o => o
noncomputable def laidWorld (os : Os) : World :=
  { World.holding Tryd.prog os ⟨#[], #[], []⟩ with heap := Array.modify (Array.modify (World.holding Tryd.prog os ⟨#[], #[], []⟩).heap 0 (lay #[.int .i64 0, .int .i64 12, .int .i64 12, .int .i64 20])) 1 (lay #[.int .i64 0, .int .i64 4, .int .i64 4, .int .i64 3, .int .i64 7, .int .i64 20]) }
end Go.Proofs.YtbmhgekeabodcaaDoor.Ptr
