/- The pointer law PointerPlacesMatchSpec, for every layout and all integers: the call returns true and each argument reads as it did; the tables of package pointer are as the program's text lays them (the tied card). -/
import Derived.Test.YtbmhgekeabodcaaDoorLaid
import Derived.Test.YtbmhgekeabodcaaDoorWalkK
import Derived.Lib.SmallJoins
namespace Go.Proofs.YtbmhgekeabodcaaDoor.pointerPlacesMatchSpec
open Go Go.Joins Go.Deep Go.ChangeShapes Go.WideShapes Go.ChangeAt Go.RowKit Go.Proofs.YtbmhgekeabodcaaDoor.Ptr

theorem cells35 : Tryd.prog.cellsOf 35 = 8 := by kernel_rfl

/-- A layout by value: eight ints. -/
theorem open_lay {H : Type} {enc : TypeId × Value → H} {w : World} {base : Nat} {sp : Nat → Bool} {held : Bool} {r : Reach} {b0 : Nat} {v : Value} {d : DataW H} {p : List MemPlace}
    (hv : Value.okWide Tryd.prog w r b0 35 v) (h : DataW.Trod enc Tryd.prog w base sp held 35 v d p) :
    ∃ l0 l1 l2 l3 l4 l5 l6 l7 : Int, v = .agg #[.int .i64 l0, .int .i64 l1, .int .i64 l2, .int .i64 l3, .int .i64 l4, .int .i64 l5, .int .i64 l6, .int .i64 l7] ∧ d = .agg [.lit (.int .i64 l0), .lit (.int .i64 l1), .lit (.int .i64 l2), .lit (.int .i64 l3), .lit (.int .i64 l4), .lit (.int .i64 l5), .lit (.int .i64 l6), .lit (.int .i64 l7)] ∧ p = [] ∧ (Lit.int .i64 l0).wf = true ∧ (Lit.int .i64 l1).wf = true ∧ (Lit.int .i64 l2).wf = true ∧ (Lit.int .i64 l3).wf = true ∧ (Lit.int .i64 l4).wf = true ∧ (Lit.int .i64 l5).wf = true ∧ (Lit.int .i64 l6).wf = true ∧ (Lit.int .i64 l7).wf = true := by
  obtain ⟨cs, rfl, hsz⟩ := okWide_struct Tryd.underlying35 hv
  obtain ⟨l⟩ := cs
  match l, hsz.trans cells35 with
  | [c0, c1, c2, c3, c4, c5, c6, c7], _ =>
    obtain ⟨fuel, hf⟩ := h
    obtain ⟨xs, n, _, hx, _, hlen, hg⟩ := DataW.trod_struct Tryd.underlying35 hf
    match xs, hlen with
    | [y0, y1, y2, y3, y4, y5, y6, y7], _ =>
      have g0 := hg 0 _ rfl
      obtain ⟨z0, e0, r0, w0⟩ := DataW.trod_int Tryd.underlying3 (by simpa using g0)
      have s0 : c0 = .int .i64 z0 := by simpa [Value.cells, cells3] using e0
      have g1 := hg 1 _ rfl
      obtain ⟨z1, e1, r1, w1⟩ := DataW.trod_int Tryd.underlying3 (by simpa using g1)
      have s1 : c1 = .int .i64 z1 := by simpa [Value.cells, cells3] using e1
      have g2 := hg 2 _ rfl
      obtain ⟨z2, e2, r2, w2⟩ := DataW.trod_int Tryd.underlying3 (by simpa using g2)
      have s2 : c2 = .int .i64 z2 := by simpa [Value.cells, cells3] using e2
      have g3 := hg 3 _ rfl
      obtain ⟨z3, e3, r3, w3⟩ := DataW.trod_int Tryd.underlying3 (by simpa using g3)
      have s3 : c3 = .int .i64 z3 := by simpa [Value.cells, cells3] using e3
      have g4 := hg 4 _ rfl
      obtain ⟨z4, e4, r4, w4⟩ := DataW.trod_int Tryd.underlying3 (by simpa using g4)
      have s4 : c4 = .int .i64 z4 := by simpa [Value.cells, cells3] using e4
      have g5 := hg 5 _ rfl
      obtain ⟨z5, e5, r5, w5⟩ := DataW.trod_int Tryd.underlying3 (by simpa using g5)
      have s5 : c5 = .int .i64 z5 := by simpa [Value.cells, cells3] using e5
      have g6 := hg 6 _ rfl
      obtain ⟨z6, e6, r6, w6⟩ := DataW.trod_int Tryd.underlying3 (by simpa using g6)
      have s6 : c6 = .int .i64 z6 := by simpa [Value.cells, cells3] using e6
      have g7 := hg 7 _ rfl
      obtain ⟨z7, e7, r7, w7⟩ := DataW.trod_int Tryd.underlying3 (by simpa using g7)
      have s7 : c7 = .int .i64 z7 := by simpa [Value.cells, cells3] using e7
      subst s0 s1 s2 s3 s4 s5 s6 s7
      subst r0 r1 r2 r3 r4 r5 r6 r7
      exact ⟨z0, z1, z2, z3, z4, z5, z6, z7, rfl, congrArg Prod.fst hx, congrArg Prod.snd hx, w0, w1, w2, w3, w4, w5, w6, w7⟩

theorem shut_lay {H : Type} {enc : TypeId × Value → H} {w : World} {base : Nat} {sp : Nat → Bool} {held : Bool} {l0 l1 l2 l3 l4 l5 l6 l7 : Int} (w0 : (Lit.int .i64 l0).wf = true) (w1 : (Lit.int .i64 l1).wf = true) (w2 : (Lit.int .i64 l2).wf = true) (w3 : (Lit.int .i64 l3).wf = true) (w4 : (Lit.int .i64 l4).wf = true) (w5 : (Lit.int .i64 l5).wf = true) (w6 : (Lit.int .i64 l6).wf = true) (w7 : (Lit.int .i64 l7).wf = true) :
    DataW.Trod enc Tryd.prog w base sp held 35 (.agg #[.int .i64 l0, .int .i64 l1, .int .i64 l2, .int .i64 l3, .int .i64 l4, .int .i64 l5, .int .i64 l6, .int .i64 l7]) (.agg [.lit (.int .i64 l0), .lit (.int .i64 l1), .lit (.int .i64 l2), .lit (.int .i64 l3), .lit (.int .i64 l4), .lit (.int .i64 l5), .lit (.int .i64 l6), .lit (.int .i64 l7)]) [] :=
  ⟨2, by simp [DataW.trod, Tryd.underlying35, Tryd.underlying3, cells35, cells3, Value.cells, w0, w1, w2, w3, w4, w5, w6, w7]⟩

theorem contract (H : Type) (enc : TypeId × Value → H) (W : World) (base : Nat) (args : Array Value) (ds gs : List (DataW H)) (before : List MemPlace)
    (hval : ∀ (j : Nat) t v, Tryd.f8.params[j]? = some t → args[j]? = some v → Value.okWide Tryd.prog W .any base t v)
    (hW : DataW.Whole enc Tryd.prog Tryd.f8.params.toList Rows.pointerPlacesMatchSpecSpec.vars false W args.toList ds gs before) (hL : laidMetH Tryd.prog Rows.pointerPlacesMatchSpecRow.laid W) :
    Calls Tryd.prog 8 args W fun e W' => ∃ v, e = .returned v ∧ Rows.pointerPlacesMatchSpecSpec.post enc Tryd.prog Tryd.f8 false true false false W args v W' := by
  have hW' := hW
  obtain ⟨p, q, hA0, hV, rfl, hfz, hnd⟩ := hW
  have hA : DataW.TrodAll enc Tryd.prog W 0 (fun _ => true) true Tryd.f8.params.toList args.toList ds p := hA0
  rw [Tryd.params8] at hA hval
  obtain ⟨v0, vs0, d0, ds0, p0, q0, hargs, rfl, rfl, h0, r0⟩ := trodAll_cons hA
  obtain ⟨v1, vs1, d1, ds1, p1, q1, rfl, rfl, rfl, h1, r1⟩ := trodAll_cons r0
  obtain ⟨v2, vs2, d2, ds2, p2, q2, rfl, rfl, rfl, h2, r2⟩ := trodAll_cons r1
  obtain ⟨v3, vs3, d3, ds3, p3, q3, rfl, rfl, rfl, h3, r3⟩ := trodAll_cons r2
  obtain ⟨rfl, rfl, rfl⟩ := trodAll_nil r3
  obtain rfl : args = #[v0, v1, v2, v3] := by cases args; simp_all
  obtain ⟨rfl, rfl⟩ := trodVars_none hV
  obtain ⟨l0, l1, l2, l3, l4, l5, l6, l7, rfl, rfl, rfl, u0, u1, u2, u3, u4, u5, u6, u7⟩ := open_lay (hval 0 35 v0 rfl rfl) h0
  obtain ⟨a1, rfl, rfl, rfl, w1⟩ := open_int Tryd.underlying3 (hval 1 3 v1 rfl rfl) h1
  obtain ⟨a2, rfl, rfl, rfl, w2⟩ := open_int Tryd.underlying3 (hval 2 3 v2 rfl rfl) h2
  obtain ⟨a3, rfl, rfl, rfl, w3⟩ := open_int Tryd.underlying3 (hval 3 3 v3 rfl rfl) h3
  clear hA0
  simp only [List.append_nil] at hW'
  refine (law_places l0 l1 l2 l3 l4 l5 l6 l7 a1 a2 a3 W (tabs_of hL) (bounds_i64 w1).1 (bounds_i64 w1).2).mono fun e W' ⟨he, hg⟩ => ?_
  subst he
  exact ⟨_, rfl, _, _, _, [], [], [], hW', trodAll_cons_mk (shut_bool Tryd.underlying4 _) trodAll_mk0, (trodAll_cons_mk (shut_lay u0 u1 u2 u3 u4 u5 u6 u7) (trodAll_cons_mk (shut_int Tryd.underlying3 w1) (trodAll_cons_mk (shut_int Tryd.underlying3 w2) (trodAll_cons_mk (shut_int Tryd.underlying3 w3) trodAll_mk0)))), rfl, hg.frame _, fun h => by cases h⟩

theorem laid_met (os : Os) : laidMet Tryd.prog Rows.pointerPlacesMatchSpecRow.laid ((laidWorld os).forCall (fun _ _ => 0) ⟨#[], #[.agg #[.int .i64 0, .int .i64 0, .int .i64 0, .int .i64 0, .int .i64 0, .int .i64 0, .int .i64 0, .int .i64 0], .int .i64 0, .int .i64 0, .int .i64 0], []⟩).memory :=
  laidMet_of_run' 8 (by kernel_rfl) (by kernel_rfl)
theorem reads (os : Os) {H : Type} (enc : TypeId × Value → H) : ∃ places, DataW.whole enc Tryd.prog ((laidWorld os).forCall (fun _ _ => 0) ⟨#[], #[.agg #[.int .i64 0, .int .i64 0, .int .i64 0, .int .i64 0, .int .i64 0, .int .i64 0, .int .i64 0, .int .i64 0], .int .i64 0, .int .i64 0, .int .i64 0], []⟩).memory Tryd.f8.params.toList Rows.pointerPlacesMatchSpecSpec.vars false #[Value.agg #[.int .i64 0, .int .i64 0, .int .i64 0, .int .i64 0, .int .i64 0, .int .i64 0, .int .i64 0, .int .i64 0], Value.int .i64 0, Value.int .i64 0, Value.int .i64 0].toList 8 = some ([.agg [.lit (.int .i64 0), .lit (.int .i64 0), .lit (.int .i64 0), .lit (.int .i64 0), .lit (.int .i64 0), .lit (.int .i64 0), .lit (.int .i64 0), .lit (.int .i64 0)], .lit (.int .i64 0), .lit (.int .i64 0), .lit (.int .i64 0)], [], places) :=
  ⟨[], by kernel_rfl⟩

set_option maxRecDepth 100000 in
theorem lifted (os : Os) (started : os.Started) (H : Type) (enc : TypeId × Value → H) (F : Stop.Interp) :
    ReturnsInHanded {} Tryd.checked os 8 .any ((OpenSpec.ofChange Rows.pointerPlacesMatchSpecSpec).preRow enc Tryd.prog Tryd.f8 Rows.pointerPlacesMatchSpecRow.domain false Rows.pointerPlacesMatchSpecRow.laid) (((OpenSpec.ofChange Rows.pointerPlacesMatchSpecSpec).at F).post enc Tryd.prog Tryd.f8 false true false false) := by
  obtain ⟨places, hx⟩ := reads os enc
  refine returnsInHanded_of_row (C := Tryd.checked) (s := OpenSpec.ofChange Rows.pointerPlacesMatchSpecSpec) own started (by kernel_rfl) Tryd.func8
    (witness_row_at (enc := enc) (C := Tryd.checked) false (laidWorld os) #[.agg #[.int .i64 0, .int .i64 0, .int .i64 0, .int .i64 0, .int .i64 0, .int .i64 0, .int .i64 0, .int .i64 0], .int .i64 0, .int .i64 0, .int .i64 0] rfl (by kernel_rfl) (by kernel_rfl) (by kernel_rfl)
      (OpenSpec.preRow_of_cond 8 hx (by kernel_rfl) (fun k hk => by cases hk) (by kernel_rfl) (laid_met os))) ?_
  intro W base args ds gs before hval hW _ _ _ hL _ _
  exact contract H enc W base args ds gs before hval hW hL

theorem said : Rows.PointerPlacesMatchSpecSaid :=
  OpenClaim.holds_of_cond 8 Tryd.f8 rfl rfl rfl rfl rfl rfl rfl ⟨rfl, rfl, rfl, rfl, rfl⟩ rfl rfl rfl rfl rfl (by kernel_rfl) Tryd.func8 (by kernel_rfl)
    (of_decide_eq_true (by kernel_rfl)) (by unfold Func.isWrapper; first | (rw [if_pos (by decide +kernel)]; kernel_rfl) | (rw [if_neg (by decide +kernel)]; exact ⟨rfl, rfl⟩))
    (fun os started H enc _ F => by rw [OpenClaim.pre_eq_preRow]; exact lifted os started H enc F)

theorem plain (f : FuncId) (fn : Func) (hf : Tryd.pinned.checked.prog.funcNamed "alum/alumlaw07.PointerPlacesMatchSpec" = some f) (hfn : Tryd.pinned.checked.prog.funcs[f]? = some fn) :
    false = Tryd.pinned.checked.prog.looks [] ∧ ∀ (j : Nat) t, fn.params[j]? = some t → Tryd.pinned.checked.prog.wantsStandIn t = false := by
  obtain rfl : f = 8 := Option.some.inj ((show Tryd.prog.funcNamed "alum/alumlaw07.PointerPlacesMatchSpec" = some 8 by kernel_rfl).symm.trans hf) |>.symm
  obtain rfl : fn = Tryd.f8 := (Option.some.inj (Tryd.func8.symm.trans hfn)).symm
  refine ⟨by kernel_rfl, fun j t ht => ?_⟩
  rw [Tryd.params8] at ht
  have hm : t = 35 ∨ t = 3 := by simpa using Array.mem_of_getElem? ht
  rcases hm with rfl | rfl
  · exact (show Tryd.prog.wantsStandIn 35 = false by kernel_rfl)
  · exact (show Tryd.prog.wantsStandIn 3 = false by kernel_rfl)

/-- The card. -/
theorem card : Rows.PointerPlacesMatchSpecCardSaid :=
  Claim7.holds_tied_plain_at .later [] _ _ _ _ said (fun _ h => by cases h) (by kernel_rfl) (fun _ h => by cases h) pointerPlacesMatchSpec_row_tie rfl ⟨rfl, rfl⟩ (by kernel_rfl) rfl plain (by kernel_rfl)
end Go.Proofs.YtbmhgekeabodcaaDoor.pointerPlacesMatchSpec

namespace Go.Proofs.YtbmhgekeabodcaaDoor
theorem pointerPlacesMatchSpec_holds : Rows.PointerPlacesMatchSpecCardSaid := pointerPlacesMatchSpec.card
end Go.Proofs.YtbmhgekeabodcaaDoor
