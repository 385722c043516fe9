/-
  For every list of gaps, every list of marks and every bound: a chain of at most sixteen cells is grown, 'at' returns what a plain run over the list of the cells sees, 'all' returns the cells, the newest first: the given statement returns true, and the input reads as it did. Conditions: the given row's own alone (calm; the outside is told with its clocks let go; the four tables read as the program's text lays them, which the card ties).
-/
import Derived.Test.YtcngblnkfiggjaaDoorCard
import Derived.Test.YtcngblnkfiggjaaDoorChG4
import Derived.Clock
namespace Go.Proofs.YtcngblnkfiggjaaDoor.chainSeesSnapshots
open Go Go.ChangeShapes Go.WideShapes Go.ChangeAt Go.RowKit Go.Clock

theorem underlying40 : Tryd.prog.underlying 40 = some (.slice 4) := by kernel_rfl
/-- A slice of bools that came in. -/
theorem rdB_of_trod {H : Type} {enc : TypeId × Value → H} {w : World} {base : Nat} {sp : Nat → Bool} {held : Bool} {fuel : Nat} {v : Value} {y : DataW H × List MemPlace} (h : DataW.trod enc Tryd.prog w base sp held fuel 40 [v] = some y) :
    ∃ bs : List Bool, Rm.RdB w v bs := by
  rcases Deep.open_slice1 underlying40 Rm.cellsP4 h with ⟨h1, _⟩ | ⟨a, len, cap, m, n, V, D, Pl, h1, _, hl, hm, hmm, _, hc⟩
  · cases h1
    exact ⟨[], Or.inl ⟨_, _, rfl, rfl⟩⟩
  · cases h1
    by_cases h0 : len = 0
    · subst h0
      exact ⟨[], Or.inl ⟨_, _, rfl, rfl⟩⟩
    · have hlm : len ≤ m := by rw [hmm]; split <;> omega
      obtain ⟨q, hq⟩ := Deep.choose_lt (α := Bool) (n := len) (p := fun i q => w.cell? (a.add i) = some (.bool q)) (fun i hi => by
        obtain ⟨h2, h3⟩ := hc i (by omega)
        obtain ⟨q, hq, _⟩ := DataW.trod_bool Tryd.underlying4 h3
        exact ⟨q, by rw [h2]; simpa using hq⟩)
      obtain ⟨b, off, spot⟩ := a
      have hspot : spot = none := by simpa [Addr.add] using World.cell?_spot (hq 0 (by omega))
      subst hspot
      have hc' : ∀ j, j < len → w.cell? ⟨b, off + j, none⟩ = some (.bool (q j)) := fun j hj => by rw [← Go.WideShapes.add_plain]; exact hq j hj
      have hb : b < w.heap.size := World.block_lt_of_cell? w _ (hc' 0 (by omega))
      refine ⟨(List.range len).map q, Or.inr ⟨b, off, cap, by simp, by simp; omega, by simpa using hl, hm, hb, fun j hj => ?_⟩⟩
      have hj' : j < len := by simpa using hj
      rw [hc' j hj', List.getD_eq_getElem?_getD, List.getElem?_map, List.getElem?_range hj']
      rfl

set_option maxRecDepth 100000 in
theorem contract (H : Type) (enc : TypeId × Value → H) (W : World) (base : Nat) (args : Array Value) (ds gs : List (DataW H)) (before : List MemPlace)
    (hval : ∀ (j : Nat) t v, Tryd.f5.params[j]? = some t → args[j]? = some v → Value.okWide Tryd.prog W .any base t v)
    (hW : DataW.Whole enc Tryd.prog Tryd.f5.params.toList Rows.chainSeesSnapshotsSpec.vars false W args.toList ds gs before) (hL : laidMetH Tryd.prog Rows.chainSeesSnapshotsRow.laid W) :
    Calls Tryd.prog 5 args W fun e W' => ∃ v, e = .returned v ∧ Rows.chainSeesSnapshotsSpec.post enc Tryd.prog Tryd.f5 false true false false W args v { W' with os := W.os } ∧ Later W.os W'.os := by
  have hW' := hW
  obtain ⟨p, q, hA0, hV, rfl, hfz, hnd⟩ := hW
  have hA : DataW.TrodAll enc Tryd.prog W 0 (fun _ => true) true Tryd.f5.params.toList args.toList ds p := hA0
  rw [Tryd.params5] at hA hval
  obtain ⟨v0, vs0, d0, ds0, p0, q0, hargs, rfl, rfl, h0, r0⟩ := trodAll_cons hA
  obtain ⟨v1, vs1, d1, ds1, p1, q1, rfl, rfl, rfl, h1, r1⟩ := trodAll_cons r0
  obtain ⟨v2, vs2, d2, ds2, p2, q2, rfl, rfl, rfl, h2, r2⟩ := trodAll_cons r1
  obtain ⟨rfl, rfl, rfl⟩ := trodAll_nil r2
  obtain rfl : args = #[v0, v1, v2] := by cases args; simp_all
  obtain ⟨rfl, rfl⟩ := trodVars_none hV
  have k0 := h0
  have k1 := h1
  have k2 := h2
  have lt0 : ∀ x ∈ p0, x.block < W.heap.size := by obtain ⟨m, hm⟩ := k0; exact DataW.trod_lt m _ _ _ hm
  have lt1 : ∀ x ∈ p1, x.block < W.heap.size := by obtain ⟨m, hm⟩ := k1; exact DataW.trod_lt m _ _ _ hm
  have lt2 : ∀ x ∈ p2, x.block < W.heap.size := by obtain ⟨m, hm⟩ := k2; exact DataW.trod_lt m _ _ _ hm
  obtain ⟨a0, len0, cap0, hv0⟩ := okWide_slice Tryd.underlying22 (hval 0 22 v0 rfl rfl)
  obtain ⟨a1, len1, cap1, hv1⟩ := okWide_slice underlying40 (hval 1 40 v1 rfl rfl)
  obtain ⟨snap, hv2, hd2, hp2, _⟩ := open_int Tryd.underlying3 (hval 2 3 v2 rfl rfl) h2
  obtain ⟨gaps, hg⟩ : ∃ gaps, Rm.Rd W v0 gaps := by
    subst hv0
    obtain ⟨fuel, hf⟩ := h0
    obtain ⟨l, h1, _⟩ := Rm.rd_of_trod (by simpa [Value.cells] using hf)
    exact ⟨l, h1⟩
  obtain ⟨dead, hdd⟩ : ∃ dead, Rm.RdB W v1 dead := by
    subst hv1
    obtain ⟨fuel, hf⟩ := h1
    exact rdB_of_trod (by simpa [Value.cells] using hf)
  clear hA0
  subst hv2
  refine (Rm.sees_any W (Rm.tabs_of hL) gaps dead v0 v1 snap hg hdd).mono fun e W' ⟨he, bel⟩ => ?_
  subst he
  have eos : ({ W' with os := W.os } : World) = W' := by rw [← bel.os]
  rw [eos]
  exact ⟨_, rfl, ⟨_, _, _, [], _, [], hW', trodAll_mk1 (shut_bool Tryd.underlying4 _), (trodAll_cons_mk (Below.trod Rm.laidOut (by kernel_rfl) (of_decide_eq_true (by kernel_rfl)) k0 bel lt0) (trodAll_cons_mk (Below.trod Rm.laidOut (by kernel_rfl) (of_decide_eq_true (by kernel_rfl)) k1 bel lt1) (trodAll_cons_mk (Below.trod Rm.laidOut (by kernel_rfl) (of_decide_eq_true (by kernel_rfl)) k2 bel lt2) trodAll_mk0))), rfl, bel.frame _, fun h => by cases h⟩, by rw [bel.os]; exact Later.refl _⟩

set_option maxRecDepth 100000 in
theorem laid_met (os : Os) : laidMet Tryd.prog Rows.chainSeesSnapshotsRow.laid ((Rm.laidWorld os).forCall (fun _ _ => 0) ⟨#[], #[.slice none 0 0, .slice none 0 0, .int .i64 0], []⟩).memory :=
  laidMet_of_run' 8 (by kernel_rfl) (by kernel_rfl)

set_option maxRecDepth 100000 in
theorem lifted (os : Os) (started : os.Started) (H : Type) (enc : TypeId × Value → H) (F : Stop.Interp) :
    ReturnsInHanded { calm := true } Tryd.checked os 5 .any (fun w args => (Rows.chainSeesSnapshotsSpec.pre enc Tryd.prog Tryd.f5 [] false w args ∧ laidMetH Tryd.prog Rows.chainSeesSnapshotsRow.laid w) ∧ sizedMet enc Tryd.prog Tryd.f5 (OpenSpec.ofChange Rows.chainSeesSnapshotsSpec) false w args)
      ((OpenSpec.ofChange Rows.chainSeesSnapshotsSpec).postWith enc Tryd.prog Tryd.f5 F (outsideKept [.timePasses]) false true false) := by
  refine returns_of_change (C := Tryd.checked) (X := fun w _ => laidMetH Tryd.prog Rows.chainSeesSnapshotsRow.laid w) (fun _ _ _ hh h => h.of_heap hh) Rm.own started (by kernel_rfl) Tryd.func5
    (witness_at (enc := enc) (C := Tryd.checked) (X := fun w _ => laidMetH Tryd.prog Rows.chainSeesSnapshotsRow.laid w) (Rm.laidWorld os) #[.slice none 0 0, .slice none 0 0, .int .i64 0] 8 rfl (World.shaped_of_B (by kernel_rfl) (by kernel_rfl)) (by kernel_rfl) (by kernel_rfl) (by kernel_rfl)
      (by rw [MakeChecks.laidMetH_plain _ _ _ (by kernel_rfl)]; exact laid_met os)) ?_
  intro W base args ds gs before hval hW _ _ hL _
  exact contract H enc W base args ds gs before hval hW hL

theorem said : Rows.ChainSeesSnapshotsSaid :=
  holds_of_wide_time 5 Tryd.f5 rfl rfl rfl rfl rfl rfl rfl ⟨rfl, rfl, rfl, rfl, rfl⟩ rfl rfl rfl rfl rfl (by kernel_rfl) Tryd.func5 (by kernel_rfl)
    (of_decide_eq_true (by kernel_rfl)) (by unfold Func.isWrapper; first | (rw [if_pos (by decide +kernel)]; kernel_rfl) | (rw [if_neg (by decide +kernel)]; exact ⟨rfl, rfl⟩))
    (fun os started H enc _ F => lifted os started H enc F)

theorem plain (f : FuncId) (fn : Func) (hf : Tryd.pinned.checked.prog.funcNamed "alum/alumlaw16.ChainSeesSnapshots" = some f) (hfn : Tryd.pinned.checked.prog.funcs[f]? = some fn) :
    false = Tryd.pinned.checked.prog.looks [] ∧ ∀ (j : Nat) t, fn.params[j]? = some t → Tryd.pinned.checked.prog.wantsStandIn t = false := by
  obtain rfl : f = 5 := Option.some.inj ((show Tryd.prog.funcNamed "alum/alumlaw16.ChainSeesSnapshots" = some 5 by kernel_rfl).symm.trans hf) |>.symm
  obtain rfl : fn = Tryd.f5 := (Option.some.inj (Tryd.func5.symm.trans hfn)).symm
  refine ⟨by kernel_rfl, fun j t ht => ?_⟩
  rw [Tryd.params5] at ht
  have hm : t = 22 ∨ t = 40 ∨ t = 3 := by simpa using Array.mem_of_getElem? ht
  rcases hm with rfl | rfl | rfl
  · exact (show Tryd.prog.wantsStandIn 22 = false by kernel_rfl)
  · exact (show Tryd.prog.wantsStandIn 40 = false by kernel_rfl)
  · exact (show Tryd.prog.wantsStandIn 3 = false by kernel_rfl)

/-- The card. -/
theorem card : Rows.ChainSeesSnapshotsCardSaid :=
  Claim7.holds_tied_plain_at .later [] _ _ _ _ said (fun _ h => by cases h) (by kernel_rfl) (fun _ h => by cases h) chainSeesSnapshots_row_tie rfl ⟨rfl, rfl⟩ (by kernel_rfl) rfl plain (by kernel_rfl)
end Go.Proofs.YtcngblnkfiggjaaDoor.chainSeesSnapshots

namespace Go.Proofs.YtcngblnkfiggjaaDoor
theorem chainSeesSnapshots_holds : Rows.ChainSeesSnapshotsCardSaid := chainSeesSnapshots.card
end Go.Proofs.YtcngblnkfiggjaaDoor
