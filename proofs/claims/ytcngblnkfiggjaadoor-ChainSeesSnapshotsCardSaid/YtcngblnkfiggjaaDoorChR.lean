/- Contract of At of package chain, over a chain that is read. -/
import Derived.Test.YtcngblnkfiggjaaDoorChR0
import Derived.WalkMore
namespace Go.Proofs.YtcngblnkfiggjaaDoor.Rm
open Go Go.RowKit Go.Maps Go.Shelf
attribute [local go_sem] Oper.semAt_some

theorem seen_none {its : List It} {snap : Int} {xs : List Stp} (h : ∀ x ∈ xs, snap < x.cl.s) (hm : xs.map keyS = its.map keyI) : seenK its snap = (0, Cl.zero) := by
  have hf : (its.map keyI).find? (fun x => decide (x.2.s ≤ snap)) = none := by
    rw [← hm, List.find?_eq_none]
    intro y hy
    obtain ⟨x, hx, rfl⟩ := List.mem_map.1 hy
    have := h x hx
    rw [decide_eq_true_eq]
    show ¬ x.cl.s ≤ snap
    omega
  unfold seenK
  rw [hf]
theorem seen_some {its : List It} {snap : Int} {ini : List Stp} {x : Stp} (h : ∀ y ∈ ini, snap < y.cl.s) (hx : x.cl.s ≤ snap) (hm : (ini ++ [x]).map keyS = (its.map keyI).take (ini ++ [x]).length) : seenK its snap = (x.p, x.cl) := by
  have hf : (its.map keyI).find? (fun y => decide (y.2.s ≤ snap)) = some (keyS x) := by
    rw [← List.take_append_drop (ini ++ [x]).length (its.map keyI), ← hm, List.map_append, List.append_assoc, List.find?_append, List.find?_append]
    have h0 : (ini.map keyS).find? (fun y => decide (y.2.s ≤ snap)) = none := by
      rw [List.find?_eq_none]
      intro y hy
      obtain ⟨z, hz, rfl⟩ := List.mem_map.1 hy
      have := h z hz
      rw [decide_eq_true_eq]
      show ¬ z.cl.s ≤ snap
      omega
    rw [h0]
    simp [keyS, hx]
  unfold seenK
  rw [hf]
  rfl
/-- Between two rounds of At. -/
def AtP (w : World) (snap : Int) (pre : List Stp) (W : World) : Prop := (∀ x ∈ pre, snap < x.cl.s) ∧ AtI w snap (box7 0 Cl.zero (.slice none 0 0)) W
/-- When At has found a step. -/
def AtX (w : World) (snap : Int) (cd : Code) (pre : List Stp) (W : World) : Prop := cd = .exit 0 ∧ ∃ ini x, pre = ini ++ [x] ∧ (∀ y ∈ ini, snap < y.cl.s) ∧ x.cl.s ≤ snap ∧ AtI w snap (box7 x.p x.cl x.v) W ∧ OwnZ W (w.heap.size + 9) x.v x.cl.ws

set_option maxRecDepth 100000 in
set_option maxHeartbeats 1500000 in
theorem at_any (w : World) (Bv Bm n : Nat) (M : Int → Int) (F : Nat → Prop) (c : Nat) (h : CV w Bv Bm n M F c) (hc : c < 100000) (T : Tabs w) (its : List It) (p0 : Int) (hch : Chn M n p0 its) (hlen : its.length ≤ 1000) (snap : Int) :
    Calls Tryd.prog 18 #[.pointer (some ⟨Bv, 0, none⟩), .int .i64 p0, .int .i64 snap] w fun e w' => (∃ v, e = .returned (.tuple #[clV (seenK its snap).2 v, .int .i64 (seenK its snap).1, .int .i64 0]) ∧ Rd w' v (seenK its snap).2.ws) ∧ Below w.heap.size w w' := by
  refine (callsIn_wide (n := 4)).1 ?_
  have HCV := Lib.hid h
  have HT := Lib.hid T
  have HCH := Lib.hid hch
  clear h T hch
  refine callsIn_of_wp_marks Tryd.func18 rfl trivial ?_ rfl
  simp only [Tryd.ntmps18, List.size_toArray, List.length_cons, List.length_nil, Nat.reduceAdd, Nat.reduceSub, Array.replicate_succ, Array.replicate_zero, List.push_toArray, List.append_toArray, List.nil_append, List.cons_append]
  gi_wp2
  refine wpIn_wide.2 ?_
  go_step3
  go_wp2
  go_step3
  go_wp2_with fail
  refine (callsIn_wide.1 (walk_any 0 _ _ _)).mono ?_
  rintro e w' ⟨rfl, rfl⟩
  go_wp2
  simp only [Nat.add_assoc, Nat.reduceAdd]
  have hsz : (((((((w.alloc (.cells #[.int .i64 snap] 3)).alloc zero6).alloc (.cells #[.int .i64 0] 3)).alloc (.cells #[.int .i64 0] 27)).alloc (box7 0 Cl.zero (.slice none 0 0))).alloc (.cells #[.pointer (some ⟨Bv, 0, none⟩)] 41)).alloc (.cells #[.int .i64 p0] 3)).heap.size = w.heap.size + 7 := by simp
  have hI0 : ∀ W, Below (w.heap.size + 7) (((((((w.alloc (.cells #[.int .i64 snap] 3)).alloc zero6).alloc (.cells #[.int .i64 0] 3)).alloc (.cells #[.int .i64 0] 27)).alloc (box7 0 Cl.zero (.slice none 0 0))).alloc (.cells #[.pointer (some ⟨Bv, 0, none⟩)] 41)).alloc (.cells #[.int .i64 p0] 3)) W → w.heap.size + 9 ≤ W.heap.size →
      AtI w snap (box7 0 Cl.zero (.slice none 0 0)) W ∧ Boxed W (w.heap.size + 6) 3 (.int .i64 p0) ∧ Boxed W (w.heap.size + 5) 41 (.pointer (some ⟨Bv, 0, none⟩)) := fun W hW hs => by
    refine ⟨⟨(hW.block _ (by omega)).trans (at_old (at_old (at_old (at_old (at_old (at_old (heap_alloc_new _ _))))))), (hW.block _ (by omega)).trans (at_old (at_old (at_old (at_old (at_old (new_at (by simp))))))), (hW.block _ (by omega)).trans (at_old (at_old (at_old (at_old (new_at (by simp)))))), (hW.block _ (by omega)).trans (at_old (at_old (at_old (new_at (by simp))))), (hW.block _ (by omega)).trans (at_old (at_old (new_at (by simp)))), ?_, hs⟩, (hW.block _ (by omega)).trans (new_at (by simp)), (hW.block _ (by omega)).trans (at_old (new_at (by simp)))⟩
    exact (((((((((Below.refl _ w).alloc (Nat.le_refl _) _).alloc (by simp) _).alloc (by simp; omega) _).alloc (by simp; omega) _).alloc (by simp; omega) _).alloc (by simp; omega) _).alloc (by simp; omega) _)).trans (hW.mono (by omega))
  have hB7 : Below w.heap.size w (((((((w.alloc (.cells #[.int .i64 snap] 3)).alloc zero6).alloc (.cells #[.int .i64 0] 3)).alloc (.cells #[.int .i64 0] 27)).alloc (box7 0 Cl.zero (.slice none 0 0))).alloc (.cells #[.pointer (some ⟨Bv, 0, none⟩)] 41)).alloc (.cells #[.int .i64 p0] 3)) :=
    ((((((((Below.refl _ w).alloc (Nat.le_refl _) _).alloc (by simp) _).alloc (by simp; omega) _).alloc (by simp; omega) _).alloc (by simp; omega) _).alloc (by simp; omega) _).alloc (by simp; omega) _)
  obtain ⟨W0, hW0⟩ : ∃ W0, (((((((w.alloc (.cells #[.int .i64 snap] 3)).alloc zero6).alloc (.cells #[.int .i64 0] 3)).alloc (.cells #[.int .i64 0] 27)).alloc (box7 0 Cl.zero (.slice none 0 0))).alloc (.cells #[.pointer (some ⟨Bv, 0, none⟩)] 41)).alloc (.cells #[.int .i64 p0] 3)) = W0 := ⟨_, rfl⟩
  rw [hW0] at hsz hI0 hB7
  unfold box7 Cl.zero at hW0
  rw [hW0]
  clear hW0
  have HI0 := Lib.hid hI0
  refine (wpIn_wide (n := 4)).1 (range_c (by omega) (gf := 77) (lb := #[.pointer (some ⟨w.heap.size + 6, 0, none⟩), .pointer (some ⟨w.heap.size + 5, 0, none⟩)]) rfl (enters_of Tryd.func77 (by kernel_rfl) rfl) (encs := encS) (fun _ => rfl)
    (StepW (w.heap.size + 6) (w.heap.size + 9)) (GW its (w.heap.size + 9)) (KpW w.heap.size (w.heap.size + 6) (w.heap.size + 5) (w.heap.size + 9)) (fun xs => xs.map keyS = its.map keyI) (fun pre => pre.map keyS = (its.map keyI).take pre.length) its.length
    (fun W1 hb1 hs1 => ?seq)
    (AtP w snap) (AtX w snap)
    ?stp (fun pre A B h hs => ⟨h.1, h.2.step hs⟩) ?pl ?pxl ?start ?round ?done ?stop)
  case seq =>
    have hW9 : W1.heap.size = w.heap.size + 9 := by omega
    obtain ⟨k1, k2, k3⟩ := HI0.out W1 (by rw [← hsz]; exact hb1) (by omega)
    have := walk1_c (4 - 1) (by omega) w W1 Bv Bm n M F c HCV.out hc HT.out its p0 HCH.out hlen (w.heap.size + 6) (w.heap.size + 5) k2 k3 (by omega) (by omega) (by omega) k1.below
    rw [hW9] at this
    exact this
  case stp =>
    intro A B k o hs hk ho
    rw [hs.block k (Array.getElem?_eq_some_iff.1 ho).1 (by unfold ownW; omega)]; exact ho
  case pl =>
    intro pre A r r' h hl
    rw [show W0.heap.size + 1 = w.heap.size + 8 by omega]
    exact ⟨h.1, h.2.put _⟩
  case pxl =>
    rintro cd pre A r r' ⟨e0, ini, x, e1, e2, e3, e4, e5⟩ hl
    rw [show W0.heap.size + 1 = w.heap.size + 8 by omega] at hl ⊢
    exact ⟨e0, ini, x, e1, e2, e3, e4.put _, row_carry e5 (fun k hk => World.putObj_heap_other (by have := (OwnZ.lt e5 hk).1; omega))⟩
  case start =>
    intro r
    refine ⟨(fun x hx => (by cases hx)), (HI0.out _ ?_ (by simp; omega)).1⟩
    rw [← hsz]
    exact ((Below.refl _ W0).alloc (Nat.le_refl _) _).alloc (by simp) _
  case round =>
    intro pre x A0 A r hI hst hG hlt hkA hlA
    have hIA := hI.2.step hst
    obtain ⟨xp, xcl, xv⟩ := x
    obtain ⟨au, cu, hxv⟩ := owns_shape hG.2
    dsimp only at hxv
    subst hxv
    rw [hsz] at hkA hlA
    have HIA := Lib.hid hIA
    have HG := Lib.hid hG
    have HNO := Lib.hid hI.1
    have HS0 := Lib.hid hI.2.size
    have HST := Lib.hid hst
    clear hIA hG hI hst
    simp only [encS]
    gi_wp2
    simp only [hsz, Nat.reduceSub]
    refine ⟨at_old hkA, at_old hlA, fun r' => ?_⟩
    have hsA := HIA.out.size
    have hlw : w.heap.size + 7 + 1 < (A.alloc (box7 xp xcl (.slice au xcl.ws.length cu))).heap.size := by simp; omega
    have hoth : ∀ k, k < A.heap.size → k ≠ w.heap.size + 8 → ((A.alloc (box7 xp xcl (.slice au xcl.ws.length cu))).putObj (w.heap.size + 7 + 1) (.loop r')).heap[k]? = A.heap[k]? := fun k hk hne =>
      (World.putObj_heap_other (by omega)).trans (Below.heap_alloc _ _ _ hk)
    have hbx : ((A.alloc (box7 xp xcl (.slice au xcl.ws.length cu))).putObj (w.heap.size + 7 + 1) (.loop r')).heap[A.heap.size]? = some (box7 xp xcl (.slice au xcl.ws.length cu)) := (World.putObj_heap_other (by omega)).trans (heap_alloc_new _ _)
    have hbl : ((A.alloc (box7 xp xcl (.slice au xcl.ws.length cu))).putObj (w.heap.size + 7 + 1) (.loop r')).heap[w.heap.size + 7 + 1]? = some (.loop r') := World.putObj_heap_same hlw
    have hbd := (hoth (w.heap.size + 7) (by omega) (by omega)).trans hkA
    have hIb : AtI w snap (box7 0 Cl.zero (.slice none 0 0)) ((A.alloc (box7 xp xcl (.slice au xcl.ws.length cu))).putObj (w.heap.size + 7 + 1) (.loop r')) := HIA.out.keep (fun k hk => hoth k (by omega) (by omega)) ⟨rfl, rfl, rfl⟩ (by rw [World.putObj_size]; simp)
    have hOb : OwnZ ((A.alloc (box7 xp xcl (.slice au xcl.ws.length cu))).putObj (w.heap.size + 7 + 1) (.loop r')) (w.heap.size + 9) (.slice au xcl.ws.length cu) xcl.ws := OwnZ.base HS0.out (row_carry HG.out.2 (fun k hk => hoth k (OwnZ.lt HG.out.2 hk).2 (by have := (OwnZ.lt HG.out.2 hk).1; have := HS0.out; omega)))
    have HKP := Lib.hid (show ∀ r'', KpW w.heap.size (w.heap.size + 6) (w.heap.size + 5) (w.heap.size + 9) A0 A (((A.alloc (box7 xp xcl (.slice au xcl.ws.length cu))).putObj (w.heap.size + 7 + 1) (.loop r')).putObj (w.heap.size + 7 + 1) (.loop r'')) from fun r'' =>
      ⟨rfl, rfl, rfl, by rw [World.putObj_size, World.putObj_size]; simp, fun k hk hc => by
        have := HS0.out
        exact (World.putObj_heap_other (by omega)).trans (hoth k hk (by omega))⟩)
    unfold box7 at hbx hbl hbd hIb hOb HKP
    obtain ⟨Wb, hWb⟩ : ∃ Wb, (A.alloc (.cells #[.int .i64 xp, .int .i64 xcl.t, .int .i64 xcl.r, .int .i64 xcl.s, .bool xcl.d, .int .i64 xcl.p, .slice au xcl.ws.length cu] 73)).putObj (w.heap.size + 7 + 1) (.loop r') = Wb := ⟨_, rfl⟩
    rw [hWb] at hbx hbl hbd hIb hOb HKP ⊢
    clear hWb hoth hlw
    obtain ⟨⟨u0, u1, u2, u3, u4, u5, u6⟩, _, u7⟩ := box7_cells (c := xcl) hbx
    obtain ⟨⟨z0, z1, z2, z3, z4, z5, z6⟩, zf, z7⟩ := box7_cells (c := Cl.zero) hIb.b4
    dsimp only [Cl.zero] at z0 z1 z2 z3 z4 z5 z6
    have y0 := zf 0
    have y1 := zf 1
    have y2 := zf 2
    have y3 := zf 3
    have y4 := zf 4
    have y5 := zf 5
    have y6 := zf 6
    have v0 := hIb.b0.cell
    have HIB := Lib.hid hIb
    have HOB := Lib.hid hOb
    have HBD := Lib.hid hbd
    have HBL := Lib.hid hbl
    have na : A.heap.size ≠ w.heap.size + 4 := by omega
    clear hIb hOb hbd hbl hbx zf
    have hQn : ∀ (a : Act) (B : World), B.heap[w.heap.size + 7]? = some (.deferred (some [])) → B.heap[w.heap.size + 7 + 1]? = some (.loop r') → AtP w snap (pre ++ [⟨xp, xcl, .slice au xcl.ws.length cu⟩]) B → (∀ r'', KpW w.heap.size (w.heap.size + 6) (w.heap.size + 5) (w.heap.size + 9) A0 A (B.putObj (w.heap.size + 7 + 1) (.loop r''))) → roundC (w.heap.size + 7) r' (KpW w.heap.size (w.heap.size + 6) (w.heap.size + 5) (w.heap.size + 9) A0 A) (AtP w snap) (AtX w snap) (pre ++ [⟨xp, xcl, .slice au xcl.ws.length cu⟩]) .normal a B := fun _ _ h1 h2 h3 h4 => ⟨h1, h2, h3, h4⟩
    have hQe : ∀ (a : Act) (B : World), B.heap[w.heap.size + 7]? = some (.deferred (some [])) → B.heap[w.heap.size + 7 + 1]? = some (.loop r') → AtX w snap (.exit 0) (pre ++ [⟨xp, xcl, .slice au xcl.ws.length cu⟩]) B → roundC (w.heap.size + 7) r' (KpW w.heap.size (w.heap.size + 6) (w.heap.size + 5) (w.heap.size + 9) A0 A) (AtP w snap) (AtX w snap) (pre ++ [⟨xp, xcl, .slice au xcl.ws.length cu⟩]) (.exit 0) a B := fun _ _ h1 h2 h3 => ⟨h1, h2, h3⟩
    generalize roundC (w.heap.size + 7) r' (KpW w.heap.size (w.heap.size + 6) (w.heap.size + 5) (w.heap.size + 9) A0 A) (AtP w snap) (AtX w snap) (pre ++ [⟨xp, xcl, .slice au xcl.ws.length cu⟩]) = Qc at hQn hQe ⊢
    have HQN := Lib.hid hQn
    have HQE := Lib.hid hQe
    clear hQn hQe
    by_cases hle : xcl.s ≤ snap
    · gi_wp2
      refine HQE.out _ _ ?_ ?_ ⟨rfl, pre, ⟨xp, xcl, .slice au xcl.ws.length cu⟩, rfl, HNO.out, hle, ?_, ?_⟩
      · exact (put7_other Wb (w.heap.size + 4) (.int .i64 xp) (.int .i64 xcl.t) (.int .i64 xcl.r) (.int .i64 xcl.s) (.bool xcl.d) (.int .i64 xcl.p) (.slice au xcl.ws.length cu) (by omega)).trans HBD.out
      · exact (put7_other Wb (w.heap.size + 4) (.int .i64 xp) (.int .i64 xcl.t) (.int .i64 xcl.r) (.int .i64 xcl.s) (.bool xcl.d) (.int .i64 xcl.p) (.slice au xcl.ws.length cu) (by omega)).trans HBL.out
      · exact HIB.out.found
      · exact row_carry HOB.out (fun k hk => put7_other Wb (w.heap.size + 4) (.int .i64 xp) (.int .i64 xcl.t) (.int .i64 xcl.r) (.int .i64 xcl.s) (.bool xcl.d) (.int .i64 xcl.p) (.slice au xcl.ws.length cu) (by have := (OwnZ.lt HOB.out hk).1; omega))
    · gi_wp2
      refine HQN.out _ _ HBD.out HBL.out ⟨fun y hy => ?_, HIB.out⟩ HKP.out
      rcases List.mem_append.1 hy with h1 | h1
      · exact HNO.out y h1
      · rw [List.mem_singleton] at h1
        subst h1
        show snap < xcl.s
        omega
  case done =>
    rintro xs W hS ⟨hno, hI⟩ hK
    rw [hsz] at hK ⊢
    have HSN := Lib.hid (seen_none hno hS)
    have hsW := hI.size
    obtain ⟨⟨u0, u1, u2, u3, u4, u5, u6⟩, _, u7⟩ := box7_cells (c := Cl.zero) hI.b4
    obtain ⟨⟨q0, q1, q2, q3, q4, q5⟩, p0', p1, p2, p3, p4, p5, p6⟩ := fz6 hI.b1
    have c2 := hI.b2.cell
    have f2 := hI.b2.frozen
    have c3 := hI.b3.cell
    have f3 := hI.b3.frozen
    have l2 := hI.b2.lt
    have l3 := hI.b3.lt
    have HB1 := Lib.hid hI
    have HK := Lib.hid hK
    clear hK hI
    dsimp only [Cl.zero] at u0 u1 u2 u3 u4 u5 u6
    go_wp2
    refine wp_mono (Q := NoPanic _) ?_ NoPanic.le
    go_region
    all_goals
      rw [NoPanic.normal]
      obtain ⟨g1, g2, g3, g4, g5⟩ := HB1.out.fin 0 Cl.zero (.slice none 0 0)
      have hK2 := (g4 (w.heap.size + 7) (by omega)).trans HK.out
      obtain ⟨We, hWe⟩ : ∃ We, fin8 w.heap.size W 0 Cl.zero (.slice none 0 0) = We := ⟨_, rfl⟩
      unfold fin8 set6 at hWe
      rw [show fin8 w.heap.size W 0 Cl.zero (.slice none 0 0) = We from hWe] at g1 g2 g3 g4 g5 hK2
      dsimp only [Cl.zero] at hWe
      rw [hWe]
      clear hWe
      have HG4 := Lib.hid g4
      have HG1 := Lib.hid g1
      have HG2 := Lib.hid g2
      have HG3 := Lib.hid g3
      have HG5 := Lib.hid g5
      have HK2 := Lib.hid hK2
      clear g1 g2 g3 g4 g5 hK2
      go_wp2
      refine ⟨by simp, .inl ⟨_, _, rfl, run_takeDeferred HK2.out, ?_⟩⟩
      have hp : ∀ k, k ≠ w.heap.size + 7 → (We.putObj (w.heap.size + 7) (.deferred none)).heap[k]? = We.heap[k]? := fun k hk => World.putObj_heap_other hk
      obtain ⟨r0, r1, r2, r3, r4, r5⟩ := boxC_cells (c := Cl.zero) ((hp _ (by omega)).trans HG1.out)
      have r6 := Boxed.cell (W := We.putObj (w.heap.size + 7) (.deferred none)) (B := w.heap.size + 2) (t := 3) ((hp _ (by omega)).trans HG2.out)
      have r7 := Boxed.cell (W := We.putObj (w.heap.size + 7) (.deferred none)) (B := w.heap.size + 3) (t := 27) ((hp _ (by omega)).trans HG3.out)
      refine ⟨.tuple #[clV Cl.zero (.slice none 0 0), .int .i64 0, .int .i64 0], ?_, ⟨(.slice none 0 0), by rw [HSN.out], ?_⟩, HG5.out.trans (belowK_b (w := w) (Nat.le_refl _) _ (w.heap.size + 7) _ _ (by omega) HK2.out rfl rfl)⟩
      · dsimp only [Cl.zero] at r0 r1 r2 r3 r4
        simp [results, Tryd.f18, go_sem, clV, Cl.zero, r0, r1, r2, r3, r4, r5, r6, r7]
      · rw [HSN.out]
        exact Or.inl ⟨_, _, rfl, rfl⟩
  case stop =>
    rintro cd pre W hSp ⟨rfl, ini, ⟨xp, xcl, xv⟩, rfl, hno, hle, hI, hO⟩ hK
    have HSN := Lib.hid (seen_some hno hle hSp)
    dsimp only at hI hO
    obtain ⟨au, cu, hxv⟩ := owns_shape hO
    subst hxv
    rw [hsz] at hK ⊢
    have hsW := hI.size
    obtain ⟨⟨u0, u1, u2, u3, u4, u5, u6⟩, _, u7⟩ := box7_cells (c := xcl) hI.b4
    obtain ⟨⟨q0, q1, q2, q3, q4, q5⟩, p0', p1, p2, p3, p4, p5, p6⟩ := fz6 hI.b1
    have c2 := hI.b2.cell
    have f2 := hI.b2.frozen
    have c3 := hI.b3.cell
    have f3 := hI.b3.frozen
    have l2 := hI.b2.lt
    have l3 := hI.b3.lt
    have HB1 := Lib.hid hI
    have HK := Lib.hid hK
    have HO := Lib.hid hO
    clear hK hI hO hno hle hSp
    refine wpIn_wide.2 ?_
    go_wp2
    refine wp_mono (Q := NoPanic _) ?_ NoPanic.le
    go_region
    all_goals
      rw [NoPanic.normal]
      obtain ⟨g1, g2, g3, g4, g5⟩ := HB1.out.fin xp xcl (.slice au xcl.ws.length cu)
      have hK2 := (g4 (w.heap.size + 7) (by omega)).trans HK.out
      obtain ⟨We, hWe⟩ : ∃ We, fin8 w.heap.size W xp xcl (.slice au xcl.ws.length cu) = We := ⟨_, rfl⟩
      unfold fin8 set6 at hWe
      rw [show fin8 w.heap.size W xp xcl (.slice au xcl.ws.length cu) = We from hWe] at g1 g2 g3 g4 g5 hK2
      rw [hWe]
      clear hWe
      have HG4 := Lib.hid g4
      have HG1 := Lib.hid g1
      have HG2 := Lib.hid g2
      have HG3 := Lib.hid g3
      have HG5 := Lib.hid g5
      have HK2 := Lib.hid hK2
      clear g1 g2 g3 g4 g5 hK2
      go_wp2
      refine ⟨by simp, .inl ⟨_, _, rfl, run_takeDeferred HK2.out, ?_⟩⟩
      have hp : ∀ k, k ≠ w.heap.size + 7 → (We.putObj (w.heap.size + 7) (.deferred none)).heap[k]? = We.heap[k]? := fun k hk => World.putObj_heap_other hk
      obtain ⟨r0, r1, r2, r3, r4, r5⟩ := boxC_cells (c := xcl) ((hp _ (by omega)).trans HG1.out)
      have r6 := Boxed.cell (W := We.putObj (w.heap.size + 7) (.deferred none)) (B := w.heap.size + 2) (t := 3) ((hp _ (by omega)).trans HG2.out)
      have r7 := Boxed.cell (W := We.putObj (w.heap.size + 7) (.deferred none)) (B := w.heap.size + 3) (t := 27) ((hp _ (by omega)).trans HG3.out)
      refine ⟨.tuple #[clV xcl (.slice au xcl.ws.length cu), .int .i64 xp, .int .i64 0], ?_, ⟨(.slice au xcl.ws.length cu), by rw [HSN.out], ?_⟩, HG5.out.trans (belowK_b (w := w) (Nat.le_refl _) _ (w.heap.size + 7) _ _ (by omega) HK2.out rfl rfl)⟩
      · simp [results, Tryd.f18, go_sem, clV, r0, r1, r2, r3, r4, r5, r6, r7]
      · rw [HSN.out]
        exact OwnZ.rd (row_carry (row_carry HO.out (fun k hk => HG4.out k (by have := (OwnZ.lt HO.out hk).1; omega))) (fun k hk => hp k (by have := (OwnZ.lt HO.out hk).1; omega)))

end Go.Proofs.YtcngblnkfiggjaaDoor.Rm
