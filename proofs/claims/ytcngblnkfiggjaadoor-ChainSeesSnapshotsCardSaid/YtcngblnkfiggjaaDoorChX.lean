/- Contract of All of package chain, over a chain that is read. -/
import Derived.Test.YtcngblnkfiggjaaDoorChX2
namespace Go.Proofs.YtcngblnkfiggjaaDoor.Rm
open Go Go.RowKit Go.Maps Go.Shelf
attribute [local go_sem] Oper.semAt_some

set_option maxRecDepth 100000 in
set_option maxHeartbeats 1500000 in
theorem all_any (w : World) (Bv Bm n : Nat) (M : Int → Int) (F : Nat → Prop) (c : Nat) (h : CV w Bv Bm n M F c) (hc : c < 100000) (T : Tabs w) (its : List It) (p0 : Int) (hch : Chn M n p0 its) (hlen : its.length ≤ 1000) :
    Calls Tryd.prog 19 #[.pointer (some ⟨Bv, 0, none⟩), .int .i64 p0] w fun e w' => (∃ xs vl va, xs.map keyS = its.map keyI ∧ e = .returned (.tuple #[vl, va, .int .i64 0]) ∧ w'.ownsRow w.heap.size 24 6 vl xs.length (rowC xs) ∧ OwnZ w' w.heap.size va (xs.map Stp.p) ∧ ∀ x ∈ xs, Rd w' x.v x.cl.ws) ∧ Below w.heap.size w w' := by
  refine (callsIn_wide (n := 4)).1 ?_
  have HCV := Lib.hid h
  have HT := Lib.hid T
  have HCH := Lib.hid hch
  clear h T hch
  refine callsIn_of_wp_marks Tryd.func19 rfl trivial ?_ rfl
  simp only [Tryd.ntmps19, List.size_toArray, List.length_cons, List.length_nil, Nat.reduceAdd, Nat.reduceSub, Array.replicate_succ, Array.replicate_zero, List.push_toArray, List.append_toArray, List.nil_append, List.cons_append]
  gi_wp2_with fail
  refine ⟨trivial, (walk_any _ _ _ _).mono ?_⟩
  rintro e w' ⟨rfl, rfl⟩
  gi_wp2
  simp only [Nat.add_assoc, Nat.reduceAdd]
  have hsz : (((((((w.alloc (.cells #[.slice none 0 0] 42)).alloc (.cells #[.slice none 0 0] 22)).alloc (.cells #[.int .i64 0] 27)).alloc (.cells #[.slice none 0 0] 42)).alloc (.cells #[.slice none 0 0] 22)).alloc (.cells #[.pointer (some ⟨Bv, 0, none⟩)] 41)).alloc (.cells #[.int .i64 p0] 3)).heap.size = w.heap.size + 7 := by simp
  have hI0 : ∀ W, Below (w.heap.size + 7) (((((((w.alloc (.cells #[.slice none 0 0] 42)).alloc (.cells #[.slice none 0 0] 22)).alloc (.cells #[.int .i64 0] 27)).alloc (.cells #[.slice none 0 0] 42)).alloc (.cells #[.slice none 0 0] 22)).alloc (.cells #[.pointer (some ⟨Bv, 0, none⟩)] 41)).alloc (.cells #[.int .i64 p0] 3)) W → w.heap.size + 9 ≤ W.heap.size →
      AllI w [] (.slice none 0 0) (.slice none 0 0) (fun _ => 0) W ∧ Boxed W (w.heap.size + 6) 3 (.int .i64 p0) ∧ Boxed W (w.heap.size + 5) 41 (.pointer (some ⟨Bv, 0, none⟩)) := fun W hW hs => by
    refine ⟨⟨(hW.block _ (by omega)).trans (at_old (at_old (at_old (at_old (at_old (at_old (heap_alloc_new _ _))))))), (hW.block _ (by omega)).trans (at_old (at_old (at_old (at_old (at_old (new_at (by simp))))))), (hW.block _ (by omega)).trans (at_old (at_old (at_old (at_old (new_at (by simp)))))), (hW.block _ (by omega)).trans (at_old (at_old (at_old (new_at (by simp))))), (hW.block _ (by omega)).trans (at_old (at_old (new_at (by simp)))), World.ownsRow_nil _ _ _ _, OwnZ.nil _ _, (fun x hx => (by cases hx)), (fun k hk => (by cases hk)), (fun k hk => (by cases hk)), (fun x hx => (by cases hx)), ?_, hs⟩, (hW.block _ (by omega)).trans (new_at (by simp)), (hW.block _ (by omega)).trans (at_old (new_at (by simp)))⟩
    exact (((((((((Below.refl _ w).alloc (Nat.le_refl _) _).alloc (by simp) _).alloc (by simp; omega) _).alloc (by simp; omega) _).alloc (by simp; omega) _).alloc (by simp; omega) _).alloc (by simp; omega) _)).trans (hW.mono (by omega))
  obtain ⟨W0, hW0⟩ : ∃ W0, (((((((w.alloc (.cells #[.slice none 0 0] 42)).alloc (.cells #[.slice none 0 0] 22)).alloc (.cells #[.int .i64 0] 27)).alloc (.cells #[.slice none 0 0] 42)).alloc (.cells #[.slice none 0 0] 22)).alloc (.cells #[.pointer (some ⟨Bv, 0, none⟩)] 41)).alloc (.cells #[.int .i64 p0] 3)) = W0 := ⟨_, rfl⟩
  rw [hW0] at hsz hI0 ⊢
  clear hW0
  have HI0 := Lib.hid hI0
  clear hI0
  refine range_c (by omega) (gf := 77) (lb := #[.pointer (some ⟨w.heap.size + 6, 0, none⟩), .pointer (some ⟨w.heap.size + 5, 0, none⟩)]) rfl (enters_of Tryd.func77 (by kernel_rfl) rfl) (encs := encS) (fun _ => rfl)
    (StepW (w.heap.size + 6) (w.heap.size + 9)) (GW its (w.heap.size + 9)) (KpW w.heap.size (w.heap.size + 6) (w.heap.size + 5) (w.heap.size + 9)) (fun xs => xs.map keyS = its.map keyI) (fun pre => pre.map keyS = (its.map keyI).take pre.length) its.length
    (fun W1 hb1 hs1 => ?seq)
    (AllP w) (fun _ _ _ => False)
    ?stp (fun pre A B ⟨vl, va, tag, h⟩ hs => ⟨vl, va, tag, h.step hs⟩) ?pl ?pxl ?start ?round ?done ?stop
  case seq =>
    have hW9 : W1.heap.size = w.heap.size + 9 := by omega
    obtain ⟨k1, k2, k3⟩ := HI0.out W1 (by rw [← hsz]; exact hb1) (by omega)
    have := walk1_c (4 - 1) (by omega) w W1 Bv Bm n M F c HCV.out hc HT.out its p0 HCH.out hlen (w.heap.size + 6) (w.heap.size + 5) k2 k3 (by omega) (by omega) (by omega) k1.below
    rw [hW9] at this
    exact this
  case stp =>
    intro A B k o hs hk ho
    rw [hs.block k (Array.getElem?_eq_some_iff.1 ho).1 (by unfold ownW; omega)]; exact ho
  case pl =>
    rintro pre A r r' ⟨vl, va, tag, h⟩ hl
    rw [show W0.heap.size + 1 = w.heap.size + 8 by omega]
    exact ⟨vl, va, tag, h.put _⟩
  case pxl =>
    intro cd pre A r r' h hl
    exact h
  case start =>
    intro r
    refine ⟨_, _, _, (HI0.out _ ?_ (by simp; omega)).1⟩
    rw [← hsz]
    exact ((Below.refl _ W0).alloc (Nat.le_refl _) _).alloc (by simp) _
  case round =>
    rintro pre x A0 A r ⟨vl, va, tag, hI⟩ hst hG hlt hkA hlA
    have hIA := hI.step hst
    obtain ⟨xp, xcl, xv⟩ := x
    obtain ⟨au, cu, hxv⟩ := owns_shape hG.2
    dsimp only at hxv
    subst hxv
    rw [hsz] at hkA hlA
    have HIA := Lib.hid hIA
    have HG := Lib.hid hG
    have HI := Lib.hid hI
    have HST := Lib.hid hst
    clear hIA hG hI hst
    simp only [encS]
    gi_wp2
    simp only [hsz, Nat.reduceSub]
    refine ⟨at_old hkA, at_old hlA, fun r' => ?_⟩
    have hsA := HIA.out.size
    have hlw : w.heap.size + 7 + 1 < (A.alloc (box7 xp xcl (.slice au xcl.ws.length cu))).heap.size := by simp; omega
    have hoth : ∀ k, k < A.heap.size → k ≠ w.heap.size + 8 → ((A.alloc (box7 xp xcl (.slice au xcl.ws.length cu))).putObj (w.heap.size + 7 + 1) (.loop r')).heap[k]? = A.heap[k]? := fun k hk hne =>
      (World.putObj_heap_other (by omega)).trans (Below.heap_alloc _ _ _ hk)
    have hbx : ((A.alloc (box7 xp xcl (.slice au xcl.ws.length cu))).putObj (w.heap.size + 7 + 1) (.loop r')).heap[A.heap.size]? = some (box7 xp xcl (.slice au xcl.ws.length cu)) := (World.putObj_heap_other (by omega)).trans (heap_alloc_new _ _)
    have hbl : ((A.alloc (box7 xp xcl (.slice au xcl.ws.length cu))).putObj (w.heap.size + 7 + 1) (.loop r')).heap[w.heap.size + 7 + 1]? = some (.loop r') := World.putObj_heap_same hlw
    have hbd := (hoth (w.heap.size + 7) (by omega) (by omega)).trans hkA
    have hIb : AllI w pre vl va tag ((A.alloc (box7 xp xcl (.slice au xcl.ws.length cu))).putObj (w.heap.size + 7 + 1) (.loop r')) := HIA.out.keep (fun k hk hc => hoth k (by omega) (by omega)) ⟨rfl, rfl, rfl⟩ (by rw [World.putObj_size]; simp)
    have hos : ((A.alloc (box7 xp xcl (.slice au xcl.ws.length cu))).putObj (w.heap.size + 7 + 1) (.loop r')).os = A.os ∧ ((A.alloc (box7 xp xcl (.slice au xcl.ws.length cu))).putObj (w.heap.size + 7 + 1) (.loop r')).tape = A.tape ∧ ((A.alloc (box7 xp xcl (.slice au xcl.ws.length cu))).putObj (w.heap.size + 7 + 1) (.loop r')).output = A.output := ⟨rfl, rfl, rfl⟩
    have hsb : ((A.alloc (box7 xp xcl (.slice au xcl.ws.length cu))).putObj (w.heap.size + 7 + 1) (.loop r')).heap.size = A.heap.size + 1 := by rw [World.putObj_size]; simp
    unfold box7 at hbx hbl hbd hIb hoth hsb hos
    obtain ⟨Wb, hWb⟩ : ∃ Wb, (A.alloc (.cells #[.int .i64 xp, .int .i64 xcl.t, .int .i64 xcl.r, .int .i64 xcl.s, .bool xcl.d, .int .i64 xcl.p, .slice au xcl.ws.length cu] 73)).putObj (w.heap.size + 7 + 1) (.loop r') = Wb := ⟨_, rfl⟩
    rw [hWb] at hbx hbl hbd hIb hoth hsb hos ⊢
    clear hWb hlw
    obtain ⟨⟨u0, u1, u2, u3, u4, u5, u6⟩, _, u7⟩ := box7_cells (c := xcl) hbx
    obtain ⟨al, cl', hvl⟩ := owns_shape hIb.rl
    obtain ⟨aa, ca', hva⟩ := owns_shape hIb.ra
    subst hvl hva
    have c3 := hIb.b3.cell
    have f3 := hIb.b3.frozen
    have c4 := hIb.b4.cell
    have f4 := hIb.b4.frozen
    have HIB := Lib.hid hIb
    have HBD := Lib.hid hbd
    have HBL := Lib.hid hbl
    have HBX := Lib.hid hbx
    have HOTH := Lib.hid hoth
    have HM := Lib.hid (show ∃ tg, MidP w A0 A r' (box7 xp xcl (.slice au xcl.ws.length cu)) (pre ++ [⟨xp, xcl, .slice au xcl.ws.length cu⟩]) pre (pre.map Stp.p) (.slice al pre.length cl') (.slice aa (List.map Stp.p pre).length ca') (.slice al pre.length cl') (.slice aa (List.map Stp.p pre).length ca') tg Wb from
      MidP.start (x := ⟨xp, xcl, .slice au xcl.ws.length cu⟩) HI.out hIb HST.out.size HG.out.1.2 (row_carry HG.out.2 (fun k hk => hoth k (OwnZ.lt HG.out.2 hk).2 (by have := (OwnZ.lt HG.out.2 hk).1; have := HG.out.1.2; omega))) (fun k hk => (OwnZ.lt HG.out.2 hk).2) hbd hbl hbx hoth hos hsb)
    have hQn : ∀ (a : Act) (B : World), B.heap[w.heap.size + 7]? = some (.deferred (some [])) → B.heap[w.heap.size + 7 + 1]? = some (.loop r') → AllP w (pre ++ [⟨xp, xcl, .slice au xcl.ws.length cu⟩]) B → (∀ r'', KpW w.heap.size (w.heap.size + 6) (w.heap.size + 5) (w.heap.size + 9) A0 A (B.putObj (w.heap.size + 7 + 1) (.loop r''))) → roundC (w.heap.size + 7) r' (KpW w.heap.size (w.heap.size + 6) (w.heap.size + 5) (w.heap.size + 9) A0 A) (AllP w) (fun _ _ _ => False) (pre ++ [⟨xp, xcl, .slice au xcl.ws.length cu⟩]) .normal a B := fun _ _ h1 h2 h3 h4 => ⟨h1, h2, h3, h4⟩
    have hQx : (∀ a W, ¬ roundC (w.heap.size + 7) r' (KpW w.heap.size (w.heap.size + 6) (w.heap.size + 5) (w.heap.size + 9) A0 A) (AllP w) (fun _ _ _ => False) (pre ++ [⟨xp, xcl, .slice au xcl.ws.length cu⟩]) .outgrown a W) ∧ (∀ c a W, ¬ roundC (w.heap.size + 7) r' (KpW w.heap.size (w.heap.size + 6) (w.heap.size + 5) (w.heap.size + 9) A0 A) (AllP w) (fun _ _ _ => False) (pre ++ [⟨xp, xcl, .slice au xcl.ws.length cu⟩]) (.panic c) a W) := ⟨fun _ _ h => h, fun _ _ _ h => h⟩
    generalize roundC (w.heap.size + 7) r' (KpW w.heap.size (w.heap.size + 6) (w.heap.size + 5) (w.heap.size + 9) A0 A) (AllP w) (fun _ _ _ => False) (pre ++ [⟨xp, xcl, .slice au xcl.ws.length cu⟩]) = Qc at hQn hQx ⊢
    have HQN := Lib.hid hQn
    have HQX := Lib.hid hQx
    clear hQn hQx hIb hbd hbl hbx hoth hos
    gi_wp2
    have hmx : Tryd.prog.follows .mixedOrders = true := by kernel_rfl
    obtain ⟨tgm, hMM⟩ := HM.out
    have HM := Lib.hid hMM
    clear hMM
    have hpl : pre.length < 1000 := by omega
    -- REGION BEGIN
    refine wpIn_region_D (fun W => W.cell? ⟨w.heap.size + 3, 0, none⟩ = some (.slice al pre.length cl') ∧ W.cell? ⟨w.heap.size + 4, 0, none⟩ = some (.slice aa (List.map Stp.p pre).length ca') ∧ W.cell? ⟨A.heap.size, 0, none⟩ = some (.int .i64 xp) ∧ W.cell? ⟨A.heap.size, 1, none⟩ = some (.int .i64 xcl.t) ∧ W.cell? ⟨A.heap.size, 2, none⟩ = some (.int .i64 xcl.r) ∧ W.cell? ⟨A.heap.size, 3, none⟩ = some (.int .i64 xcl.s) ∧ W.cell? ⟨A.heap.size, 4, none⟩ = some (.bool xcl.d) ∧ W.cell? ⟨A.heap.size, 5, none⟩ = some (.int .i64 xcl.p) ∧ W.cell? ⟨A.heap.size, 6, none⟩ = some (.slice au xcl.ws.length cu)) [10, 11] hmx (by kernel_rfl) (fun ⟨a, w, h⟩ => HQX.out.1 a w h) HM.out.drew.cells (fun hHeld => ?_)
    refine wpAnyD_take (i := 0) (oi := { dst := some 19, op := Op.load 42 (Operand.tmp 7), type := 42, pos := "chain.go:176", after := #[], guard := none }) (v := ?_) [4, 9, 10, 11] rfl (by kernel_rfl) (by kernel_rfl) (by kernel_rfl) (by kernel_rfl) (fun c a w h => (HQX.out.2 c _ w h).elim) (Or.inl ⟨by rfl, ?_⟩) (by assumption) ?_
    rotate_left
    · intro w hSw; (try dsimp only at hSw); go_simp; try with_reducible rfl
    try simp only [Act.put, List.setIfInBounds_toArray, List.set_cons_zero, List.set_cons_succ]
    refine wpAnyD_take (i := 1) (oi := { dst := some 20, op := Op.fieldAddr 73 (Operand.tmp 9) 1, type := 0, pos := "chain.go:176", after := #[], guard := none }) (v := ?_) [2, 3, 4, 9, 10, 11] rfl (by kernel_rfl) (by kernel_rfl) (by kernel_rfl) (by kernel_rfl) (fun c a w h => (HQX.out.2 c _ w h).elim) (Or.inl ⟨by rfl, ?_⟩) (by assumption) ?_
    rotate_left
    · intro w hSw; (try dsimp only at hSw); go_simp; try with_reducible rfl
    try simp only [Act.put, List.setIfInBounds_toArray, List.set_cons_zero, List.set_cons_succ]
    refine wpAnyD_take (i := 2) (oi := { dst := some 21, op := Op.load 24 (Operand.tmp 20), type := 24, pos := "chain.go:176", after := #[{ on := 1, ground := Ground.data }], guard := none }) (v := ?_) [3, 4, 9, 10, 11] rfl (by kernel_rfl) (by kernel_rfl) (by kernel_rfl) (by kernel_rfl) (fun c a w h => (HQX.out.2 c _ w h).elim) (Or.inl ⟨by rfl, ?_⟩) (by assumption) ?_
    rotate_left
    · intro w hSw; (try dsimp only at hSw); go_simp; try with_reducible rfl
    try simp only [Act.put, List.setIfInBounds_toArray, List.set_cons_zero, List.set_cons_succ]
    refine wpAnyD_take (i := 5) (oi := { dst := some 24, op := Op.load 22 (Operand.tmp 8), type := 22, pos := "chain.go:176", after := #[], guard := none }) (v := ?_) [9, 10, 11] rfl (by kernel_rfl) (by kernel_rfl) (by kernel_rfl) (by kernel_rfl) (fun c a w h => (HQX.out.2 c _ w h).elim) (Or.inl ⟨by rfl, ?_⟩) (by assumption) ?_
    rotate_left
    · intro w hSw; (try dsimp only at hSw); go_simp; try with_reducible rfl
    try simp only [Act.put, List.setIfInBounds_toArray, List.set_cons_zero, List.set_cons_succ]
    refine wpAnyD_take (i := 6) (oi := { dst := some 25, op := Op.fieldAddr 73 (Operand.tmp 9) 0, type := 0, pos := "chain.go:176", after := #[], guard := none }) (v := ?_) [7, 8, 9, 10, 11] rfl (by kernel_rfl) (by kernel_rfl) (by kernel_rfl) (by kernel_rfl) (fun c a w h => (HQX.out.2 c _ w h).elim) (Or.inl ⟨by rfl, ?_⟩) (by assumption) ?_
    rotate_left
    · intro w hSw; (try dsimp only at hSw); go_simp; try with_reducible rfl
    try simp only [Act.put, List.setIfInBounds_toArray, List.set_cons_zero, List.set_cons_succ]
    refine wpAnyD_take (i := 7) (oi := { dst := some 26, op := Op.load 3 (Operand.tmp 25), type := 3, pos := "chain.go:176", after := #[{ on := 6, ground := Ground.data }], guard := none }) (v := ?_) [8, 9, 10, 11] rfl (by kernel_rfl) (by kernel_rfl) (by kernel_rfl) (by kernel_rfl) (fun c a w h => (HQX.out.2 c _ w h).elim) (Or.inl ⟨by rfl, ?_⟩) (by assumption) ?_
    rotate_left
    · intro w hSw; (try dsimp only at hSw); go_simp; try with_reducible rfl
    try simp only [Act.put, List.setIfInBounds_toArray, List.set_cons_zero, List.set_cons_succ]
    clear hHeld
    have HM := Lib.hid HM.out.drew
    refine wpAnyD_ready [3, 8] (by kernel_rfl) (by simp) ?_
    refine AllReadyD.cons (o := { dst := some 22, op := Op.buildSlice 42 1 #[(0, Operand.tmp 21)], type := 42, pos := "chain.go:176", after := #[{ on := 2, ground := Ground.data }], guard := none }) rfl (fun K hK => ?_) ?_
    ·
      go_simp
      obtain ⟨tg1, hM1, hT1, hL1⟩ := HM.out.alloc (.cells #[.int .i64 xcl.t, .int .i64 xcl.r, .int .i64 xcl.s, .bool xcl.d, .int .i64 xcl.p, .slice au xcl.ws.length cu] 24)
      have HM1 := Lib.hid hM1
      have HB1 := Lib.hid (heap_alloc_new (Wb.drew) (.cells #[.int .i64 xcl.t, .int .i64 xcl.r, .int .i64 xcl.s, .bool xcl.d, .int .i64 xcl.p, .slice au xcl.ws.length cu] 24))
      have HD1 := Lib.hid (And.intro HB1.out hT1)
      refine hK.out _ _ (fun _ => HM1.out.cells) ?_
      clear hK K hM1 hT1 hL1
      try simp only [Act.put, List.setIfInBounds_toArray, List.set_cons_zero, List.set_cons_succ]
      refine wpAnyD_ready [4, 8] (by kernel_rfl) (by simp) ?_
      refine AllReadyD.cons (o := { dst := some 23, op := Op.call { callee := Callee.builtin Builtin.append, args := #[Operand.tmp 19, Operand.tmp 22], argTypes := #[42, 42] }, type := 42, pos := "chain.go:176", after := #[{ on := 0, ground := Ground.data }, { on := 3, ground := Ground.data }], guard := none }) rfl (fun K hK => ?_) ?_
      ·
        refine step_append_one (((Wb.drew).alloc (.cells #[.int .i64 xcl.t, .int .i64 xcl.r, .int .i64 xcl.s, .bool xcl.d, .int .i64 xcl.p, .slice au xcl.ws.length cu] 24))) rfl (.tmp 19) (.tmp 22) 42 24 6 64 _ (by rfl) (by rfl) Tryd.underlying42 info24 (by rfl) (by omega) (by omega) (w.heap.size + 10) (.slice al pre.length cl') pre.length (rowC pre) (rowC [⟨xp, xcl, .slice au xcl.ws.length cu⟩]) ((Wb.drew).heap.size) (by rfl) (by simp [Act.eval, hsb]) HM1.out.rl HD1.out.1 (by rfl) (by intro u hu; simp [rowC] at hu; rcases hu with rfl | rfl | rfl | rfl | rfl | rfl <;> rfl) (by omega) (by have := HM1.out.size; have := HM1.out.n0; omega) ?_
        intro v2 W2 ho2 hg2 hv2
        obtain ⟨tg2, hM2, hL2, hN2⟩ := HM1.out.appL (y := ⟨xp, xcl, .slice au xcl.ws.length cu⟩) ho2 hg2 hv2
        obtain ⟨aw2, cw2, hsh2⟩ := owns_shape ho2
        subst hsh2
        have HM2 := Lib.hid hM2
        refine hK.out _ _ (fun _ => HM2.out.cells) ?_
        clear hK K hM2 hL2 hN2 ho2 hg2 hv2
        try simp only [Act.put, List.setIfInBounds_toArray, List.set_cons_zero, List.set_cons_succ]
        refine wpAnyD_ready [8] (by kernel_rfl) (by simp) ?_
        refine AllReadyD.cons (o := { dst := some 27, op := Op.buildSlice 22 1 #[(0, Operand.tmp 26)], type := 22, pos := "chain.go:176", after := #[{ on := 7, ground := Ground.data }], guard := none }) rfl (fun K hK => ?_) ?_
        ·
          go_simp
          obtain ⟨tg3, hM3, hT3, hL3⟩ := HM2.out.alloc (.cells #[.int .i64 xp] 3)
          have HM3 := Lib.hid hM3
          have HB3 := Lib.hid (heap_alloc_new (W2) (.cells #[.int .i64 xp] 3))
          have HD3 := Lib.hid (And.intro HB3.out hT3)
          refine hK.out _ _ (fun _ => HM3.out.cells) ?_
          clear hK K hM3 hT3 hL3
          try simp only [Act.put, List.setIfInBounds_toArray, List.set_cons_zero, List.set_cons_succ]
          refine wpAnyD_ready [9] (by kernel_rfl) (by simp) ?_
          refine AllReadyD.cons (o := { dst := some 28, op := Op.call { callee := Callee.builtin Builtin.append, args := #[Operand.tmp 24, Operand.tmp 27], argTypes := #[22, 22] }, type := 22, pos := "chain.go:176", after := #[{ on := 5, ground := Ground.data }, { on := 8, ground := Ground.data }, { on := 4, ground := Ground.chain }], guard := none }) rfl (fun K hK => ?_) ?_
          ·
            refine step_append_one (((W2).alloc (.cells #[.int .i64 xp] 3))) rfl (.tmp 24) (.tmp 27) 22 3 1 8 _ (by rfl) (by rfl) Tryd.underlying22 Tryd.info3 (by rfl) (by omega) (by omega) (w.heap.size + 10) (.slice aa (List.map Stp.p pre).length ca') (List.map Stp.p pre).length (ints (List.map Stp.p pre)) [.int .i64 xp] ((W2).heap.size) (by simp [Act.eval]) (by simp [Act.eval, hsb]) HM3.out.ra HD3.out.1 (by rfl) (by intro u hu; rw [List.mem_singleton] at hu; subst hu; rfl) (by simp; omega) (by have := HM3.out.size; have := HM3.out.n0; omega) ?_
            intro v4 W4 ho4 hg4 hv4
            obtain ⟨tg4, hM4, hL4, hN4⟩ := HM3.out.appA (y := xp) ho4 hg4 hv4
            obtain ⟨aw4, cw4, hsh4⟩ := owns_shape ho4
            subst hsh4
            have HM4 := Lib.hid hM4
            refine hK.out _ _ (fun _ => HM4.out.cells) ?_
            clear hK K hM4 hL4 hN4 ho4 hg4 hv4
            try simp only [Act.put, List.setIfInBounds_toArray, List.set_cons_zero, List.set_cons_succ]
            refine wpAnyD_ready [10] (by kernel_rfl) (by simp) ?_
            refine AllReadyD.cons (o := { dst := none, op := Op.store 42 (Operand.tmp 7) (Operand.tmp 23), type := 0, pos := "chain.go:176", after := #[{ on := 4, ground := Ground.data }, { on := 9, ground := Ground.chain }, { on := 0, ground := Ground.phase }, { on := 1, ground := Ground.phase }, { on := 2, ground := Ground.phase }, { on := 3, ground := Ground.phase }, { on := 4, ground := Ground.phase }, { on := 5, ground := Ground.textOnly Departure.inlinedCapture }, { on := 6, ground := Ground.textOnly Departure.lateStores }, { on := 7, ground := Ground.textOnly Departure.lateStores }, { on := 8, ground := Ground.textOnly Departure.inlinedCapture }, { on := 9, ground := Ground.textOnly Departure.lateStoresUnsure }], guard := none }) rfl (fun K hK => ?_) ?_
            ·
              have p3 := HM4.out.b3.cell
              have q3 := HM4.out.b3.frozen
              have p4 := HM4.out.b4.cell
              have q4 := HM4.out.b4.frozen
              go_simp
              refine hK.out _ _ (fun h => absurd h (by decide)) ?_
              clear hK K
              try simp only [Act.put, List.setIfInBounds_toArray, List.set_cons_zero, List.set_cons_succ]
              refine wpAnyD_ready [11] (by kernel_rfl) (by simp) ?_
              refine AllReadyD.cons (o := { dst := none, op := Op.store 22 (Operand.tmp 8) (Operand.tmp 28), type := 0, pos := "chain.go:176", after := #[{ on := 9, ground := Ground.data }, { on := 10, ground := Ground.chain }, { on := 0, ground := Ground.phase }, { on := 1, ground := Ground.phase }, { on := 2, ground := Ground.phase }, { on := 3, ground := Ground.phase }, { on := 4, ground := Ground.phase }, { on := 5, ground := Ground.phase }, { on := 6, ground := Ground.phase }, { on := 7, ground := Ground.phase }, { on := 8, ground := Ground.phase }, { on := 9, ground := Ground.phase }, { on := 10, ground := Ground.phase }], guard := none }) rfl (fun K hK => ?_) ?_
              ·
                go_simp
                refine hK.out _ _ (fun h => absurd h (by decide)) ?_
                clear hK K
                try simp only [Act.put, List.setIfInBounds_toArray, List.set_cons_zero, List.set_cons_succ]
                refine wpAnyD_done (by kernel_rfl) ?_ _
                obtain ⟨f1, f2, f3, f4⟩ := HM4.out.fin (by simp)
                simp only [List.length_map] at f1 f2 f3 f4
                exact HQN.out _ _ f1 f2 f3 f4
              exact AllReadyD.nil
            exact AllReadyD.nil
          exact AllReadyD.nil
        exact AllReadyD.nil
      refine AllReadyD.cons (o := { dst := some 27, op := Op.buildSlice 22 1 #[(0, Operand.tmp 26)], type := 22, pos := "chain.go:176", after := #[{ on := 7, ground := Ground.data }], guard := none }) rfl (fun K hK => ?_) ?_
      ·
        go_simp
        obtain ⟨tg7, hM7, hT7, hL7⟩ := HM1.out.alloc (.cells #[.int .i64 xp] 3)
        have HM7 := Lib.hid hM7
        have HB7 := Lib.hid (heap_alloc_new (((Wb.drew).alloc (.cells #[.int .i64 xcl.t, .int .i64 xcl.r, .int .i64 xcl.s, .bool xcl.d, .int .i64 xcl.p, .slice au xcl.ws.length cu] 24))) (.cells #[.int .i64 xp] 3))
        have HC7 := Lib.hid (show (((((Wb.drew).alloc (.cells #[.int .i64 xcl.t, .int .i64 xcl.r, .int .i64 xcl.s, .bool xcl.d, .int .i64 xcl.p, .slice au xcl.ws.length cu] 24))).alloc (.cells #[.int .i64 xp] 3))).heap[(Wb.drew).heap.size]? = some (.cells #[.int .i64 xcl.t, .int .i64 xcl.r, .int .i64 xcl.s, .bool xcl.d, .int .i64 xcl.p, .slice au xcl.ws.length cu] 24) ∧ tg7 ((Wb.drew).heap.size) = 4 from ⟨(Below.heap_alloc _ _ _ (Array.getElem?_eq_some_iff.1 HD1.out.1).1).trans HD1.out.1, (hL7 _ (Array.getElem?_eq_some_iff.1 HD1.out.1).1).trans HD1.out.2⟩)
        have HD7 := Lib.hid (And.intro HB7.out hT7)
        refine hK.out _ _ (fun _ => HM7.out.cells) ?_
        clear hK K hM7 hT7 hL7
        try simp only [Act.put, List.setIfInBounds_toArray, List.set_cons_zero, List.set_cons_succ]
        refine wpAnyD_ready [4] (by kernel_rfl) (by simp) ?_
        refine AllReadyD.cons (o := { dst := some 23, op := Op.call { callee := Callee.builtin Builtin.append, args := #[Operand.tmp 19, Operand.tmp 22], argTypes := #[42, 42] }, type := 42, pos := "chain.go:176", after := #[{ on := 0, ground := Ground.data }, { on := 3, ground := Ground.data }], guard := none }) rfl (fun K hK => ?_) ?_
        ·
          refine step_append_one (((((Wb.drew).alloc (.cells #[.int .i64 xcl.t, .int .i64 xcl.r, .int .i64 xcl.s, .bool xcl.d, .int .i64 xcl.p, .slice au xcl.ws.length cu] 24))).alloc (.cells #[.int .i64 xp] 3))) rfl (.tmp 19) (.tmp 22) 42 24 6 64 _ (by rfl) (by rfl) Tryd.underlying42 info24 (by rfl) (by omega) (by omega) (w.heap.size + 10) (.slice al pre.length cl') pre.length (rowC pre) (rowC [⟨xp, xcl, .slice au xcl.ws.length cu⟩]) ((Wb.drew).heap.size) (by rfl) (by simp [Act.eval, hsb]) HM7.out.rl HC7.out.1 (by rfl) (by intro u hu; simp [rowC] at hu; rcases hu with rfl | rfl | rfl | rfl | rfl | rfl <;> rfl) (by omega) (by have := HM7.out.size; have := HM7.out.n0; omega) ?_
          intro v8 W8 ho8 hg8 hv8
          obtain ⟨tg8, hM8, hL8, hN8⟩ := HM7.out.appL (y := ⟨xp, xcl, .slice au xcl.ws.length cu⟩) ho8 hg8 hv8
          obtain ⟨aw8, cw8, hsh8⟩ := owns_shape ho8
          subst hsh8
          have HM8 := Lib.hid hM8
          have HC8 := Lib.hid (show W8.heap[(((Wb.drew).alloc (.cells #[.int .i64 xcl.t, .int .i64 xcl.r, .int .i64 xcl.s, .bool xcl.d, .int .i64 xcl.p, .slice au xcl.ws.length cu] 24))).heap.size]? = some (.cells #[.int .i64 xp] 3) ∧ tg8 ((((Wb.drew).alloc (.cells #[.int .i64 xcl.t, .int .i64 xcl.r, .int .i64 xcl.s, .bool xcl.d, .int .i64 xcl.p, .slice au xcl.ws.length cu] 24))).heap.size) = 4 from ⟨(hN8 _ (Array.getElem?_eq_some_iff.1 HD7.out.1).1 (by rw [HD7.out.2]; decide)).trans HD7.out.1, (hL8 _ (Array.getElem?_eq_some_iff.1 HD7.out.1).1).trans HD7.out.2⟩)
          refine hK.out _ _ (fun _ => HM8.out.cells) ?_
          clear hK K hM8 hL8 hN8 ho8 hg8 hv8
          try simp only [Act.put, List.setIfInBounds_toArray, List.set_cons_zero, List.set_cons_succ]
          refine wpAnyD_ready [9] (by kernel_rfl) (by simp) ?_
          refine AllReadyD.cons (o := { dst := some 28, op := Op.call { callee := Callee.builtin Builtin.append, args := #[Operand.tmp 24, Operand.tmp 27], argTypes := #[22, 22] }, type := 22, pos := "chain.go:176", after := #[{ on := 5, ground := Ground.data }, { on := 8, ground := Ground.data }, { on := 4, ground := Ground.chain }], guard := none }) rfl (fun K hK => ?_) ?_
          ·
            refine step_append_one (W8) rfl (.tmp 24) (.tmp 27) 22 3 1 8 _ (by rfl) (by rfl) Tryd.underlying22 Tryd.info3 (by rfl) (by omega) (by omega) (w.heap.size + 10) (.slice aa (List.map Stp.p pre).length ca') (List.map Stp.p pre).length (ints (List.map Stp.p pre)) [.int .i64 xp] ((((Wb.drew).alloc (.cells #[.int .i64 xcl.t, .int .i64 xcl.r, .int .i64 xcl.s, .bool xcl.d, .int .i64 xcl.p, .slice au xcl.ws.length cu] 24))).heap.size) (by simp [Act.eval]) (by simp [Act.eval, hsb]) HM8.out.ra HC8.out.1 (by rfl) (by intro u hu; rw [List.mem_singleton] at hu; subst hu; rfl) (by simp; omega) (by have := HM8.out.size; have := HM8.out.n0; omega) ?_
            intro v9 W9 ho9 hg9 hv9
            obtain ⟨tg9, hM9, hL9, hN9⟩ := HM8.out.appA (y := xp) ho9 hg9 hv9
            obtain ⟨aw9, cw9, hsh9⟩ := owns_shape ho9
            subst hsh9
            have HM9 := Lib.hid hM9
            refine hK.out _ _ (fun _ => HM9.out.cells) ?_
            clear hK K hM9 hL9 hN9 ho9 hg9 hv9
            try simp only [Act.put, List.setIfInBounds_toArray, List.set_cons_zero, List.set_cons_succ]
            refine wpAnyD_ready [10] (by kernel_rfl) (by simp) ?_
            refine AllReadyD.cons (o := { dst := none, op := Op.store 42 (Operand.tmp 7) (Operand.tmp 23), type := 0, pos := "chain.go:176", after := #[{ on := 4, ground := Ground.data }, { on := 9, ground := Ground.chain }, { on := 0, ground := Ground.phase }, { on := 1, ground := Ground.phase }, { on := 2, ground := Ground.phase }, { on := 3, ground := Ground.phase }, { on := 4, ground := Ground.phase }, { on := 5, ground := Ground.textOnly Departure.inlinedCapture }, { on := 6, ground := Ground.textOnly Departure.lateStores }, { on := 7, ground := Ground.textOnly Departure.lateStores }, { on := 8, ground := Ground.textOnly Departure.inlinedCapture }, { on := 9, ground := Ground.textOnly Departure.lateStoresUnsure }], guard := none }) rfl (fun K hK => ?_) ?_
            ·
              have p3 := HM9.out.b3.cell
              have q3 := HM9.out.b3.frozen
              have p4 := HM9.out.b4.cell
              have q4 := HM9.out.b4.frozen
              go_simp
              refine hK.out _ _ (fun h => absurd h (by decide)) ?_
              clear hK K
              try simp only [Act.put, List.setIfInBounds_toArray, List.set_cons_zero, List.set_cons_succ]
              refine wpAnyD_ready [11] (by kernel_rfl) (by simp) ?_
              refine AllReadyD.cons (o := { dst := none, op := Op.store 22 (Operand.tmp 8) (Operand.tmp 28), type := 0, pos := "chain.go:176", after := #[{ on := 9, ground := Ground.data }, { on := 10, ground := Ground.chain }, { on := 0, ground := Ground.phase }, { on := 1, ground := Ground.phase }, { on := 2, ground := Ground.phase }, { on := 3, ground := Ground.phase }, { on := 4, ground := Ground.phase }, { on := 5, ground := Ground.phase }, { on := 6, ground := Ground.phase }, { on := 7, ground := Ground.phase }, { on := 8, ground := Ground.phase }, { on := 9, ground := Ground.phase }, { on := 10, ground := Ground.phase }], guard := none }) rfl (fun K hK => ?_) ?_
              ·
                go_simp
                refine hK.out _ _ (fun h => absurd h (by decide)) ?_
                clear hK K
                try simp only [Act.put, List.setIfInBounds_toArray, List.set_cons_zero, List.set_cons_succ]
                refine wpAnyD_done (by kernel_rfl) ?_ _
                obtain ⟨f1, f2, f3, f4⟩ := HM9.out.fin (by simp)
                simp only [List.length_map] at f1 f2 f3 f4
                exact HQN.out _ _ f1 f2 f3 f4
              exact AllReadyD.nil
            exact AllReadyD.nil
          exact AllReadyD.nil
        exact AllReadyD.nil
      exact AllReadyD.nil
    refine AllReadyD.cons (o := { dst := some 27, op := Op.buildSlice 22 1 #[(0, Operand.tmp 26)], type := 22, pos := "chain.go:176", after := #[{ on := 7, ground := Ground.data }], guard := none }) rfl (fun K hK => ?_) ?_
    ·
      go_simp
      obtain ⟨tg12, hM12, hT12, hL12⟩ := HM.out.alloc (.cells #[.int .i64 xp] 3)
      have HM12 := Lib.hid hM12
      have HB12 := Lib.hid (heap_alloc_new (Wb.drew) (.cells #[.int .i64 xp] 3))
      have HD12 := Lib.hid (And.intro HB12.out hT12)
      refine hK.out _ _ (fun _ => HM12.out.cells) ?_
      clear hK K hM12 hT12 hL12
      try simp only [Act.put, List.setIfInBounds_toArray, List.set_cons_zero, List.set_cons_succ]
      refine wpAnyD_ready [3] (by kernel_rfl) (by simp) ?_
      refine AllReadyD.cons (o := { dst := some 22, op := Op.buildSlice 42 1 #[(0, Operand.tmp 21)], type := 42, pos := "chain.go:176", after := #[{ on := 2, ground := Ground.data }], guard := none }) rfl (fun K hK => ?_) ?_
      ·
        go_simp
        obtain ⟨tg13, hM13, hT13, hL13⟩ := HM12.out.alloc (.cells #[.int .i64 xcl.t, .int .i64 xcl.r, .int .i64 xcl.s, .bool xcl.d, .int .i64 xcl.p, .slice au xcl.ws.length cu] 24)
        have HM13 := Lib.hid hM13
        have HB13 := Lib.hid (heap_alloc_new (((Wb.drew).alloc (.cells #[.int .i64 xp] 3))) (.cells #[.int .i64 xcl.t, .int .i64 xcl.r, .int .i64 xcl.s, .bool xcl.d, .int .i64 xcl.p, .slice au xcl.ws.length cu] 24))
        have HC13 := Lib.hid (show (((((Wb.drew).alloc (.cells #[.int .i64 xp] 3))).alloc (.cells #[.int .i64 xcl.t, .int .i64 xcl.r, .int .i64 xcl.s, .bool xcl.d, .int .i64 xcl.p, .slice au xcl.ws.length cu] 24))).heap[(Wb.drew).heap.size]? = some (.cells #[.int .i64 xp] 3) ∧ tg13 ((Wb.drew).heap.size) = 4 from ⟨(Below.heap_alloc _ _ _ (Array.getElem?_eq_some_iff.1 HD12.out.1).1).trans HD12.out.1, (hL13 _ (Array.getElem?_eq_some_iff.1 HD12.out.1).1).trans HD12.out.2⟩)
        have HD13 := Lib.hid (And.intro HB13.out hT13)
        refine hK.out _ _ (fun _ => HM13.out.cells) ?_
        clear hK K hM13 hT13 hL13
        try simp only [Act.put, List.setIfInBounds_toArray, List.set_cons_zero, List.set_cons_succ]
        refine wpAnyD_ready [4] (by kernel_rfl) (by simp) ?_
        refine AllReadyD.cons (o := { dst := some 23, op := Op.call { callee := Callee.builtin Builtin.append, args := #[Operand.tmp 19, Operand.tmp 22], argTypes := #[42, 42] }, type := 42, pos := "chain.go:176", after := #[{ on := 0, ground := Ground.data }, { on := 3, ground := Ground.data }], guard := none }) rfl (fun K hK => ?_) ?_
        ·
          refine step_append_one (((((Wb.drew).alloc (.cells #[.int .i64 xp] 3))).alloc (.cells #[.int .i64 xcl.t, .int .i64 xcl.r, .int .i64 xcl.s, .bool xcl.d, .int .i64 xcl.p, .slice au xcl.ws.length cu] 24))) rfl (.tmp 19) (.tmp 22) 42 24 6 64 _ (by rfl) (by rfl) Tryd.underlying42 info24 (by rfl) (by omega) (by omega) (w.heap.size + 10) (.slice al pre.length cl') pre.length (rowC pre) (rowC [⟨xp, xcl, .slice au xcl.ws.length cu⟩]) ((((Wb.drew).alloc (.cells #[.int .i64 xp] 3))).heap.size) (by rfl) (by simp [Act.eval, hsb]) HM13.out.rl HD13.out.1 (by rfl) (by intro u hu; simp [rowC] at hu; rcases hu with rfl | rfl | rfl | rfl | rfl | rfl <;> rfl) (by omega) (by have := HM13.out.size; have := HM13.out.n0; omega) ?_
          intro v14 W14 ho14 hg14 hv14
          obtain ⟨tg14, hM14, hL14, hN14⟩ := HM13.out.appL (y := ⟨xp, xcl, .slice au xcl.ws.length cu⟩) ho14 hg14 hv14
          obtain ⟨aw14, cw14, hsh14⟩ := owns_shape ho14
          subst hsh14
          have HM14 := Lib.hid hM14
          have HC14 := Lib.hid (show W14.heap[(Wb.drew).heap.size]? = some (.cells #[.int .i64 xp] 3) ∧ tg14 ((Wb.drew).heap.size) = 4 from ⟨(hN14 _ (Array.getElem?_eq_some_iff.1 HC13.out.1).1 (by rw [HC13.out.2]; decide)).trans HC13.out.1, (hL14 _ (Array.getElem?_eq_some_iff.1 HC13.out.1).1).trans HC13.out.2⟩)
          refine hK.out _ _ (fun _ => HM14.out.cells) ?_
          clear hK K hM14 hL14 hN14 ho14 hg14 hv14
          try simp only [Act.put, List.setIfInBounds_toArray, List.set_cons_zero, List.set_cons_succ]
          refine wpAnyD_ready [9] (by kernel_rfl) (by simp) ?_
          refine AllReadyD.cons (o := { dst := some 28, op := Op.call { callee := Callee.builtin Builtin.append, args := #[Operand.tmp 24, Operand.tmp 27], argTypes := #[22, 22] }, type := 22, pos := "chain.go:176", after := #[{ on := 5, ground := Ground.data }, { on := 8, ground := Ground.data }, { on := 4, ground := Ground.chain }], guard := none }) rfl (fun K hK => ?_) ?_
          ·
            refine step_append_one (W14) rfl (.tmp 24) (.tmp 27) 22 3 1 8 _ (by rfl) (by rfl) Tryd.underlying22 Tryd.info3 (by rfl) (by omega) (by omega) (w.heap.size + 10) (.slice aa (List.map Stp.p pre).length ca') (List.map Stp.p pre).length (ints (List.map Stp.p pre)) [.int .i64 xp] ((Wb.drew).heap.size) (by simp [Act.eval]) (by simp [Act.eval, hsb]) HM14.out.ra HC14.out.1 (by rfl) (by intro u hu; rw [List.mem_singleton] at hu; subst hu; rfl) (by simp; omega) (by have := HM14.out.size; have := HM14.out.n0; omega) ?_
            intro v15 W15 ho15 hg15 hv15
            obtain ⟨tg15, hM15, hL15, hN15⟩ := HM14.out.appA (y := xp) ho15 hg15 hv15
            obtain ⟨aw15, cw15, hsh15⟩ := owns_shape ho15
            subst hsh15
            have HM15 := Lib.hid hM15
            refine hK.out _ _ (fun _ => HM15.out.cells) ?_
            clear hK K hM15 hL15 hN15 ho15 hg15 hv15
            try simp only [Act.put, List.setIfInBounds_toArray, List.set_cons_zero, List.set_cons_succ]
            refine wpAnyD_ready [10] (by kernel_rfl) (by simp) ?_
            refine AllReadyD.cons (o := { dst := none, op := Op.store 42 (Operand.tmp 7) (Operand.tmp 23), type := 0, pos := "chain.go:176", after := #[{ on := 4, ground := Ground.data }, { on := 9, ground := Ground.chain }, { on := 0, ground := Ground.phase }, { on := 1, ground := Ground.phase }, { on := 2, ground := Ground.phase }, { on := 3, ground := Ground.phase }, { on := 4, ground := Ground.phase }, { on := 5, ground := Ground.textOnly Departure.inlinedCapture }, { on := 6, ground := Ground.textOnly Departure.lateStores }, { on := 7, ground := Ground.textOnly Departure.lateStores }, { on := 8, ground := Ground.textOnly Departure.inlinedCapture }, { on := 9, ground := Ground.textOnly Departure.lateStoresUnsure }], guard := none }) rfl (fun K hK => ?_) ?_
            ·
              have p3 := HM15.out.b3.cell
              have q3 := HM15.out.b3.frozen
              have p4 := HM15.out.b4.cell
              have q4 := HM15.out.b4.frozen
              go_simp
              refine hK.out _ _ (fun h => absurd h (by decide)) ?_
              clear hK K
              try simp only [Act.put, List.setIfInBounds_toArray, List.set_cons_zero, List.set_cons_succ]
              refine wpAnyD_ready [11] (by kernel_rfl) (by simp) ?_
              refine AllReadyD.cons (o := { dst := none, op := Op.store 22 (Operand.tmp 8) (Operand.tmp 28), type := 0, pos := "chain.go:176", after := #[{ on := 9, ground := Ground.data }, { on := 10, ground := Ground.chain }, { on := 0, ground := Ground.phase }, { on := 1, ground := Ground.phase }, { on := 2, ground := Ground.phase }, { on := 3, ground := Ground.phase }, { on := 4, ground := Ground.phase }, { on := 5, ground := Ground.phase }, { on := 6, ground := Ground.phase }, { on := 7, ground := Ground.phase }, { on := 8, ground := Ground.phase }, { on := 9, ground := Ground.phase }, { on := 10, ground := Ground.phase }], guard := none }) rfl (fun K hK => ?_) ?_
              ·
                go_simp
                refine hK.out _ _ (fun h => absurd h (by decide)) ?_
                clear hK K
                try simp only [Act.put, List.setIfInBounds_toArray, List.set_cons_zero, List.set_cons_succ]
                refine wpAnyD_done (by kernel_rfl) ?_ _
                obtain ⟨f1, f2, f3, f4⟩ := HM15.out.fin (by simp)
                simp only [List.length_map] at f1 f2 f3 f4
                exact HQN.out _ _ f1 f2 f3 f4
              exact AllReadyD.nil
            exact AllReadyD.nil
          exact AllReadyD.nil
        exact AllReadyD.nil
      exact AllReadyD.nil
    exact AllReadyD.nil
    -- REGION END
  case done =>
    rintro xs W hS ⟨vl, va, tag, hI⟩ hK
    rw [hsz] at hK ⊢
    obtain ⟨al, cl', hvl⟩ := owns_shape hI.rl
    obtain ⟨aa, ca', hva⟩ := owns_shape hI.ra
    subst hvl hva
    have hsW := hI.size
    have c0 := hI.b0.cell
    have f0 := hI.b0.frozen
    have c1 := hI.b1.cell
    have f1 := hI.b1.frozen
    have c2 := hI.b2.cell
    have f2 := hI.b2.frozen
    have c3 := hI.b3.cell
    have c4 := hI.b4.cell
    have l0 := hI.b0.lt
    have l1 := hI.b1.lt
    have l2 := hI.b2.lt
    have l3 := hI.b3.lt
    have l4 := hI.b4.lt
    have HB1 := Lib.hid hI
    have HK := Lib.hid hK
    have HS := Lib.hid hS
    clear hK hI hS
    gi_wp2
    refine wpIn_wide.2 ?_
    refine wp_mono (Q := NoPanic _) ?_ NoPanic.le
    go_region
    all_goals
      rw [NoPanic.normal]
      obtain ⟨g1, g2, g3, g4, g5⟩ := HB1.out.fin
      have hK2 := (g4 (w.heap.size + 7) (by omega)).trans HK.out
      obtain ⟨We, hWe⟩ : ∃ We, fin3 w.heap.size W (.slice al xs.length cl') (.slice aa (xs.map Stp.p).length ca') = We := ⟨_, rfl⟩
      rw [hWe] at g1 g2 g3 g4 g5 hK2
      unfold fin3 at hWe
      rw [List.length_map] at hWe g2
      rw [hWe]
      clear hWe
      have HG4 := Lib.hid g4
      have HG1 := Lib.hid g1
      have HG2 := Lib.hid g2
      have HG3 := Lib.hid g3
      have HG5 := Lib.hid g5
      have HK2 := Lib.hid hK2
      clear g1 g2 g3 g4 g5 hK2
      gi_wp2
      refine ⟨by simp, .inl ⟨_, _, rfl, run_takeDeferred HK2.out, ?_⟩⟩
      have hp : ∀ k, k ≠ w.heap.size + 7 → (We.putObj (w.heap.size + 7) (.deferred none)).heap[k]? = We.heap[k]? := fun k hk => World.putObj_heap_other hk
      have r1 := Boxed.cell (W := We.putObj (w.heap.size + 7) (.deferred none)) (B := w.heap.size) (t := 42) ((hp _ (by omega)).trans HG1.out)
      have r2 := Boxed.cell (W := We.putObj (w.heap.size + 7) (.deferred none)) (B := w.heap.size + 1) (t := 22) ((hp _ (by omega)).trans HG2.out)
      have r3 := Boxed.cell (W := We.putObj (w.heap.size + 7) (.deferred none)) (B := w.heap.size + 2) (t := 27) ((hp _ (by omega)).trans HG3.out)
      refine ⟨.tuple #[.slice al xs.length cl', .slice aa xs.length ca', .int .i64 0], ?_, ⟨xs, .slice al xs.length cl', .slice aa xs.length ca', HS.out, rfl, ?_, ?_, fun x hx => ?_⟩, HG5.out.trans (belowK_b (w := w) (Nat.le_refl _) _ (w.heap.size + 7) _ _ (by omega) HK2.out rfl rfl)⟩
      · simp [results, Tryd.f19, go_sem, r1, r2, r3]
      · exact row_base (by omega) (row_carry (row_carry HB1.out.rl (fun k hk => HG4.out k (by have := (HB1.out.rl.lt k hk).1; omega))) (fun k hk => hp k (by have := (HB1.out.rl.lt k hk).1; omega)))
      · have := HB1.out.ra
        rw [List.length_map] at this
        exact OwnZ.base (by omega) (row_carry (row_carry this (fun k hk => HG4.out k (by have := (OwnZ.lt this hk).1; omega))) (fun k hk => hp k (by have := (OwnZ.lt this hk).1; omega)))
      · have hX := HB1.out.rx x hx
        exact OwnZ.rd (row_carry (row_carry hX (fun k hk => HG4.out k (by have := (OwnZ.lt hX hk).1; omega))) (fun k hk => hp k (by have := (OwnZ.lt hX hk).1; omega)))
  case stop =>
    rintro cd pre W hSp h hK
    exact h.elim

end Go.Proofs.YtcngblnkfiggjaaDoor.Rm
