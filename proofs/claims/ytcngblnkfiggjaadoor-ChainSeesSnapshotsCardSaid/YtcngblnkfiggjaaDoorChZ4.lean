/- Contract of Trim of package chain, in the two cases of the example. -/
import Derived.Test.YtcngblnkfiggjaaDoorChZ3
namespace Go.Proofs.YtcngblnkfiggjaaDoor.Rm
open Go Go.RowKit Go.Maps Go.Shelf
attribute [local go_sem] Oper.semAt_some

set_option maxRecDepth 100000 in
set_option maxHeartbeats 2000000 in
theorem trim_any (w : World) (Bv Bm n : Nat) (M : Int → Int) (F : Nat → Prop) (c : Nat) (h : CV w Bv Bm n M F c) (hc : c < 100000) (T : Tabs w) (its : List It) (q p : Int) (cy cx : Cl) (hch : Chn M n q its) (hits : its.map keyI = [(q, cy), (p, cx)]) (hyd : cy.d = true) (hxd : cx.d = false) (hyp : cy.p = p) (hxp : cx.p = 0) (hys : 3 < cy.s) (hxs : cx.s ≤ 3) (b : Bool) (sa : Option Addr) (sn sc : Nat) (hsv : Rd w (.slice sa sn sc) (if b then [3] else [])) :
    Calls Tryd.prog 34 #[.pointer (some ⟨Bv, 0, none⟩), .int .i64 q, .slice sa sn sc] w fun e w' => (∃ v, e = .returned (.tuple #[.int .i64 (if b then q else 0), v, .int .i64 0]) ∧ Rd w' v (if b then [] else [q, p])) ∧ Below w.heap.size w w' := by
  have hil : its.length = 2 := by have := congrArg List.length hits; simpa using this
  have hB0 : Below w.heap.size w (w.alloc (.cells #[.pointer (some ⟨Bv, 0, none⟩)] 41)) := (Below.refl _ _).alloc (Nat.le_refl _) _
  have HAL := Lib.hid (all_any _ Bv Bm n M F c (h.below hB0) hc (T.below hB0) its q hch (by omega))
  have HSV := Lib.hid hsv
  have HB0 := Lib.hid hB0
  have hmm := @run_makeMap Tryd.prog
  have hsn : sn = if b then 1 else 0 := by
    have := hsv.shape
    obtain ⟨ao, cap, e⟩ := this
    injection e with _ e2 _
    rw [e2]; cases b <;> rfl
  have HSN := Lib.hid hsn
  clear h T hch hsv hB0 hsn
  refine (callsIn_wide (n := 4)).1 ?_
  refine callsIn_of_wp_marks Tryd.func34 rfl trivial ?_ rfl
  simp only [Tryd.ntmps34, List.size_toArray, List.length_cons, List.length_nil, Nat.reduceAdd, Nat.reduceSub, Array.replicate_succ, Array.replicate_zero, List.push_toArray, List.append_toArray, List.nil_append, List.cons_append]
  refine wpIn_wide.2 ?_
  go_wp2_with fail
  refine HAL.out.mono ?_
  rintro e w1 ⟨⟨xs, vl, va, hxs', rfl, hrl, hra, hrx⟩, hb1⟩
  rw [hits] at hxs'
  obtain ⟨vy, vx, rfl⟩ := two_of hxs'
  clear hxs' hits
  obtain ⟨g, gc, hvl⟩ := owns_shape hrl
  obtain ⟨ga, gac, hva⟩ := owns_shape hra
  subst hvl hva
  simp only [List.length_cons, List.length_nil, List.map_cons, List.map_nil, Nat.zero_add, Nat.reduceAdd] at hrl hra ⊢
  rw [World.size_alloc] at hrl hra hb1
  have HRL := Lib.hid hrl
  have HRA := Lib.hid hra
  have HRX := Lib.hid hrx
  have HB1 := Lib.hid (show Below w.heap.size w w1 from HB0.out.trans (hb1.mono (by omega)))
  clear hrl hra hrx hb1 HAL
  obtain ⟨w2, hins, hs2, hT0⟩ := TrM.start w1 (.slice ga 2 gac)
  have HT0 := Lib.hid hT0
  clear hT0
  go_wp2
  clear hins hs2
  go_loopw [34] (fun i wr => ∃ k : Nat, k ≤ sn ∧ i = .int .i64 k ∧ Hid (TrM w1 (.slice ga 2 gac) k wr)) (fun i _ => sn - (RowKit.intOf i).toNat)
  case atStart => exact ⟨0, Nat.zero_le _, rfl, HT0.out⟩
  case round =>
    obtain ⟨k, hk, rfl, hP⟩ := hrel
    by_cases hlt : k < sn
    · have hbt : b = true := by
        have h9 := HSN.out
        cases b with
        | false => simp at h9; omega
        | true => rfl
      subst hbt
      have hsn1 : sn = 1 := HSN.out
      subst hsn1
      obtain rfl : k = 0 := by omega
      have hBw : Below w.heap.size w wr := HB1.out.trans (hP.out.below.mono HB1.out.size)
      have hw1 := HB1.out.size
      have hrd := HSV.out.below hBw
      rcases hrd with ⟨_, _, e1, _⟩ | ⟨bs, off, cs, e1, _, h1, h2, h3, h4⟩
      · cases e1
      simp only [if_true] at e1 h4
      cases e1
      have q0 := h4 0 (by simp)
      simp only [Nat.add_zero] at q0
      have q1 : wr.cell? ⟨bs, off, none⟩ = some (.int .i64 3) := q0
      have r1 := hP.out.r.cell
      clear q0 h4 h1 h2
      have hk1 : (wr.alloc (.cells #[.int .i64 3] 3)).drew.cell? ⟨wr.heap.size, 0, none⟩ = some (.int .i64 3) := (Boxed.new wr 3 (.int .i64 3)).cell
      have hBA : Below (w1.heap.size + 3) wr (wr.alloc (.cells #[.int .i64 3] 3)).drew := ((Below.refl _ wr).alloc hP.out.size _).drew
      have hrowA : (wr.alloc (.cells #[.int .i64 3] 3)).drew.ownsRow (w.heap.size + 1) 24 6 (.slice g 2 gc) 2 (rowC [⟨q, cy, vy⟩, ⟨p, cx, vx⟩]) :=
        row_carry HRL.out (fun k hk => (hBA.block k (by have := (HRL.out.lt k hk).2; omega)).trans (hP.out.below.block k (HRL.out.lt k hk).2))
      obtain ⟨gb, hgb⟩ : ∃ gb, g = some ⟨gb, 0, none⟩ := by
        obtain ⟨_, ⟨e, _⟩ | ⟨g', cap', cur, e, _⟩⟩ := hrowA
        · cases e
        · cases e; exact ⟨_, rfl⟩
      subst hgb
      have hvy : ∃ ao n c, vy = .slice ao n c := by
        obtain ⟨ao, cap, e⟩ := (HRX.out ⟨q, cy, vy⟩ (by simp)).shape
        exact ⟨_, _, _, e⟩
      have hvx : ∃ ao n c, vx = .slice ao n c := by
        obtain ⟨ao, cap, e⟩ := (HRX.out ⟨p, cx, vx⟩ (by simp)).shape
        exact ⟨_, _, _, e⟩
      have HIX := Lib.hid (idx2_any _ (w.heap.size + 1) gb gc ⟨q, cy, vy⟩ ⟨p, cx, vx⟩ hrowA hvy hvx wr.heap.size 3 hk1 (by simp) hys hxs)
      have HST := Lib.hid (fun (w5 : World) (hb : Below (wr.alloc (.cells #[.int .i64 3] 3)).drew.heap.size (wr.alloc (.cells #[.int .i64 3] 3)).drew w5) => (show w5.cell? ⟨w1.heap.size + 2, 0, none⟩ = some (.map (some (w1.heap.size + 1))) ∧ ∃ w6, (Instr.mapUpdate 99 (.map (some (w1.heap.size + 1))) (.int .i64 1) (.bool true)).run Tryd.prog w5 = .ok () w6 ∧ TrM w1 (.slice ga 2 gac) 1 w6 ∧ w6.cell? ⟨w1.heap.size + 2, 0, none⟩ = some (.map (some (w1.heap.size + 1))) from by
        have hb5 := hBA.trans (hb.mono (by simp; have := hP.out.size; omega))
        obtain ⟨w6, hr6, ht6⟩ := hP.out.step hb5
        exact ⟨(hP.out.keep hb5).r.cell, w6, hr6, ht6, ht6.r.cell⟩))
      clear hk1 hBA hrowA hvy hvx
      go_wp2
      go_region_held3 (fun W => W.cell? ⟨w1.heap.size + 2, 0, none⟩ = some (.map (some (w1.heap.size + 1)))) (first | assumption | go_keep) (first | ((go_at_call 68; refine HIX.out.mono ?_; rintro e w5 ⟨rfl, hb5⟩; obtain ⟨hc5, w6, hr6, ht6, hc6⟩ := HST.out w5 hb5; have HT6 := Lib.hid ht6; clear ht6 hb5)))
      go_wp2
      go_roundw
      case rel => exact ⟨_, _, _, _, _, _, _, _, _, _, ⟨1, by omega, rfl, HT6.out⟩, rfl⟩
      case measure => simp [RowKit.intOf]
    · have hks : k = sn := by omega
      obtain ⟨gb, hgb⟩ : ∃ gb, g = some ⟨gb, 0, none⟩ := by
        obtain ⟨_, ⟨e, _⟩ | ⟨g', cap', cur, e, _⟩⟩ := HRL.out
        · cases e
        · cases e; exact ⟨_, rfl⟩
      subst hgb
      have HP := hP
      have HKS := Lib.hid hks
      have hw1 := HB1.out.size
      have hwr := hP.out.size
      have hgl := (HRL.out.lt gb rfl).2
      have hrw : wr.ownsRow (w.heap.size + 1) 24 6 (.slice (some ⟨gb, 0, none⟩) 2 gc) 2 (rowC [⟨q, cy, vy⟩, ⟨p, cx, vx⟩]) :=
        row_carry HRL.out (fun k hk => hP.out.below.block k (HRL.out.lt k hk).2)
      have HRW := Lib.hid hrw
      clear hks hP hrw
      go_wp2_with fail
      refine (callsIn_wide.1 (backC_any 0 _ _ _ _)).mono ?_
      rintro e w' ⟨rfl, rfl⟩
      go_wp2
      simp only [Nat.add_assoc, Nat.reduceAdd]
      obtain ⟨W0, hW0⟩ : ∃ W0, (((wr.alloc (.cells #[.int .i64 0] 3)).alloc (.cells #[.bool false] 4)).alloc (.cells #[.slice none 0 0] 22)).alloc (.cells #[.slice (some ⟨gb, 0, none⟩) 2 gc] 42) = W0 := ⟨_, rfl⟩
      have hsz : W0.heap.size = wr.heap.size + 4 := by rw [← hW0]; simp
      have hI0 : ∀ r, TrI wr.heap.size wr (.slice (some ⟨gb, 0, none⟩) 2 gc) 0 false (.slice none 0 0) [] ((W0.alloc (.deferred (some []))).alloc (.loop r)) := fun r => by
        rw [← hW0]
        refine ⟨at_old (at_old (at_old (at_old (at_old (heap_alloc_new _ _))))), at_old (at_old (at_old (at_old (new_at (by simp))))), at_old (at_old (at_old (new_at (by simp)))), at_old (at_old (new_at (by simp))), OwnZ.nil _ _, ?_, by simp⟩
        exact (((((((Below.refl _ wr).alloc (Nat.le_refl _) _).alloc (by simp) _).alloc (by simp; omega) _).alloc (by simp; omega) _).alloc (by simp; omega) _).alloc (by simp; omega) _)
      have hB4 : Below wr.heap.size wr W0 := by
        rw [← hW0]
        exact (((((Below.refl _ wr).alloc (Nat.le_refl _) _).alloc (by simp) _).alloc (by simp; omega) _).alloc (by simp; omega) _)
      have hbx : Boxed W0 (wr.heap.size + 3) 42 (.slice (some ⟨gb, 0, none⟩) 2 gc) := by rw [← hW0]; exact new_at (by simp)
      rw [hW0]
      clear hW0
      have HI0 := Lib.hid hI0
      have HB4 := Lib.hid hB4
      have HBX := Lib.hid hbx
      clear hI0 hB4 hbx
      refine (wpIn_wide (n := 4)).1 (range_c (by omega) (gf := 97) (lb := #[.pointer (some ⟨wr.heap.size + 3, 0, none⟩)]) rfl (enters_of Tryd.func97 (by kernel_rfl) rfl) (encs := encB) (fun _ => rfl)
        (fun A B => A = B) (fun pre x A0 A => x = downC [⟨q, cy, vy⟩, ⟨p, cx, vx⟩] pre.length ∧ A0 = A) (fun _ A B => B.heap[wr.heap.size + 3]? = A.heap[wr.heap.size + 3]? ∧ B.heap[gb]? = A.heap[gb]?) (fun ys => ys = uptoC [⟨q, cy, vy⟩, ⟨p, cx, vx⟩] 2) (fun pre => ∃ k, k ≤ 2 ∧ pre = uptoC [⟨q, cy, vy⟩, ⟨p, cx, vx⟩] k) 2
        (fun W1 hb1 hs1 => ?seq)
        (TrP b q p wr.heap.size wr (.slice (some ⟨gb, 0, none⟩) 2 gc)) (fun _ _ _ => False)
        ?stp (fun pre A B h hs => hs ▸ h) ?pl ?pxl ?start ?round ?done ?stop)
      case seq =>
        exact backC_c (4 - 1) (by omega) (wr.heap.size + 3) gb gc (w.heap.size + 1) [⟨q, cy, vy⟩, ⟨p, cx, vx⟩] (by simp) (by simp) W1 ((hb1.block _ (by omega)).trans HBX.out) (row_carry HRW.out (fun k hk => by cases hk; exact (hb1.block _ (by show gb < _; omega)).trans (HB4.out.block _ (by show gb < _; omega))))
      case stp =>
        intro A B k o hs hk ho
        exact hs ▸ ho
      case pl =>
        rintro pre A r r' ⟨vo, h⟩ hl
        rw [show W0.heap.size + 1 = wr.heap.size + 5 by omega]
        exact ⟨vo, h.put _⟩
      case pxl =>
        intro cd pre A r r' h hl
        exact h
      case start =>
        intro r
        exact ⟨_, by cases b <;> exact HI0.out r⟩
      case round =>
        rintro pre x A0 A r ⟨vo, hI⟩ rfl ⟨hx, _⟩ hlt hkA hlA
        rw [hsz] at hkA hlA
        have hrA : A0.ownsRow (w.heap.size + 1) 24 6 (.slice (some ⟨gb, 0, none⟩) 2 gc) 2 (rowC [⟨q, cy, vy⟩, ⟨p, cx, vx⟩]) :=
          row_carry HRW.out (fun k hk => by cases hk; exact hI.below.block _ (by show gb < _; omega))
        have hTA : TrM w1 (.slice ga 2 gac) sn A0 := HKS.out ▸ HP.out.keep ⟨hI.below.os, hI.below.tape, hI.below.output, hI.below.size, fun k hk => hI.below.block k (by omega)⟩
        obtain ⟨xi, xp, xcl, xv⟩ := x
        obtain ⟨gai, hgai⟩ : ∃ gai, ga = some ⟨gai, 0, none⟩ := by
          obtain ⟨_, ⟨e, _⟩ | ⟨g', cap', cur, e, _⟩⟩ := HRA.out
          · cases e
          · cases e; exact ⟨_, rfl⟩
        subst hgai
        have hgal := (OwnZ.lt HRA.out (k := gai) rfl).2
        have hxv : ∃ ao n c, xv = .slice ao n c := by
          have hxs2 : (⟨xp, xcl, xv⟩ : Stp) ∈ [(⟨q, cy, vy⟩ : Stp), ⟨p, cx, vx⟩] := by
            have : pre.length = 0 ∨ pre.length = 1 := by omega
            rcases this with e | e
            · rw [e] at hx
              cases hx
              simp [nthS]
            · rw [e] at hx
              cases hx
              simp [nthS]
          obtain ⟨ao, cap, e⟩ := (HRX.out _ hxs2).shape
          exact ⟨_, _, _, e⟩
        obtain ⟨au, nu, cu, rfl⟩ := hxv
        have HX := Lib.hid hx
        have HI := Lib.hid hI
        have HTA := Lib.hid hTA
        have HRR := Lib.hid hrA
        clear hx hI hTA hrA
        simp only [encB, clV]
        gi_wp2
        try simp only [hsz, Nat.reduceSub]
        refine ⟨at_old hkA, at_old hlA, fun r' => ?_⟩
        have hsA := HI.out.size
        have hlw : wr.heap.size + 4 + 1 < (A0.alloc (boxC xcl (.slice au nu cu))).heap.size := by simp; omega
        have hoth : ∀ k, k < A0.heap.size → k ≠ wr.heap.size + 5 → ((A0.alloc (boxC xcl (.slice au nu cu))).putObj (wr.heap.size + 4 + 1) (.loop r')).heap[k]? = A0.heap[k]? := fun k hk hne =>
          (World.putObj_heap_other (by omega)).trans (Below.heap_alloc _ _ _ hk)
        have hbx : ((A0.alloc (boxC xcl (.slice au nu cu))).putObj (wr.heap.size + 4 + 1) (.loop r')).heap[A0.heap.size]? = some (boxC xcl (.slice au nu cu)) := (World.putObj_heap_other (by omega)).trans (heap_alloc_new _ _)
        have hbl : ((A0.alloc (boxC xcl (.slice au nu cu))).putObj (wr.heap.size + 4 + 1) (.loop r')).heap[wr.heap.size + 4 + 1]? = some (.loop r') := World.putObj_heap_same hlw
        have hbd := (hoth (wr.heap.size + 4) (by omega) (by omega)).trans hkA
        have hos : ((A0.alloc (boxC xcl (.slice au nu cu))).putObj (wr.heap.size + 4 + 1) (.loop r')).os = A0.os ∧ ((A0.alloc (boxC xcl (.slice au nu cu))).putObj (wr.heap.size + 4 + 1) (.loop r')).tape = A0.tape ∧ ((A0.alloc (boxC xcl (.slice au nu cu))).putObj (wr.heap.size + 4 + 1) (.loop r')).output = A0.output := ⟨rfl, rfl, rfl⟩
        have hsb : ((A0.alloc (boxC xcl (.slice au nu cu))).putObj (wr.heap.size + 4 + 1) (.loop r')).heap.size = A0.heap.size + 1 := by rw [World.putObj_size]; simp
        unfold boxC at hbx hbl hbd hoth hsb hos
        obtain ⟨Wb, hWb⟩ : ∃ Wb, (A0.alloc (.cells #[.int .i64 xcl.t, .int .i64 xcl.r, .int .i64 xcl.s, .bool xcl.d, .int .i64 xcl.p, .slice au nu cu] 24)).putObj (wr.heap.size + 4 + 1) (.loop r') = Wb := ⟨_, rfl⟩
        rw [hWb] at hbx hbl hbd hoth hsb hos ⊢
        clear hWb hlw
        have hIb := HI.out.keep (fun k hk hc => hoth k hk (by omega)) hos (by omega)
        have hTb : TrM w1 (.slice (some ⟨gai, 0, none⟩) 2 gac) sn Wb := HTA.out.keep ⟨hos.1, hos.2.1, hos.2.2, by omega, fun k hk => hoth k (by omega) (by omega)⟩
        have hva : OwnZ Wb (w.heap.size + 1) (.slice (some ⟨gai, 0, none⟩) 2 gac) [q, p] := row_carry HRA.out (fun k hk => by cases hk; exact hTb.below.block _ hgal)
        obtain ⟨u0, u1, u2, u3, u4, u5⟩ := boxC_cells hbx
        have ur : A0.heap.size < Wb.heap.size := by omega
        have v0 : Wb.cell? ⟨gai, 0, none⟩ = some (.int .i64 q) := hva.cellAt 0 (by simp)
        have v1 : Wb.cell? ⟨gai, 1, none⟩ = some (.int .i64 p) := hva.cellAt 1 (by simp)
        have a0 := hTb.a.cell
        have r1 := hTb.r.cell
        have n0 := hIb.nxt.cell
        have n1 := hIb.nxt.frozen
        have l0 := hIb.liv.cell
        have l1 := hIb.liv.frozen
        have o0 := hIb.out.cell
        have o1 := hIb.out.frozen
        have b0 := hIb.bx.cell
        have HIB := Lib.hid hIb
        have HTB := Lib.hid hTb
        have HVA := Lib.hid hva
        have HBD := Lib.hid hbd
        have HBL := Lib.hid hbl
        have HBX := Lib.hid hbx
        have HOTH := Lib.hid hoth
        have HOS := Lib.hid hos
        clear hIb hTb hva hbd hbl hbx hoth hos
        have hQn : ∀ (a : Act) (B : World), B.heap[wr.heap.size + 4]? = some (.deferred (some [])) → B.heap[wr.heap.size + 4 + 1]? = some (.loop r') → TrP b q p wr.heap.size wr (.slice (some ⟨gb, 0, none⟩) 2 gc) (pre ++ [⟨xi, xp, xcl, .slice au nu cu⟩]) B → B.heap[gb]? = A0.heap[gb]? → roundC (wr.heap.size + 4) r' (fun B => B.heap[wr.heap.size + 3]? = A0.heap[wr.heap.size + 3]? ∧ B.heap[gb]? = A0.heap[gb]?) (TrP b q p wr.heap.size wr (.slice (some ⟨gb, 0, none⟩) 2 gc)) (fun _ _ _ => False) (pre ++ [⟨xi, xp, xcl, .slice au nu cu⟩]) .normal a B := fun _ B h1 h2 h3 h4 => by
          refine ⟨h1, h2, h3, fun r'' => ⟨?_, ?_⟩⟩
          · obtain ⟨vo', h3⟩ := h3
            exact (World.putObj_heap_other (by omega)).trans (h3.bx.trans HI.out.bx.symm)
          · exact (World.putObj_heap_other (by omega)).trans h4
        have hQx : (∀ a W, ¬ roundC (wr.heap.size + 4) r' (fun B => B.heap[wr.heap.size + 3]? = A0.heap[wr.heap.size + 3]? ∧ B.heap[gb]? = A0.heap[gb]?) (TrP b q p wr.heap.size wr (.slice (some ⟨gb, 0, none⟩) 2 gc)) (fun _ _ _ => False) (pre ++ [⟨xi, xp, xcl, .slice au nu cu⟩]) .outgrown a W) ∧ (∀ c a W, ¬ roundC (wr.heap.size + 4) r' (fun B => B.heap[wr.heap.size + 3]? = A0.heap[wr.heap.size + 3]? ∧ B.heap[gb]? = A0.heap[gb]?) (TrP b q p wr.heap.size wr (.slice (some ⟨gb, 0, none⟩) 2 gc)) (fun _ _ _ => False) (pre ++ [⟨xi, xp, xcl, .slice au nu cu⟩]) (.panic c) a W) := ⟨fun _ _ h => h, fun _ _ _ h => h⟩
        generalize roundC (wr.heap.size + 4) r' (fun B => B.heap[wr.heap.size + 3]? = A0.heap[wr.heap.size + 3]? ∧ B.heap[gb]? = A0.heap[gb]?) (TrP b q p wr.heap.size wr (.slice (some ⟨gb, 0, none⟩) 2 gc)) (fun _ _ _ => False) (pre ++ [⟨xi, xp, xcl, .slice au nu cu⟩]) = Qc at hQn hQx ⊢
        have HQN := Lib.hid hQn
        have HQX := Lib.hid hQx
        clear hQn hQx
        have hmx : Tryd.prog.follows .mixedOrders = true := by kernel_rfl
        have hk01 : pre.length = 0 ∨ pre.length = 1 := by omega
        cases b with
        | true =>
          have hsn1 : sn = 1 := HSN.out
          rcases hk01 with hk0 | hk1
          · have hx := HX.out
            rw [hk0] at hx
            have hxi : xi = 1 ∧ xp = p ∧ xcl = cx ∧ Value.slice au nu cu = vx := by cases hx; exact ⟨rfl, rfl, rfl, rfl⟩
            obtain ⟨rfl, rfl, rfl, rfl⟩ := hxi
            clear hx
            have lk : (Instr.lookup 99 (.map (some (w1.heap.size + 1))) (.int .i64 1) false).run Tryd.prog Wb = .ok (.bool true) Wb := by
              have := HTB.out.m.look (j := 1) (.inr rfl)
              rw [hsn1] at this
              exact this
            have en : nxF true q xp pre.length = 0 := by rw [hk0]; rfl
            have el : lvF true pre.length = false := by rw [hk0]; rfl
            rw [en] at n0
            rw [el] at l0
            obtain ⟨hS, hS2⟩ := HIB.out.set xp true
            have HS := Lib.hid hS
            have HS2 := Lib.hid hS2
            clear hS hS2
            gi_wp2
            have hgbw : gb < wr.heap.size := by omega
            refine HQN.out _ _ ((HS2.out _ (by omega) (by omega)).trans HBD.out) ((HS2.out _ (by omega) (by omega)).trans HBL.out) ⟨vo, ?_⟩ ((HS2.out gb (by omega) (by omega)).trans (HOTH.out gb (by omega) (by omega)))
            rw [List.length_append, List.length_singleton, hk0]
            exact HS.out
          · have hx := HX.out
            rw [hk1] at hx
            have hxi : xi = 0 ∧ xp = q ∧ xcl = cy ∧ Value.slice au nu cu = vy := by cases hx; exact ⟨rfl, rfl, rfl, rfl⟩
            obtain ⟨rfl, rfl, rfl, rfl⟩ := hxi
            clear hx
            have lk : (Instr.lookup 99 (.map (some (w1.heap.size + 1))) (.int .i64 0) false).run Tryd.prog Wb = .ok (.bool true) Wb := by
              have := HTB.out.m.look (j := 0) (.inl rfl)
              rw [hsn1] at this
              exact this
            have en : nxF true xp p pre.length = p := by rw [hk1]; rfl
            have el : lvF true pre.length = true := by rw [hk1]; rfl
            rw [en] at n0
            rw [el] at l0
            obtain ⟨hS, hS2⟩ := HIB.out.set xp false
            have HS := Lib.hid hS
            have HS2 := Lib.hid hS2
            clear hS hS2
            gi_wp2
            have hgbw : gb < wr.heap.size := by omega
            refine HQN.out _ _ ((HS2.out _ (by omega) (by omega)).trans HBD.out) ((HS2.out _ (by omega) (by omega)).trans HBL.out) ⟨vo, ?_⟩ ((HS2.out gb (by omega) (by omega)).trans (HOTH.out gb (by omega) (by omega)))
            rw [List.length_append, List.length_singleton, hk1]
            exact HS.out
        | false =>
          have hsn0 : sn = 0 := HSN.out
          rcases hk01 with hk0 | hk1
          · have hx := HX.out
            rw [hk0] at hx
            have hxi : xi = 1 ∧ xp = p ∧ xcl = cx ∧ Value.slice au nu cu = vx := by cases hx; exact ⟨rfl, rfl, rfl, rfl⟩
            obtain ⟨rfl, rfl, rfl, rfl⟩ := hxi
            clear hx
            have lk : (Instr.lookup 99 (.map (some (w1.heap.size + 1))) (.int .i64 1) false).run Tryd.prog Wb = .ok (.bool false) Wb := by
              have := HTB.out.m.look (j := 1) (.inr rfl)
              rw [hsn0] at this
              exact this
            have en : nxF false q xp pre.length = 0 := rfl
            have el : lvF false pre.length = false := rfl
            rw [en] at n0
            rw [el] at l0
            have hI2 : TrI wr.heap.size wr (.slice (some ⟨gb, 0, none⟩) 2 gc) 0 false vo [] Wb := by
              have h9 := HIB.out
              rw [show ouF false q xp pre.length = [] by rw [hk0]; rfl] at h9
              exact h9
            obtain ⟨oa, oc, hvo⟩ := owns_shape hI2.own
            subst hvo
            have HI2 := Lib.hid hI2
            clear hI2
            have hc1 : ((1 : Nat) : Int) = 1 := rfl
            have hc0 : ((0 : Nat) : Int) = 0 := rfl
            skip
            gi_wp2
            -- REGION A BEGIN
            refine wpIn_region_D (fun W => W.cell? ⟨wr.heap.size + 2, 0, none⟩ = some (.slice oa 0 oc) ∧ W.cell? ⟨w1.heap.size, 0, none⟩ = some (.slice (some ⟨gai, 0, none⟩) 2 gac) ∧ W.cell? ⟨gai, 1, none⟩ = some (.int .i64 xp)) [6, 7] hmx (by kernel_rfl) (fun ⟨a, w, h⟩ => HQX.out.1 a w h) ⟨o0, a0, v1⟩ (fun hHeld => ?_)
            refine wpAnyD_take (i := 1) (oi := { dst := some 68, op := Op.load 22 (Operand.tmp 10), type := 22, pos := "chain.go:211", after := #[], guard := none }) (v := ?_) [3, 4, 5, 6, 7] rfl (by kernel_rfl) (by kernel_rfl) (by kernel_rfl) (by kernel_rfl) (fun c a w h => (HQX.out.2 c _ w h).elim) (Or.inl ⟨by rfl, ?_⟩) (by assumption) ?_
            rotate_left
            · intro w hSw; (try dsimp only at hSw); go_simp; try with_reducible rfl
            try simp only [Act.put, List.setIfInBounds_toArray, List.set_cons_zero, List.set_cons_succ]
            refine wpAnyD_take (i := 2) (oi := { dst := some 69, op := Op.move (Operand.tmp 18), type := 3, pos := "chain.go:211", after := #[], guard := none }) (v := ?_) [3, 4, 5, 6, 7] rfl (by kernel_rfl) (by kernel_rfl) (by kernel_rfl) (by kernel_rfl) (fun c a w h => (HQX.out.2 c _ w h).elim) (Or.inl ⟨by rfl, ?_⟩) (by assumption) ?_
            rotate_left
            · intro w hSw; (try dsimp only at hSw); go_simp; try with_reducible rfl
            try simp only [Act.put, List.setIfInBounds_toArray, List.set_cons_zero, List.set_cons_succ]
            refine wpAnyD_take (i := 3) (oi := { dst := some 70, op := Op.indexAddr 22 (Operand.tmp 68) (Operand.tmp 69), type := 0, pos := "chain.go:211", after := #[{ on := 1, ground := Ground.data }, { on := 2, ground := Ground.data }], guard := none }) (v := ?_) [4, 5, 6, 7] rfl (by kernel_rfl) (by kernel_rfl) (by kernel_rfl) (by kernel_rfl) (fun c a w h => (HQX.out.2 c _ w h).elim) (Or.inl ⟨by rfl, ?_⟩) (by assumption) ?_
            rotate_left
            · intro w hSw; (try dsimp only at hSw); go_simp; try with_reducible rfl
            try simp only [Act.put, List.setIfInBounds_toArray, List.set_cons_zero, List.set_cons_succ]
            refine wpAnyD_take (i := 4) (oi := { dst := some 71, op := Op.load 3 (Operand.tmp 70), type := 3, pos := "chain.go:211", after := #[{ on := 3, ground := Ground.data }], guard := none }) (v := ?_) [5, 6, 7] rfl (by kernel_rfl) (by kernel_rfl) (by kernel_rfl) (by kernel_rfl) (fun c a w h => (HQX.out.2 c _ w h).elim) (Or.inl ⟨by rfl, ?_⟩) (by assumption) ?_
            rotate_left
            · intro w hSw; (try dsimp only at hSw); go_simp; try with_reducible rfl
            try simp only [Act.put, List.setIfInBounds_toArray, List.set_cons_zero, List.set_cons_succ]
            refine wpAnyD_take (i := 0) (oi := { dst := some 67, op := Op.load 22 (Operand.tmp 17), type := 22, pos := "chain.go:211", after := #[], guard := none }) (v := ?_) [6, 7] rfl (by kernel_rfl) (by kernel_rfl) (by kernel_rfl) (by kernel_rfl) (fun c a w h => (HQX.out.2 c _ w h).elim) (Or.inl ⟨by rfl, ?_⟩) (by assumption) ?_
            rotate_left
            · intro w hSw; (try dsimp only at hSw); go_simp; try with_reducible rfl
            try simp only [Act.put, List.setIfInBounds_toArray, List.set_cons_zero, List.set_cons_succ]
            clear hHeld
            refine wpAnyD_ready [5] (by kernel_rfl) (by simp) ?_
            refine AllReadyD.cons (o := { dst := some 72, op := Op.buildSlice 22 1 #[(0, Operand.tmp 71)], type := 22, pos := "chain.go:211", after := #[{ on := 4, ground := Ground.data }], guard := none }) rfl (fun K hK => ?_) AllReadyD.nil
            go_simp
            have hA5 : ∀ {a : Addr} {v : Value}, Wb.cell? a = some v → (Wb.drew.alloc (.cells #[.int .i64 xp] 3)).cell? a = some v := fun h => (World.cell?_alloc_lt _ _ _ (World.block_lt_of_cell? _ _ h)).trans h
            have hI5 := HI2.out.keep (B := Wb.drew.alloc (.cells #[.int .i64 xp] 3)) (fun k hk _ => Below.heap_alloc _ _ _ hk) ⟨rfl, rfl, rfl⟩ (by simp)
            have HI5 := Lib.hid hI5
            have HN5 := Lib.hid (heap_alloc_new Wb.drew (.cells #[.int .i64 xp] 3))
            refine hK.out _ _ (fun _ => ⟨hA5 o0, hA5 a0, hA5 v1⟩) ?_
            clear hK K hI5 hA5
            try simp only [Act.put, List.setIfInBounds_toArray, List.set_cons_zero, List.set_cons_succ]
            refine wpAnyD_ready [6] (by kernel_rfl) (by simp) ?_
            refine AllReadyD.cons (o := { dst := some 73, op := Op.call { callee := Callee.builtin Builtin.append, args := #[Operand.tmp 67, Operand.tmp 72], argTypes := #[22, 22] }, type := 22, pos := "chain.go:211", after := #[{ on := 0, ground := Ground.data }, { on := 5, ground := Ground.data }], guard := none }) rfl (fun K hK => ?_) AllReadyD.nil
            refine step_append_one (Wb.drew.alloc (.cells #[.int .i64 xp] 3)) rfl (.tmp 67) (.tmp 72) 22 3 1 8 _ (by rfl) (by rfl) Tryd.underlying22 Tryd.info3 (by rfl) (by omega) (by omega) (wr.heap.size + 6) (.slice oa 0 oc) 0 (ints []) [.int .i64 xp] (Wb.drew.heap.size) (by simp [Act.eval]) (by simp [Act.eval, hsb]) HI5.out.own HN5.out (by rfl) (by intro u hu; rw [List.mem_singleton] at hu; subst hu; rfl) (by omega) (by have := HI5.out.size; omega) ?_
            intro v6 W6 ho6 hg6 hv6
            obtain ⟨hS6, hS7⟩ := HI5.out.setOut (show OwnZ W6 (wr.heap.size + 6) v6 ([] ++ [xp]) from ho6) hg6
            have hb6 : Boxed W6 (wr.heap.size + 2) 22 (.slice oa 0 oc) := (hg6.block _ (by have := HI5.out.size; omega) (fun e => by have := (OwnZ.lt HI5.out.own e.symm).1; omega)).trans HI5.out.out
            have hN7 : ∀ k, k < wr.heap.size + 6 → k ≠ wr.heap.size + 2 → (W6.setCell ⟨wr.heap.size + 2, 0, none⟩ v6).heap[k]? = Wb.heap[k]? := fun k hk h2 => (hS7 k (by simp; omega) h2 (fun e => by have := (OwnZ.lt HI5.out.own e.symm).1; omega)).trans (Below.heap_alloc _ _ _ (show k < Wb.drew.heap.size by show k < Wb.heap.size; omega))
            obtain ⟨a6, c6, hsh6⟩ := owns_shape ho6
            subst hsh6
            have HS6 := Lib.hid hS6
            have HS7 := Lib.hid hN7
            have m0 := hb6.cell
            have m1 := hb6.frozen
            refine hK.out _ _ (fun h => absurd h (by decide)) ?_
            clear hK K hS6 hS7 hN7 ho6 hg6 hv6 hb6
            try simp only [Act.put, List.setIfInBounds_toArray, List.set_cons_zero, List.set_cons_succ]
            refine wpAnyD_ready [7] (by kernel_rfl) (by simp) ?_
            refine AllReadyD.cons (o := { dst := none, op := Op.store 22 (Operand.tmp 17) (Operand.tmp 73), type := 0, pos := "chain.go:211", after := #[{ on := 6, ground := Ground.data }, { on := 6, ground := Ground.chain }, { on := 0, ground := Ground.phase }, { on := 1, ground := Ground.phase }, { on := 2, ground := Ground.phase }, { on := 3, ground := Ground.phase }, { on := 4, ground := Ground.phase }, { on := 5, ground := Ground.phase }, { on := 6, ground := Ground.phase }], guard := none }) rfl (fun K hK => ?_) AllReadyD.nil
            go_simp
            refine hK.out _ _ (fun h => absurd h (by decide)) ?_
            clear hK K
            try simp only [Act.put, List.setIfInBounds_toArray, List.set_cons_zero, List.set_cons_succ]
            refine wpAnyD_done (by kernel_rfl) ?_ _
            gi_wp2
            have hgbw : gb < wr.heap.size := by omega
            refine HQN.out _ _ ((HS7.out _ (by omega) (by omega)).trans HBD.out) ((HS7.out _ (by omega) (by omega)).trans HBL.out) ⟨.slice a6 (0 + 1) c6, ?_⟩ ((HS7.out gb (by omega) (by omega)).trans (HOTH.out gb (by omega) (by omega)))
            rw [List.length_append, List.length_singleton, hk0]
            exact HS6.out
            -- REGION A END
          · have hx := HX.out
            rw [hk1] at hx
            have hxi : xi = 0 ∧ xp = q ∧ xcl = cy ∧ Value.slice au nu cu = vy := by cases hx; exact ⟨rfl, rfl, rfl, rfl⟩
            obtain ⟨rfl, rfl, rfl, rfl⟩ := hxi
            clear hx
            have lk : (Instr.lookup 99 (.map (some (w1.heap.size + 1))) (.int .i64 0) false).run Tryd.prog Wb = .ok (.bool true) Wb := by
              have := HTB.out.m.look (j := 0) (.inl rfl)
              rw [hsn0] at this
              exact this
            have en : nxF false xp p pre.length = 0 := rfl
            have el : lvF false pre.length = false := rfl
            rw [en] at n0
            rw [el] at l0
            have hI2 : TrI wr.heap.size wr (.slice (some ⟨gb, 0, none⟩) 2 gc) 0 false vo [p] Wb := by
              have h9 := HIB.out
              rw [show ouF false xp p pre.length = [p] by rw [hk1]; rfl] at h9
              exact h9
            obtain ⟨oa, oc, hvo⟩ := owns_shape hI2.own
            subst hvo
            have HI2 := Lib.hid hI2
            clear hI2
            have hc1 : ((1 : Nat) : Int) = 1 := rfl
            have hc0 : ((0 : Nat) : Int) = 0 := rfl
            have z1 := hyd
            gi_wp2
            -- REGION B BEGIN
            refine wpIn_region_D (fun W => W.cell? ⟨wr.heap.size + 2, 0, none⟩ = some (.slice oa 1 oc) ∧ W.cell? ⟨w1.heap.size, 0, none⟩ = some (.slice (some ⟨gai, 0, none⟩) 2 gac) ∧ W.cell? ⟨gai, 0, none⟩ = some (.int .i64 xp)) [6, 7] hmx (by kernel_rfl) (fun ⟨a, w, h⟩ => HQX.out.1 a w h) ⟨o0, a0, v0⟩ (fun hHeld => ?_)
            refine wpAnyD_take (i := 1) (oi := { dst := some 68, op := Op.load 22 (Operand.tmp 10), type := 22, pos := "chain.go:211", after := #[], guard := none }) (v := ?_) [3, 4, 5, 6, 7] rfl (by kernel_rfl) (by kernel_rfl) (by kernel_rfl) (by kernel_rfl) (fun c a w h => (HQX.out.2 c _ w h).elim) (Or.inl ⟨by rfl, ?_⟩) (by assumption) ?_
            rotate_left
            · intro w hSw; (try dsimp only at hSw); go_simp; try with_reducible rfl
            try simp only [Act.put, List.setIfInBounds_toArray, List.set_cons_zero, List.set_cons_succ]
            refine wpAnyD_take (i := 2) (oi := { dst := some 69, op := Op.move (Operand.tmp 18), type := 3, pos := "chain.go:211", after := #[], guard := none }) (v := ?_) [3, 4, 5, 6, 7] rfl (by kernel_rfl) (by kernel_rfl) (by kernel_rfl) (by kernel_rfl) (fun c a w h => (HQX.out.2 c _ w h).elim) (Or.inl ⟨by rfl, ?_⟩) (by assumption) ?_
            rotate_left
            · intro w hSw; (try dsimp only at hSw); go_simp; try with_reducible rfl
            try simp only [Act.put, List.setIfInBounds_toArray, List.set_cons_zero, List.set_cons_succ]
            refine wpAnyD_take (i := 3) (oi := { dst := some 70, op := Op.indexAddr 22 (Operand.tmp 68) (Operand.tmp 69), type := 0, pos := "chain.go:211", after := #[{ on := 1, ground := Ground.data }, { on := 2, ground := Ground.data }], guard := none }) (v := ?_) [4, 5, 6, 7] rfl (by kernel_rfl) (by kernel_rfl) (by kernel_rfl) (by kernel_rfl) (fun c a w h => (HQX.out.2 c _ w h).elim) (Or.inl ⟨by rfl, ?_⟩) (by assumption) ?_
            rotate_left
            · intro w hSw; (try dsimp only at hSw); go_simp; try with_reducible rfl
            try simp only [Act.put, List.setIfInBounds_toArray, List.set_cons_zero, List.set_cons_succ]
            refine wpAnyD_take (i := 4) (oi := { dst := some 71, op := Op.load 3 (Operand.tmp 70), type := 3, pos := "chain.go:211", after := #[{ on := 3, ground := Ground.data }], guard := none }) (v := ?_) [5, 6, 7] rfl (by kernel_rfl) (by kernel_rfl) (by kernel_rfl) (by kernel_rfl) (fun c a w h => (HQX.out.2 c _ w h).elim) (Or.inl ⟨by rfl, ?_⟩) (by assumption) ?_
            rotate_left
            · intro w hSw; (try dsimp only at hSw); go_simp; try with_reducible rfl
            try simp only [Act.put, List.setIfInBounds_toArray, List.set_cons_zero, List.set_cons_succ]
            refine wpAnyD_take (i := 0) (oi := { dst := some 67, op := Op.load 22 (Operand.tmp 17), type := 22, pos := "chain.go:211", after := #[], guard := none }) (v := ?_) [6, 7] rfl (by kernel_rfl) (by kernel_rfl) (by kernel_rfl) (by kernel_rfl) (fun c a w h => (HQX.out.2 c _ w h).elim) (Or.inl ⟨by rfl, ?_⟩) (by assumption) ?_
            rotate_left
            · intro w hSw; (try dsimp only at hSw); go_simp; try with_reducible rfl
            try simp only [Act.put, List.setIfInBounds_toArray, List.set_cons_zero, List.set_cons_succ]
            clear hHeld
            refine wpAnyD_ready [5] (by kernel_rfl) (by simp) ?_
            refine AllReadyD.cons (o := { dst := some 72, op := Op.buildSlice 22 1 #[(0, Operand.tmp 71)], type := 22, pos := "chain.go:211", after := #[{ on := 4, ground := Ground.data }], guard := none }) rfl (fun K hK => ?_) AllReadyD.nil
            go_simp
            have hA5 : ∀ {a : Addr} {v : Value}, Wb.cell? a = some v → (Wb.drew.alloc (.cells #[.int .i64 xp] 3)).cell? a = some v := fun h => (World.cell?_alloc_lt _ _ _ (World.block_lt_of_cell? _ _ h)).trans h
            have hI5 := HI2.out.keep (B := Wb.drew.alloc (.cells #[.int .i64 xp] 3)) (fun k hk _ => Below.heap_alloc _ _ _ hk) ⟨rfl, rfl, rfl⟩ (by simp)
            have HI5 := Lib.hid hI5
            have HN5 := Lib.hid (heap_alloc_new Wb.drew (.cells #[.int .i64 xp] 3))
            refine hK.out _ _ (fun _ => ⟨hA5 o0, hA5 a0, hA5 v0⟩) ?_
            clear hK K hI5 hA5
            try simp only [Act.put, List.setIfInBounds_toArray, List.set_cons_zero, List.set_cons_succ]
            refine wpAnyD_ready [6] (by kernel_rfl) (by simp) ?_
            refine AllReadyD.cons (o := { dst := some 73, op := Op.call { callee := Callee.builtin Builtin.append, args := #[Operand.tmp 67, Operand.tmp 72], argTypes := #[22, 22] }, type := 22, pos := "chain.go:211", after := #[{ on := 0, ground := Ground.data }, { on := 5, ground := Ground.data }], guard := none }) rfl (fun K hK => ?_) AllReadyD.nil
            refine step_append_one (Wb.drew.alloc (.cells #[.int .i64 xp] 3)) rfl (.tmp 67) (.tmp 72) 22 3 1 8 _ (by rfl) (by rfl) Tryd.underlying22 Tryd.info3 (by rfl) (by omega) (by omega) (wr.heap.size + 6) (.slice oa 1 oc) 1 (ints [p]) [.int .i64 xp] (Wb.drew.heap.size) (by simp [Act.eval]) (by simp [Act.eval, hsb]) HI5.out.own HN5.out (by rfl) (by intro u hu; rw [List.mem_singleton] at hu; subst hu; rfl) (by omega) (by have := HI5.out.size; omega) ?_
            intro v6 W6 ho6 hg6 hv6
            obtain ⟨hS6, hS7⟩ := HI5.out.setOut (show OwnZ W6 (wr.heap.size + 6) v6 ([p] ++ [xp]) from ho6) hg6
            have hb6 : Boxed W6 (wr.heap.size + 2) 22 (.slice oa 1 oc) := (hg6.block _ (by have := HI5.out.size; omega) (fun e => by have := (OwnZ.lt HI5.out.own e.symm).1; omega)).trans HI5.out.out
            have hN7 : ∀ k, k < wr.heap.size + 6 → k ≠ wr.heap.size + 2 → (W6.setCell ⟨wr.heap.size + 2, 0, none⟩ v6).heap[k]? = Wb.heap[k]? := fun k hk h2 => (hS7 k (by simp; omega) h2 (fun e => by have := (OwnZ.lt HI5.out.own e.symm).1; omega)).trans (Below.heap_alloc _ _ _ (show k < Wb.drew.heap.size by show k < Wb.heap.size; omega))
            obtain ⟨a6, c6, hsh6⟩ := owns_shape ho6
            subst hsh6
            have HS6 := Lib.hid hS6
            have HS7 := Lib.hid hN7
            have m0 := hb6.cell
            have m1 := hb6.frozen
            refine hK.out _ _ (fun h => absurd h (by decide)) ?_
            clear hK K hS6 hS7 hN7 ho6 hg6 hv6 hb6
            try simp only [Act.put, List.setIfInBounds_toArray, List.set_cons_zero, List.set_cons_succ]
            refine wpAnyD_ready [7] (by kernel_rfl) (by simp) ?_
            refine AllReadyD.cons (o := { dst := none, op := Op.store 22 (Operand.tmp 17) (Operand.tmp 73), type := 0, pos := "chain.go:211", after := #[{ on := 6, ground := Ground.data }, { on := 6, ground := Ground.chain }, { on := 0, ground := Ground.phase }, { on := 1, ground := Ground.phase }, { on := 2, ground := Ground.phase }, { on := 3, ground := Ground.phase }, { on := 4, ground := Ground.phase }, { on := 5, ground := Ground.phase }, { on := 6, ground := Ground.phase }], guard := none }) rfl (fun K hK => ?_) AllReadyD.nil
            go_simp
            refine hK.out _ _ (fun h => absurd h (by decide)) ?_
            clear hK K
            try simp only [Act.put, List.setIfInBounds_toArray, List.set_cons_zero, List.set_cons_succ]
            refine wpAnyD_done (by kernel_rfl) ?_ _
            gi_wp2
            have hgbw : gb < wr.heap.size := by omega
            refine HQN.out _ _ ((HS7.out _ (by omega) (by omega)).trans HBD.out) ((HS7.out _ (by omega) (by omega)).trans HBL.out) ⟨.slice a6 (1 + 1) c6, ?_⟩ ((HS7.out gb (by omega) (by omega)).trans (HOTH.out gb (by omega) (by omega)))
            rw [List.length_append, List.length_singleton, hk1]
            exact HS6.out
            -- REGION B END
      case done =>
        rintro ys W rfl ⟨vo, hI⟩ hK
        rw [uptoC_length] at hI
        rw [hsz] at hK ⊢
        have hBW : Below w.heap.size w W := (HB1.out.trans (HP.out.below.mono HB1.out.size)).trans (hI.below.mono (by omega))
        have hIs := hI.size
        have n0 := hI.nxt.cell
        have o0 := hI.out.cell
        have HBW := Lib.hid hBW
        clear hBW
        cases b with
        | true =>
          obtain ⟨oa, oc, hvo⟩ := owns_shape hI.own
          have hvo' : vo = .slice oa 0 oc := hvo
          clear hvo
          subst hvo'
          have en : nxF true q p 2 = q := rfl
          rw [en] at n0
          have HK := Lib.hid hK
          clear hK hI
          go_wp2_with fail
          refine (rev0_any _ _ _).mono ?_
          rintro e w' ⟨⟨v9, rfl⟩, rfl⟩
          go_wp2
          refine wp_mono (Q := NoPanic _) ?_ NoPanic.le
          go_region
          all_goals
            rw [NoPanic.normal]
            go_wp2
            refine ⟨by simp, .inl ⟨_, _, rfl, run_takeDeferred (w := W.drew) HK.out, ?_⟩⟩
            refine ⟨.tuple #[.int .i64 q, .slice oa 0 oc, .int .i64 0], ?_, ⟨.slice oa 0 oc, rfl, Or.inl ⟨_, _, rfl, rfl⟩⟩, HBW.out.drew.trans (belowK_b (w := w) (Nat.le_refl _) W.drew (wr.heap.size + 4) _ _ (by omega) HK.out rfl rfl)⟩
            simp [results, Tryd.f34, go_sem]
        | false =>
          have hO : OwnZ W (wr.heap.size + 6) vo [p, q] := hI.own
          obtain ⟨oa, oc, hvo⟩ := owns_shape hO
          have hvo' : vo = .slice oa 2 oc := hvo
          clear hvo
          subst hvo'
          obtain ⟨og, hog⟩ : ∃ og, oa = some ⟨og, 0, none⟩ := by
            obtain ⟨_, ⟨e, _⟩ | ⟨g', cap', cur, e, _⟩⟩ := hO
            · cases e
            · cases e; exact ⟨_, rfl⟩
          subst hog
          have en : nxF false q p 2 = 0 := rfl
          rw [en] at n0
          have HK := Lib.hid hK
          have HO := Lib.hid hO
          have HI := Lib.hid hI
          clear hK hI hO
          go_wp2_with fail
          refine (rev2_any W (wr.heap.size + 6) og oc p q HO.out).mono ?_
          rintro e w' ⟨⟨v9, rfl⟩, rfl⟩
          have hog6 : wr.heap.size + 6 ≤ og := (OwnZ.lt HO.out (k := og) rfl).1
          have HO9 := Lib.hid (rev2_own HO.out)
          have h9 : ∀ k, k ≠ og → ((W.setCell ⟨og, 0, none⟩ (.int .i64 q)).setCell ⟨og, 1, none⟩ (.int .i64 p)).drew.heap[k]? = W.heap[k]? := fun k hk => by
            rw [drew_heap, Below.heap_setCell _ _ _ _ hk, Below.heap_setCell _ _ _ _ hk]
          have HB9 := Lib.hid (((HBW.out.setCell (p := ⟨og, 0, none⟩) (show w.heap.size ≤ og by omega) (.int .i64 q)).setCell (p := ⟨og, 1, none⟩) (show w.heap.size ≤ og by omega) (.int .i64 p)).drew)
          obtain ⟨W9, hW9⟩ : ∃ W9, ((W.setCell ⟨og, 0, none⟩ (.int .i64 q)).setCell ⟨og, 1, none⟩ (.int .i64 p)).drew = W9 := ⟨_, rfl⟩
          rw [hW9] at HO9 HB9 h9 ⊢
          clear hW9
          have n9 : W9.cell? ⟨wr.heap.size, 0, none⟩ = some (.int .i64 0) := (World.cell?_of_block (h9 _ (by show wr.heap.size ≠ og; omega))).trans n0
          have o9 : W9.cell? ⟨wr.heap.size + 2, 0, none⟩ = some (.slice (some ⟨og, 0, none⟩) 2 oc) := (World.cell?_of_block (h9 _ (by show wr.heap.size + 2 ≠ og; omega))).trans o0
          have HK9 := Lib.hid ((h9 _ (by omega)).trans HK.out)
          clear h9 n0 o0
          go_wp2
          refine wp_mono (Q := NoPanic _) ?_ NoPanic.le
          go_region
          all_goals
            rw [NoPanic.normal]
            go_wp2
            refine ⟨by simp, .inl ⟨_, _, rfl, run_takeDeferred (w := W9.drew) HK9.out, ?_⟩⟩
            refine ⟨.tuple #[.int .i64 0, .slice (some ⟨og, 0, none⟩) 2 oc, .int .i64 0], ?_, ⟨.slice (some ⟨og, 0, none⟩) 2 oc, rfl, ?_⟩, HB9.out.drew.trans (belowK_b (w := w) (Nat.le_refl _) W9.drew (wr.heap.size + 4) _ _ (by omega) HK9.out rfl rfl)⟩
            · simp [results, Tryd.f34, go_sem]
            · exact OwnZ.rd (row_carry (w := W9.drew) HO9.out (fun k hk => World.putObj_heap_other (by cases hk; show og ≠ wr.heap.size + 4; omega)))
      case stop =>
        rintro cd pre W hSp h hK
        exact h.elim

end Go.Proofs.YtcngblnkfiggjaaDoor.Rm
