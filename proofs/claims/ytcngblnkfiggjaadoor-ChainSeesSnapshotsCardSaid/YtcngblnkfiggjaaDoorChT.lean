/- Contracts of put, Store and Flush of package memory. -/
import Derived.Test.YtcngblnkfiggjaaDoorChQ
import Derived.Test.YtcngblnkfiggjaaDoorChO
import Derived.Deep.RegionLaw
namespace Go.Proofs.YtcngblnkfiggjaaDoor.Rm
open Go Go.RowKit Go.Maps
attribute [local go_sem ↓] Go.wp_at_zero Go.wp_at_succ

set_option maxHeartbeats 400000 in
theorem mword_any (x : Int) (w : World) :
    Calls Tryd.prog 91 #[.int .i64 x] w fun e w' => e = .returned (.bool (wordB x)) ∧ w = w' := by
  by_cases h0 : 0 ≤ x
  · go_enter Tryd.func91, Tryd.ntmps91
    go_wp2
    go_ret
    exact ⟨ret_bool (by simp [wordB, h0]), rfl⟩
  · go_enter Tryd.func91, Tryd.ntmps91
    go_wp2
    go_ret
    exact ⟨ret_bool (by simp [wordB]; omega), rfl⟩

set_option maxHeartbeats 2000000 in
set_option maxRecDepth 100000 in
theorem put_any (w : World) (Bm n : Nat) (M : Int → Int) (F : Nat → Prop) (c : Nat) (h : MO w Bm n M F c) (hc : c < 90000) (kd : Int) (k j : Nat) (hk : k < n) (hj : j < 8) (x y : Int) (hx : x = 8 * k + j) (hy : wordB y = true) :
    Calls Tryd.prog 58 #[.pointer (some ⟨Bm, 0, none⟩), .int .i64 kd, .int .i64 x, .int .i64 y, .func (.func 59) #[.pointer (some ⟨Bm, 0, none⟩)] #[]] w fun e w' => e = .returned (.int .i64 0) ∧ ∃ F', MO w' Bm n (upd M x y) F' (c + 2) ∧ Moves F F' w w' := by
  have hn : n ≤ 1000 := h.bounds.2
  have HST := Lib.hid (state_any w Bm n M F c h k hk)
  obtain ⟨Bl, Bb, ve, nE, xe, vs, P, L, D, tag, h⟩ := h
  obtain ⟨ao, cap, hsh⟩ := owns_shape (h.own k hk)
  have hx0 : 0 ≤ x := by omega
  have hq : x.tdiv 8 = (k : Int) := by rw [Int.tdiv_eq_ediv_of_nonneg hx0]; omega
  have hr : x.tmod 8 = (j : Int) := by rw [Int.tmod_eq_emod_of_nonneg hx0]; omega
  have hkz : (k : Int) < (n : Int) := by omega
  have hBm : Bm < w.heap.size := (Array.getElem?_eq_some_iff.1 h.top).1
  have hBl : Bl < w.heap.size := (Array.getElem?_eq_some_iff.1 h.lns).1
  have hBb : Bb < w.heap.size := map_lt h.bsy
  have t0 : w.cell? ⟨Bm, 0, none⟩ = some (.slice (some ⟨Bl, 0, none⟩) n n) := by simp [World.cell?, h.top]
  have HH := Lib.hid (mhas_any w Bm Bl n k t0 (by omega) hkz)
  have hne1 : (vs k).ownBlock ≠ some Bm := fun e => by have := h.tg4 k hk Bm e; rw [h.tg0] at this; omega
  have hne2 : (vs k).ownBlock ≠ some Bl := fun e => by have := h.tg4 k hk Bl e; rw [h.tg1] at this; omega
  have hne3 : (vs k).ownBlock ≠ some Bb := fun e => by have := h.tg4 k hk Bb e; rw [h.tg2] at this; omega
  have n0 : Bm ≠ Bl := fun e => by have a := h.tg0; have b := h.tg1; rw [e] at a; omega
  have n2 : Bb ≠ Bl := fun e => by have a := h.tg2; have b := h.tg1; rw [e] at a; omega
  have n3 : Bm ≠ Bb := fun e => by have a := h.tg0; have b := h.tg2; rw [e] at a; omega
  have hplen : (P k).length < 1000000 := by have := h.lep k hk; omega
  have hS : ∀ w2 : World, w2.heap[Bm]? = w.heap[Bm]? → w2.heap[Bl]? = w.heap[Bl]? → w2.cell? ⟨Bm, 0, none⟩ = some (.slice (some ⟨Bl, 0, none⟩) n n) ∧ w2.cell? ⟨Bm, 1, none⟩ = some (.map (some Bb)) ∧ w2.cell? ⟨Bm, 2, none⟩ = some (.int .i64 0) ∧ w2.cell? ⟨Bl, k * 11 + 9, none⟩ = some (.slice ao (P k).length cap) ∧ w2.frozen? ⟨Bl, k * 11 + 9, none⟩ = false := fun w2 e1 e2 => by
    rw [h.top] at e1
    rw [h.lns] at e2
    refine ⟨by simp [World.cell?, e1], by simp [World.cell?, e1], by simp [World.cell?, e1], ?_, Joins.unfrozen_of_block e2 _⟩
    have := h.pnd k hk
    rw [hsh] at this
    simp [World.cell?, e2, this]
  have HS := Lib.hid hS
  have HX := Lib.hid h
  have hkw : (Lit.int .i64 (k : Int)).wf = true := wf64 (by omega)
  have HSH := Lib.hid hsh
  have HXE := Lib.hid (show (8 : Int) * k + j = x from hx.symm)
  clear h hS t0 hsh hx
  go_enter Tryd.func58, Tryd.ntmps58
  go_wp2_with (first | (go_at_call 90; refine HH.out.mono ?_; rintro e w1 ⟨rfl, hw1⟩; subst hw1) | (go_at_call 91; refine (mword_any _ _).mono ?_; rw [hy]; rintro e w1 ⟨rfl, hw1⟩; subst hw1))
  go_at_call 65
  refine HST.out.mono ?_
  rintro e w1 ⟨rfl, hb1⟩
  obtain ⟨s0, s1, s2, s3, s4⟩ := HS.out w1 (hb1.block Bm hBm) (hb1.block Bl hBl)
  have hB2 : Below w.heap.size w (w1.alloc (.cells #[.int .i64 (j : Int), .int .i64 y] 141)).drew := (hb1.alloc hb1.size _).drew
  have hOWN := row_carry (HX.out.own k hk) (fun b hb => hB2.block b (World.ownsRow.lt (HX.out.own k hk) b hb).2)
  rw [HSH.out] at hOWN
  have hBLK : (w1.alloc (.cells #[.int .i64 (j : Int), .int .i64 y] 141)).drew.heap[w1.heap.size]? = some (.cells [.int .i64 (j : Int), .int .i64 y].toArray 141 (0, 0)) := new_at (by simp)
  have hsz1 := hb1.size
  have hSC : ∀ w2, (w1.alloc (.cells #[.int .i64 (j : Int), .int .i64 y] 141)).drew.grownBy w2 (Value.slice ao (P k).length cap).ownBlock → _ := fun w2 hg => HS.out w2
    ((hg.block Bm (by show Bm < (w1.alloc _).heap.size; simp; omega) (fun e => hne1 (by rw [HSH.out]; exact e.symm))).trans (hB2.block Bm hBm))
    ((hg.block Bl (by show Bl < (w1.alloc _).heap.size; simp; omega) (fun e => hne2 (by rw [HSH.out]; exact e.symm))).trans (hB2.block Bl hBl))
  have hBm1 : Bm < w1.heap.size := by omega
  have hBl1 : Bl < w1.heap.size := by omega
  have HO := Lib.hid hOWN
  have HB := Lib.hid hBLK
  have HB2 := Lib.hid hB2
  have HSC := Lib.hid hSC
  clear hOWN hBLK hB2 hSC hb1
  go_wp2
  go_region_law (refine step_append_one _ (by rfl) _ _ 96 141 2 16 _ (by rfl) (by rfl) Tryd.underlying96 info141 rfl (by decide) (by decide) 0 _ (P k).length (itemCells (P k)) _ w1.heap.size (by rfl) (by rfl) HO.out HB.out rfl (by simp [Value.oneCell']) hplen (Nat.zero_le _) ?_; intro v2 w2 hrow2 hg2 hv2; obtain ⟨a2, c2, rfl⟩ := owns_shape hrow2; obtain ⟨f0, f1, f2, f3, f4⟩ := HSC.out _ hg2)
  all_goals
    have hgx : (w1.alloc (.cells #[.int .i64 (j : Int), .int .i64 y] 141)).drew.grownBy w2 (vs k).ownBlock := by rw [HSH.out]; exact hg2
    have hvx : (Value.slice a2 ((P k).length + 1) c2).ownBlock = (vs k).ownBlock ∨ (Value.slice a2 ((P k).length + 1) c2).ownBlock = some (w1.alloc (.cells #[.int .i64 (j : Int), .int .i64 y] 141)).drew.heap.size := by rw [HSH.out]; exact hv2
    have ho : (w2.setCell ⟨Bl, k * 11 + 9, none⟩ (.slice a2 ((P k).length + 1) c2)).ownsMap Tryd.prog 3 (plainElem Tryd.prog 4) Bb c D := map_carry HX.out.bsy (by
      rw [Below.heap_setCell _ _ _ _ n2, hgx.block Bb (by show Bb < (w1.alloc _).heap.size; simp; omega) (fun e => hne3 e.symm), HB2.out.block Bb hBb]) (Nat.le_refl _)
    have hBm2 : (w2.setCell ⟨Bl, k * 11 + 9, none⟩ (.slice a2 ((P k).length + 1) c2)).heap[Bm]? = w.heap[Bm]? := by
      rw [Below.heap_setCell _ _ _ _ n0, hgx.block Bm (by show Bm < (w1.alloc _).heap.size; simp; omega) (fun e => hne1 e.symm), HB2.out.block Bm hBm]
    have hszm : Bm < (w2.setCell ⟨Bl, k * 11 + 9, none⟩ (.slice a2 ((P k).length + 1) c2)).heap.size := by
      have := hgx.size; rw [drew_size] at this; simp at this ⊢; omega
    have HP := Lib.hid (fun (w3 : World) (D' : DataW Unit) hg3 ho3 => MO.putted (w3 := w3) (D' := D') HX.out k hk j hj y HB2.out hrow2 hgx hvx hg3 ho3)
    have HN := Lib.hid (show ∀ w3 : World, (w2.setCell ⟨Bl, k * 11 + 9, none⟩ (.slice a2 ((P k).length + 1) c2)).grownBy w3 (some Bb) → w3.cell? ⟨Bm, 2, none⟩ = some (.int .i64 0) from fun w3 hg3 => by
      have e := (hg3.block Bm hszm (fun e => n3 (by cases e; rfl))).trans (hBm2.trans HX.out.top)
      simp [World.cell?, e])
    clear hrow2 hg2 hv2 hgx hvx f0 f2 f3 f4 hBm2 hszm
    go_wp2_with (at_mapUpdate; refine wpList_mapUpdate_own _ rfl _ _ _ 99 rfl 3 4 law3 Tryd.underlying99 _ Bb c _ rfl ho (by unfold maxLen; omega) _ _ _ rfl rfl (keyOf_int_mk Tryd.underlying3 hkw) _ [] (plainElem_bool Tryd.underlying4 true) ?_; intro w3 ho3 hg3; obtain ⟨F1, hm1, hv1⟩ := HP.out w3 _ hg3 ho3; have g2 := HN.out w3 hg3; have HM1 := Lib.hid hm1; have HV1 := Lib.hid hv1; clear hm1 hv1 ho3 hg3)
    refine (note_any w3 Bm n _ F1 (c + 1) HM1.out (by omega) _ _ _ _).mono ?_
    rintro e w4 ⟨⟨v4, rfl⟩, F2, hm2, hv2⟩
    have HM2 := Lib.hid hm2
    have HV2 := Lib.hid (HV1.out.trans hv2)
    clear hm2 hv2
    go_wp2
    go_ret
    refine ⟨rfl, F2, ?_, HV2.out⟩
    have hm := HM2.out
    rwa [HXE.out] at hm

end Go.Proofs.YtcngblnkfiggjaaDoor.Rm
