/- Contracts of Store and Flush of package memory. -/
import Derived.Test.YtcngblnkfiggjaaDoorChT
namespace Go.Proofs.YtcngblnkfiggjaaDoor.Rm
open Go Go.RowKit Go.Maps
attribute [local go_sem ↓] Go.wp_at_zero Go.wp_at_succ

set_option maxHeartbeats 400000 in
set_option maxRecDepth 100000 in
theorem store_any (w : World) (Bm n : Nat) (M : Int → Int) (F : Nat → Prop) (c : Nat) (h : MO w Bm n M F c) (hc : c < 90000) (k j : Nat) (hk : k < n) (hj : j < 8) (x y : Int) (hx : x = 8 * k + j) (hy : wordB y = true) :
    Calls Tryd.prog 30 #[.pointer (some ⟨Bm, 0, none⟩), .int .i64 x, .int .i64 y] w fun e w' => e = .returned (.int .i64 0) ∧ ∃ F', MO w' Bm n (upd M x y) F' (c + 2) ∧ Moves F F' w w' := by
  have HP := Lib.hid (put_any w Bm n M F c h hc 1 k j hk hj x y hx hy)
  clear h hx
  go_enter Tryd.func30, Tryd.ntmps30
  go_wp2_with fail
  refine HP.out.mono ?_
  rintro e w1 ⟨rfl, F1, hm1, hv1⟩
  have HM := Lib.hid hm1
  have HV := Lib.hid hv1
  clear hm1 hv1
  go_wp2
  go_ret
  exact ⟨rfl, F1, HM.out, HV.out⟩

set_option maxHeartbeats 2000000 in
set_option maxRecDepth 100000 in
theorem flush_any (w : World) (Bm n : Nat) (M : Int → Int) (F : Nat → Prop) (c : Nat) (h : MO w Bm n M F c) (hc : c < 90000) (k : Nat) (hk : k < n) :
    Calls Tryd.prog 67 #[.pointer (some ⟨Bm, 0, none⟩), .int .i64 (k : Int)] w fun e w' => e = .returned (.int .i64 0) ∧ ∃ F', MO w' Bm n M F' (c + 1) ∧ Moves F F' w w' := by
  have hn : n ≤ 1000 := h.bounds.2
  obtain ⟨Bl, Bb, ve, nE, xe, vs, P, L, D, tag, h⟩ := h
  obtain ⟨ao, cap, hsh⟩ := owns_shape (h.own k hk)
  have hkz : (k : Int) < (n : Int) := by omega
  have hBm : Bm < w.heap.size := (Array.getElem?_eq_some_iff.1 h.top).1
  have hBl : Bl < w.heap.size := (Array.getElem?_eq_some_iff.1 h.lns).1
  have t0 : w.cell? ⟨Bm, 0, none⟩ = some (.slice (some ⟨Bl, 0, none⟩) n n) := by simp [World.cell?, h.top]
  have t1 : w.cell? ⟨Bl, k * 11 + 9, none⟩ = some (.slice ao (P k).length cap) := by rw [h.line (h.pnd k hk), hsh]
  obtain ⟨mk, hmk⟩ := h.mrk k hk
  have t2 : w.cell? ⟨Bl, k * 11 + 10, none⟩ = some (.int .i64 mk) := h.line hmk
  have t3 : w.frozen? ⟨Bl, k * 11 + 10, none⟩ = false := Joins.unfrozen_of_block h.lns _
  have HH := Lib.hid (mhas_any w Bm Bl n k t0 (by omega) hkz)
  have n0 : Bm ≠ Bl := fun e => by have a := h.tg0; have b := h.tg1; rw [e] at a; omega
  have hplen : (P k).length < 1000000 := by have := h.lep k hk; omega
  have HX := Lib.hid (MO.marked h k hk ((P k).length : Int) ((Below.refl w.heap.size w).drew))
  clear h hmk hsh
  go_enter Tryd.func67, Tryd.ntmps67
  go_wp2_with (go_at_call 90; refine HH.out.mono ?_; rintro e w1 ⟨rfl, hw1⟩; subst hw1)
  go_region
  all_goals
    go_wp2_with fail
    refine (note_any _ Bm n _ F c HX.out.1 (by omega) _ _ _ _).mono ?_
    rintro e w4 ⟨⟨v4, rfl⟩, F2, hm2, hv2⟩
    have HM2 := Lib.hid hm2
    have HV2 := Lib.hid (HX.out.2.trans hv2)
    clear hm2 hv2
    go_wp2
    go_ret
    exact ⟨rfl, F2, HM2.out, HV2.out⟩

end Go.Proofs.YtcngblnkfiggjaaDoor.Rm
