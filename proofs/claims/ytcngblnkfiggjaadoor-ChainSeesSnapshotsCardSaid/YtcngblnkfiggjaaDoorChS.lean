/- Contract of State of package memory: every line is clean (printed by gen_s.py). -/
import Derived.Test.YtcngblnkfiggjaaDoorChD
import Derived.Test.YtcngblnkfiggjaaDoorChM
namespace Go.Proofs.YtcngblnkfiggjaaDoor.Rm
open Go Go.RowKit Go.Maps
attribute [local go_sem ↓] Go.wp_at_zero Go.wp_at_succ

/-- What State and Load read of a line. -/
theorem MO.reads {w : World} {Bm n : Nat} {M : Int → Int} {F : Nat → Prop} {c : Nat} (h : MO w Bm n M F c) (k : Nat) (hk : k < n) : ∃ Bl, Bl < w.heap.size ∧ Bm < w.heap.size ∧ w.cell? ⟨Bm, 0, none⟩ = some (.slice (some ⟨Bl, 0, none⟩) n n) ∧ w.cell? ⟨Bl, k * 11, none⟩ = some (.int .i64 0) ∧ w.cell? ⟨Bl, k * 11 + 1, none⟩ = some (.int .i64 0) ∧ w.cell? ⟨Bl, k * 11 + 2, none⟩ = some (.int .i64 0) ∧ w.cell? ⟨Bl, k * 11 + 3, none⟩ = some (.int .i64 0) ∧ w.cell? ⟨Bl, k * 11 + 4, none⟩ = some (.int .i64 0) ∧ w.cell? ⟨Bl, k * 11 + 5, none⟩ = some (.int .i64 0) ∧ w.cell? ⟨Bl, k * 11 + 6, none⟩ = some (.int .i64 0) ∧ w.cell? ⟨Bl, k * 11 + 7, none⟩ = some (.int .i64 0) ∧ w.cell? ⟨Bl, k * 11 + 8, none⟩ = some (.int .i64 0) := by
  obtain ⟨Bl, Bb, ve, nE, xe, vs, P, L, D, tag, h⟩ := h
  refine ⟨Bl, (Array.getElem?_eq_some_iff.1 h.lns).1, (Array.getElem?_eq_some_iff.1 h.top).1, by simp [World.cell?, h.top], ?_⟩
  exact ⟨h.line (by simpa using h.zer k hk 0 (by omega)), h.line (by simpa using h.zer k hk 1 (by omega)), h.line (by simpa using h.zer k hk 2 (by omega)), h.line (by simpa using h.zer k hk 3 (by omega)), h.line (by simpa using h.zer k hk 4 (by omega)), h.line (by simpa using h.zer k hk 5 (by omega)), h.line (by simpa using h.zer k hk 6 (by omega)), h.line (by simpa using h.zer k hk 7 (by omega)), h.line (by simpa using h.zer k hk 8 (by omega))⟩

set_option maxHeartbeats 2000000 in
set_option maxRecDepth 100000 in
theorem state_any (w : World) (Bm n : Nat) (M : Int → Int) (F : Nat → Prop) (c : Nat) (h : MO w Bm n M F c) (k : Nat) (hk : k < n) :
    Calls Tryd.prog 65 #[.pointer (some ⟨Bm, 0, none⟩), .int .i64 (k : Int)] w fun e w' => e = .returned (.int .i64 0) ∧ Below w.heap.size w w' := by
  have hkz : (k : Int) < (n : Int) := by omega
  have hn : n ≤ 1000 := by obtain ⟨_, _, _, _, _, _, _, _, _, _, h⟩ := h; exact h.cnt.2
  obtain ⟨Bl, hBl, hBm, s0, s1, s2, s3, s4, s5, s6, s7, s8, s9⟩ := h.reads k hk
  have HS := Lib.hid (show ∀ w2 : World, Below w.heap.size w w2 → w2.cell? ⟨Bm, 0, none⟩ = some (.slice (some ⟨Bl, 0, none⟩) n n) ∧ w2.cell? ⟨Bl, k * 11, none⟩ = some (.int .i64 0) ∧ w2.cell? ⟨Bl, k * 11 + 1, none⟩ = some (.int .i64 0) ∧ w2.cell? ⟨Bl, k * 11 + 2, none⟩ = some (.int .i64 0) ∧ w2.cell? ⟨Bl, k * 11 + 3, none⟩ = some (.int .i64 0) ∧ w2.cell? ⟨Bl, k * 11 + 4, none⟩ = some (.int .i64 0) ∧ w2.cell? ⟨Bl, k * 11 + 5, none⟩ = some (.int .i64 0) ∧ w2.cell? ⟨Bl, k * 11 + 6, none⟩ = some (.int .i64 0) ∧ w2.cell? ⟨Bl, k * 11 + 7, none⟩ = some (.int .i64 0) ∧ w2.cell? ⟨Bl, k * 11 + 8, none⟩ = some (.int .i64 0) from fun w2 hb =>
    ⟨(hb.cell hBm).trans s0, (hb.cell hBl).trans s1, (hb.cell hBl).trans s2, (hb.cell hBl).trans s3, (hb.cell hBl).trans s4, (hb.cell hBl).trans s5, (hb.cell hBl).trans s6, (hb.cell hBl).trans s7, (hb.cell hBl).trans s8, (hb.cell hBl).trans s9⟩)
  have HH := Lib.hid (mhas_any w Bm Bl n k s0 (by omega) hkz)
  clear h
  go_enter Tryd.func65, Tryd.ntmps65
  go_wp2_with (go_at_call 90; refine HH.out.mono ?_; rintro e w1 ⟨rfl, rfl⟩)
  go_region_held3 (fun w' => w'.cell? ⟨Bm, 0, none⟩ = some (.slice (some ⟨Bl, 0, none⟩) n n) ∧ w'.cell? ⟨Bl, k * 11, none⟩ = some (.int .i64 0) ∧ w'.cell? ⟨Bl, k * 11 + 1, none⟩ = some (.int .i64 0) ∧ w'.cell? ⟨Bl, k * 11 + 2, none⟩ = some (.int .i64 0) ∧ w'.cell? ⟨Bl, k * 11 + 3, none⟩ = some (.int .i64 0) ∧ w'.cell? ⟨Bl, k * 11 + 4, none⟩ = some (.int .i64 0) ∧ w'.cell? ⟨Bl, k * 11 + 5, none⟩ = some (.int .i64 0) ∧ w'.cell? ⟨Bl, k * 11 + 6, none⟩ = some (.int .i64 0) ∧ w'.cell? ⟨Bl, k * 11 + 7, none⟩ = some (.int .i64 0) ∧ w'.cell? ⟨Bl, k * 11 + 8, none⟩ = some (.int .i64 0)) (first | exact ⟨s0, s1, s2, s3, s4, s5, s6, s7, s8, s9⟩ | exact HS.out _ (below_next ((Below.refl _ w).drew) hb1) | go_keep) ((go_simp; go_at_call 96; refine (check0 _).mono ?_; rintro e w1 ⟨rfl, hb1⟩))
  have HB1 := Lib.hid (below_next ((Below.refl _ w).drew) hb1)
  clear hb1
  go_wp2
  go_ret
  exact ⟨rfl, HB1.out⟩

end Go.Proofs.YtcngblnkfiggjaaDoor.Rm
