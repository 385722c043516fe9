/- Contract of Load of package memory (printed by gen_o.py). -/
import Derived.Test.YtcngblnkfiggjaaDoorChL
namespace Go.Proofs.YtcngblnkfiggjaaDoor.Rm
open Go Go.RowKit Go.Maps
attribute [local go_sem ↓] Go.wp_at_zero Go.wp_at_succ

theorem MO.row {w : World} {Bm n : Nat} {M : Int → Int} {F : Nat → Prop} {c : Nat} (h : MO w Bm n M F c) (k : Nat) (hk : k < n) : ∃ Bl v, ∃ l : List (Int × Int), Bl < w.heap.size ∧ w.cell? ⟨Bm, 0, none⟩ = some (.slice (some ⟨Bl, 0, none⟩) n n) ∧ (w.cell? ⟨Bl, k * 11, none⟩ = some (.int .i64 0) ∧ w.cell? ⟨Bl, k * 11 + 1, none⟩ = some (.int .i64 0) ∧ w.cell? ⟨Bl, k * 11 + 2, none⟩ = some (.int .i64 0) ∧ w.cell? ⟨Bl, k * 11 + 3, none⟩ = some (.int .i64 0) ∧ w.cell? ⟨Bl, k * 11 + 4, none⟩ = some (.int .i64 0) ∧ w.cell? ⟨Bl, k * 11 + 5, none⟩ = some (.int .i64 0) ∧ w.cell? ⟨Bl, k * 11 + 6, none⟩ = some (.int .i64 0) ∧ w.cell? ⟨Bl, k * 11 + 7, none⟩ = some (.int .i64 0) ∧ w.cell? ⟨Bl, k * 11 + 8, none⟩ = some (.int .i64 0)) ∧ w.cell? ⟨Bl, k * 11 + 9, none⟩ = some v ∧ w.ownsRow 0 141 2 v l.length (itemCells l) ∧ (∀ p ∈ l, 0 ≤ p.1 ∧ p.1 < 8) ∧ l.length ≤ c ∧ ∀ j : Nat, j < 8 → shown l j = M (8 * k + j) := by
  obtain ⟨Bl, Bb, ve, nE, xe, vs, P, L, D, tag, h⟩ := h
  refine ⟨Bl, vs k, P k, (Array.getElem?_eq_some_iff.1 h.lns).1, by simp [World.cell?, h.top], ?_, h.line (h.pnd k hk), h.own k hk, h.wrd k hk, h.lep k hk, fun j hj => h.mem k hk j (by omega) (by omega)⟩
  exact ⟨h.line (by simpa using h.zer k hk 0 (by omega)), h.line (by simpa using h.zer k hk 1 (by omega)), h.line (by simpa using h.zer k hk 2 (by omega)), h.line (by simpa using h.zer k hk 3 (by omega)), h.line (by simpa using h.zer k hk 4 (by omega)), h.line (by simpa using h.zer k hk 5 (by omega)), h.line (by simpa using h.zer k hk 6 (by omega)), h.line (by simpa using h.zer k hk 7 (by omega)), h.line (by simpa using h.zer k hk 8 (by omega))⟩

set_option maxHeartbeats 2000000 in
set_option maxRecDepth 100000 in
theorem load_any (w : World) (Bm n : Nat) (M : Int → Int) (F : Nat → Prop) (c : Nat) (h : MO w Bm n M F c) (hc : c < 100000) (k j : Nat) (hk : k < n) (hj : j < 8) (x : Int) (hx : x = 8 * k + j) :
    Calls Tryd.prog 81 #[.pointer (some ⟨Bm, 0, none⟩), .int .i64 x] w fun e w' => e = .returned (.tuple #[.int .i64 (M x), .int .i64 0]) ∧ Below w.heap.size w w' := by
  obtain ⟨Bl, v, l, hBl, hm, hz, hv, hown, hwrd, hlen, hM⟩ := h.row k hk
  have hn : n ≤ 1000 := by obtain ⟨_, _, _, _, _, _, _, _, _, _, h⟩ := h; exact h.cnt.2
  have hx0 : 0 ≤ x := by omega
  have hq : x.tdiv 8 = (k : Int) := by rw [Int.tdiv_eq_ediv_of_nonneg hx0]; omega
  have hr : x.tmod 8 = (j : Int) := by rw [Int.tmod_eq_emod_of_nonneg hx0]; omega
  have hkz : (k : Int) < (n : Int) := by omega
  have HH := Lib.hid (mhas_any w Bm Bl n k hm (by omega) hkz)
  have HS0 := shows_any w Bl k l v hBl hz hv hown hwrd (by omega)
  unfold arr8 at HS0
  have HS := Lib.hid HS0
  have HC := Lib.hid (show ∀ w1 : World, (w1.alloc (.cells #[.int .i64 (shown l 0), .int .i64 (shown l 1), .int .i64 (shown l 2), .int .i64 (shown l 3), .int .i64 (shown l 4), .int .i64 (shown l 5), .int .i64 (shown l 6), .int .i64 (shown l 7)] 93)).cell? ⟨w1.heap.size, j, none⟩ = some (.int .i64 (M x)) from fun w1 => by
    rw [hx, ← hM j hj]
    exact cell_blk (heap_alloc_new w1 _) (arr8_at (shown l) j hj))
  obtain ⟨ao, cap, hsh⟩ := owns_shape hown
  subst hsh
  clear h hz hown hwrd HS0 hM hx
  go_enter Tryd.func81, Tryd.ntmps81
  go_wp2_with (go_at_call 90; refine HH.out.mono ?_; rintro e w1 ⟨rfl, hw1⟩; subst hw1)
  go_at_call 100
  refine HS.out.mono ?_
  rintro e w1 ⟨rfl, hb1⟩
  have c1 := HC.out w1
  have HB1 := Lib.hid (show Below w.heap.size w (w1.alloc (.cells #[.int .i64 (shown l 0), .int .i64 (shown l 1), .int .i64 (shown l 2), .int .i64 (shown l 3), .int .i64 (shown l 4), .int .i64 (shown l 5), .int .i64 (shown l 6), .int .i64 (shown l 7)] 93)) from Below.alloc hb1 hb1.size _)
  clear hb1 hv hm
  go_wp2
  go_ret2
  exact ⟨rfl, HB1.out⟩

end Go.Proofs.YtcngblnkfiggjaaDoor.Rm
