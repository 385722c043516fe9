/- The pointer laws PointerMatchesSpec, PointerIsRead and PointerGetsStale return true for all integers, in every world in which the two tables hold what their text lays. -/
import Derived.Test.YtbmhgekeabodcaaDoorWalkF
import Derived.Test.YtbmhgekeabodcaaDoorPlainB
namespace Go.Proofs.YtbmhgekeabodcaaDoor.Ptr
open Go Go.RowKit

set_option maxHeartbeats 1000000 in
set_option maxRecDepth 100000 in
theorem law_match (a b c : Int) (w : World) (T : Tabs w) :
    Calls Tryd.prog 7 #[.int .i64 a, .int .i64 b, .int .i64 c] w fun e w' => e = .returned (.bool true) ∧ Below w.heap.size w w' := by
  have E := Ext.refl T
  go_enter Tryd.func7, Tryd.ntmps7
  go_wp2_with (first | (go_at_call 9; (with_reducible refine (ext_below (by assumption) (sanity_any _)).mono ?_); rintro e w' ⟨rfl, hE⟩) | (go_at_call 14; (with_reducible refine (ext_tabs (by assumption) (make_any _ _ _)).mono ?_); rintro e w' ⟨rfl, hE⟩) | (go_at_call 25; (with_reducible refine (ext_same (by assumption) (rmake_any _ _ _)).mono ?_); rintro e w' ⟨rfl, hE⟩) | (go_at_call 20; (with_reducible refine (ext_below (by assumption) (right_any _ _)).mono ?_); rintro e w' ⟨rfl, hE⟩) | (go_at_call 26; (with_reducible refine (ext_same (by assumption) (rright_any _ _)).mono ?_); rintro e w' ⟨rfl, hE⟩) | (go_at_call 18; (with_reducible refine (ext_below (by assumption) (line_any _ _)).mono ?_); rintro e w' ⟨rfl, hE⟩) | (go_at_call 27; (with_reducible refine (ext_same (by assumption) (rline_any _ _)).mono ?_); rintro e w' ⟨rfl, hE⟩) | (go_at_call 19; (with_reducible refine (ext_below (by assumption) (gen_any _ _)).mono ?_); rintro e w' ⟨rfl, hE⟩) | (go_at_call 28; (with_reducible refine (ext_same (by assumption) (rgen_any _ _)).mono ?_); rintro e w' ⟨rfl, hE⟩) | (go_at_call 15; (with_reducible refine (ext_tabs (by assumption) (pack_any _ _ _ _)).mono ?_); rintro e w' ⟨rfl, hE⟩) | (go_at_call 29; (with_reducible refine (ext_same (by assumption) (rpack_any _ _ _ _)).mono ?_); rintro e w' ⟨rfl, hE⟩) | (go_at_call 24; (with_reducible refine (ext_below (by assumption) (formed_any _ _)).mono ?_); rintro e w' ⟨rfl, hE⟩) | (go_at_call 30; (with_reducible refine (ext_same (by assumption) (rformed_any _ _)).mono ?_); rintro e w' ⟨rfl, hE⟩) | (go_at_call 21; (with_reducible refine (ext_below (by assumption) (kind_any _ _)).mono ?_); rintro e w' ⟨rfl, hE⟩) | (go_at_call 31; (with_reducible refine (ext_same (by assumption) (rkind_any _ _)).mono ?_); rintro e w' ⟨rfl, hE⟩) | (go_at_call 22; (with_reducible refine (ext_below (by assumption) (class_any _ _)).mono ?_); rintro e w' ⟨rfl, hE⟩) | (go_at_call 32; (with_reducible refine (ext_same (by assumption) (rclass_any _ _)).mono ?_); rintro e w' ⟨rfl, hE⟩) | (go_at_call 23; (with_reducible refine (ext_below (by assumption) (gener_any _ _)).mono ?_); rintro e w' ⟨rfl, hE⟩) | (go_at_call 33; (with_reducible refine (ext_same (by assumption) (rgener_any _ _)).mono ?_); rintro e w' ⟨rfl, hE⟩) | (go_at_call 16; (with_reducible refine (ext_same (by assumption) (next_any _ _)).mono ?_); rintro e w' ⟨rfl, hE⟩) | (go_at_call 34; (with_reducible refine (ext_same (by assumption) (rnext_any _ _)).mono ?_); rintro e w' ⟨rfl, hE⟩) | (go_at_call 35; (with_reducible refine (ext_same (by assumption) (lines_any _ _)).mono ?_); rintro e w' ⟨rfl, hE⟩) | (go_at_call 36; (with_reducible refine (ext_same (by assumption) (rlines_any _ _)).mono ?_); rintro e w' ⟨rfl, hE⟩) | (go_at_call 17; (with_reducible refine (ext_below (by assumption) (check_any _ _ _)).mono ?_); rintro e w' ⟨rfl, hE⟩) | (go_at_call 37; (with_reducible refine (ext_same (by assumption) (rcheck_any _ _ _)).mono ?_); rintro e w' ⟨rfl, hE⟩))
  go_ret
  exact ⟨rfl, hE.below⟩

set_option maxHeartbeats 2000000 in
set_option maxRecDepth 100000 in
theorem law_read0 (l g k c : Int) (w : World) (T : Tabs w) (a0 : l < 1) :
    Calls Tryd.prog 6 #[.int .i64 l, .int .i64 g, .int .i64 k, .int .i64 c] w fun e w' => e = .returned (.bool true) ∧ Below w.heap.size w w' := by
  have E := Ext.refl T
  have hm := makeS_no (l := l) (g := g) (by omega)
  by_cases b0 : k < 0
  · have hb0 := packS_no (k := k) (c := c) (g := g) (by omega)
    go_enter Tryd.func6, Tryd.ntmps6
    go_wp2_with (first | (go_at_call 9; (with_reducible refine (ext_below (by assumption) (sanity_any _)).mono ?_); rintro e w' ⟨rfl, hE⟩) | (go_at_call 14; (with_reducible refine (ext_tabs (by assumption) (make_any _ _ _)).mono ?_); rintro e w' ⟨rfl, hE⟩) | (go_at_call 15; (with_reducible refine (ext_tabs (by assumption) (pack_any _ _ _ _)).mono ?_); rintro e w' ⟨rfl, hE⟩) | (go_at_call 18; (with_reducible refine (ext_below (by assumption) (line_any _ _)).mono ?_); rintro e w' ⟨rfl, hE⟩) | (go_at_call 19; (with_reducible refine (ext_below (by assumption) (gen_any _ _)).mono ?_); rintro e w' ⟨rfl, hE⟩) | (go_at_call 20; (with_reducible refine (ext_below (by assumption) (right_any _ _)).mono ?_); rintro e w' ⟨rfl, hE⟩) | (go_at_call 21; (with_reducible refine (ext_below (by assumption) (kind_any _ _)).mono ?_); rintro e w' ⟨rfl, hE⟩) | (go_at_call 22; (with_reducible refine (ext_below (by assumption) (class_any _ _)).mono ?_); rintro e w' ⟨rfl, hE⟩) | (go_at_call 23; (with_reducible refine (ext_below (by assumption) (gener_any _ _)).mono ?_); rintro e w' ⟨rfl, hE⟩) | (go_at_call 24; (with_reducible refine (ext_below (by assumption) (formed_any _ _)).mono ?_); rintro e w' ⟨rfl, hE⟩))
    go_ret
    exact ⟨rfl, hE.below⟩
  by_cases b1 : 15 < k
  · have hb1 := packS_no (k := k) (c := c) (g := g) (by omega)
    go_enter Tryd.func6, Tryd.ntmps6
    go_wp2_with (first | (go_at_call 9; (with_reducible refine (ext_below (by assumption) (sanity_any _)).mono ?_); rintro e w' ⟨rfl, hE⟩) | (go_at_call 14; (with_reducible refine (ext_tabs (by assumption) (make_any _ _ _)).mono ?_); rintro e w' ⟨rfl, hE⟩) | (go_at_call 15; (with_reducible refine (ext_tabs (by assumption) (pack_any _ _ _ _)).mono ?_); rintro e w' ⟨rfl, hE⟩) | (go_at_call 18; (with_reducible refine (ext_below (by assumption) (line_any _ _)).mono ?_); rintro e w' ⟨rfl, hE⟩) | (go_at_call 19; (with_reducible refine (ext_below (by assumption) (gen_any _ _)).mono ?_); rintro e w' ⟨rfl, hE⟩) | (go_at_call 20; (with_reducible refine (ext_below (by assumption) (right_any _ _)).mono ?_); rintro e w' ⟨rfl, hE⟩) | (go_at_call 21; (with_reducible refine (ext_below (by assumption) (kind_any _ _)).mono ?_); rintro e w' ⟨rfl, hE⟩) | (go_at_call 22; (with_reducible refine (ext_below (by assumption) (class_any _ _)).mono ?_); rintro e w' ⟨rfl, hE⟩) | (go_at_call 23; (with_reducible refine (ext_below (by assumption) (gener_any _ _)).mono ?_); rintro e w' ⟨rfl, hE⟩) | (go_at_call 24; (with_reducible refine (ext_below (by assumption) (formed_any _ _)).mono ?_); rintro e w' ⟨rfl, hE⟩))
    go_ret
    exact ⟨rfl, hE.below⟩
  by_cases b2 : c < 0
  · have hb2 := packS_no (k := k) (c := c) (g := g) (by omega)
    go_enter Tryd.func6, Tryd.ntmps6
    go_wp2_with (first | (go_at_call 9; (with_reducible refine (ext_below (by assumption) (sanity_any _)).mono ?_); rintro e w' ⟨rfl, hE⟩) | (go_at_call 14; (with_reducible refine (ext_tabs (by assumption) (make_any _ _ _)).mono ?_); rintro e w' ⟨rfl, hE⟩) | (go_at_call 15; (with_reducible refine (ext_tabs (by assumption) (pack_any _ _ _ _)).mono ?_); rintro e w' ⟨rfl, hE⟩) | (go_at_call 18; (with_reducible refine (ext_below (by assumption) (line_any _ _)).mono ?_); rintro e w' ⟨rfl, hE⟩) | (go_at_call 19; (with_reducible refine (ext_below (by assumption) (gen_any _ _)).mono ?_); rintro e w' ⟨rfl, hE⟩) | (go_at_call 20; (with_reducible refine (ext_below (by assumption) (right_any _ _)).mono ?_); rintro e w' ⟨rfl, hE⟩) | (go_at_call 21; (with_reducible refine (ext_below (by assumption) (kind_any _ _)).mono ?_); rintro e w' ⟨rfl, hE⟩) | (go_at_call 22; (with_reducible refine (ext_below (by assumption) (class_any _ _)).mono ?_); rintro e w' ⟨rfl, hE⟩) | (go_at_call 23; (with_reducible refine (ext_below (by assumption) (gener_any _ _)).mono ?_); rintro e w' ⟨rfl, hE⟩) | (go_at_call 24; (with_reducible refine (ext_below (by assumption) (formed_any _ _)).mono ?_); rintro e w' ⟨rfl, hE⟩))
    go_ret
    exact ⟨rfl, hE.below⟩
  by_cases b3 : 4 < c
  · have hb3 := packS_no (k := k) (c := c) (g := g) (by omega)
    go_enter Tryd.func6, Tryd.ntmps6
    go_wp2_with (first | (go_at_call 9; (with_reducible refine (ext_below (by assumption) (sanity_any _)).mono ?_); rintro e w' ⟨rfl, hE⟩) | (go_at_call 14; (with_reducible refine (ext_tabs (by assumption) (make_any _ _ _)).mono ?_); rintro e w' ⟨rfl, hE⟩) | (go_at_call 15; (with_reducible refine (ext_tabs (by assumption) (pack_any _ _ _ _)).mono ?_); rintro e w' ⟨rfl, hE⟩) | (go_at_call 18; (with_reducible refine (ext_below (by assumption) (line_any _ _)).mono ?_); rintro e w' ⟨rfl, hE⟩) | (go_at_call 19; (with_reducible refine (ext_below (by assumption) (gen_any _ _)).mono ?_); rintro e w' ⟨rfl, hE⟩) | (go_at_call 20; (with_reducible refine (ext_below (by assumption) (right_any _ _)).mono ?_); rintro e w' ⟨rfl, hE⟩) | (go_at_call 21; (with_reducible refine (ext_below (by assumption) (kind_any _ _)).mono ?_); rintro e w' ⟨rfl, hE⟩) | (go_at_call 22; (with_reducible refine (ext_below (by assumption) (class_any _ _)).mono ?_); rintro e w' ⟨rfl, hE⟩) | (go_at_call 23; (with_reducible refine (ext_below (by assumption) (gener_any _ _)).mono ?_); rintro e w' ⟨rfl, hE⟩) | (go_at_call 24; (with_reducible refine (ext_below (by assumption) (formed_any _ _)).mono ?_); rintro e w' ⟨rfl, hE⟩))
    go_ret
    exact ⟨rfl, hE.below⟩
  by_cases b4 : g < 0
  · have hb4 := packS_no (k := k) (c := c) (g := g) (by omega)
    go_enter Tryd.func6, Tryd.ntmps6
    go_wp2_with (first | (go_at_call 9; (with_reducible refine (ext_below (by assumption) (sanity_any _)).mono ?_); rintro e w' ⟨rfl, hE⟩) | (go_at_call 14; (with_reducible refine (ext_tabs (by assumption) (make_any _ _ _)).mono ?_); rintro e w' ⟨rfl, hE⟩) | (go_at_call 15; (with_reducible refine (ext_tabs (by assumption) (pack_any _ _ _ _)).mono ?_); rintro e w' ⟨rfl, hE⟩) | (go_at_call 18; (with_reducible refine (ext_below (by assumption) (line_any _ _)).mono ?_); rintro e w' ⟨rfl, hE⟩) | (go_at_call 19; (with_reducible refine (ext_below (by assumption) (gen_any _ _)).mono ?_); rintro e w' ⟨rfl, hE⟩) | (go_at_call 20; (with_reducible refine (ext_below (by assumption) (right_any _ _)).mono ?_); rintro e w' ⟨rfl, hE⟩) | (go_at_call 21; (with_reducible refine (ext_below (by assumption) (kind_any _ _)).mono ?_); rintro e w' ⟨rfl, hE⟩) | (go_at_call 22; (with_reducible refine (ext_below (by assumption) (class_any _ _)).mono ?_); rintro e w' ⟨rfl, hE⟩) | (go_at_call 23; (with_reducible refine (ext_below (by assumption) (gener_any _ _)).mono ?_); rintro e w' ⟨rfl, hE⟩) | (go_at_call 24; (with_reducible refine (ext_below (by assumption) (formed_any _ _)).mono ?_); rintro e w' ⟨rfl, hE⟩))
    go_ret
    exact ⟨rfl, hE.below⟩
  by_cases b5 : 1048575 < g
  · have hb5 := packS_no (k := k) (c := c) (g := g) (by omega)
    have gz : decide (g < 1048576) = false := by simp; omega
    go_enter Tryd.func6, Tryd.ntmps6
    go_wp2_with (first | (go_at_call 9; (with_reducible refine (ext_below (by assumption) (sanity_any _)).mono ?_); rintro e w' ⟨rfl, hE⟩) | (go_at_call 14; (with_reducible refine (ext_tabs (by assumption) (make_any _ _ _)).mono ?_); rintro e w' ⟨rfl, hE⟩) | (go_at_call 15; (with_reducible refine (ext_tabs (by assumption) (pack_any _ _ _ _)).mono ?_); rintro e w' ⟨rfl, hE⟩) | (go_at_call 18; (with_reducible refine (ext_below (by assumption) (line_any _ _)).mono ?_); rintro e w' ⟨rfl, hE⟩) | (go_at_call 19; (with_reducible refine (ext_below (by assumption) (gen_any _ _)).mono ?_); rintro e w' ⟨rfl, hE⟩) | (go_at_call 20; (with_reducible refine (ext_below (by assumption) (right_any _ _)).mono ?_); rintro e w' ⟨rfl, hE⟩) | (go_at_call 21; (with_reducible refine (ext_below (by assumption) (kind_any _ _)).mono ?_); rintro e w' ⟨rfl, hE⟩) | (go_at_call 22; (with_reducible refine (ext_below (by assumption) (class_any _ _)).mono ?_); rintro e w' ⟨rfl, hE⟩) | (go_at_call 23; (with_reducible refine (ext_below (by assumption) (gener_any _ _)).mono ?_); rintro e w' ⟨rfl, hE⟩) | (go_at_call 24; (with_reducible refine (ext_below (by assumption) (formed_any _ _)).mono ?_); rintro e w' ⟨rfl, hE⟩))
    go_ret
    exact ⟨rfl, hE.below⟩
  obtain ⟨q1, q2, q3, q4, q5, q6⟩ := pack_parts (k := k) (c := c) (g := g) (by omega)
  have gz : decide (g < 1048576) = true := by simp; omega
  go_enter Tryd.func6, Tryd.ntmps6
  go_wp2_with (first | (go_at_call 9; (with_reducible refine (ext_below (by assumption) (sanity_any _)).mono ?_); rintro e w' ⟨rfl, hE⟩) | (go_at_call 14; (with_reducible refine (ext_tabs (by assumption) (make_any _ _ _)).mono ?_); rintro e w' ⟨rfl, hE⟩) | (go_at_call 15; (with_reducible refine (ext_tabs (by assumption) (pack_any _ _ _ _)).mono ?_); rintro e w' ⟨rfl, hE⟩) | (go_at_call 18; (with_reducible refine (ext_below (by assumption) (line_any _ _)).mono ?_); rintro e w' ⟨rfl, hE⟩) | (go_at_call 19; (with_reducible refine (ext_below (by assumption) (gen_any _ _)).mono ?_); rintro e w' ⟨rfl, hE⟩) | (go_at_call 20; (with_reducible refine (ext_below (by assumption) (right_any _ _)).mono ?_); rintro e w' ⟨rfl, hE⟩) | (go_at_call 21; (with_reducible refine (ext_below (by assumption) (kind_any _ _)).mono ?_); rintro e w' ⟨rfl, hE⟩) | (go_at_call 22; (with_reducible refine (ext_below (by assumption) (class_any _ _)).mono ?_); rintro e w' ⟨rfl, hE⟩) | (go_at_call 23; (with_reducible refine (ext_below (by assumption) (gener_any _ _)).mono ?_); rintro e w' ⟨rfl, hE⟩) | (go_at_call 24; (with_reducible refine (ext_below (by assumption) (formed_any _ _)).mono ?_); rintro e w' ⟨rfl, hE⟩))
  go_ret
  exact ⟨rfl, hE.below⟩

set_option maxHeartbeats 2000000 in
set_option maxRecDepth 100000 in
theorem law_read1 (l g k c : Int) (w : World) (T : Tabs w) (a0 : ¬ l < 1) (a1 : 4095 < l) :
    Calls Tryd.prog 6 #[.int .i64 l, .int .i64 g, .int .i64 k, .int .i64 c] w fun e w' => e = .returned (.bool true) ∧ Below w.heap.size w w' := by
  have E := Ext.refl T
  have hm := makeS_no (l := l) (g := g) (by omega)
  by_cases b0 : k < 0
  · have hb0 := packS_no (k := k) (c := c) (g := g) (by omega)
    go_enter Tryd.func6, Tryd.ntmps6
    go_wp2_with (first | (go_at_call 9; (with_reducible refine (ext_below (by assumption) (sanity_any _)).mono ?_); rintro e w' ⟨rfl, hE⟩) | (go_at_call 14; (with_reducible refine (ext_tabs (by assumption) (make_any _ _ _)).mono ?_); rintro e w' ⟨rfl, hE⟩) | (go_at_call 15; (with_reducible refine (ext_tabs (by assumption) (pack_any _ _ _ _)).mono ?_); rintro e w' ⟨rfl, hE⟩) | (go_at_call 18; (with_reducible refine (ext_below (by assumption) (line_any _ _)).mono ?_); rintro e w' ⟨rfl, hE⟩) | (go_at_call 19; (with_reducible refine (ext_below (by assumption) (gen_any _ _)).mono ?_); rintro e w' ⟨rfl, hE⟩) | (go_at_call 20; (with_reducible refine (ext_below (by assumption) (right_any _ _)).mono ?_); rintro e w' ⟨rfl, hE⟩) | (go_at_call 21; (with_reducible refine (ext_below (by assumption) (kind_any _ _)).mono ?_); rintro e w' ⟨rfl, hE⟩) | (go_at_call 22; (with_reducible refine (ext_below (by assumption) (class_any _ _)).mono ?_); rintro e w' ⟨rfl, hE⟩) | (go_at_call 23; (with_reducible refine (ext_below (by assumption) (gener_any _ _)).mono ?_); rintro e w' ⟨rfl, hE⟩) | (go_at_call 24; (with_reducible refine (ext_below (by assumption) (formed_any _ _)).mono ?_); rintro e w' ⟨rfl, hE⟩))
    go_ret
    exact ⟨rfl, hE.below⟩
  by_cases b1 : 15 < k
  · have hb1 := packS_no (k := k) (c := c) (g := g) (by omega)
    go_enter Tryd.func6, Tryd.ntmps6
    go_wp2_with (first | (go_at_call 9; (with_reducible refine (ext_below (by assumption) (sanity_any _)).mono ?_); rintro e w' ⟨rfl, hE⟩) | (go_at_call 14; (with_reducible refine (ext_tabs (by assumption) (make_any _ _ _)).mono ?_); rintro e w' ⟨rfl, hE⟩) | (go_at_call 15; (with_reducible refine (ext_tabs (by assumption) (pack_any _ _ _ _)).mono ?_); rintro e w' ⟨rfl, hE⟩) | (go_at_call 18; (with_reducible refine (ext_below (by assumption) (line_any _ _)).mono ?_); rintro e w' ⟨rfl, hE⟩) | (go_at_call 19; (with_reducible refine (ext_below (by assumption) (gen_any _ _)).mono ?_); rintro e w' ⟨rfl, hE⟩) | (go_at_call 20; (with_reducible refine (ext_below (by assumption) (right_any _ _)).mono ?_); rintro e w' ⟨rfl, hE⟩) | (go_at_call 21; (with_reducible refine (ext_below (by assumption) (kind_any _ _)).mono ?_); rintro e w' ⟨rfl, hE⟩) | (go_at_call 22; (with_reducible refine (ext_below (by assumption) (class_any _ _)).mono ?_); rintro e w' ⟨rfl, hE⟩) | (go_at_call 23; (with_reducible refine (ext_below (by assumption) (gener_any _ _)).mono ?_); rintro e w' ⟨rfl, hE⟩) | (go_at_call 24; (with_reducible refine (ext_below (by assumption) (formed_any _ _)).mono ?_); rintro e w' ⟨rfl, hE⟩))
    go_ret
    exact ⟨rfl, hE.below⟩
  by_cases b2 : c < 0
  · have hb2 := packS_no (k := k) (c := c) (g := g) (by omega)
    go_enter Tryd.func6, Tryd.ntmps6
    go_wp2_with (first | (go_at_call 9; (with_reducible refine (ext_below (by assumption) (sanity_any _)).mono ?_); rintro e w' ⟨rfl, hE⟩) | (go_at_call 14; (with_reducible refine (ext_tabs (by assumption) (make_any _ _ _)).mono ?_); rintro e w' ⟨rfl, hE⟩) | (go_at_call 15; (with_reducible refine (ext_tabs (by assumption) (pack_any _ _ _ _)).mono ?_); rintro e w' ⟨rfl, hE⟩) | (go_at_call 18; (with_reducible refine (ext_below (by assumption) (line_any _ _)).mono ?_); rintro e w' ⟨rfl, hE⟩) | (go_at_call 19; (with_reducible refine (ext_below (by assumption) (gen_any _ _)).mono ?_); rintro e w' ⟨rfl, hE⟩) | (go_at_call 20; (with_reducible refine (ext_below (by assumption) (right_any _ _)).mono ?_); rintro e w' ⟨rfl, hE⟩) | (go_at_call 21; (with_reducible refine (ext_below (by assumption) (kind_any _ _)).mono ?_); rintro e w' ⟨rfl, hE⟩) | (go_at_call 22; (with_reducible refine (ext_below (by assumption) (class_any _ _)).mono ?_); rintro e w' ⟨rfl, hE⟩) | (go_at_call 23; (with_reducible refine (ext_below (by assumption) (gener_any _ _)).mono ?_); rintro e w' ⟨rfl, hE⟩) | (go_at_call 24; (with_reducible refine (ext_below (by assumption) (formed_any _ _)).mono ?_); rintro e w' ⟨rfl, hE⟩))
    go_ret
    exact ⟨rfl, hE.below⟩
  by_cases b3 : 4 < c
  · have hb3 := packS_no (k := k) (c := c) (g := g) (by omega)
    go_enter Tryd.func6, Tryd.ntmps6
    go_wp2_with (first | (go_at_call 9; (with_reducible refine (ext_below (by assumption) (sanity_any _)).mono ?_); rintro e w' ⟨rfl, hE⟩) | (go_at_call 14; (with_reducible refine (ext_tabs (by assumption) (make_any _ _ _)).mono ?_); rintro e w' ⟨rfl, hE⟩) | (go_at_call 15; (with_reducible refine (ext_tabs (by assumption) (pack_any _ _ _ _)).mono ?_); rintro e w' ⟨rfl, hE⟩) | (go_at_call 18; (with_reducible refine (ext_below (by assumption) (line_any _ _)).mono ?_); rintro e w' ⟨rfl, hE⟩) | (go_at_call 19; (with_reducible refine (ext_below (by assumption) (gen_any _ _)).mono ?_); rintro e w' ⟨rfl, hE⟩) | (go_at_call 20; (with_reducible refine (ext_below (by assumption) (right_any _ _)).mono ?_); rintro e w' ⟨rfl, hE⟩) | (go_at_call 21; (with_reducible refine (ext_below (by assumption) (kind_any _ _)).mono ?_); rintro e w' ⟨rfl, hE⟩) | (go_at_call 22; (with_reducible refine (ext_below (by assumption) (class_any _ _)).mono ?_); rintro e w' ⟨rfl, hE⟩) | (go_at_call 23; (with_reducible refine (ext_below (by assumption) (gener_any _ _)).mono ?_); rintro e w' ⟨rfl, hE⟩) | (go_at_call 24; (with_reducible refine (ext_below (by assumption) (formed_any _ _)).mono ?_); rintro e w' ⟨rfl, hE⟩))
    go_ret
    exact ⟨rfl, hE.below⟩
  by_cases b4 : g < 0
  · have hb4 := packS_no (k := k) (c := c) (g := g) (by omega)
    go_enter Tryd.func6, Tryd.ntmps6
    go_wp2_with (first | (go_at_call 9; (with_reducible refine (ext_below (by assumption) (sanity_any _)).mono ?_); rintro e w' ⟨rfl, hE⟩) | (go_at_call 14; (with_reducible refine (ext_tabs (by assumption) (make_any _ _ _)).mono ?_); rintro e w' ⟨rfl, hE⟩) | (go_at_call 15; (with_reducible refine (ext_tabs (by assumption) (pack_any _ _ _ _)).mono ?_); rintro e w' ⟨rfl, hE⟩) | (go_at_call 18; (with_reducible refine (ext_below (by assumption) (line_any _ _)).mono ?_); rintro e w' ⟨rfl, hE⟩) | (go_at_call 19; (with_reducible refine (ext_below (by assumption) (gen_any _ _)).mono ?_); rintro e w' ⟨rfl, hE⟩) | (go_at_call 20; (with_reducible refine (ext_below (by assumption) (right_any _ _)).mono ?_); rintro e w' ⟨rfl, hE⟩) | (go_at_call 21; (with_reducible refine (ext_below (by assumption) (kind_any _ _)).mono ?_); rintro e w' ⟨rfl, hE⟩) | (go_at_call 22; (with_reducible refine (ext_below (by assumption) (class_any _ _)).mono ?_); rintro e w' ⟨rfl, hE⟩) | (go_at_call 23; (with_reducible refine (ext_below (by assumption) (gener_any _ _)).mono ?_); rintro e w' ⟨rfl, hE⟩) | (go_at_call 24; (with_reducible refine (ext_below (by assumption) (formed_any _ _)).mono ?_); rintro e w' ⟨rfl, hE⟩))
    go_ret
    exact ⟨rfl, hE.below⟩
  by_cases b5 : 1048575 < g
  · have hb5 := packS_no (k := k) (c := c) (g := g) (by omega)
    have gz : decide (g < 1048576) = false := by simp; omega
    go_enter Tryd.func6, Tryd.ntmps6
    go_wp2_with (first | (go_at_call 9; (with_reducible refine (ext_below (by assumption) (sanity_any _)).mono ?_); rintro e w' ⟨rfl, hE⟩) | (go_at_call 14; (with_reducible refine (ext_tabs (by assumption) (make_any _ _ _)).mono ?_); rintro e w' ⟨rfl, hE⟩) | (go_at_call 15; (with_reducible refine (ext_tabs (by assumption) (pack_any _ _ _ _)).mono ?_); rintro e w' ⟨rfl, hE⟩) | (go_at_call 18; (with_reducible refine (ext_below (by assumption) (line_any _ _)).mono ?_); rintro e w' ⟨rfl, hE⟩) | (go_at_call 19; (with_reducible refine (ext_below (by assumption) (gen_any _ _)).mono ?_); rintro e w' ⟨rfl, hE⟩) | (go_at_call 20; (with_reducible refine (ext_below (by assumption) (right_any _ _)).mono ?_); rintro e w' ⟨rfl, hE⟩) | (go_at_call 21; (with_reducible refine (ext_below (by assumption) (kind_any _ _)).mono ?_); rintro e w' ⟨rfl, hE⟩) | (go_at_call 22; (with_reducible refine (ext_below (by assumption) (class_any _ _)).mono ?_); rintro e w' ⟨rfl, hE⟩) | (go_at_call 23; (with_reducible refine (ext_below (by assumption) (gener_any _ _)).mono ?_); rintro e w' ⟨rfl, hE⟩) | (go_at_call 24; (with_reducible refine (ext_below (by assumption) (formed_any _ _)).mono ?_); rintro e w' ⟨rfl, hE⟩))
    go_ret
    exact ⟨rfl, hE.below⟩
  obtain ⟨q1, q2, q3, q4, q5, q6⟩ := pack_parts (k := k) (c := c) (g := g) (by omega)
  have gz : decide (g < 1048576) = true := by simp; omega
  go_enter Tryd.func6, Tryd.ntmps6
  go_wp2_with (first | (go_at_call 9; (with_reducible refine (ext_below (by assumption) (sanity_any _)).mono ?_); rintro e w' ⟨rfl, hE⟩) | (go_at_call 14; (with_reducible refine (ext_tabs (by assumption) (make_any _ _ _)).mono ?_); rintro e w' ⟨rfl, hE⟩) | (go_at_call 15; (with_reducible refine (ext_tabs (by assumption) (pack_any _ _ _ _)).mono ?_); rintro e w' ⟨rfl, hE⟩) | (go_at_call 18; (with_reducible refine (ext_below (by assumption) (line_any _ _)).mono ?_); rintro e w' ⟨rfl, hE⟩) | (go_at_call 19; (with_reducible refine (ext_below (by assumption) (gen_any _ _)).mono ?_); rintro e w' ⟨rfl, hE⟩) | (go_at_call 20; (with_reducible refine (ext_below (by assumption) (right_any _ _)).mono ?_); rintro e w' ⟨rfl, hE⟩) | (go_at_call 21; (with_reducible refine (ext_below (by assumption) (kind_any _ _)).mono ?_); rintro e w' ⟨rfl, hE⟩) | (go_at_call 22; (with_reducible refine (ext_below (by assumption) (class_any _ _)).mono ?_); rintro e w' ⟨rfl, hE⟩) | (go_at_call 23; (with_reducible refine (ext_below (by assumption) (gener_any _ _)).mono ?_); rintro e w' ⟨rfl, hE⟩) | (go_at_call 24; (with_reducible refine (ext_below (by assumption) (formed_any _ _)).mono ?_); rintro e w' ⟨rfl, hE⟩))
  go_ret
  exact ⟨rfl, hE.below⟩

set_option maxHeartbeats 2000000 in
set_option maxRecDepth 100000 in
theorem law_read2 (l g k c : Int) (w : World) (T : Tabs w) (a0 : ¬ l < 1) (a1 : ¬ 4095 < l) (a2 : g < 1) :
    Calls Tryd.prog 6 #[.int .i64 l, .int .i64 g, .int .i64 k, .int .i64 c] w fun e w' => e = .returned (.bool true) ∧ Below w.heap.size w w' := by
  have E := Ext.refl T
  have hm := makeS_no (l := l) (g := g) (by omega)
  by_cases b0 : k < 0
  · have hb0 := packS_no (k := k) (c := c) (g := g) (by omega)
    go_enter Tryd.func6, Tryd.ntmps6
    go_wp2_with (first | (go_at_call 9; (with_reducible refine (ext_below (by assumption) (sanity_any _)).mono ?_); rintro e w' ⟨rfl, hE⟩) | (go_at_call 14; (with_reducible refine (ext_tabs (by assumption) (make_any _ _ _)).mono ?_); rintro e w' ⟨rfl, hE⟩) | (go_at_call 15; (with_reducible refine (ext_tabs (by assumption) (pack_any _ _ _ _)).mono ?_); rintro e w' ⟨rfl, hE⟩) | (go_at_call 18; (with_reducible refine (ext_below (by assumption) (line_any _ _)).mono ?_); rintro e w' ⟨rfl, hE⟩) | (go_at_call 19; (with_reducible refine (ext_below (by assumption) (gen_any _ _)).mono ?_); rintro e w' ⟨rfl, hE⟩) | (go_at_call 20; (with_reducible refine (ext_below (by assumption) (right_any _ _)).mono ?_); rintro e w' ⟨rfl, hE⟩) | (go_at_call 21; (with_reducible refine (ext_below (by assumption) (kind_any _ _)).mono ?_); rintro e w' ⟨rfl, hE⟩) | (go_at_call 22; (with_reducible refine (ext_below (by assumption) (class_any _ _)).mono ?_); rintro e w' ⟨rfl, hE⟩) | (go_at_call 23; (with_reducible refine (ext_below (by assumption) (gener_any _ _)).mono ?_); rintro e w' ⟨rfl, hE⟩) | (go_at_call 24; (with_reducible refine (ext_below (by assumption) (formed_any _ _)).mono ?_); rintro e w' ⟨rfl, hE⟩))
    go_ret
    exact ⟨rfl, hE.below⟩
  by_cases b1 : 15 < k
  · have hb1 := packS_no (k := k) (c := c) (g := g) (by omega)
    go_enter Tryd.func6, Tryd.ntmps6
    go_wp2_with (first | (go_at_call 9; (with_reducible refine (ext_below (by assumption) (sanity_any _)).mono ?_); rintro e w' ⟨rfl, hE⟩) | (go_at_call 14; (with_reducible refine (ext_tabs (by assumption) (make_any _ _ _)).mono ?_); rintro e w' ⟨rfl, hE⟩) | (go_at_call 15; (with_reducible refine (ext_tabs (by assumption) (pack_any _ _ _ _)).mono ?_); rintro e w' ⟨rfl, hE⟩) | (go_at_call 18; (with_reducible refine (ext_below (by assumption) (line_any _ _)).mono ?_); rintro e w' ⟨rfl, hE⟩) | (go_at_call 19; (with_reducible refine (ext_below (by assumption) (gen_any _ _)).mono ?_); rintro e w' ⟨rfl, hE⟩) | (go_at_call 20; (with_reducible refine (ext_below (by assumption) (right_any _ _)).mono ?_); rintro e w' ⟨rfl, hE⟩) | (go_at_call 21; (with_reducible refine (ext_below (by assumption) (kind_any _ _)).mono ?_); rintro e w' ⟨rfl, hE⟩) | (go_at_call 22; (with_reducible refine (ext_below (by assumption) (class_any _ _)).mono ?_); rintro e w' ⟨rfl, hE⟩) | (go_at_call 23; (with_reducible refine (ext_below (by assumption) (gener_any _ _)).mono ?_); rintro e w' ⟨rfl, hE⟩) | (go_at_call 24; (with_reducible refine (ext_below (by assumption) (formed_any _ _)).mono ?_); rintro e w' ⟨rfl, hE⟩))
    go_ret
    exact ⟨rfl, hE.below⟩
  by_cases b2 : c < 0
  · have hb2 := packS_no (k := k) (c := c) (g := g) (by omega)
    go_enter Tryd.func6, Tryd.ntmps6
    go_wp2_with (first | (go_at_call 9; (with_reducible refine (ext_below (by assumption) (sanity_any _)).mono ?_); rintro e w' ⟨rfl, hE⟩) | (go_at_call 14; (with_reducible refine (ext_tabs (by assumption) (make_any _ _ _)).mono ?_); rintro e w' ⟨rfl, hE⟩) | (go_at_call 15; (with_reducible refine (ext_tabs (by assumption) (pack_any _ _ _ _)).mono ?_); rintro e w' ⟨rfl, hE⟩) | (go_at_call 18; (with_reducible refine (ext_below (by assumption) (line_any _ _)).mono ?_); rintro e w' ⟨rfl, hE⟩) | (go_at_call 19; (with_reducible refine (ext_below (by assumption) (gen_any _ _)).mono ?_); rintro e w' ⟨rfl, hE⟩) | (go_at_call 20; (with_reducible refine (ext_below (by assumption) (right_any _ _)).mono ?_); rintro e w' ⟨rfl, hE⟩) | (go_at_call 21; (with_reducible refine (ext_below (by assumption) (kind_any _ _)).mono ?_); rintro e w' ⟨rfl, hE⟩) | (go_at_call 22; (with_reducible refine (ext_below (by assumption) (class_any _ _)).mono ?_); rintro e w' ⟨rfl, hE⟩) | (go_at_call 23; (with_reducible refine (ext_below (by assumption) (gener_any _ _)).mono ?_); rintro e w' ⟨rfl, hE⟩) | (go_at_call 24; (with_reducible refine (ext_below (by assumption) (formed_any _ _)).mono ?_); rintro e w' ⟨rfl, hE⟩))
    go_ret
    exact ⟨rfl, hE.below⟩
  by_cases b3 : 4 < c
  · have hb3 := packS_no (k := k) (c := c) (g := g) (by omega)
    go_enter Tryd.func6, Tryd.ntmps6
    go_wp2_with (first | (go_at_call 9; (with_reducible refine (ext_below (by assumption) (sanity_any _)).mono ?_); rintro e w' ⟨rfl, hE⟩) | (go_at_call 14; (with_reducible refine (ext_tabs (by assumption) (make_any _ _ _)).mono ?_); rintro e w' ⟨rfl, hE⟩) | (go_at_call 15; (with_reducible refine (ext_tabs (by assumption) (pack_any _ _ _ _)).mono ?_); rintro e w' ⟨rfl, hE⟩) | (go_at_call 18; (with_reducible refine (ext_below (by assumption) (line_any _ _)).mono ?_); rintro e w' ⟨rfl, hE⟩) | (go_at_call 19; (with_reducible refine (ext_below (by assumption) (gen_any _ _)).mono ?_); rintro e w' ⟨rfl, hE⟩) | (go_at_call 20; (with_reducible refine (ext_below (by assumption) (right_any _ _)).mono ?_); rintro e w' ⟨rfl, hE⟩) | (go_at_call 21; (with_reducible refine (ext_below (by assumption) (kind_any _ _)).mono ?_); rintro e w' ⟨rfl, hE⟩) | (go_at_call 22; (with_reducible refine (ext_below (by assumption) (class_any _ _)).mono ?_); rintro e w' ⟨rfl, hE⟩) | (go_at_call 23; (with_reducible refine (ext_below (by assumption) (gener_any _ _)).mono ?_); rintro e w' ⟨rfl, hE⟩) | (go_at_call 24; (with_reducible refine (ext_below (by assumption) (formed_any _ _)).mono ?_); rintro e w' ⟨rfl, hE⟩))
    go_ret
    exact ⟨rfl, hE.below⟩
  by_cases b4 : g < 0
  · have hb4 := packS_no (k := k) (c := c) (g := g) (by omega)
    go_enter Tryd.func6, Tryd.ntmps6
    go_wp2_with (first | (go_at_call 9; (with_reducible refine (ext_below (by assumption) (sanity_any _)).mono ?_); rintro e w' ⟨rfl, hE⟩) | (go_at_call 14; (with_reducible refine (ext_tabs (by assumption) (make_any _ _ _)).mono ?_); rintro e w' ⟨rfl, hE⟩) | (go_at_call 15; (with_reducible refine (ext_tabs (by assumption) (pack_any _ _ _ _)).mono ?_); rintro e w' ⟨rfl, hE⟩) | (go_at_call 18; (with_reducible refine (ext_below (by assumption) (line_any _ _)).mono ?_); rintro e w' ⟨rfl, hE⟩) | (go_at_call 19; (with_reducible refine (ext_below (by assumption) (gen_any _ _)).mono ?_); rintro e w' ⟨rfl, hE⟩) | (go_at_call 20; (with_reducible refine (ext_below (by assumption) (right_any _ _)).mono ?_); rintro e w' ⟨rfl, hE⟩) | (go_at_call 21; (with_reducible refine (ext_below (by assumption) (kind_any _ _)).mono ?_); rintro e w' ⟨rfl, hE⟩) | (go_at_call 22; (with_reducible refine (ext_below (by assumption) (class_any _ _)).mono ?_); rintro e w' ⟨rfl, hE⟩) | (go_at_call 23; (with_reducible refine (ext_below (by assumption) (gener_any _ _)).mono ?_); rintro e w' ⟨rfl, hE⟩) | (go_at_call 24; (with_reducible refine (ext_below (by assumption) (formed_any _ _)).mono ?_); rintro e w' ⟨rfl, hE⟩))
    go_ret
    exact ⟨rfl, hE.below⟩
  by_cases b5 : 1048575 < g
  · exfalso; omega
  obtain ⟨q1, q2, q3, q4, q5, q6⟩ := pack_parts (k := k) (c := c) (g := g) (by omega)
  have gz : decide (g < 1048576) = true := by simp; omega
  go_enter Tryd.func6, Tryd.ntmps6
  go_wp2_with (first | (go_at_call 9; (with_reducible refine (ext_below (by assumption) (sanity_any _)).mono ?_); rintro e w' ⟨rfl, hE⟩) | (go_at_call 14; (with_reducible refine (ext_tabs (by assumption) (make_any _ _ _)).mono ?_); rintro e w' ⟨rfl, hE⟩) | (go_at_call 15; (with_reducible refine (ext_tabs (by assumption) (pack_any _ _ _ _)).mono ?_); rintro e w' ⟨rfl, hE⟩) | (go_at_call 18; (with_reducible refine (ext_below (by assumption) (line_any _ _)).mono ?_); rintro e w' ⟨rfl, hE⟩) | (go_at_call 19; (with_reducible refine (ext_below (by assumption) (gen_any _ _)).mono ?_); rintro e w' ⟨rfl, hE⟩) | (go_at_call 20; (with_reducible refine (ext_below (by assumption) (right_any _ _)).mono ?_); rintro e w' ⟨rfl, hE⟩) | (go_at_call 21; (with_reducible refine (ext_below (by assumption) (kind_any _ _)).mono ?_); rintro e w' ⟨rfl, hE⟩) | (go_at_call 22; (with_reducible refine (ext_below (by assumption) (class_any _ _)).mono ?_); rintro e w' ⟨rfl, hE⟩) | (go_at_call 23; (with_reducible refine (ext_below (by assumption) (gener_any _ _)).mono ?_); rintro e w' ⟨rfl, hE⟩) | (go_at_call 24; (with_reducible refine (ext_below (by assumption) (formed_any _ _)).mono ?_); rintro e w' ⟨rfl, hE⟩))
  go_ret
  exact ⟨rfl, hE.below⟩

set_option maxHeartbeats 2000000 in
set_option maxRecDepth 100000 in
theorem law_read3 (l g k c : Int) (w : World) (T : Tabs w) (a0 : ¬ l < 1) (a1 : ¬ 4095 < l) (a2 : ¬ g < 1) (a3 : 1048575 < g) :
    Calls Tryd.prog 6 #[.int .i64 l, .int .i64 g, .int .i64 k, .int .i64 c] w fun e w' => e = .returned (.bool true) ∧ Below w.heap.size w w' := by
  have E := Ext.refl T
  have hm := makeS_no (l := l) (g := g) (by omega)
  by_cases b0 : k < 0
  · have hb0 := packS_no (k := k) (c := c) (g := g) (by omega)
    have gz : decide (g < 1048576) = false := by simp; omega
    go_enter Tryd.func6, Tryd.ntmps6
    go_wp2_with (first | (go_at_call 9; (with_reducible refine (ext_below (by assumption) (sanity_any _)).mono ?_); rintro e w' ⟨rfl, hE⟩) | (go_at_call 14; (with_reducible refine (ext_tabs (by assumption) (make_any _ _ _)).mono ?_); rintro e w' ⟨rfl, hE⟩) | (go_at_call 15; (with_reducible refine (ext_tabs (by assumption) (pack_any _ _ _ _)).mono ?_); rintro e w' ⟨rfl, hE⟩) | (go_at_call 18; (with_reducible refine (ext_below (by assumption) (line_any _ _)).mono ?_); rintro e w' ⟨rfl, hE⟩) | (go_at_call 19; (with_reducible refine (ext_below (by assumption) (gen_any _ _)).mono ?_); rintro e w' ⟨rfl, hE⟩) | (go_at_call 20; (with_reducible refine (ext_below (by assumption) (right_any _ _)).mono ?_); rintro e w' ⟨rfl, hE⟩) | (go_at_call 21; (with_reducible refine (ext_below (by assumption) (kind_any _ _)).mono ?_); rintro e w' ⟨rfl, hE⟩) | (go_at_call 22; (with_reducible refine (ext_below (by assumption) (class_any _ _)).mono ?_); rintro e w' ⟨rfl, hE⟩) | (go_at_call 23; (with_reducible refine (ext_below (by assumption) (gener_any _ _)).mono ?_); rintro e w' ⟨rfl, hE⟩) | (go_at_call 24; (with_reducible refine (ext_below (by assumption) (formed_any _ _)).mono ?_); rintro e w' ⟨rfl, hE⟩))
    go_ret
    exact ⟨rfl, hE.below⟩
  by_cases b1 : 15 < k
  · have hb1 := packS_no (k := k) (c := c) (g := g) (by omega)
    have gz : decide (g < 1048576) = false := by simp; omega
    go_enter Tryd.func6, Tryd.ntmps6
    go_wp2_with (first | (go_at_call 9; (with_reducible refine (ext_below (by assumption) (sanity_any _)).mono ?_); rintro e w' ⟨rfl, hE⟩) | (go_at_call 14; (with_reducible refine (ext_tabs (by assumption) (make_any _ _ _)).mono ?_); rintro e w' ⟨rfl, hE⟩) | (go_at_call 15; (with_reducible refine (ext_tabs (by assumption) (pack_any _ _ _ _)).mono ?_); rintro e w' ⟨rfl, hE⟩) | (go_at_call 18; (with_reducible refine (ext_below (by assumption) (line_any _ _)).mono ?_); rintro e w' ⟨rfl, hE⟩) | (go_at_call 19; (with_reducible refine (ext_below (by assumption) (gen_any _ _)).mono ?_); rintro e w' ⟨rfl, hE⟩) | (go_at_call 20; (with_reducible refine (ext_below (by assumption) (right_any _ _)).mono ?_); rintro e w' ⟨rfl, hE⟩) | (go_at_call 21; (with_reducible refine (ext_below (by assumption) (kind_any _ _)).mono ?_); rintro e w' ⟨rfl, hE⟩) | (go_at_call 22; (with_reducible refine (ext_below (by assumption) (class_any _ _)).mono ?_); rintro e w' ⟨rfl, hE⟩) | (go_at_call 23; (with_reducible refine (ext_below (by assumption) (gener_any _ _)).mono ?_); rintro e w' ⟨rfl, hE⟩) | (go_at_call 24; (with_reducible refine (ext_below (by assumption) (formed_any _ _)).mono ?_); rintro e w' ⟨rfl, hE⟩))
    go_ret
    exact ⟨rfl, hE.below⟩
  by_cases b2 : c < 0
  · have hb2 := packS_no (k := k) (c := c) (g := g) (by omega)
    have gz : decide (g < 1048576) = false := by simp; omega
    go_enter Tryd.func6, Tryd.ntmps6
    go_wp2_with (first | (go_at_call 9; (with_reducible refine (ext_below (by assumption) (sanity_any _)).mono ?_); rintro e w' ⟨rfl, hE⟩) | (go_at_call 14; (with_reducible refine (ext_tabs (by assumption) (make_any _ _ _)).mono ?_); rintro e w' ⟨rfl, hE⟩) | (go_at_call 15; (with_reducible refine (ext_tabs (by assumption) (pack_any _ _ _ _)).mono ?_); rintro e w' ⟨rfl, hE⟩) | (go_at_call 18; (with_reducible refine (ext_below (by assumption) (line_any _ _)).mono ?_); rintro e w' ⟨rfl, hE⟩) | (go_at_call 19; (with_reducible refine (ext_below (by assumption) (gen_any _ _)).mono ?_); rintro e w' ⟨rfl, hE⟩) | (go_at_call 20; (with_reducible refine (ext_below (by assumption) (right_any _ _)).mono ?_); rintro e w' ⟨rfl, hE⟩) | (go_at_call 21; (with_reducible refine (ext_below (by assumption) (kind_any _ _)).mono ?_); rintro e w' ⟨rfl, hE⟩) | (go_at_call 22; (with_reducible refine (ext_below (by assumption) (class_any _ _)).mono ?_); rintro e w' ⟨rfl, hE⟩) | (go_at_call 23; (with_reducible refine (ext_below (by assumption) (gener_any _ _)).mono ?_); rintro e w' ⟨rfl, hE⟩) | (go_at_call 24; (with_reducible refine (ext_below (by assumption) (formed_any _ _)).mono ?_); rintro e w' ⟨rfl, hE⟩))
    go_ret
    exact ⟨rfl, hE.below⟩
  by_cases b3 : 4 < c
  · have hb3 := packS_no (k := k) (c := c) (g := g) (by omega)
    have gz : decide (g < 1048576) = false := by simp; omega
    go_enter Tryd.func6, Tryd.ntmps6
    go_wp2_with (first | (go_at_call 9; (with_reducible refine (ext_below (by assumption) (sanity_any _)).mono ?_); rintro e w' ⟨rfl, hE⟩) | (go_at_call 14; (with_reducible refine (ext_tabs (by assumption) (make_any _ _ _)).mono ?_); rintro e w' ⟨rfl, hE⟩) | (go_at_call 15; (with_reducible refine (ext_tabs (by assumption) (pack_any _ _ _ _)).mono ?_); rintro e w' ⟨rfl, hE⟩) | (go_at_call 18; (with_reducible refine (ext_below (by assumption) (line_any _ _)).mono ?_); rintro e w' ⟨rfl, hE⟩) | (go_at_call 19; (with_reducible refine (ext_below (by assumption) (gen_any _ _)).mono ?_); rintro e w' ⟨rfl, hE⟩) | (go_at_call 20; (with_reducible refine (ext_below (by assumption) (right_any _ _)).mono ?_); rintro e w' ⟨rfl, hE⟩) | (go_at_call 21; (with_reducible refine (ext_below (by assumption) (kind_any _ _)).mono ?_); rintro e w' ⟨rfl, hE⟩) | (go_at_call 22; (with_reducible refine (ext_below (by assumption) (class_any _ _)).mono ?_); rintro e w' ⟨rfl, hE⟩) | (go_at_call 23; (with_reducible refine (ext_below (by assumption) (gener_any _ _)).mono ?_); rintro e w' ⟨rfl, hE⟩) | (go_at_call 24; (with_reducible refine (ext_below (by assumption) (formed_any _ _)).mono ?_); rintro e w' ⟨rfl, hE⟩))
    go_ret
    exact ⟨rfl, hE.below⟩
  by_cases b4 : g < 0
  · exfalso; omega
  by_cases b5 : 1048575 < g
  · have hb5 := packS_no (k := k) (c := c) (g := g) (by omega)
    have gz : decide (g < 1048576) = false := by simp; omega
    go_enter Tryd.func6, Tryd.ntmps6
    go_wp2_with (first | (go_at_call 9; (with_reducible refine (ext_below (by assumption) (sanity_any _)).mono ?_); rintro e w' ⟨rfl, hE⟩) | (go_at_call 14; (with_reducible refine (ext_tabs (by assumption) (make_any _ _ _)).mono ?_); rintro e w' ⟨rfl, hE⟩) | (go_at_call 15; (with_reducible refine (ext_tabs (by assumption) (pack_any _ _ _ _)).mono ?_); rintro e w' ⟨rfl, hE⟩) | (go_at_call 18; (with_reducible refine (ext_below (by assumption) (line_any _ _)).mono ?_); rintro e w' ⟨rfl, hE⟩) | (go_at_call 19; (with_reducible refine (ext_below (by assumption) (gen_any _ _)).mono ?_); rintro e w' ⟨rfl, hE⟩) | (go_at_call 20; (with_reducible refine (ext_below (by assumption) (right_any _ _)).mono ?_); rintro e w' ⟨rfl, hE⟩) | (go_at_call 21; (with_reducible refine (ext_below (by assumption) (kind_any _ _)).mono ?_); rintro e w' ⟨rfl, hE⟩) | (go_at_call 22; (with_reducible refine (ext_below (by assumption) (class_any _ _)).mono ?_); rintro e w' ⟨rfl, hE⟩) | (go_at_call 23; (with_reducible refine (ext_below (by assumption) (gener_any _ _)).mono ?_); rintro e w' ⟨rfl, hE⟩) | (go_at_call 24; (with_reducible refine (ext_below (by assumption) (formed_any _ _)).mono ?_); rintro e w' ⟨rfl, hE⟩))
    go_ret
    exact ⟨rfl, hE.below⟩
  exfalso; omega

set_option maxHeartbeats 2000000 in
set_option maxRecDepth 100000 in
theorem law_read4 (l g k c : Int) (w : World) (T : Tabs w) (a0 : ¬ l < 1) (a1 : ¬ 4095 < l) (a2 : ¬ g < 1) (a3 : ¬ 1048575 < g) :
    Calls Tryd.prog 6 #[.int .i64 l, .int .i64 g, .int .i64 k, .int .i64 c] w fun e w' => e = .returned (.bool true) ∧ Below w.heap.size w w' := by
  have E := Ext.refl T
  obtain ⟨p1, p2, p3, p4, p5⟩ := make_parts (l := l) (g := g) (by omega)
  have pz : (makeS l g != 0) = true := by rw [bne_iff_ne]; omega
  by_cases b0 : k < 0
  · have hb0 := packS_no (k := k) (c := c) (g := g) (by omega)
    have gz : decide (g < 1048576) = true := by simp; omega
    go_enter Tryd.func6, Tryd.ntmps6
    go_wp2_with (first | (go_at_call 9; (with_reducible refine (ext_below (by assumption) (sanity_any _)).mono ?_); rintro e w' ⟨rfl, hE⟩) | (go_at_call 14; (with_reducible refine (ext_tabs (by assumption) (make_any _ _ _)).mono ?_); rintro e w' ⟨rfl, hE⟩) | (go_at_call 15; (with_reducible refine (ext_tabs (by assumption) (pack_any _ _ _ _)).mono ?_); rintro e w' ⟨rfl, hE⟩) | (go_at_call 18; (with_reducible refine (ext_below (by assumption) (line_any _ _)).mono ?_); rintro e w' ⟨rfl, hE⟩) | (go_at_call 19; (with_reducible refine (ext_below (by assumption) (gen_any _ _)).mono ?_); rintro e w' ⟨rfl, hE⟩) | (go_at_call 20; (with_reducible refine (ext_below (by assumption) (right_any _ _)).mono ?_); rintro e w' ⟨rfl, hE⟩) | (go_at_call 21; (with_reducible refine (ext_below (by assumption) (kind_any _ _)).mono ?_); rintro e w' ⟨rfl, hE⟩) | (go_at_call 22; (with_reducible refine (ext_below (by assumption) (class_any _ _)).mono ?_); rintro e w' ⟨rfl, hE⟩) | (go_at_call 23; (with_reducible refine (ext_below (by assumption) (gener_any _ _)).mono ?_); rintro e w' ⟨rfl, hE⟩) | (go_at_call 24; (with_reducible refine (ext_below (by assumption) (formed_any _ _)).mono ?_); rintro e w' ⟨rfl, hE⟩))
    go_ret
    exact ⟨rfl, hE.below⟩
  by_cases b1 : 15 < k
  · have hb1 := packS_no (k := k) (c := c) (g := g) (by omega)
    have gz : decide (g < 1048576) = true := by simp; omega
    go_enter Tryd.func6, Tryd.ntmps6
    go_wp2_with (first | (go_at_call 9; (with_reducible refine (ext_below (by assumption) (sanity_any _)).mono ?_); rintro e w' ⟨rfl, hE⟩) | (go_at_call 14; (with_reducible refine (ext_tabs (by assumption) (make_any _ _ _)).mono ?_); rintro e w' ⟨rfl, hE⟩) | (go_at_call 15; (with_reducible refine (ext_tabs (by assumption) (pack_any _ _ _ _)).mono ?_); rintro e w' ⟨rfl, hE⟩) | (go_at_call 18; (with_reducible refine (ext_below (by assumption) (line_any _ _)).mono ?_); rintro e w' ⟨rfl, hE⟩) | (go_at_call 19; (with_reducible refine (ext_below (by assumption) (gen_any _ _)).mono ?_); rintro e w' ⟨rfl, hE⟩) | (go_at_call 20; (with_reducible refine (ext_below (by assumption) (right_any _ _)).mono ?_); rintro e w' ⟨rfl, hE⟩) | (go_at_call 21; (with_reducible refine (ext_below (by assumption) (kind_any _ _)).mono ?_); rintro e w' ⟨rfl, hE⟩) | (go_at_call 22; (with_reducible refine (ext_below (by assumption) (class_any _ _)).mono ?_); rintro e w' ⟨rfl, hE⟩) | (go_at_call 23; (with_reducible refine (ext_below (by assumption) (gener_any _ _)).mono ?_); rintro e w' ⟨rfl, hE⟩) | (go_at_call 24; (with_reducible refine (ext_below (by assumption) (formed_any _ _)).mono ?_); rintro e w' ⟨rfl, hE⟩))
    go_ret
    exact ⟨rfl, hE.below⟩
  by_cases b2 : c < 0
  · have hb2 := packS_no (k := k) (c := c) (g := g) (by omega)
    have gz : decide (g < 1048576) = true := by simp; omega
    go_enter Tryd.func6, Tryd.ntmps6
    go_wp2_with (first | (go_at_call 9; (with_reducible refine (ext_below (by assumption) (sanity_any _)).mono ?_); rintro e w' ⟨rfl, hE⟩) | (go_at_call 14; (with_reducible refine (ext_tabs (by assumption) (make_any _ _ _)).mono ?_); rintro e w' ⟨rfl, hE⟩) | (go_at_call 15; (with_reducible refine (ext_tabs (by assumption) (pack_any _ _ _ _)).mono ?_); rintro e w' ⟨rfl, hE⟩) | (go_at_call 18; (with_reducible refine (ext_below (by assumption) (line_any _ _)).mono ?_); rintro e w' ⟨rfl, hE⟩) | (go_at_call 19; (with_reducible refine (ext_below (by assumption) (gen_any _ _)).mono ?_); rintro e w' ⟨rfl, hE⟩) | (go_at_call 20; (with_reducible refine (ext_below (by assumption) (right_any _ _)).mono ?_); rintro e w' ⟨rfl, hE⟩) | (go_at_call 21; (with_reducible refine (ext_below (by assumption) (kind_any _ _)).mono ?_); rintro e w' ⟨rfl, hE⟩) | (go_at_call 22; (with_reducible refine (ext_below (by assumption) (class_any _ _)).mono ?_); rintro e w' ⟨rfl, hE⟩) | (go_at_call 23; (with_reducible refine (ext_below (by assumption) (gener_any _ _)).mono ?_); rintro e w' ⟨rfl, hE⟩) | (go_at_call 24; (with_reducible refine (ext_below (by assumption) (formed_any _ _)).mono ?_); rintro e w' ⟨rfl, hE⟩))
    go_ret
    exact ⟨rfl, hE.below⟩
  by_cases b3 : 4 < c
  · have hb3 := packS_no (k := k) (c := c) (g := g) (by omega)
    have gz : decide (g < 1048576) = true := by simp; omega
    go_enter Tryd.func6, Tryd.ntmps6
    go_wp2_with (first | (go_at_call 9; (with_reducible refine (ext_below (by assumption) (sanity_any _)).mono ?_); rintro e w' ⟨rfl, hE⟩) | (go_at_call 14; (with_reducible refine (ext_tabs (by assumption) (make_any _ _ _)).mono ?_); rintro e w' ⟨rfl, hE⟩) | (go_at_call 15; (with_reducible refine (ext_tabs (by assumption) (pack_any _ _ _ _)).mono ?_); rintro e w' ⟨rfl, hE⟩) | (go_at_call 18; (with_reducible refine (ext_below (by assumption) (line_any _ _)).mono ?_); rintro e w' ⟨rfl, hE⟩) | (go_at_call 19; (with_reducible refine (ext_below (by assumption) (gen_any _ _)).mono ?_); rintro e w' ⟨rfl, hE⟩) | (go_at_call 20; (with_reducible refine (ext_below (by assumption) (right_any _ _)).mono ?_); rintro e w' ⟨rfl, hE⟩) | (go_at_call 21; (with_reducible refine (ext_below (by assumption) (kind_any _ _)).mono ?_); rintro e w' ⟨rfl, hE⟩) | (go_at_call 22; (with_reducible refine (ext_below (by assumption) (class_any _ _)).mono ?_); rintro e w' ⟨rfl, hE⟩) | (go_at_call 23; (with_reducible refine (ext_below (by assumption) (gener_any _ _)).mono ?_); rintro e w' ⟨rfl, hE⟩) | (go_at_call 24; (with_reducible refine (ext_below (by assumption) (formed_any _ _)).mono ?_); rintro e w' ⟨rfl, hE⟩))
    go_ret
    exact ⟨rfl, hE.below⟩
  by_cases b4 : g < 0
  · exfalso; omega
  by_cases b5 : 1048575 < g
  · exfalso; omega
  obtain ⟨q1, q2, q3, q4, q5, q6⟩ := pack_parts (k := k) (c := c) (g := g) (by omega)
  have gz : decide (g < 1048576) = true := by simp; omega
  go_enter Tryd.func6, Tryd.ntmps6
  go_wp2_with (first | (go_at_call 9; (with_reducible refine (ext_below (by assumption) (sanity_any _)).mono ?_); rintro e w' ⟨rfl, hE⟩) | (go_at_call 14; (with_reducible refine (ext_tabs (by assumption) (make_any _ _ _)).mono ?_); rintro e w' ⟨rfl, hE⟩) | (go_at_call 15; (with_reducible refine (ext_tabs (by assumption) (pack_any _ _ _ _)).mono ?_); rintro e w' ⟨rfl, hE⟩) | (go_at_call 18; (with_reducible refine (ext_below (by assumption) (line_any _ _)).mono ?_); rintro e w' ⟨rfl, hE⟩) | (go_at_call 19; (with_reducible refine (ext_below (by assumption) (gen_any _ _)).mono ?_); rintro e w' ⟨rfl, hE⟩) | (go_at_call 20; (with_reducible refine (ext_below (by assumption) (right_any _ _)).mono ?_); rintro e w' ⟨rfl, hE⟩) | (go_at_call 21; (with_reducible refine (ext_below (by assumption) (kind_any _ _)).mono ?_); rintro e w' ⟨rfl, hE⟩) | (go_at_call 22; (with_reducible refine (ext_below (by assumption) (class_any _ _)).mono ?_); rintro e w' ⟨rfl, hE⟩) | (go_at_call 23; (with_reducible refine (ext_below (by assumption) (gener_any _ _)).mono ?_); rintro e w' ⟨rfl, hE⟩) | (go_at_call 24; (with_reducible refine (ext_below (by assumption) (formed_any _ _)).mono ?_); rintro e w' ⟨rfl, hE⟩))
  go_ret
  exact ⟨rfl, hE.below⟩

theorem law_read (l g k c : Int) (w : World) (T : Tabs w) :
    Calls Tryd.prog 6 #[.int .i64 l, .int .i64 g, .int .i64 k, .int .i64 c] w fun e w' => e = .returned (.bool true) ∧ Below w.heap.size w w' := by
  by_cases a0 : l < 1
  · exact law_read0 l g k c w T a0
  by_cases a1 : 4095 < l
  · exact law_read1 l g k c w T a0 a1
  by_cases a2 : g < 1
  · exact law_read2 l g k c w T a0 a1 a2
  by_cases a3 : 1048575 < g
  · exact law_read3 l g k c w T a0 a1 a2 a3
  exact law_read4 l g k c w T a0 a1 a2 a3

set_option maxHeartbeats 2000000 in
set_option maxRecDepth 100000 in
theorem law_stale (l c k g o : Int) (w : World) (T : Tabs w) :
    Calls Tryd.prog 5 #[.int .i64 l, .int .i64 c, .int .i64 k, .int .i64 g, .int .i64 o] w fun e w' => e = .returned (.bool true) ∧ Below w.heap.size w w' := by
  have E := Ext.refl T
  by_cases R : 1 ≤ l ∧ l ≤ 4095 ∧ 1 ≤ g ∧ g ≤ 1048575
  · obtain ⟨p1, p2, p3, p4, p5⟩ := make_parts R
    have pz : (makeS l g == 0) = false := by rw [beq_eq_false_iff_ne]; omega
    clear p3 p4 p5
    by_cases b0 : c < 0
    · clear R
      go_enter Tryd.func5, Tryd.ntmps5
      go_wp2_with (first | (go_at_call 9; (with_reducible refine (ext_below (by assumption) (sanity_any _)).mono ?_); rintro e w' ⟨rfl, hE⟩) | (go_at_call 14; (with_reducible refine (ext_tabs (by assumption) (make_any _ _ _)).mono ?_); rintro e w' ⟨rfl, hE⟩) | (go_at_call 15; (with_reducible refine (ext_tabs (by assumption) (pack_any _ _ _ _)).mono ?_); rintro e w' ⟨rfl, hE⟩) | (go_at_call 16; (with_reducible refine (ext_same (by assumption) (next_any _ _)).mono ?_); rintro e w' ⟨rfl, hE⟩) | (go_at_call 17; (with_reducible refine (ext_below (by assumption) (check_any _ _ _)).mono ?_); rintro e w' ⟨rfl, hE⟩))
      go_ret
      exact ⟨rfl, hE.below⟩
    by_cases b1 : 4 < c
    · clear R
      go_enter Tryd.func5, Tryd.ntmps5
      go_wp2_with (first | (go_at_call 9; (with_reducible refine (ext_below (by assumption) (sanity_any _)).mono ?_); rintro e w' ⟨rfl, hE⟩) | (go_at_call 14; (with_reducible refine (ext_tabs (by assumption) (make_any _ _ _)).mono ?_); rintro e w' ⟨rfl, hE⟩) | (go_at_call 15; (with_reducible refine (ext_tabs (by assumption) (pack_any _ _ _ _)).mono ?_); rintro e w' ⟨rfl, hE⟩) | (go_at_call 16; (with_reducible refine (ext_same (by assumption) (next_any _ _)).mono ?_); rintro e w' ⟨rfl, hE⟩) | (go_at_call 17; (with_reducible refine (ext_below (by assumption) (check_any _ _ _)).mono ?_); rintro e w' ⟨rfl, hE⟩))
      go_ret
      exact ⟨rfl, hE.below⟩
    by_cases b2 : k < 1
    · clear R
      go_enter Tryd.func5, Tryd.ntmps5
      go_wp2_with (first | (go_at_call 9; (with_reducible refine (ext_below (by assumption) (sanity_any _)).mono ?_); rintro e w' ⟨rfl, hE⟩) | (go_at_call 14; (with_reducible refine (ext_tabs (by assumption) (make_any _ _ _)).mono ?_); rintro e w' ⟨rfl, hE⟩) | (go_at_call 15; (with_reducible refine (ext_tabs (by assumption) (pack_any _ _ _ _)).mono ?_); rintro e w' ⟨rfl, hE⟩) | (go_at_call 16; (with_reducible refine (ext_same (by assumption) (next_any _ _)).mono ?_); rintro e w' ⟨rfl, hE⟩) | (go_at_call 17; (with_reducible refine (ext_below (by assumption) (check_any _ _ _)).mono ?_); rintro e w' ⟨rfl, hE⟩))
      go_ret
      exact ⟨rfl, hE.below⟩
    by_cases b3 : 15 < k
    · clear R
      go_enter Tryd.func5, Tryd.ntmps5
      go_wp2_with (first | (go_at_call 9; (with_reducible refine (ext_below (by assumption) (sanity_any _)).mono ?_); rintro e w' ⟨rfl, hE⟩) | (go_at_call 14; (with_reducible refine (ext_tabs (by assumption) (make_any _ _ _)).mono ?_); rintro e w' ⟨rfl, hE⟩) | (go_at_call 15; (with_reducible refine (ext_tabs (by assumption) (pack_any _ _ _ _)).mono ?_); rintro e w' ⟨rfl, hE⟩) | (go_at_call 16; (with_reducible refine (ext_same (by assumption) (next_any _ _)).mono ?_); rintro e w' ⟨rfl, hE⟩) | (go_at_call 17; (with_reducible refine (ext_below (by assumption) (check_any _ _ _)).mono ?_); rintro e w' ⟨rfl, hE⟩))
      go_ret
      exact ⟨rfl, hE.below⟩
    obtain ⟨n1, n2, n3⟩ := next_rng (g := g) (by omega)
    have n4 : (nextS g == g) = false := by rw [beq_eq_false_iff_ne]; exact n3
    have k1 : checkS (makeS l g) (packS k c g) = 0 := by rw [check_of R (by omega), if_neg (by omega)]
    have k2 : checkS (makeS l g) (packS k c (nextS g)) = 70 := by rw [check_of R (by omega), if_pos (by omega)]
    have k3 : checkS (makeS l g) (packS 0 c g) = 70 := by rw [check_of R (by omega), if_pos (by omega)]
    clear n3
    by_cases d0 : o < 1
    · clear R
      go_enter Tryd.func5, Tryd.ntmps5
      go_wp2_with (first | (go_at_call 9; (with_reducible refine (ext_below (by assumption) (sanity_any _)).mono ?_); rintro e w' ⟨rfl, hE⟩) | (go_at_call 14; (with_reducible refine (ext_tabs (by assumption) (make_any _ _ _)).mono ?_); rintro e w' ⟨rfl, hE⟩) | (go_at_call 15; (with_reducible refine (ext_tabs (by assumption) (pack_any _ _ _ _)).mono ?_); rintro e w' ⟨rfl, hE⟩) | (go_at_call 16; (with_reducible refine (ext_same (by assumption) (next_any _ _)).mono ?_); rintro e w' ⟨rfl, hE⟩) | (go_at_call 17; (with_reducible refine (ext_below (by assumption) (check_any _ _ _)).mono ?_); rintro e w' ⟨rfl, hE⟩))
      go_ret
      exact ⟨rfl, hE.below⟩
    by_cases d1 : 1048575 < o
    · clear R
      go_enter Tryd.func5, Tryd.ntmps5
      go_wp2_with (first | (go_at_call 9; (with_reducible refine (ext_below (by assumption) (sanity_any _)).mono ?_); rintro e w' ⟨rfl, hE⟩) | (go_at_call 14; (with_reducible refine (ext_tabs (by assumption) (make_any _ _ _)).mono ?_); rintro e w' ⟨rfl, hE⟩) | (go_at_call 15; (with_reducible refine (ext_tabs (by assumption) (pack_any _ _ _ _)).mono ?_); rintro e w' ⟨rfl, hE⟩) | (go_at_call 16; (with_reducible refine (ext_same (by assumption) (next_any _ _)).mono ?_); rintro e w' ⟨rfl, hE⟩) | (go_at_call 17; (with_reducible refine (ext_below (by assumption) (check_any _ _ _)).mono ?_); rintro e w' ⟨rfl, hE⟩))
      go_ret
      exact ⟨rfl, hE.below⟩
    by_cases d2 : o = g
    · have d3 : (o == g) = true := by simpa using d2
      clear d2 R
      go_enter Tryd.func5, Tryd.ntmps5
      go_wp2_with (first | (go_at_call 9; (with_reducible refine (ext_below (by assumption) (sanity_any _)).mono ?_); rintro e w' ⟨rfl, hE⟩) | (go_at_call 14; (with_reducible refine (ext_tabs (by assumption) (make_any _ _ _)).mono ?_); rintro e w' ⟨rfl, hE⟩) | (go_at_call 15; (with_reducible refine (ext_tabs (by assumption) (pack_any _ _ _ _)).mono ?_); rintro e w' ⟨rfl, hE⟩) | (go_at_call 16; (with_reducible refine (ext_same (by assumption) (next_any _ _)).mono ?_); rintro e w' ⟨rfl, hE⟩) | (go_at_call 17; (with_reducible refine (ext_below (by assumption) (check_any _ _ _)).mono ?_); rintro e w' ⟨rfl, hE⟩))
      go_ret
      exact ⟨rfl, hE.below⟩
    have d3 : (o == g) = false := by simpa using d2
    have k4 : checkS (makeS l g) (packS k c o) = 70 := by rw [check_of R (by omega), if_pos (by omega)]
    have k5 : (nextS o != nextS g) = true := by rw [bne_iff_ne]; exact next_inj (by omega) (by omega) d2
    clear d2 R
    go_enter Tryd.func5, Tryd.ntmps5
    go_wp2_with (first | (go_at_call 9; (with_reducible refine (ext_below (by assumption) (sanity_any _)).mono ?_); rintro e w' ⟨rfl, hE⟩) | (go_at_call 14; (with_reducible refine (ext_tabs (by assumption) (make_any _ _ _)).mono ?_); rintro e w' ⟨rfl, hE⟩) | (go_at_call 15; (with_reducible refine (ext_tabs (by assumption) (pack_any _ _ _ _)).mono ?_); rintro e w' ⟨rfl, hE⟩) | (go_at_call 16; (with_reducible refine (ext_same (by assumption) (next_any _ _)).mono ?_); rintro e w' ⟨rfl, hE⟩) | (go_at_call 17; (with_reducible refine (ext_below (by assumption) (check_any _ _ _)).mono ?_); rintro e w' ⟨rfl, hE⟩))
    go_ret
    exact ⟨rfl, hE.below⟩
  · have hm := makeS_no R
    clear R
    go_enter Tryd.func5, Tryd.ntmps5
    go_wp2_with (first | (go_at_call 9; (with_reducible refine (ext_below (by assumption) (sanity_any _)).mono ?_); rintro e w' ⟨rfl, hE⟩) | (go_at_call 14; (with_reducible refine (ext_tabs (by assumption) (make_any _ _ _)).mono ?_); rintro e w' ⟨rfl, hE⟩) | (go_at_call 15; (with_reducible refine (ext_tabs (by assumption) (pack_any _ _ _ _)).mono ?_); rintro e w' ⟨rfl, hE⟩) | (go_at_call 16; (with_reducible refine (ext_same (by assumption) (next_any _ _)).mono ?_); rintro e w' ⟨rfl, hE⟩) | (go_at_call 17; (with_reducible refine (ext_below (by assumption) (check_any _ _ _)).mono ?_); rintro e w' ⟨rfl, hE⟩))
    go_ret
    exact ⟨rfl, hE.below⟩

end Go.Proofs.YtbmhgekeabodcaaDoor.Ptr
