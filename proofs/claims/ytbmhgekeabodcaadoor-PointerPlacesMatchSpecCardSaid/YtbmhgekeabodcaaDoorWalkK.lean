/- The pointer law PointerPlacesMatchSpec returns true for every layout and all integers, in every world in which the two tables hold what their text lays. -/
import Derived.Test.YtbmhgekeabodcaaDoorWalkJ
import Derived.Lib.Hide
namespace Go.Proofs.YtbmhgekeabodcaaDoor.Ptr
open Go Go.RowKit


set_option maxHeartbeats 16000000 in
set_option maxRecDepth 100000 in
theorem places_in (l0 l1 l2 l3 l4 l5 l6 l7 n p c : Int) (w : World) (T : Tabs w) (n0 : -9223372036854775808 ≤ n) (n1 : n ≤ 9223372036854775807) (hl0 : 0 ≤ l0) (kl0 : l0 ≤ 4096) (hl1 : 0 ≤ l1) (kl1 : l1 ≤ 4096) (hl2 : 0 ≤ l2) (kl2 : l2 ≤ 4096) (hl3 : 0 ≤ l3) (kl3 : l3 ≤ 4096) (hl4 : 0 ≤ l4) (kl4 : l4 ≤ 4096) (hl5 : 0 ≤ l5) (kl5 : l5 ≤ 4096) (hl6 : 0 ≤ l6) (kl6 : l6 ≤ 4096) (hl7 : 0 ≤ l7) (kl7 : l7 ≤ 4096) :
    Calls Tryd.prog 8 #[.agg #[.int .i64 l0, .int .i64 l1, .int .i64 l2, .int .i64 l3, .int .i64 l4, .int .i64 l5, .int .i64 l6, .int .i64 l7], .int .i64 n, .int .i64 p, .int .i64 c] w fun e w' => e = .returned (.bool true) ∧ Below w.heap.size w w' := by
  have B0 : Below w.heap.size w (w.alloc (.cells #[.int .i64 l0, .int .i64 l1, .int .i64 l2, .int .i64 l3, .int .i64 l4, .int .i64 l5, .int .i64 l6, .int .i64 l7] 35)) := (Below.refl _ _).alloc (Nat.le_refl _) _
  have Y0 := Lay.new l0 l1 l2 l3 l4 l5 l6 l7 w
  have T0 := T.below B0
  go_enter Tryd.func8, Tryd.ntmps8
  go_wp2_with fail
  generalize w.alloc (.cells #[.int .i64 l0, .int .i64 l1, .int .i64 l2, .int .i64 l3, .int .i64 l4, .int .i64 l5, .int .i64 l6, .int .i64 l7] 35) = w0 at *
  have d0 := Y0.c0
  have d1 := Y0.c1
  have d2 := Y0.c2
  have d3 := Y0.c3
  have d4 := Y0.c4
  have d5 := Y0.c5
  have d6 := Y0.c6
  have d7 := Y0.c7
  refine (mapped_yes l0 l1 l2 l3 l4 l5 l6 l7 _ hl0 kl0 hl1 kl1 hl2 kl2 hl3 kl3 hl4 kl4 hl5 kl5 hl6 kl6 hl7 kl7).mono ?_
  rintro e w1 ⟨rfl, b1⟩
  clear d0 d1 d2 d3 d4 d5 d6 d7
  have Y1 := Y0.below b1
  have T1 := T0.below b1
  have d0 := Y1.c0
  have d1 := Y1.c1
  have d2 := Y1.c2
  have d3 := Y1.c3
  have d4 := Y1.c4
  have d5 := Y1.c5
  have d6 := Y1.c6
  have d7 := Y1.c7
  go_wp2_with fail
  clear d0 d1 d2 d3 d4 d5 d6 d7 Y0 T0 T
  refine wp_region_class (C := fun w' => Below w1.heap.size w1 w' ∧ Lay w.heap.size l0 l1 l2 l3 l4 l5 l6 l7 w' ∧ Tabs w') (by kernel_rfl) (by kernel_rfl) ⟨(Below.refl _ _).drew, Y1.below ((Below.refl _ _).drew), T1.drew⟩ ?_
  refine q_take (by kernel_rfl) (.bool true) (fun w' hw' => ?_) (fun K hK => ?_)
  · unfold Oper.quietAt
    go_simp
    exact (sanity_any w' hw'.2.2).mono fun e w'' ⟨he, hb⟩ => ⟨he, hw'.1.trans (hb.mono hw'.1.size), hw'.2.1.below hb, hw'.2.2.below hb⟩
  go_simp
  refine hK _ ?_
  clear hK K
  refine q_take (by kernel_rfl) (.bool true) (fun w' hw' => ?_) (fun K hK => ?_)
  · unfold Oper.quietAt
    go_simp
  go_simp
  refine hK _ ?_
  clear hK K
  refine q_take (by kernel_rfl) (.agg #[.int .i64 l0, .int .i64 l1, .int .i64 l2, .int .i64 l3, .int .i64 l4, .int .i64 l5, .int .i64 l6, .int .i64 l7]) (fun w' hw' => ?_) (fun K hK => ?_)
  · obtain ⟨_, Y', _⟩ := hw'
    have d0 := Y'.c0
    have d1 := Y'.c1
    have d2 := Y'.c2
    have d3 := Y'.c3
    have d4 := Y'.c4
    have d5 := Y'.c5
    have d6 := Y'.c6
    have d7 := Y'.c7
    unfold Oper.quietAt
    go_simp
  go_simp
  refine hK _ ?_
  clear hK K
  refine q_take (by kernel_rfl) (.int .i64 n) (fun w' hw' => ?_) (fun K hK => ?_)
  · unfold Oper.quietAt
    go_simp
  go_simp
  refine hK _ ?_
  clear hK K
  refine q_take (by kernel_rfl) (.int .i64 (chunkS l6 l7 n)) (fun w' hw' => ?_) (fun K hK => ?_)
  · unfold Oper.quietAt
    go_simp
    exact (chunk_any l0 l1 l2 l3 l4 l5 l6 l7 n w' hl6 kl6 hl7 kl7 n0 n1).mono fun e w'' ⟨he, hb⟩ => ⟨he, hw'.1.trans (hb.mono hw'.1.size), hw'.2.1.below hb, hw'.2.2.below hb⟩
  go_simp
  refine hK _ ?_
  clear hK K
  refine q_take (by kernel_rfl) (.agg #[.int .i64 l0, .int .i64 l1, .int .i64 l2, .int .i64 l3, .int .i64 l4, .int .i64 l5, .int .i64 l6, .int .i64 l7]) (fun w' hw' => ?_) (fun K hK => ?_)
  · obtain ⟨_, Y', _⟩ := hw'
    have d0 := Y'.c0
    have d1 := Y'.c1
    have d2 := Y'.c2
    have d3 := Y'.c3
    have d4 := Y'.c4
    have d5 := Y'.c5
    have d6 := Y'.c6
    have d7 := Y'.c7
    unfold Oper.quietAt
    go_simp
  go_simp
  refine hK _ ?_
  clear hK K
  refine q_take (by kernel_rfl) (.int .i64 n) (fun w' hw' => ?_) (fun K hK => ?_)
  · unfold Oper.quietAt
    go_simp
  go_simp
  refine hK _ ?_
  clear hK K
  refine q_take (by kernel_rfl) (.int .i64 (chunkS l6 l7 n)) (fun w' hw' => ?_) (fun K hK => ?_)
  · unfold Oper.quietAt
    go_simp
    exact (rchunk_any l0 l1 l2 l3 l4 l5 l6 l7 n w' hl6 kl6 hl7 kl7 n0 n1).mono fun e w'' ⟨he, hb⟩ => ⟨he, hw'.1.trans (hb.mono hw'.1.size), hw'.2.1.below hb, hw'.2.2.below hb⟩
  go_simp
  refine hK _ ?_
  clear hK K
  refine q_take (by kernel_rfl) (.bool true) (fun w' hw' => ?_) (fun K hK => ?_)
  · unfold Oper.quietAt
    go_simp
  go_simp
  refine hK _ ?_
  clear hK K
  refine q_take (by kernel_rfl) (.bool true) (fun w' hw' => ?_) (fun K hK => ?_)
  · unfold Oper.quietAt
    go_simp
  go_simp
  refine hK _ ?_
  clear hK K
  refine q_take (by kernel_rfl) (.bool true) (fun w' hw' => ?_) (fun K hK => ?_)
  · unfold Oper.quietAt
    go_simp
  go_simp
  refine hK _ ?_
  clear hK K
  refine q_take (by kernel_rfl) (.agg #[.int .i64 l0, .int .i64 l1, .int .i64 l2, .int .i64 l3, .int .i64 l4, .int .i64 l5, .int .i64 l6, .int .i64 l7]) (fun w' hw' => ?_) (fun K hK => ?_)
  · obtain ⟨_, Y', _⟩ := hw'
    have d0 := Y'.c0
    have d1 := Y'.c1
    have d2 := Y'.c2
    have d3 := Y'.c3
    have d4 := Y'.c4
    have d5 := Y'.c5
    have d6 := Y'.c6
    have d7 := Y'.c7
    unfold Oper.quietAt
    go_simp
  go_simp
  refine hK _ ?_
  clear hK K
  refine q_take (by kernel_rfl) (.int .i64 p) (fun w' hw' => ?_) (fun K hK => ?_)
  · unfold Oper.quietAt
    go_simp
  go_simp
  refine hK _ ?_
  clear hK K
  refine q_take (by kernel_rfl) (.int .i64 c) (fun w' hw' => ?_) (fun K hK => ?_)
  · unfold Oper.quietAt
    go_simp
  go_simp
  refine hK _ ?_
  clear hK K
  refine q_take (by kernel_rfl) (.bool (withinB l6 l7 p c)) (fun w' hw' => ?_) (fun K hK => ?_)
  · unfold Oper.quietAt
    go_simp
    exact (within_any l0 l1 l2 l3 l4 l5 l6 l7 p c w' hw'.2.2 hl6 kl6 hl7 kl7).mono fun e w'' ⟨he, hb⟩ => ⟨he, hw'.1.trans (hb.mono hw'.1.size), hw'.2.1.below hb, hw'.2.2.below hb⟩
  go_simp
  refine hK _ ?_
  clear hK K
  refine q_take (by kernel_rfl) (.agg #[.int .i64 l0, .int .i64 l1, .int .i64 l2, .int .i64 l3, .int .i64 l4, .int .i64 l5, .int .i64 l6, .int .i64 l7]) (fun w' hw' => ?_) (fun K hK => ?_)
  · obtain ⟨_, Y', _⟩ := hw'
    have d0 := Y'.c0
    have d1 := Y'.c1
    have d2 := Y'.c2
    have d3 := Y'.c3
    have d4 := Y'.c4
    have d5 := Y'.c5
    have d6 := Y'.c6
    have d7 := Y'.c7
    unfold Oper.quietAt
    go_simp
  go_simp
  refine hK _ ?_
  clear hK K
  refine q_take (by kernel_rfl) (.int .i64 p) (fun w' hw' => ?_) (fun K hK => ?_)
  · unfold Oper.quietAt
    go_simp
  go_simp
  refine hK _ ?_
  clear hK K
  refine q_take (by kernel_rfl) (.int .i64 c) (fun w' hw' => ?_) (fun K hK => ?_)
  · unfold Oper.quietAt
    go_simp
  go_simp
  refine hK _ ?_
  clear hK K
  refine q_take (by kernel_rfl) (.bool (withinB l6 l7 p c)) (fun w' hw' => ?_) (fun K hK => ?_)
  · unfold Oper.quietAt
    go_simp
    exact (rwithin_any l0 l1 l2 l3 l4 l5 l6 l7 p c w' hl6 kl6 hl7 kl7).mono fun e w'' ⟨he, hb⟩ => ⟨he, hw'.1.trans (hb.mono hw'.1.size), hw'.2.1.below hb, hw'.2.2.below hb⟩
  go_simp
  refine hK _ ?_
  clear hK K
  refine q_take (by kernel_rfl) (.bool true) (fun w' hw' => ?_) (fun K hK => ?_)
  · unfold Oper.quietAt
    go_simp
  go_simp
  refine hK _ ?_
  clear hK K
  refine q_take (by kernel_rfl) (.bool true) (fun w' hw' => ?_) (fun K hK => ?_)
  · unfold Oper.quietAt
    go_simp
  go_simp
  refine hK _ ?_
  clear hK K
  refine q_take (by kernel_rfl) (.bool true) (fun w' hw' => ?_) (fun K hK => ?_)
  · unfold Oper.quietAt
    go_simp
  go_simp
  refine hK _ ?_
  clear hK K

  refine wpQuiet_nil ?_
  intro w2 hw2
  obtain ⟨b2, _, _⟩ := hw2
  go_wp2
  go_ret
  exact ⟨rfl, below_next (below_next B0 b1) b2⟩

set_option maxHeartbeats 4000000 in
set_option maxRecDepth 100000 in
theorem places_out (l0 l1 l2 l3 l4 l5 l6 l7 n p c : Int) (w : World) (T : Tabs w) (h : l0 < 0 ∨ 4096 < l0 ∨ l1 < 0 ∨ 4096 < l1 ∨ l2 < 0 ∨ 4096 < l2 ∨ l3 < 0 ∨ 4096 < l3 ∨ l4 < 0 ∨ 4096 < l4 ∨ l5 < 0 ∨ 4096 < l5 ∨ l6 < 0 ∨ 4096 < l6 ∨ l7 < 0 ∨ 4096 < l7) :
    Calls Tryd.prog 8 #[.agg #[.int .i64 l0, .int .i64 l1, .int .i64 l2, .int .i64 l3, .int .i64 l4, .int .i64 l5, .int .i64 l6, .int .i64 l7], .int .i64 n, .int .i64 p, .int .i64 c] w fun e w' => e = .returned (.bool true) ∧ Below w.heap.size w w' := by
  have B0 : Below w.heap.size w (w.alloc (.cells #[.int .i64 l0, .int .i64 l1, .int .i64 l2, .int .i64 l3, .int .i64 l4, .int .i64 l5, .int .i64 l6, .int .i64 l7] 35)) := (Below.refl _ _).alloc (Nat.le_refl _) _
  have T0 := T.below B0
  have H := Lib.hid h
  clear h
  go_enter Tryd.func8, Tryd.ntmps8
  go_wp2_with fail
  refine (mapped_no l0 l1 l2 l3 l4 l5 l6 l7 _ H.out).mono ?_
  rintro e w1 ⟨rfl, b1⟩
  have T1 := T0.below b1
  go_wp2_with fail
  refine (sanity_any _ T1).mono ?_
  rintro e w2 ⟨rfl, b2⟩
  go_wp2
  go_ret
  exact ⟨rfl, below_next (below_next B0 b1) b2⟩

theorem law_places (l0 l1 l2 l3 l4 l5 l6 l7 n p c : Int) (w : World) (T : Tabs w) (n0 : -9223372036854775808 ≤ n) (n1 : n ≤ 9223372036854775807) :
    Calls Tryd.prog 8 #[.agg #[.int .i64 l0, .int .i64 l1, .int .i64 l2, .int .i64 l3, .int .i64 l4, .int .i64 l5, .int .i64 l6, .int .i64 l7], .int .i64 n, .int .i64 p, .int .i64 c] w fun e w' => e = .returned (.bool true) ∧ Below w.heap.size w w' := by
  by_cases h : l0 < 0 ∨ 4096 < l0 ∨ l1 < 0 ∨ 4096 < l1 ∨ l2 < 0 ∨ 4096 < l2 ∨ l3 < 0 ∨ 4096 < l3 ∨ l4 < 0 ∨ 4096 < l4 ∨ l5 < 0 ∨ 4096 < l5 ∨ l6 < 0 ∨ 4096 < l6 ∨ l7 < 0 ∨ 4096 < l7
  · exact places_out l0 l1 l2 l3 l4 l5 l6 l7 n p c w T h
  · exact places_in l0 l1 l2 l3 l4 l5 l6 l7 n p c w T n0 n1 (by omega) (by omega) (by omega) (by omega) (by omega) (by omega) (by omega) (by omega) (by omega) (by omega) (by omega) (by omega) (by omega) (by omega) (by omega) (by omega)

end Go.Proofs.YtbmhgekeabodcaaDoor.Ptr
