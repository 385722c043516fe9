/- The pointer law PointerFieldsAreApart returns true for all integers, in every world in which the two tables hold what their text lays. -/
import Derived.Test.YtbmhgekeabodcaaDoorWalkF
import Derived.Test.YtbmhgekeabodcaaDoorPlainC
import Derived.Lib.Hide
namespace Go.Proofs.YtbmhgekeabodcaaDoor.Ptr
open Go Go.RowKit

set_option maxHeartbeats 2000000 in
set_option maxRecDepth 100000 in
theorem apart_out (x a b v c d u : Int) (w : World) (T : Tabs w) (h : x < 0 ∨ 1099511627775 < x ∨ a < 0 ∨ 40 < a ∨ b < 0 ∨ 40 - a < b ∨ c < a + b ∨ 40 < c ∨ d < 0 ∨ 40 - c < d) :
    Calls Tryd.prog 4 #[.int .i64 x, .int .i64 a, .int .i64 b, .int .i64 v, .int .i64 c, .int .i64 d, .int .i64 u] w fun e w' => e = .returned (.bool true) ∧ Below w.heap.size w w' := by
  have E := Ext.refl T
  by_cases t0 : x < 0
  · clear h
    go_enter Tryd.func4, Tryd.ntmps4
    go_wp2_with (first | (go_at_call 9; (with_reducible refine (ext_below (by assumption) (sanity_any _)).mono ?_); rintro e w' ⟨rfl, hE⟩))
    go_ret
    exact ⟨rfl, hE.below⟩
  by_cases t1 : 1099511627775 < x
  · clear h
    go_enter Tryd.func4, Tryd.ntmps4
    go_wp2_with (first | (go_at_call 9; (with_reducible refine (ext_below (by assumption) (sanity_any _)).mono ?_); rintro e w' ⟨rfl, hE⟩))
    go_ret
    exact ⟨rfl, hE.below⟩
  by_cases t2 : a < 0
  · clear h
    go_enter Tryd.func4, Tryd.ntmps4
    go_wp2_with (first | (go_at_call 9; (with_reducible refine (ext_below (by assumption) (sanity_any _)).mono ?_); rintro e w' ⟨rfl, hE⟩))
    go_ret
    exact ⟨rfl, hE.below⟩
  by_cases t3 : 40 < a
  · clear h
    go_enter Tryd.func4, Tryd.ntmps4
    go_wp2_with (first | (go_at_call 9; (with_reducible refine (ext_below (by assumption) (sanity_any _)).mono ?_); rintro e w' ⟨rfl, hE⟩))
    go_ret
    exact ⟨rfl, hE.below⟩
  by_cases t4 : b < 0
  · clear h
    go_enter Tryd.func4, Tryd.ntmps4
    go_wp2_with (first | (go_at_call 9; (with_reducible refine (ext_below (by assumption) (sanity_any _)).mono ?_); rintro e w' ⟨rfl, hE⟩))
    go_ret
    exact ⟨rfl, hE.below⟩
  by_cases t5 : 40 - a < b
  · clear h
    go_enter Tryd.func4, Tryd.ntmps4
    go_wp2_with (first | (go_at_call 9; (with_reducible refine (ext_below (by assumption) (sanity_any _)).mono ?_); rintro e w' ⟨rfl, hE⟩))
    go_ret
    exact ⟨rfl, hE.below⟩
  by_cases t6 : c < a + b
  · clear h
    go_enter Tryd.func4, Tryd.ntmps4
    go_wp2_with (first | (go_at_call 9; (with_reducible refine (ext_below (by assumption) (sanity_any _)).mono ?_); rintro e w' ⟨rfl, hE⟩))
    go_ret
    exact ⟨rfl, hE.below⟩
  by_cases t7 : 40 < c
  · clear h
    go_enter Tryd.func4, Tryd.ntmps4
    go_wp2_with (first | (go_at_call 9; (with_reducible refine (ext_below (by assumption) (sanity_any _)).mono ?_); rintro e w' ⟨rfl, hE⟩))
    go_ret
    exact ⟨rfl, hE.below⟩
  by_cases t8 : d < 0
  · clear h
    go_enter Tryd.func4, Tryd.ntmps4
    go_wp2_with (first | (go_at_call 9; (with_reducible refine (ext_below (by assumption) (sanity_any _)).mono ?_); rintro e w' ⟨rfl, hE⟩))
    go_ret
    exact ⟨rfl, hE.below⟩
  by_cases t9 : 40 - c < d
  · clear h
    go_enter Tryd.func4, Tryd.ntmps4
    go_wp2_with (first | (go_at_call 9; (with_reducible refine (ext_below (by assumption) (sanity_any _)).mono ?_); rintro e w' ⟨rfl, hE⟩))
    go_ret
    exact ⟨rfl, hE.below⟩
  exfalso; omega

set_option maxHeartbeats 2000000 in
set_option maxRecDepth 100000 in
theorem apart_vals (x a b v c d u : Int) (w : World) (T : Tabs w) (t0 : ¬ x < 0) (t1 : ¬ 1099511627775 < x) (t2 : ¬ a < 0) (t3 : ¬ 40 < a) (t4 : ¬ b < 0) (t5 : ¬ 40 - a < b) (t6 : ¬ c < a + b) (t7 : ¬ 40 < c) (t8 : ¬ d < 0) (t9 : ¬ 40 - c < d) (h : v < 0 ∨ 2 ^ b.toNat ≤ v ∨ u < 0 ∨ 2 ^ d.toNat ≤ u) :
    Calls Tryd.prog 4 #[.int .i64 x, .int .i64 a, .int .i64 b, .int .i64 v, .int .i64 c, .int .i64 d, .int .i64 u] w fun e w' => e = .returned (.bool true) ∧ Below w.heap.size w w' := by
  have E := Ext.refl T
  have pb := pow_le b.toNat (by omega)
  have pd := pow_le d.toNat (by omega)
  by_cases s0 : v < 0
  · clear h
    go_enter Tryd.func4, Tryd.ntmps4
    go_wp2_with (first | (go_at_call 9; (with_reducible refine (ext_below (by assumption) (sanity_any _)).mono ?_); rintro e w' ⟨rfl, hE⟩))
    go_ret
    exact ⟨rfl, hE.below⟩
  by_cases s1 : 2 ^ b.toNat ≤ v
  · clear h
    go_enter Tryd.func4, Tryd.ntmps4
    go_wp2_with (first | (go_at_call 9; (with_reducible refine (ext_below (by assumption) (sanity_any _)).mono ?_); rintro e w' ⟨rfl, hE⟩))
    go_ret
    exact ⟨rfl, hE.below⟩
  by_cases s2 : u < 0
  · clear h
    go_enter Tryd.func4, Tryd.ntmps4
    go_wp2_with (first | (go_at_call 9; (with_reducible refine (ext_below (by assumption) (sanity_any _)).mono ?_); rintro e w' ⟨rfl, hE⟩))
    go_ret
    exact ⟨rfl, hE.below⟩
  by_cases s3 : 2 ^ d.toNat ≤ u
  · clear h
    go_enter Tryd.func4, Tryd.ntmps4
    go_wp2_with (first | (go_at_call 9; (with_reducible refine (ext_below (by assumption) (sanity_any _)).mono ?_); rintro e w' ⟨rfl, hE⟩))
    go_ret
    exact ⟨rfl, hE.below⟩
  exfalso; omega

set_option maxHeartbeats 4000000 in
set_option maxRecDepth 100000 in
theorem apart_in (x a b v c d u : Int) (w : World) (T : Tabs w) (t0 : ¬ x < 0) (t1 : ¬ 1099511627775 < x) (t2 : ¬ a < 0) (t3 : ¬ 40 < a) (t4 : ¬ b < 0) (t5 : ¬ 40 - a < b) (t6 : ¬ c < a + b) (t7 : ¬ 40 < c) (t8 : ¬ d < 0) (t9 : ¬ 40 - c < d) (s0 : 0 ≤ v) (s1 : v < 2 ^ b.toNat) (s2 : 0 ≤ u) (s3 : u < 2 ^ d.toNat) :
    Calls Tryd.prog 4 #[.int .i64 x, .int .i64 a, .int .i64 b, .int .i64 v, .int .i64 c, .int .i64 d, .int .i64 u] w fun e w' => e = .returned (.bool true) ∧ Below w.heap.size w w' := by
  have E := Ext.refl T
  have pb := pow_le b.toNat (by omega)
  have pd := pow_le d.toNat (by omega)
  obtain ⟨A, A0, A1, e1, e2, f1, f2, hbit⟩ := apart_int x a b v c d u (by omega) (by omega) (by omega) (by omega) (by omega) (by omega) (by omega) s0 s1 s2 s3
  have HB := Lib.hid hbit
  clear hbit
  go_enter Tryd.func4, Tryd.ntmps4
  go_wp2_with (first | (go_at_call 12; (with_reducible refine (ext_drew (by assumption) (with_any _ _ _ _ _)).mono ?_); rintro e w' ⟨rfl, hE⟩) | (go_at_call 10; (with_reducible refine (ext_below (by assumption) (fun _ => field_any _ _ _ _)).mono ?_); rintro e w' ⟨rfl, hE⟩))
  clear e1 e2 f1 f2 pb pd s0 s1 s2 s3 E T
  go_loopw [17] (fun i wr => ∃ k : Nat, k ≤ 40 ∧ i = .int .i64 k ∧ Ext w wr) (fun i _ => 40 - (intOf i).toNat)
  case atStart => exact ⟨0, by omega, rfl, hE⟩
  case round =>
    obtain ⟨k, hk, rfl, hR⟩ := hrel
    by_cases h40 : k < 40
    · by_cases in1 : a ≤ k ∧ (k : Int) < a + b
      · obtain ⟨i1, i2⟩ := in1
        go_wp2
        go_quiet (fail)
        go_wp2
        exact ⟨⟨k + 1, by omega, by go_num, ⟨hR.tabs.drewN _, below_drewN hR.below _⟩⟩, by simp [intOf]; omega⟩
      · by_cases in2 : c ≤ k ∧ (k : Int) < c + d
        · obtain ⟨i1, i2⟩ := in2
          by_cases g1 : a ≤ k
          · have g2 : a + b ≤ k := by omega
            clear in1
            go_wp2
            go_quiet (fail)
            go_wp2
            exact ⟨⟨k + 1, by omega, by go_num, ⟨hR.tabs.drewN _, below_drewN hR.below _⟩⟩, by simp [intOf]; omega⟩
          · exfalso; omega
        · have hne : (bits .and .i64 (A / 2 ^ k) 1 != bits .and .i64 (x / 2 ^ k) 1) = false := by rw [HB.out k in1 in2]; simp
          by_cases g1 : a ≤ k
          · have g2 : a + b ≤ k := by omega
            by_cases g3 : c ≤ k
            · have g4 : c + d ≤ k := by omega
              clear in1 in2
              go_wp2
              go_quiet (fail)
              go_wp2
              exact ⟨⟨k + 1, by omega, by go_num, ⟨hR.tabs.drewN _, below_drewN hR.below _⟩⟩, by simp [intOf]; omega⟩
            · clear in1 in2
              go_wp2
              go_quiet (fail)
              go_wp2
              exact ⟨⟨k + 1, by omega, by go_num, ⟨hR.tabs.drewN _, below_drewN hR.below _⟩⟩, by simp [intOf]; omega⟩
          · have g3 : ¬ c ≤ k := by omega
            clear in1 in2
            go_wp2
            go_quiet (fail)
            go_wp2
            exact ⟨⟨k + 1, by omega, by go_num, ⟨hR.tabs.drewN _, below_drewN hR.below _⟩⟩, by simp [intOf]; omega⟩
    · have E := hR
      go_wp2_with (first | (go_at_call 9; (with_reducible refine (ext_below (by assumption) (sanity_any _)).mono ?_); rintro e w' ⟨rfl, hE⟩))
      go_ret
      exact ⟨rfl, hE.below⟩

theorem law_apart (x a b v c d u : Int) (w : World) (T : Tabs w) :
    Calls Tryd.prog 4 #[.int .i64 x, .int .i64 a, .int .i64 b, .int .i64 v, .int .i64 c, .int .i64 d, .int .i64 u] w fun e w' => e = .returned (.bool true) ∧ Below w.heap.size w w' := by
  by_cases h : x < 0 ∨ 1099511627775 < x ∨ a < 0 ∨ 40 < a ∨ b < 0 ∨ 40 - a < b ∨ c < a + b ∨ 40 < c ∨ d < 0 ∨ 40 - c < d
  · exact apart_out x a b v c d u w T h
  by_cases h2 : v < 0 ∨ 2 ^ b.toNat ≤ v ∨ u < 0 ∨ 2 ^ d.toNat ≤ u
  · exact apart_vals x a b v c d u w T (by omega) (by omega) (by omega) (by omega) (by omega) (by omega) (by omega) (by omega) (by omega) (by omega) h2
  exact apart_in x a b v c d u w T (by omega) (by omega) (by omega) (by omega) (by omega) (by omega) (by omega) (by omega) (by omega) (by omega) (by omega) (by omega) (by omega) (by omega)

end Go.Proofs.YtbmhgekeabodcaaDoor.Ptr
