/- Contracts of Next and Lines, and of the functions of the specification over integers, for all integers. -/
import Derived.Test.YtbmhgekeabodcaaDoorWalkC
namespace Go.Proofs.YtbmhgekeabodcaaDoor.Ptr
open Go Go.RowKit

set_option maxHeartbeats 400000 in
theorem next_any (g : Int) (w : World) :
    Calls Tryd.prog 16 #[.int .i64 g] w fun e w' => e = .returned (.int .i64 (nextS g)) ∧ w = w' := by
  by_cases h1 : g < 0
  · go_enter Tryd.func16, Tryd.ntmps16
    go_wp2
    go_ret
    exact ⟨ret_int (by unfold nextS; split <;> omega), rfl⟩
  by_cases h2 : 1048575 ≤ g
  · go_enter Tryd.func16, Tryd.ntmps16
    go_wp2
    go_ret
    exact ⟨ret_int (by unfold nextS; split <;> omega), rfl⟩
  go_enter Tryd.func16, Tryd.ntmps16
  go_wp2
  go_ret
  exact ⟨ret_int (by unfold nextS; split <;> omega), rfl⟩

set_option maxHeartbeats 400000 in
theorem rnext_any (g : Int) (w : World) :
    Calls Tryd.prog 34 #[.int .i64 g] w fun e w' => e = .returned (.int .i64 (nextS g)) ∧ w = w' := by
  by_cases h1 : g < 0
  · go_enter Tryd.func34, Tryd.ntmps34
    go_wp2
    go_ret
    exact ⟨ret_int (by unfold nextS; split <;> omega), rfl⟩
  by_cases h2 : 1048575 ≤ g
  · go_enter Tryd.func34, Tryd.ntmps34
    go_wp2
    go_ret
    exact ⟨ret_int (by unfold nextS; split <;> omega), rfl⟩
  go_enter Tryd.func34, Tryd.ntmps34
  go_wp2
  go_ret
  exact ⟨ret_int (by unfold nextS; split <;> omega), rfl⟩

theorem linesS_no {c : Int} (h : c < 0 ∨ 4 < c) : linesS c = 0 := by unfold linesS; rw [if_pos h]
theorem linesS_yes {c : Int} (h0 : 0 ≤ c) (h : c ≤ 4) : linesS c = 2 ^ c.toNat := by unfold linesS; rw [if_neg (by omega)]
set_option maxHeartbeats 400000 in
theorem lines_any (c : Int) (w : World) :
    Calls Tryd.prog 35 #[.int .i64 c] w fun e w' => e = .returned (.int .i64 (linesS c)) ∧ w = w' := by
  by_cases h1 : c < 0
  · go_enter Tryd.func35, Tryd.ntmps35
    go_wp2
    go_ret
    exact ⟨ret_int (linesS_no (by omega)).symm, rfl⟩
  by_cases h2 : 4 < c
  · go_enter Tryd.func35, Tryd.ntmps35
    go_wp2
    go_ret
    exact ⟨ret_int (linesS_no (by omega)).symm, rfl⟩
  have hp := pow_le c.toNat (by omega)
  go_enter Tryd.func35, Tryd.ntmps35
  go_wp2
  go_ret
  exact ⟨ret_int (linesS_yes (by omega) (by omega)).symm, rfl⟩
set_option maxHeartbeats 400000 in
theorem rlines_any (c : Int) (w : World) :
    Calls Tryd.prog 36 #[.int .i64 c] w fun e w' => e = .returned (.int .i64 (linesS c)) ∧ w = w' := by
  by_cases h1 : c < 0
  · go_enter Tryd.func36, Tryd.ntmps36
    go_wp2
    go_ret
    exact ⟨ret_int (linesS_no (by omega)).symm, rfl⟩
  by_cases h2 : 4 < c
  · go_enter Tryd.func36, Tryd.ntmps36
    go_wp2
    go_ret
    exact ⟨ret_int (linesS_no (by omega)).symm, rfl⟩
  go_enter Tryd.func36, Tryd.ntmps36
  go_wp2_with (go_at_call 48; refine (power_any _ _ (by omega) (by omega)).mono ?_; rintro e w' ⟨rfl, rfl⟩)
  go_ret
  exact ⟨ret_int (linesS_yes (by omega) (by omega)).symm, rfl⟩

set_option maxHeartbeats 400000 in
theorem rmake_any (l g : Int) (w : World) :
    Calls Tryd.prog 25 #[.int .i64 l, .int .i64 g] w fun e w' => e = .returned (.int .i64 (makeS l g)) ∧ w = w' := by
  by_cases h1 : l < 1
  · go_enter Tryd.func25, Tryd.ntmps25
    go_wp2
    go_ret
    exact ⟨ret_int (by unfold makeS; split <;> omega), rfl⟩
  by_cases h2 : 4095 < l
  · go_enter Tryd.func25, Tryd.ntmps25
    go_wp2
    go_ret
    exact ⟨ret_int (by unfold makeS; split <;> omega), rfl⟩
  by_cases h3 : g < 1
  · go_enter Tryd.func25, Tryd.ntmps25
    go_wp2
    go_ret
    exact ⟨ret_int (by unfold makeS; split <;> omega), rfl⟩
  by_cases h4 : 1048575 < g
  · go_enter Tryd.func25, Tryd.ntmps25
    go_wp2
    go_ret
    exact ⟨ret_int (by unfold makeS; split <;> omega), rfl⟩
  go_enter Tryd.func25, Tryd.ntmps25
  go_wp2
  go_ret
  exact ⟨ret_int (by unfold makeS; split <;> omega), rfl⟩

set_option maxHeartbeats 400000 in
theorem rpack_any (k c g : Int) (w : World) :
    Calls Tryd.prog 29 #[.int .i64 k, .int .i64 c, .int .i64 g] w fun e w' => e = .returned (.int .i64 (packS k c g)) ∧ w = w' := by
  by_cases h1 : k < 0
  · go_enter Tryd.func29, Tryd.ntmps29
    go_wp2
    go_ret
    exact ⟨ret_int (by unfold packS; split <;> omega), rfl⟩
  by_cases h2 : 15 < k
  · go_enter Tryd.func29, Tryd.ntmps29
    go_wp2
    go_ret
    exact ⟨ret_int (by unfold packS; split <;> omega), rfl⟩
  by_cases h3 : c < 0
  · go_enter Tryd.func29, Tryd.ntmps29
    go_wp2
    go_ret
    exact ⟨ret_int (by unfold packS; split <;> omega), rfl⟩
  by_cases h4 : 4 < c
  · go_enter Tryd.func29, Tryd.ntmps29
    go_wp2
    go_ret
    exact ⟨ret_int (by unfold packS; split <;> omega), rfl⟩
  by_cases h5 : g < 0
  · go_enter Tryd.func29, Tryd.ntmps29
    go_wp2
    go_ret
    exact ⟨ret_int (by unfold packS; split <;> omega), rfl⟩
  by_cases h6 : 1048575 < g
  · go_enter Tryd.func29, Tryd.ntmps29
    go_wp2
    go_ret
    exact ⟨ret_int (by unfold packS; split <;> omega), rfl⟩
  go_enter Tryd.func29, Tryd.ntmps29
  go_wp2
  go_ret
  exact ⟨ret_int (by unfold packS; split <;> omega), rfl⟩

set_option maxHeartbeats 400000 in
theorem rright_any (p : Int) (w : World) :
    Calls Tryd.prog 26 #[.int .i64 p] w fun e w' => e = .returned (.bool (rightB p)) ∧ w = w' := by
  by_cases h0 : p = 0
  · subst h0
    go_enter Tryd.func26, Tryd.ntmps26
    go_wp2
    go_ret
    exact ⟨rfl, rfl⟩
  have hz : (p == 0) = false := by simpa using h0
  cases hw : wordB p
  · have H := wordB_f hw
    go_enter Tryd.func26, Tryd.ntmps26
    go_wp2_with (go_at_call 47; refine (rword_any _ _).mono ?_; rintro e w' ⟨rfl, rfl⟩)
    go_ret
    exact ⟨ret_bool (by rw [Bool.eq_iff_iff]; simp [rightB]; omega), rfl⟩
  · have H := wordB_t hw
    by_cases h1 : 0 < p % 4096
    · by_cases h2 : 0 < p / 4096
      · go_enter Tryd.func26, Tryd.ntmps26
        go_wp2_with (go_at_call 47; refine (rword_any _ _).mono ?_; rintro e w' ⟨rfl, rfl⟩)
        go_ret
        exact ⟨ret_bool (by rw [Bool.eq_iff_iff]; simp [rightB]; omega), rfl⟩
      · go_enter Tryd.func26, Tryd.ntmps26
        go_wp2_with (go_at_call 47; refine (rword_any _ _).mono ?_; rintro e w' ⟨rfl, rfl⟩)
        go_ret
        exact ⟨ret_bool (by rw [Bool.eq_iff_iff]; simp [rightB]; omega), rfl⟩
    · go_enter Tryd.func26, Tryd.ntmps26
      go_wp2_with (go_at_call 47; refine (rword_any _ _).mono ?_; rintro e w' ⟨rfl, rfl⟩)
      go_ret
      exact ⟨ret_bool (by rw [Bool.eq_iff_iff]; simp [rightB]; omega), rfl⟩

set_option maxHeartbeats 400000 in
theorem rformed_any (p : Int) (w : World) :
    Calls Tryd.prog 30 #[.int .i64 p] w fun e w' => e = .returned (.bool (formedB p)) ∧ w = w' := by
  cases hw : wordB p
  · have H := wordB_f hw
    go_enter Tryd.func30, Tryd.ntmps30
    go_wp2_with (go_at_call 47; refine (rword_any _ _).mono ?_; rintro e w' ⟨rfl, rfl⟩)
    go_ret
    exact ⟨ret_bool (by rw [Bool.eq_iff_iff]; simp [formedB]; omega), rfl⟩
  · have H := wordB_t hw
    by_cases h1 : p / 16 % 8 ≤ 4
    · go_enter Tryd.func30, Tryd.ntmps30
      go_wp2_with (go_at_call 47; refine (rword_any _ _).mono ?_; rintro e w' ⟨rfl, rfl⟩)
      go_ret
      exact ⟨ret_bool (by rw [Bool.eq_iff_iff]; simp [formedB]; omega), rfl⟩
    · go_enter Tryd.func30, Tryd.ntmps30
      go_wp2_with (go_at_call 47; refine (rword_any _ _).mono ?_; rintro e w' ⟨rfl, rfl⟩)
      go_ret
      exact ⟨ret_bool (by rw [Bool.eq_iff_iff]; simp [formedB]; omega), rfl⟩

set_option maxHeartbeats 400000 in
theorem rline_any (p : Int) (w : World) :
    Calls Tryd.prog 27 #[.int .i64 p] w fun e w' => e = .returned (.int .i64 (lineS p)) ∧ w = w' := by
  cases hr : rightB p
  · go_enter Tryd.func27, Tryd.ntmps27
    go_wp2_with (go_at_call 26; refine (rright_any _ _).mono ?_; rintro e w' ⟨rfl, rfl⟩)
    go_ret
    exact ⟨ret_int (by simp [lineS, hr]), rfl⟩
  · have H := rightB_t hr
    go_enter Tryd.func27, Tryd.ntmps27
    go_wp2_with (go_at_call 26; refine (rright_any _ _).mono ?_; rintro e w' ⟨rfl, rfl⟩)
    go_ret
    exact ⟨ret_int (by simp [lineS, hr]), rfl⟩

set_option maxHeartbeats 400000 in
theorem rgen_any (p : Int) (w : World) :
    Calls Tryd.prog 28 #[.int .i64 p] w fun e w' => e = .returned (.int .i64 (genS p)) ∧ w = w' := by
  cases hr : rightB p
  · go_enter Tryd.func28, Tryd.ntmps28
    go_wp2_with (go_at_call 26; refine (rright_any _ _).mono ?_; rintro e w' ⟨rfl, rfl⟩)
    go_ret
    exact ⟨ret_int (by simp [genS, hr]), rfl⟩
  · have H := rightB_t hr
    go_enter Tryd.func28, Tryd.ntmps28
    go_wp2_with (go_at_call 26; refine (rright_any _ _).mono ?_; rintro e w' ⟨rfl, rfl⟩)
    go_ret
    exact ⟨ret_int (by simp [genS, hr]), rfl⟩

set_option maxHeartbeats 400000 in
theorem rkind_any (p : Int) (w : World) :
    Calls Tryd.prog 31 #[.int .i64 p] w fun e w' => e = .returned (.int .i64 (kindS p)) ∧ w = w' := by
  cases hr : formedB p
  · go_enter Tryd.func31, Tryd.ntmps31
    go_wp2_with (go_at_call 30; refine (rformed_any _ _).mono ?_; rintro e w' ⟨rfl, rfl⟩)
    go_ret
    exact ⟨ret_int (by simp [kindS, hr]), rfl⟩
  · have H := formedB_t hr
    go_enter Tryd.func31, Tryd.ntmps31
    go_wp2_with (go_at_call 30; refine (rformed_any _ _).mono ?_; rintro e w' ⟨rfl, rfl⟩)
    go_ret
    exact ⟨ret_int (by simp [kindS, hr]), rfl⟩

set_option maxHeartbeats 400000 in
theorem rclass_any (p : Int) (w : World) :
    Calls Tryd.prog 32 #[.int .i64 p] w fun e w' => e = .returned (.int .i64 (classS p)) ∧ w = w' := by
  cases hr : formedB p
  · go_enter Tryd.func32, Tryd.ntmps32
    go_wp2_with (go_at_call 30; refine (rformed_any _ _).mono ?_; rintro e w' ⟨rfl, rfl⟩)
    go_ret
    exact ⟨ret_int (by simp [classS, hr]), rfl⟩
  · have H := formedB_t hr
    go_enter Tryd.func32, Tryd.ntmps32
    go_wp2_with (go_at_call 30; refine (rformed_any _ _).mono ?_; rintro e w' ⟨rfl, rfl⟩)
    go_ret
    exact ⟨ret_int (by simp [classS, hr]), rfl⟩

set_option maxHeartbeats 400000 in
theorem rgener_any (p : Int) (w : World) :
    Calls Tryd.prog 33 #[.int .i64 p] w fun e w' => e = .returned (.int .i64 (generS p)) ∧ w = w' := by
  cases hr : formedB p
  · go_enter Tryd.func33, Tryd.ntmps33
    go_wp2_with (go_at_call 30; refine (rformed_any _ _).mono ?_; rintro e w' ⟨rfl, rfl⟩)
    go_ret
    exact ⟨ret_int (by simp [generS, hr]), rfl⟩
  · have H := formedB_t hr
    go_enter Tryd.func33, Tryd.ntmps33
    go_wp2_with (go_at_call 30; refine (rformed_any _ _).mono ?_; rintro e w' ⟨rfl, rfl⟩)
    go_ret
    exact ⟨ret_int (by simp [generS, hr]), rfl⟩

end Go.Proofs.YtbmhgekeabodcaaDoor.Ptr
