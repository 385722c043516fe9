/- Contracts of word, valid, of, Field and With of package pointer (printed by gen_ptr.py). -/
import Derived.Test.YtcngblnkfiggjaaDoorPtrP
import Derived.Handy
import Derived.Deep.RegionWith
import Derived.Deep.RegionHeld3
namespace Go.Proofs.YtcngblnkfiggjaaDoor.Rm
open Go Go.RowKit

/-- A callee that leaves the world alone, in a region that only reads. -/
theorem quiet_same {P : Program} {f : FuncId} {args : Array Value} {w : World} {n : Nat} {v : Value}
    (h : Calls P f args (w.drewN n) fun e w' => e = .returned v ∧ w.drewN n = w') : Calls P f args (w.drewN n) fun e w'' => e = .returned v ∧ ∃ m, w'' = w.drewN m :=
  h.mono fun _ _ ⟨he, hm⟩ => ⟨he, n, hm.symm⟩
set_option maxHeartbeats 400000 in
theorem word_any (x : Int) (w : World) :
    Calls Tryd.prog 73 #[.int .i64 x] w fun e w' => e = .returned (.bool (wordB x)) ∧ w = w' := by
  by_cases h0 : 0 ≤ x
  · go_enter Tryd.func73, Tryd.ntmps73
    go_wp2
    go_ret
    exact ⟨ret_bool (by simp [wordB, h0]), rfl⟩
  · go_enter Tryd.func73, Tryd.ntmps73
    go_wp2
    go_ret
    exact ⟨ret_bool (by simp [wordB]; omega), rfl⟩
set_option maxHeartbeats 400000 in
theorem rword_any (x : Int) (w : World) :
    Calls Tryd.prog 72 #[.int .i64 x] w fun e w' => e = .returned (.bool (wordB x)) ∧ w = w' := by
  by_cases h0 : 0 ≤ x
  · go_enter Tryd.func72, Tryd.ntmps72
    go_wp2
    go_ret
    exact ⟨ret_bool (by simp [wordB, h0]), rfl⟩
  · go_enter Tryd.func72, Tryd.ntmps72
    go_wp2
    go_ret
    exact ⟨ret_bool (by simp [wordB]; omega), rfl⟩
set_option maxHeartbeats 400000 in
theorem valid_any (a b : Int) (w : World) :
    Calls Tryd.prog 74 #[.int .i64 a, .int .i64 b] w fun e w' => e = .returned (.bool (validB a b)) ∧ w = w' := by
  by_cases h0 : 0 ≤ a
  · by_cases h1 : a ≤ 40
    · by_cases h2 : 0 ≤ b
      · go_enter Tryd.func74, Tryd.ntmps74
        go_wp2
        go_ret
        exact ⟨ret_bool (by rw [Bool.eq_iff_iff]; simp [validB]; omega), rfl⟩
      · go_enter Tryd.func74, Tryd.ntmps74
        go_wp2
        go_ret
        exact ⟨ret_bool (by rw [Bool.eq_iff_iff]; simp [validB]; omega), rfl⟩
    · go_enter Tryd.func74, Tryd.ntmps74
      go_wp2
      go_ret
      exact ⟨ret_bool (by rw [Bool.eq_iff_iff]; simp [validB]; omega), rfl⟩
  · go_enter Tryd.func74, Tryd.ntmps74
    go_wp2
    go_ret
    exact ⟨ret_bool (by rw [Bool.eq_iff_iff]; simp [validB]; omega), rfl⟩
set_option maxHeartbeats 400000 in
theorem clos_any (a : Addr) (x t b : Int) (w : World) (hc : w.cell? a = some (.int .i64 x)) (hx0 : 0 ≤ x) (hx1 : x ≤ 1099511627775)
    (ht0 : 0 ≤ t) (ht1 : t ≤ 40) (hb0 : 0 ≤ b) (hb1 : b ≤ 40) (ha : a.block < w.heap.size) :
    Calls Tryd.prog 98 #[.agg #[.int .i64 t, .int .i64 b], .pointer (some a)] w fun e w' => e = .returned (.int .i64 (fld x t b)) ∧ Below w.heap.size w w' := by
  go_enter Tryd.func98, Tryd.ntmps98
  go_wp2
  go_quiet (fail)
  go_wp2
  go_ret
  exact ⟨ret_int (mask_eq x t b hx0 hx1 hb1), below_drewN ((Below.refl _ _).alloc (Nat.le_refl _) _) _⟩
set_option maxHeartbeats 400000 in
theorem of_any (x : Int) (w : World) :
    Calls Tryd.prog 75 #[.int .i64 x] w fun e w' => e = .returned (.func (.func 98) #[] #[.pointer (some ⟨w.heap.size, 0, none⟩)]) ∧ w' = w.alloc (.cells #[.int .i64 x] 3) := by
  go_enter Tryd.func75, Tryd.ntmps75
  go_wp2
  go_ret
  exact ⟨rfl, rfl⟩
theorem pow_step (k : Nat) : (2 : Int) ^ k * 2 = 2 ^ (k + 1) := by rw [Int.pow_succ]
set_option maxHeartbeats 400000 in
theorem field_any (x t b : Int) (w : World) :
    Calls Tryd.prog 44 #[.int .i64 x, .int .i64 t, .int .i64 b] w fun e w' => e = .returned (.int .i64 (fieldS x t b)) ∧ Below w.heap.size w w' := by
  by_cases hw : wordB x = true
  · by_cases hv : validB t b = true
    · have H1 := wordB_t hw
      have H2 := validB_t hv
      go_enter Tryd.func44, Tryd.ntmps44
      go_wp2_with (first | (go_at_call 73; refine (word_any _ _).mono ?_; rintro e w' ⟨rfl, rfl⟩) | (go_at_call 74; refine (valid_any _ _ _).mono ?_; rintro e w' ⟨rfl, rfl⟩) | (go_at_call 75; refine (of_any _ _).mono ?_; rintro e w' ⟨rfl, rfl⟩))
      refine (clos_any _ x t b _ (by go_simp) (by omega) (by omega) (by omega) (by omega) (by omega) (by omega) (by simp)).mono ?_
      rintro e w' ⟨rfl, hb⟩
      go_wp2
      go_ret
      exact ⟨ret_int (by simp [fieldS, hw, hv]), ((Below.refl _ _).alloc (Nat.le_refl _) _).trans (hb.mono (by simp))⟩
    · simp only [Bool.not_eq_true] at hv
      go_enter Tryd.func44, Tryd.ntmps44
      go_wp2_with (first | (go_at_call 73; refine (word_any _ _).mono ?_; rintro e w' ⟨rfl, rfl⟩) | (go_at_call 74; refine (valid_any _ _ _).mono ?_; rintro e w' ⟨rfl, rfl⟩))
      go_ret
      exact ⟨ret_int (by simp [fieldS, hw, hv]), Below.refl _ _⟩
  · simp only [Bool.not_eq_true] at hw
    go_enter Tryd.func44, Tryd.ntmps44
    go_wp2_with (first | (go_at_call 73; refine (word_any _ _).mono ?_; rintro e w' ⟨rfl, rfl⟩))
    go_ret
    exact ⟨ret_int (by simp [fieldS, hw]), Below.refl _ _⟩
set_option maxHeartbeats 400000 in
theorem with_any (x t b v : Int) (w : World) :
    Calls Tryd.prog 37 #[.int .i64 x, .int .i64 t, .int .i64 b, .int .i64 v] w fun e w' => e = .returned (.int .i64 (withS x t b v)) ∧ ∃ n, w' = w.drewN n := by
  by_cases hw : wordB x = true
  · by_cases hv : validB t b = true
    · have H1 := wordB_t hw
      have H2 := validB_t hv
      have hp2 := pow_le b.toNat (by omega)
      by_cases h0 : 0 ≤ v
      · by_cases h1 : v < 2 ^ b.toNat
        · go_enter Tryd.func37, Tryd.ntmps37
          go_wp2_with (first | (go_at_call 73; refine (word_any _ _).mono ?_; rintro e w' ⟨rfl, rfl⟩) | (go_at_call 74; refine (valid_any _ _ _).mono ?_; rintro e w' ⟨rfl, rfl⟩))
          go_quiet (fail)
          go_wp2
          go_ret
          exact ⟨ret_int (by rw [set_eq x t b v (by omega) (by omega) (by omega) (by omega) (by omega) h0 h1, withS_yes hw hv h0 h1]), _, rfl⟩
        · go_enter Tryd.func37, Tryd.ntmps37
          go_wp2_with (first | (go_at_call 73; refine (word_any _ _).mono ?_; rintro e w' ⟨rfl, rfl⟩) | (go_at_call 74; refine (valid_any _ _ _).mono ?_; rintro e w' ⟨rfl, rfl⟩))
          go_ret
          exact ⟨ret_int (withS_no _ _ _ _ (by omega)).symm, 0, rfl⟩
      · go_enter Tryd.func37, Tryd.ntmps37
        go_wp2_with (first | (go_at_call 73; refine (word_any _ _).mono ?_; rintro e w' ⟨rfl, rfl⟩) | (go_at_call 74; refine (valid_any _ _ _).mono ?_; rintro e w' ⟨rfl, rfl⟩))
        go_ret
        exact ⟨ret_int (withS_no _ _ _ _ (by omega)).symm, 0, rfl⟩
    · simp only [Bool.not_eq_true] at hv
      go_enter Tryd.func37, Tryd.ntmps37
      go_wp2_with (first | (go_at_call 73; refine (word_any _ _).mono ?_; rintro e w' ⟨rfl, rfl⟩) | (go_at_call 74; refine (valid_any _ _ _).mono ?_; rintro e w' ⟨rfl, rfl⟩))
      go_ret
      exact ⟨ret_int (by simp [withS, hw, hv]), 0, rfl⟩
  · simp only [Bool.not_eq_true] at hw
    go_enter Tryd.func37, Tryd.ntmps37
    go_wp2_with (first | (go_at_call 73; refine (word_any _ _).mono ?_; rintro e w' ⟨rfl, rfl⟩))
    go_ret
    exact ⟨ret_int (by simp [withS, hw]), 0, rfl⟩

end Go.Proofs.YtcngblnkfiggjaaDoor.Rm
