/- Contracts of the small functions of package pointer and of its specification (word, valid, of, power, Field, With): what each returns, for all integers; the memory that was there stays as it was. -/
import Derived.Test.YtbmhgekeabodcaaDoorRows
import Derived.Test.YtbmhgekeabodcaaDoorPlain
import Derived.WalkKit
import Derived.WalkSpells
import Derived.WalkLawsBesides
import Derived.Deep.QuietTactic
import Derived.BigQuiet
import Derived.WalkSmall
namespace Go.Proofs.YtbmhgekeabodcaaDoor.Ptr
open Go Go.RowKit

theorem ret_int {k : IntKind} {a b : Int} (h : a = b) : Ending.returned (.int k a) = .returned (.int k b) := by rw [h]
theorem ret_bool {a b : Bool} (h : a = b) : Ending.returned (.bool a) = .returned (.bool b) := by rw [h]

/-- A callee that leaves the world alone, in a region that only reads. -/
theorem quiet_same {P : Program} {f : FuncId} {args : Array Value} {w : World} {n : Nat} {v : Value}
    (h : Calls P f args (w.drewN n) fun e w' => e = .returned v ∧ w.drewN n = w') : Calls P f args (w.drewN n) fun e w'' => e = .returned v ∧ ∃ m, w'' = w.drewN m :=
  h.mono fun _ _ ⟨he, hm⟩ => ⟨he, n, hm.symm⟩

set_option maxHeartbeats 400000 in
theorem word_any (x : Int) (w : World) :
    Calls Tryd.prog 43 #[.int .i64 x] w fun e w' => e = .returned (.bool (wordB x)) ∧ w = w' := by
  by_cases h0 : 0 ≤ x
  · go_enter Tryd.func43, Tryd.ntmps43
    go_wp2
    go_ret
    exact ⟨ret_bool (by simp [wordB, h0]), rfl⟩
  · go_enter Tryd.func43, Tryd.ntmps43
    go_wp2
    go_ret
    exact ⟨ret_bool (by simp [wordB]; omega), rfl⟩

set_option maxHeartbeats 400000 in
theorem rword_any (x : Int) (w : World) :
    Calls Tryd.prog 47 #[.int .i64 x] w fun e w' => e = .returned (.bool (wordB x)) ∧ w = w' := by
  by_cases h0 : 0 ≤ x
  · go_enter Tryd.func47, Tryd.ntmps47
    go_wp2
    go_ret
    exact ⟨ret_bool (by simp [wordB, h0]), rfl⟩
  · go_enter Tryd.func47, Tryd.ntmps47
    go_wp2
    go_ret
    exact ⟨ret_bool (by simp [wordB]; omega), rfl⟩

set_option maxHeartbeats 400000 in
theorem valid_any (a b : Int) (w : World) :
    Calls Tryd.prog 44 #[.int .i64 a, .int .i64 b] w fun e w' => e = .returned (.bool (validB a b)) ∧ w = w' := by
  by_cases h0 : 0 ≤ a
  · by_cases h1 : a ≤ 40
    · by_cases h2 : 0 ≤ b
      · go_enter Tryd.func44, Tryd.ntmps44
        go_wp2
        go_ret
        exact ⟨ret_bool (by rw [Bool.eq_iff_iff]; simp [validB]; omega), rfl⟩
      · go_enter Tryd.func44, Tryd.ntmps44
        go_wp2
        go_ret
        exact ⟨ret_bool (by rw [Bool.eq_iff_iff]; simp [validB]; omega), rfl⟩
    · go_enter Tryd.func44, Tryd.ntmps44
      go_wp2
      go_ret
      exact ⟨ret_bool (by rw [Bool.eq_iff_iff]; simp [validB]; omega), rfl⟩
  · go_enter Tryd.func44, Tryd.ntmps44
    go_wp2
    go_ret
    exact ⟨ret_bool (by rw [Bool.eq_iff_iff]; simp [validB]; omega), rfl⟩

set_option maxHeartbeats 400000 in
theorem rvalid_any (a b : Int) (w : World) :
    Calls Tryd.prog 46 #[.int .i64 a, .int .i64 b] w fun e w' => e = .returned (.bool (validB a b)) ∧ w = w' := by
  by_cases h0 : 0 ≤ a
  · by_cases h1 : a ≤ 40
    · by_cases h2 : 0 ≤ b
      · by_cases h3 : b ≤ 40
        · go_enter Tryd.func46, Tryd.ntmps46
          go_wp2
          go_ret
          exact ⟨ret_bool (by rw [Bool.eq_iff_iff]; simp [validB]; omega), rfl⟩
        · go_enter Tryd.func46, Tryd.ntmps46
          go_wp2
          go_ret
          exact ⟨ret_bool (by rw [Bool.eq_iff_iff]; simp [validB]; omega), rfl⟩
      · go_enter Tryd.func46, Tryd.ntmps46
        go_wp2
        go_ret
        exact ⟨ret_bool (by rw [Bool.eq_iff_iff]; simp [validB]; omega), rfl⟩
    · go_enter Tryd.func46, Tryd.ntmps46
      go_wp2
      go_ret
      exact ⟨ret_bool (by rw [Bool.eq_iff_iff]; simp [validB]; omega), rfl⟩
  · go_enter Tryd.func46, Tryd.ntmps46
    go_wp2
    go_ret
    exact ⟨ret_bool (by rw [Bool.eq_iff_iff]; simp [validB]; omega), rfl⟩

set_option maxHeartbeats 400000 in
theorem clos_any (a : Addr) (x t b : Int) (w : World) (hc : w.cell? a = some (.int .i64 x)) (hx0 : 0 ≤ x) (hx1 : x ≤ 1099511627775)
    (ht0 : 0 ≤ t) (ht1 : t ≤ 40) (hb0 : 0 ≤ b) (hb1 : b ≤ 40) (ha : a.block < w.heap.size) :
    Calls Tryd.prog 50 #[.agg #[.int .i64 t, .int .i64 b], .pointer (some a)] w fun e w' => e = .returned (.int .i64 (fld x t b)) ∧ Below w.heap.size w w' := by
  go_enter Tryd.func50, Tryd.ntmps50
  go_wp2
  go_quiet (fail)
  go_wp2
  go_ret
  exact ⟨ret_int (mask_eq x t b hx0 hx1 hb1), below_drewN ((Below.refl _ _).alloc (Nat.le_refl _) _) _⟩

set_option maxHeartbeats 400000 in
theorem of_any (x : Int) (w : World) :
    Calls Tryd.prog 45 #[.int .i64 x] w fun e w' => e = .returned (.func (.func 50) #[] #[.pointer (some ⟨w.heap.size, 0, none⟩)]) ∧ w' = w.alloc (.cells #[.int .i64 x] 3) := by
  go_enter Tryd.func45, Tryd.ntmps45
  go_wp2
  go_ret
  exact ⟨rfl, rfl⟩

theorem pow_step (k : Nat) : (2 : Int) ^ k * 2 = 2 ^ (k + 1) := by rw [Int.pow_succ]

set_option maxHeartbeats 400000 in
theorem power_any (n : Int) (w : World) (h0 : 0 ≤ n) (h1 : n ≤ 40) :
    Calls Tryd.prog 48 #[.int .i64 n] w fun e w' => e = .returned (.int .i64 (2 ^ n.toNat)) ∧ w = w' := by
  obtain ⟨m, rfl⟩ := Int.eq_ofNat_of_zero_le h0
  go_enter Tryd.func48, Tryd.ntmps48
  go_wp2
  go_loop [3, 4] (fun o i => ∃ k : Nat, k ≤ m ∧ i = .int .i64 k ∧ ∃ p : Int, 1 ≤ p ∧ p ≤ 1099511627776 ∧ Hid (p = 2 ^ k) ∧ o = .int .i64 p) (fun _ i => m - (intOf i).toNat)
  case atStart => exact ⟨0, Nat.zero_le _, rfl, 1, by omega, by omega, rfl, rfl⟩
  case round =>
    obtain ⟨k, hk, rfl, p, hp0, hp1, HP, rfl⟩ := hrel
    by_cases hlt : k < m
    · have hb : p * 2 ≤ 1099511627776 := by
        have := (pow_le (k + 1) (by omega)).2
        rw [HP.out]; rw [pow_step]; exact this
      go_wp2
      go_round
      case rel => exact ⟨k + 1, by omega, by go_num, p * 2, by omega, hb, by show _ = _; rw [HP.out, pow_step], rfl⟩
      case measure => simp [intOf]; omega
    · go_wp2
      go_ret
      exact ⟨ret_int (by rw [HP.out, show k = m by omega]), rfl⟩

set_option maxHeartbeats 400000 in
theorem field_any (x t b : Int) (w : World) :
    Calls Tryd.prog 10 #[.int .i64 x, .int .i64 t, .int .i64 b] w fun e w' => e = .returned (.int .i64 (fieldS x t b)) ∧ Below w.heap.size w w' := by
  by_cases hw : wordB x = true
  · by_cases hv : validB t b = true
    · have H1 := wordB_t hw
      have H2 := validB_t hv
      go_enter Tryd.func10, Tryd.ntmps10
      go_wp2_with (first | (go_at_call 43; refine (word_any _ _).mono ?_; rintro e w' ⟨rfl, rfl⟩) | (go_at_call 44; refine (valid_any _ _ _).mono ?_; rintro e w' ⟨rfl, rfl⟩) | (go_at_call 45; refine (of_any _ _).mono ?_; rintro e w' ⟨rfl, rfl⟩))
      refine (clos_any _ x t b _ (by go_simp) (by omega) (by omega) (by omega) (by omega) (by omega) (by omega) (by simp)).mono ?_
      rintro e w' ⟨rfl, hb⟩
      go_wp2
      go_ret
      exact ⟨ret_int (by simp [fieldS, hw, hv]), ((Below.refl _ _).alloc (Nat.le_refl _) _).trans (hb.mono (by simp))⟩
    · simp only [Bool.not_eq_true] at hv
      go_enter Tryd.func10, Tryd.ntmps10
      go_wp2_with (first | (go_at_call 43; refine (word_any _ _).mono ?_; rintro e w' ⟨rfl, rfl⟩) | (go_at_call 44; refine (valid_any _ _ _).mono ?_; rintro e w' ⟨rfl, rfl⟩))
      go_ret
      exact ⟨ret_int (by simp [fieldS, hw, hv]), Below.refl _ _⟩
  · simp only [Bool.not_eq_true] at hw
    go_enter Tryd.func10, Tryd.ntmps10
    go_wp2_with (first | (go_at_call 43; refine (word_any _ _).mono ?_; rintro e w' ⟨rfl, rfl⟩))
    go_ret
    exact ⟨ret_int (by simp [fieldS, hw]), Below.refl _ _⟩

set_option maxHeartbeats 400000 in
theorem rfield_any (x t b : Int) (w : World) :
    Calls Tryd.prog 11 #[.int .i64 x, .int .i64 t, .int .i64 b] w fun e w' => e = .returned (.int .i64 (fieldS x t b)) ∧ ∃ n, w' = w.drewN n := by
  by_cases hv : validB t b = true
  · by_cases hw : wordB x = true
    · have H1 := wordB_t hw
      have H2 := validB_t hv
      have hp1 := pow_le t.toNat (by omega)
      have hp2 := pow_le b.toNat (by omega)
      go_enter Tryd.func11, Tryd.ntmps11
      go_wp2_with (first | (go_at_call 46; refine (rvalid_any _ _ _).mono ?_; rintro e w' ⟨rfl, rfl⟩) | (go_at_call 47; refine (rword_any _ _).mono ?_; rintro e w' ⟨rfl, rfl⟩) | (go_at_call 48; refine (power_any _ _ (by omega) (by omega)).mono ?_; rintro e w' ⟨rfl, rfl⟩))
      go_quiet ((go_at_call 48; exact quiet_same (power_any _ _ (by omega) (by omega))))
      go_wp2
      go_ret
      exact ⟨ret_int (by rw [Int.tmod_eq_emod_of_nonneg (Int.ediv_nonneg H1.1 (by omega))]; simp [fieldS, hw, hv, fld]), _, rfl⟩
    · simp only [Bool.not_eq_true] at hw
      go_enter Tryd.func11, Tryd.ntmps11
      go_wp2_with (first | (go_at_call 46; refine (rvalid_any _ _ _).mono ?_; rintro e w' ⟨rfl, rfl⟩) | (go_at_call 47; refine (rword_any _ _).mono ?_; rintro e w' ⟨rfl, rfl⟩))
      go_ret
      exact ⟨ret_int (by simp [fieldS, hw]), 0, rfl⟩
  · simp only [Bool.not_eq_true] at hv
    go_enter Tryd.func11, Tryd.ntmps11
    go_wp2_with (first | (go_at_call 46; refine (rvalid_any _ _ _).mono ?_; rintro e w' ⟨rfl, rfl⟩) | (go_at_call 47; refine (rword_any _ _).mono ?_; rintro e w' ⟨rfl, rfl⟩))
    all_goals go_ret
    all_goals exact ⟨ret_int (by simp [fieldS, hv]), 0, rfl⟩

set_option maxHeartbeats 400000 in
theorem with_any (x t b v : Int) (w : World) :
    Calls Tryd.prog 12 #[.int .i64 x, .int .i64 t, .int .i64 b, .int .i64 v] w fun e w' => e = .returned (.int .i64 (withS x t b v)) ∧ ∃ n, w' = w.drewN n := by
  by_cases hw : wordB x = true
  · by_cases hv : validB t b = true
    · have H1 := wordB_t hw
      have H2 := validB_t hv
      have hp2 := pow_le b.toNat (by omega)
      by_cases h0 : 0 ≤ v
      · by_cases h1 : v < 2 ^ b.toNat
        · go_enter Tryd.func12, Tryd.ntmps12
          go_wp2_with (first | (go_at_call 43; refine (word_any _ _).mono ?_; rintro e w' ⟨rfl, rfl⟩) | (go_at_call 44; refine (valid_any _ _ _).mono ?_; rintro e w' ⟨rfl, rfl⟩))
          go_quiet (fail)
          go_wp2
          go_ret
          exact ⟨ret_int (by rw [set_eq x t b v (by omega) (by omega) (by omega) (by omega) (by omega) h0 h1, withS_yes hw hv h0 h1]), _, rfl⟩
        · go_enter Tryd.func12, Tryd.ntmps12
          go_wp2_with (first | (go_at_call 43; refine (word_any _ _).mono ?_; rintro e w' ⟨rfl, rfl⟩) | (go_at_call 44; refine (valid_any _ _ _).mono ?_; rintro e w' ⟨rfl, rfl⟩))
          go_ret
          exact ⟨ret_int (withS_no _ _ _ _ (by omega)).symm, 0, rfl⟩
      · go_enter Tryd.func12, Tryd.ntmps12
        go_wp2_with (first | (go_at_call 43; refine (word_any _ _).mono ?_; rintro e w' ⟨rfl, rfl⟩) | (go_at_call 44; refine (valid_any _ _ _).mono ?_; rintro e w' ⟨rfl, rfl⟩))
        go_ret
        exact ⟨ret_int (withS_no _ _ _ _ (by omega)).symm, 0, rfl⟩
    · simp only [Bool.not_eq_true] at hv
      go_enter Tryd.func12, Tryd.ntmps12
      go_wp2_with (first | (go_at_call 43; refine (word_any _ _).mono ?_; rintro e w' ⟨rfl, rfl⟩) | (go_at_call 44; refine (valid_any _ _ _).mono ?_; rintro e w' ⟨rfl, rfl⟩))
      go_ret
      exact ⟨ret_int (by simp [withS, hw, hv]), 0, rfl⟩
  · simp only [Bool.not_eq_true] at hw
    go_enter Tryd.func12, Tryd.ntmps12
    go_wp2_with (first | (go_at_call 43; refine (word_any _ _).mono ?_; rintro e w' ⟨rfl, rfl⟩))
    go_ret
    exact ⟨ret_int (by simp [withS, hw]), 0, rfl⟩

set_option maxHeartbeats 400000 in
theorem rwith_any (x t b v : Int) (w : World) :
    Calls Tryd.prog 13 #[.int .i64 x, .int .i64 t, .int .i64 b, .int .i64 v] w fun e w' => e = .returned (.int .i64 (withS x t b v)) ∧ ∃ n, w' = w.drewN n := by
  by_cases hv : validB t b = true
  · by_cases hw : wordB x = true
    · have H1 := wordB_t hw
      have H2 := validB_t hv
      have hp1 := pow_le t.toNat (by omega)
      have hp2 := pow_le b.toNat (by omega)
      by_cases h0 : 0 ≤ v
      · by_cases h1 : v < 2 ^ b.toNat
        · go_enter Tryd.func13, Tryd.ntmps13
          go_wp2_with (first | (go_at_call 46; refine (rvalid_any _ _ _).mono ?_; rintro e w' ⟨rfl, rfl⟩) | (go_at_call 47; refine (rword_any _ _).mono ?_; rintro e w' ⟨rfl, rfl⟩) | (go_at_call 48; refine (power_any _ _ (by omega) (by omega)).mono ?_; rintro e w' ⟨rfl, rfl⟩))
          refine (rfield_any x t b _).mono ?_
          rintro e w' ⟨rfl, n, rfl⟩
          go_wp2_with (go_at_call 48; refine (power_any _ _ (by omega) (by omega)).mono ?_; rintro e w' ⟨rfl, rfl⟩)
          go_ret
          exact ⟨ret_int (rset_eq x t b v hw hv h0 h1), _, rfl⟩
        · go_enter Tryd.func13, Tryd.ntmps13
          go_wp2_with (first | (go_at_call 46; refine (rvalid_any _ _ _).mono ?_; rintro e w' ⟨rfl, rfl⟩) | (go_at_call 47; refine (rword_any _ _).mono ?_; rintro e w' ⟨rfl, rfl⟩) | (go_at_call 48; refine (power_any _ _ (by omega) (by omega)).mono ?_; rintro e w' ⟨rfl, rfl⟩))
          go_ret
          exact ⟨ret_int (withS_no _ _ _ _ (by omega)).symm, 0, rfl⟩
      · go_enter Tryd.func13, Tryd.ntmps13
        go_wp2_with (first | (go_at_call 46; refine (rvalid_any _ _ _).mono ?_; rintro e w' ⟨rfl, rfl⟩) | (go_at_call 47; refine (rword_any _ _).mono ?_; rintro e w' ⟨rfl, rfl⟩) | (go_at_call 48; refine (power_any _ _ (by omega) (by omega)).mono ?_; rintro e w' ⟨rfl, rfl⟩))
        go_ret
        exact ⟨ret_int (withS_no _ _ _ _ (by omega)).symm, 0, rfl⟩
    · simp only [Bool.not_eq_true] at hw
      go_enter Tryd.func13, Tryd.ntmps13
      go_wp2_with (first | (go_at_call 46; refine (rvalid_any _ _ _).mono ?_; rintro e w' ⟨rfl, rfl⟩) | (go_at_call 47; refine (rword_any _ _).mono ?_; rintro e w' ⟨rfl, rfl⟩))
      go_ret
      exact ⟨ret_int (by simp [withS, hw]), 0, rfl⟩
  · simp only [Bool.not_eq_true] at hv
    go_enter Tryd.func13, Tryd.ntmps13
    go_wp2_with (first | (go_at_call 46; refine (rvalid_any _ _ _).mono ?_; rintro e w' ⟨rfl, rfl⟩) | (go_at_call 47; refine (rword_any _ _).mono ?_; rintro e w' ⟨rfl, rfl⟩))
    all_goals go_ret
    all_goals exact ⟨ret_int (by simp [withS, hv]), 0, rfl⟩

end Go.Proofs.YtbmhgekeabodcaaDoor.Ptr
