/- Contracts of Formed, header, Kind, Class and Generation of package pointer, in every world in which the two tables of the package hold what their text lays. -/
import Derived.Test.YtbmhgekeabodcaaDoorWalkB
namespace Go.Proofs.YtbmhgekeabodcaaDoor.Ptr
open Go Go.RowKit

theorem fld_4_3 (p : Int) : fld p 4 3 = p / 16 % 8 := by simp [fld]
theorem fld_0_4 (p : Int) : fld p 0 4 = p % 16 := by simp [fld]
theorem fld_7_20 (p : Int) : fld p 7 20 = p / 128 % 1048576 := by simp [fld]
theorem formedB_t {h : Int} (H : formedB h = true) : 0 ≤ h ∧ h ≤ 1099511627775 ∧ h / 16 % 8 ≤ 4 ∧ h / 128 < 1048576 := of_decide_eq_true H

set_option maxHeartbeats 400000 in
theorem formed_in (p : Int) (w : World) (T : Tabs w) (hw : wordB p = true) (h27 : (p / 134217728 == 0) = true) :
    Calls Tryd.prog 24 #[.int .i64 p] w fun e w' => e = .returned (.bool (formedB p)) ∧ Below w.heap.size w w' := by
  have c0 := T.h2
  have c1 := T.h3
  have H := wordB_t hw
  go_enter Tryd.func24, Tryd.ntmps24
  go_wp2
  go_region_held3 (fun w' => w'.cell? ⟨1, 2, none⟩ = some (.int .i64 4) ∧ w'.cell? ⟨1, 3, none⟩ = some (.int .i64 3))
    (first | go_keep | exact ⟨T3.h2, T3.h3⟩ | exact ⟨T2.h2, T2.h3⟩)
    (first
      | (go_at_call 43; refine (word_any _ _).mono ?_; rintro e w' ⟨rfl, rfl⟩)
      | (go_at_call 45; refine (of_abs _ _).mono ?_; rintro e w2 ⟨a, rfl, hc, ha, hb2⟩; have T2 := T.drew.below hb2)
      | (go_at_call 50; refine (clos_any a p 4 3 _ hc (by omega) (by omega) (by omega) (by omega) (by omega) (by omega) ha).mono ?_; rintro e w3 ⟨rfl, hb3⟩; have T3 := T2.below hb3))
  go_wp2
  go_ret
  exact ⟨ret_bool (by simp only [beq_iff_eq] at h27; rw [fld_4_3, Bool.eq_iff_iff]; simp [formedB]; omega), below_next (below_next (Below.refl _ _).drew hb2) hb3⟩

set_option maxHeartbeats 400000 in
theorem formed_far (p : Int) (w : World) (hw : wordB p = true) (h27 : (p / 134217728 == 0) = false) :
    Calls Tryd.prog 24 #[.int .i64 p] w fun e w' => e = .returned (.bool (formedB p)) ∧ Below w.heap.size w w' := by
  have H := wordB_t hw
  go_enter Tryd.func24, Tryd.ntmps24
  go_wp2
  go_quiet ((go_at_call 43; exact quiet_same (word_any _ _)))
  go_wp2
  go_ret
  exact ⟨ret_bool (by simp only [beq_eq_false_iff_ne] at h27; rw [Bool.eq_iff_iff]; simp [formedB]; omega), below_drewN (Below.refl _ _) _⟩

set_option maxHeartbeats 400000 in
theorem formed_out (p : Int) (w : World) (hw : wordB p = false) :
    Calls Tryd.prog 24 #[.int .i64 p] w fun e w' => e = .returned (.bool (formedB p)) ∧ Below w.heap.size w w' := by
  have H := wordB_f hw
  go_enter Tryd.func24, Tryd.ntmps24
  go_wp2
  go_quiet ((go_at_call 43; exact quiet_same (word_any _ _)))
  go_wp2
  go_ret
  exact ⟨ret_bool (by rw [Bool.eq_iff_iff]; simp [formedB]; omega), below_drewN (Below.refl _ _) _⟩

theorem formed_any (p : Int) (w : World) (T : Tabs w) :
    Calls Tryd.prog 24 #[.int .i64 p] w fun e w' => e = .returned (.bool (formedB p)) ∧ Below w.heap.size w w' := by
  cases hw : wordB p
  · exact formed_out p w hw
  · cases h27 : (p / 134217728 == 0)
    · exact formed_far p w hw h27
    · exact formed_in p w T hw h27

/-- A part of a header, by its number. -/
def headS (p i : Int) : Int := if formedB p then (if i = 0 then p % 16 else if i = 1 then p / 16 % 8 else p / 128) else 0

set_option maxHeartbeats 400000 in
theorem header_no (p i : Int) (w : World) (T : Tabs w) (hf : formedB p = false) :
    Calls Tryd.prog 49 #[.int .i64 p, .int .i64 i] w fun e w' => e = .returned (.int .i64 0) ∧ Below w.heap.size w w' := by
  go_enter Tryd.func49, Tryd.ntmps49
  go_wp2_with (go_at_call 24; refine (formed_any _ _ T).mono ?_; rintro e w1 ⟨rfl, hb⟩)
  go_ret
  exact ⟨rfl, hb⟩

set_option maxHeartbeats 400000 in
theorem header_0 (p : Int) (w : World) (T : Tabs w) (hf : formedB p = true) :
    Calls Tryd.prog 49 #[.int .i64 p, .int .i64 0] w fun e w' => e = .returned (.int .i64 (p % 16)) ∧ Below w.heap.size w w' := by
  have H := formedB_t hf
  go_enter Tryd.func49, Tryd.ntmps49
  go_wp2_with (go_at_call 24; refine (formed_any _ _ T).mono ?_; rintro e w1 ⟨rfl, hb⟩)
  have T1 := T.below hb
  have c0 := T1.h0
  have c1 := T1.h1
  go_region_held3 (fun w' => w'.cell? ⟨1, 0, none⟩ = some (.int .i64 0) ∧ w'.cell? ⟨1, 1, none⟩ = some (.int .i64 4))
    (first | go_keep | exact ⟨T3.h0, T3.h1⟩ | exact ⟨T2.h0, T2.h1⟩)
    (first
      | (go_at_call 45; refine (of_abs _ _).mono ?_; rintro e w2 ⟨a, rfl, hc, ha, hb2⟩; have T2 := T1.drew.below hb2)
      | (go_at_call 50; refine (clos_any a p 0 4 _ hc (by omega) (by omega) (by omega) (by omega) (by omega) (by omega) ha).mono ?_; rintro e w3 ⟨rfl, hb3⟩; have T3 := T2.below hb3))
  go_wp2
  go_ret
  exact ⟨ret_int (fld_0_4 p), below_next (below_next hb.drew hb2) hb3⟩

set_option maxHeartbeats 400000 in
theorem header_1 (p : Int) (w : World) (T : Tabs w) (hf : formedB p = true) :
    Calls Tryd.prog 49 #[.int .i64 p, .int .i64 1] w fun e w' => e = .returned (.int .i64 (p / 16 % 8)) ∧ Below w.heap.size w w' := by
  have H := formedB_t hf
  go_enter Tryd.func49, Tryd.ntmps49
  go_wp2_with (go_at_call 24; refine (formed_any _ _ T).mono ?_; rintro e w1 ⟨rfl, hb⟩)
  have T1 := T.below hb
  have c0 := T1.h2
  have c1 := T1.h3
  go_region_held3 (fun w' => w'.cell? ⟨1, 2, none⟩ = some (.int .i64 4) ∧ w'.cell? ⟨1, 3, none⟩ = some (.int .i64 3))
    (first | go_keep | exact ⟨T3.h2, T3.h3⟩ | exact ⟨T2.h2, T2.h3⟩)
    (first
      | (go_at_call 45; refine (of_abs _ _).mono ?_; rintro e w2 ⟨a, rfl, hc, ha, hb2⟩; have T2 := T1.drew.below hb2)
      | (go_at_call 50; refine (clos_any a p 4 3 _ hc (by omega) (by omega) (by omega) (by omega) (by omega) (by omega) ha).mono ?_; rintro e w3 ⟨rfl, hb3⟩; have T3 := T2.below hb3))
  go_wp2
  go_ret
  exact ⟨ret_int (fld_4_3 p), below_next (below_next hb.drew hb2) hb3⟩

set_option maxHeartbeats 400000 in
theorem header_2 (p : Int) (w : World) (T : Tabs w) (hf : formedB p = true) :
    Calls Tryd.prog 49 #[.int .i64 p, .int .i64 2] w fun e w' => e = .returned (.int .i64 (p / 128)) ∧ Below w.heap.size w w' := by
  have H := formedB_t hf
  go_enter Tryd.func49, Tryd.ntmps49
  go_wp2_with (go_at_call 24; refine (formed_any _ _ T).mono ?_; rintro e w1 ⟨rfl, hb⟩)
  have T1 := T.below hb
  have c0 := T1.h4
  have c1 := T1.h5
  go_region_held3 (fun w' => w'.cell? ⟨1, 4, none⟩ = some (.int .i64 7) ∧ w'.cell? ⟨1, 5, none⟩ = some (.int .i64 20))
    (first | go_keep | exact ⟨T3.h4, T3.h5⟩ | exact ⟨T2.h4, T2.h5⟩)
    (first
      | (go_at_call 45; refine (of_abs _ _).mono ?_; rintro e w2 ⟨a, rfl, hc, ha, hb2⟩; have T2 := T1.drew.below hb2)
      | (go_at_call 50; refine (clos_any a p 7 20 _ hc (by omega) (by omega) (by omega) (by omega) (by omega) (by omega) ha).mono ?_; rintro e w3 ⟨rfl, hb3⟩; have T3 := T2.below hb3))
  go_wp2
  go_ret
  exact ⟨ret_int (by rw [fld_7_20]; omega), below_next (below_next hb.drew hb2) hb3⟩

set_option maxHeartbeats 400000 in
theorem kind_any (p : Int) (w : World) (T : Tabs w) :
    Calls Tryd.prog 21 #[.int .i64 p] w fun e w' => e = .returned (.int .i64 (kindS p)) ∧ Below w.heap.size w w' := by
  cases hf : formedB p
  · have hs : kindS p = 0 := by simp [kindS, hf]
    rw [hs]
    clear hs
    go_enter Tryd.func21, Tryd.ntmps21
    go_wp2_with (go_at_call 49; refine (header_no _ _ _ T hf).mono ?_; rintro e w1 ⟨rfl, hb⟩)
    go_ret
    exact ⟨rfl, hb⟩
  · have hs : kindS p = p % 16 := by simp [kindS, hf]
    rw [hs]
    clear hs
    go_enter Tryd.func21, Tryd.ntmps21
    go_wp2_with (go_at_call 49; refine (header_0 _ _ T hf).mono ?_; rintro e w1 ⟨rfl, hb⟩)
    go_ret
    exact ⟨rfl, hb⟩

set_option maxHeartbeats 400000 in
theorem class_any (p : Int) (w : World) (T : Tabs w) :
    Calls Tryd.prog 22 #[.int .i64 p] w fun e w' => e = .returned (.int .i64 (classS p)) ∧ Below w.heap.size w w' := by
  cases hf : formedB p
  · have hs : classS p = 0 := by simp [classS, hf]
    rw [hs]
    clear hs
    go_enter Tryd.func22, Tryd.ntmps22
    go_wp2_with (go_at_call 49; refine (header_no _ _ _ T hf).mono ?_; rintro e w1 ⟨rfl, hb⟩)
    go_ret
    exact ⟨rfl, hb⟩
  · have hs : classS p = p / 16 % 8 := by simp [classS, hf]
    rw [hs]
    clear hs
    go_enter Tryd.func22, Tryd.ntmps22
    go_wp2_with (go_at_call 49; refine (header_1 _ _ T hf).mono ?_; rintro e w1 ⟨rfl, hb⟩)
    go_ret
    exact ⟨rfl, hb⟩

set_option maxHeartbeats 400000 in
theorem gener_any (p : Int) (w : World) (T : Tabs w) :
    Calls Tryd.prog 23 #[.int .i64 p] w fun e w' => e = .returned (.int .i64 (generS p)) ∧ Below w.heap.size w w' := by
  cases hf : formedB p
  · have hs : generS p = 0 := by simp [generS, hf]
    rw [hs]
    clear hs
    go_enter Tryd.func23, Tryd.ntmps23
    go_wp2_with (go_at_call 49; refine (header_no _ _ _ T hf).mono ?_; rintro e w1 ⟨rfl, hb⟩)
    go_ret
    exact ⟨rfl, hb⟩
  · have hs : generS p = p / 128 := by simp [generS, hf]
    rw [hs]
    clear hs
    go_enter Tryd.func23, Tryd.ntmps23
    go_wp2_with (go_at_call 49; refine (header_2 _ _ T hf).mono ?_; rintro e w1 ⟨rfl, hb⟩)
    go_ret
    exact ⟨rfl, hb⟩

end Go.Proofs.YtbmhgekeabodcaaDoor.Ptr
