/- Contracts of Right, Line, Gen, Formed, Kind, Class and Generation of package pointer (printed by gen_ptr.py). -/
import Derived.Test.YtcngblnkfiggjaaDoorPtrA
namespace Go.Proofs.YtcngblnkfiggjaaDoor.Rm
open Go Go.RowKit


/-- The two tables of the package: the cells of blocks 0 and 1. -/
structure Tabs (w : World) : Prop where
  p0 : w.cell? ⟨0, 0, none⟩ = some (.int .i64 0)
  p1 : w.cell? ⟨0, 1, none⟩ = some (.int .i64 12)
  p2 : w.cell? ⟨0, 2, none⟩ = some (.int .i64 12)
  p3 : w.cell? ⟨0, 3, none⟩ = some (.int .i64 20)
  h0 : w.cell? ⟨2, 0, none⟩ = some (.int .i64 0)
  h1 : w.cell? ⟨2, 1, none⟩ = some (.int .i64 4)
  h2 : w.cell? ⟨2, 2, none⟩ = some (.int .i64 4)
  h3 : w.cell? ⟨2, 3, none⟩ = some (.int .i64 3)
  h4 : w.cell? ⟨2, 4, none⟩ = some (.int .i64 7)
  h5 : w.cell? ⟨2, 5, none⟩ = some (.int .i64 20)
  sz : 3 ≤ w.heap.size
theorem Tabs.below {w w' : World} (T : Tabs w) (h : Below w.heap.size w w') : Tabs w' := by
  have z := T.sz
  have c : ∀ b o, b < 3 → w'.cell? ⟨b, o, none⟩ = w.cell? ⟨b, o, none⟩ := fun b o hb => h.cell (p := ⟨b, o, none⟩) (Nat.lt_of_lt_of_le hb z)
  exact ⟨(c 0 0 (by decide)).trans T.p0, (c 0 1 (by decide)).trans T.p1, (c 0 2 (by decide)).trans T.p2, (c 0 3 (by decide)).trans T.p3,
    (c 2 0 (by decide)).trans T.h0, (c 2 1 (by decide)).trans T.h1, (c 2 2 (by decide)).trans T.h2, (c 2 3 (by decide)).trans T.h3, (c 2 4 (by decide)).trans T.h4, (c 2 5 (by decide)).trans T.h5,
    Nat.le_trans z h.size⟩
theorem Tabs.drew {w : World} (T : Tabs w) : Tabs w.drew := T.below (Below.refl _ _).drew
theorem Tabs.drewN {w : World} (T : Tabs w) (n : Nat) : Tabs (w.drewN n) := T.below (below_drewN (Below.refl _ _) _)
theorem of_abs (x : Int) (w : World) :
    Calls Tryd.prog 75 #[.int .i64 x] w fun e w' => ∃ a : Addr, e = .returned (.func (.func 98) #[] #[.pointer (some a)]) ∧ w'.cell? a = some (.int .i64 x) ∧ a.block < w'.heap.size ∧ Below w.heap.size w w' :=
  (of_any x w).mono fun _ _ ⟨he, hw⟩ => ⟨_, he, by subst hw; go_simp, by subst hw; simp, by subst hw; exact (Below.refl _ _).alloc (Nat.le_refl _) _⟩
theorem fld_0_12 (p : Int) : fld p 0 12 = p % 4096 := by simp [fld]
theorem fld_12_20 (p : Int) : fld p 12 20 = p / 4096 % 1048576 := by simp [fld]
set_option maxHeartbeats 400000 in
theorem right_any (p : Int) (w : World) (T : Tabs w) :
    Calls Tryd.prog 39 #[.int .i64 p] w fun e w' => e = .returned (.bool (rightB p)) ∧ Below w.heap.size w w' := by
  by_cases h0 : p = 0
  · subst h0
    go_enter Tryd.func39, Tryd.ntmps39
    go_wp2_with (go_at_call 75; refine (of_abs _ _).mono ?_; rintro e w' ⟨a, rfl, hc, ha, hb⟩)
    go_ret
    exact ⟨rfl, hb⟩
  have hz : (p == 0) = false := by simpa using h0
  by_cases hw : wordB p = true
  · have H1 := wordB_t hw
    by_cases h32 : p / 4294967296 = 0
    · have h32' : (p / 4294967296 == 0) = true := by simpa using h32
      clear h32
      go_enter Tryd.func39, Tryd.ntmps39
      go_wp2_with (first | (go_at_call 75; refine (of_abs _ _).mono ?_; rintro e w1 ⟨a, rfl, hc, ha, hb⟩))
      have T1 := T.below hb
      have c0 := T1.p0
      have c1 := T1.p1
      refine (word_any _ _).mono ?_
      rintro e w' ⟨rfl, rfl⟩
      go_wp2_with fail
      refine (clos_any a p 0 12 _ hc (by omega) (by omega) (by omega) (by omega) (by omega) (by omega) ha).mono ?_
      rintro e w2 ⟨rfl, hb2⟩
      rw [fld_0_12]
      have T2 := T1.below hb2
      have hc2 := (hb2.cell ha).trans hc
      have ha2 : a.block < w2.heap.size := Nat.lt_of_lt_of_le ha hb2.size
      clear c0 c1
      have c2 := T2.p2
      have c3 := T2.p3
      by_cases h1 : 0 < p % 4096
      · go_wp2_with fail
        refine (clos_any a p 12 20 _ hc2 (by omega) (by omega) (by omega) (by omega) (by omega) (by omega) ha2).mono ?_
        rintro e w3 ⟨rfl, hb3⟩
        rw [fld_12_20]
        go_wp2
        go_ret
        exact ⟨ret_bool (by simp only [beq_iff_eq] at h32'; rw [Bool.eq_iff_iff]; simp [rightB]; omega), below_next (below_next hb hb2) hb3⟩
      · go_wp2
        go_ret
        exact ⟨ret_bool (by rw [Bool.eq_iff_iff]; simp [rightB]; omega), below_next hb hb2⟩
    · have h32' : (p / 4294967296 == 0) = false := by simpa using h32
      go_enter Tryd.func39, Tryd.ntmps39
      go_wp2_with (first | (go_at_call 73; refine (word_any _ _).mono ?_; rintro e w' ⟨rfl, rfl⟩) | (go_at_call 75; refine (of_abs _ _).mono ?_; rintro e w' ⟨a, rfl, hc, ha, hb⟩))
      go_ret
      exact ⟨ret_bool (by simp [rightB]; omega), hb⟩
  · simp only [Bool.not_eq_true] at hw
    have H1 := wordB_f hw
    go_enter Tryd.func39, Tryd.ntmps39
    go_wp2_with (first | (go_at_call 73; refine (word_any _ _).mono ?_; rintro e w' ⟨rfl, rfl⟩) | (go_at_call 75; refine (of_abs _ _).mono ?_; rintro e w' ⟨a, rfl, hc, ha, hb⟩))
    go_ret
    exact ⟨ret_bool (by simp [rightB]; omega), hb⟩
theorem rightB_t {p : Int} (h : rightB p = true) : 0 ≤ p ∧ p ≤ 1099511627775 ∧ p / 4096 < 1048576 := by
  have := of_decide_eq_true h; omega
set_option maxHeartbeats 400000 in
theorem line_any (p : Int) (w : World) (T : Tabs w) :
    Calls Tryd.prog 61 #[.int .i64 p] w fun e w' => e = .returned (.int .i64 (lineS p)) ∧ Below w.heap.size w w' := by
  by_cases hr : rightB p = true
  · have H := rightB_t hr
    go_enter Tryd.func61, Tryd.ntmps61
    go_wp2_with (go_at_call 39; refine (right_any _ _ T).mono ?_; rintro e w1 ⟨rfl, hb⟩)
    have T1 := T.below hb
    have c0 := T1.p0
    have c1 := T1.p1
    go_region_held3 (fun w' => w'.cell? ⟨0, 0, none⟩ = some (.int .i64 0) ∧ w'.cell? ⟨0, 1, none⟩ = some (.int .i64 12))
      (first | go_keep | exact ⟨T3.p0, T3.p1⟩ | exact ⟨T2.p0, T2.p1⟩)
      (first
        | (go_at_call 75; refine (of_abs _ _).mono ?_; rintro e w2 ⟨a, rfl, hc, ha, hb2⟩; have T2 := T1.drew.below hb2)
        | (go_at_call 98; refine (clos_any a p 0 12 _ hc (by omega) (by omega) (by omega) (by omega) (by omega) (by omega) ha).mono ?_; rintro e w3 ⟨rfl, hb3⟩; have T3 := T2.below hb3))
    go_wp2
    go_ret
    exact ⟨ret_int (by rw [fld_0_12]; simp [lineS, hr]), below_next (below_next hb.drew hb2) hb3⟩
  · simp only [Bool.not_eq_true] at hr
    go_enter Tryd.func61, Tryd.ntmps61
    go_wp2_with (go_at_call 39; refine (right_any _ _ T).mono ?_; rintro e w1 ⟨rfl, hb⟩)
    go_ret
    exact ⟨ret_int (by simp [lineS, hr]), hb⟩
set_option maxHeartbeats 400000 in
theorem gen_any (p : Int) (w : World) (T : Tabs w) :
    Calls Tryd.prog 119 #[.int .i64 p] w fun e w' => e = .returned (.int .i64 (genS p)) ∧ Below w.heap.size w w' := by
  by_cases hr : rightB p = true
  · have H := rightB_t hr
    go_enter Tryd.func119, Tryd.ntmps119
    go_wp2_with (go_at_call 39; refine (right_any _ _ T).mono ?_; rintro e w1 ⟨rfl, hb⟩)
    have T1 := T.below hb
    have c0 := T1.p2
    have c1 := T1.p3
    go_region_held3 (fun w' => w'.cell? ⟨0, 2, none⟩ = some (.int .i64 12) ∧ w'.cell? ⟨0, 3, none⟩ = some (.int .i64 20))
      (first | go_keep | exact ⟨T3.p2, T3.p3⟩ | exact ⟨T2.p2, T2.p3⟩)
      (first
        | (go_at_call 75; refine (of_abs _ _).mono ?_; rintro e w2 ⟨a, rfl, hc, ha, hb2⟩; have T2 := T1.drew.below hb2)
        | (go_at_call 98; refine (clos_any a p 12 20 _ hc (by omega) (by omega) (by omega) (by omega) (by omega) (by omega) ha).mono ?_; rintro e w3 ⟨rfl, hb3⟩; have T3 := T2.below hb3))
    go_wp2
    go_ret
    exact ⟨ret_int (by rw [fld_12_20]; simp [genS, hr]; omega), below_next (below_next hb.drew hb2) hb3⟩
  · simp only [Bool.not_eq_true] at hr
    go_enter Tryd.func119, Tryd.ntmps119
    go_wp2_with (go_at_call 39; refine (right_any _ _ T).mono ?_; rintro e w1 ⟨rfl, hb⟩)
    go_ret
    exact ⟨ret_int (by simp [genS, hr]), hb⟩

theorem fld_4_3 (p : Int) : fld p 4 3 = p / 16 % 8 := by simp [fld]
theorem fld_0_4 (p : Int) : fld p 0 4 = p % 16 := by simp [fld]
theorem fld_7_20 (p : Int) : fld p 7 20 = p / 128 % 1048576 := by simp [fld]
theorem formedB_t {h : Int} (H : formedB h = true) : 0 ≤ h ∧ h ≤ 1099511627775 ∧ h / 16 % 8 ≤ 4 ∧ h / 128 < 1048576 := of_decide_eq_true H
set_option maxHeartbeats 400000 in
theorem formed_in (p : Int) (w : World) (T : Tabs w) (hw : wordB p = true) (h27 : (p / 134217728 == 0) = true) :
    Calls Tryd.prog 117 #[.int .i64 p] w fun e w' => e = .returned (.bool (formedB p)) ∧ Below w.heap.size w w' := by
  have c0 := T.h2
  have c1 := T.h3
  have H := wordB_t hw
  go_enter Tryd.func117, Tryd.ntmps117
  go_wp2
  go_region_held3 (fun w' => w'.cell? ⟨2, 2, none⟩ = some (.int .i64 4) ∧ w'.cell? ⟨2, 3, none⟩ = some (.int .i64 3))
    (first | go_keep | exact ⟨T3.h2, T3.h3⟩ | exact ⟨T2.h2, T2.h3⟩)
    (first
      | (go_at_call 73; refine (word_any _ _).mono ?_; rintro e w' ⟨rfl, rfl⟩)
      | (go_at_call 75; refine (of_abs _ _).mono ?_; rintro e w2 ⟨a, rfl, hc, ha, hb2⟩; have T2 := T.drew.below hb2)
      | (go_at_call 98; refine (clos_any a p 4 3 _ hc (by omega) (by omega) (by omega) (by omega) (by omega) (by omega) ha).mono ?_; rintro e w3 ⟨rfl, hb3⟩; have T3 := T2.below hb3))
  go_wp2
  go_ret
  exact ⟨ret_bool (by simp only [beq_iff_eq] at h27; rw [fld_4_3, Bool.eq_iff_iff]; simp [formedB]; omega), below_next (below_next (Below.refl _ _).drew hb2) hb3⟩
set_option maxHeartbeats 400000 in
theorem formed_far (p : Int) (w : World) (hw : wordB p = true) (h27 : (p / 134217728 == 0) = false) :
    Calls Tryd.prog 117 #[.int .i64 p] w fun e w' => e = .returned (.bool (formedB p)) ∧ Below w.heap.size w w' := by
  have H := wordB_t hw
  go_enter Tryd.func117, Tryd.ntmps117
  go_wp2
  go_quiet ((go_at_call 73; exact quiet_same (word_any _ _)))
  go_wp2
  go_ret
  exact ⟨ret_bool (by simp only [beq_eq_false_iff_ne] at h27; rw [Bool.eq_iff_iff]; simp [formedB]; omega), below_drewN (Below.refl _ _) _⟩
set_option maxHeartbeats 400000 in
theorem formed_out (p : Int) (w : World) (hw : wordB p = false) :
    Calls Tryd.prog 117 #[.int .i64 p] w fun e w' => e = .returned (.bool (formedB p)) ∧ Below w.heap.size w w' := by
  have H := wordB_f hw
  go_enter Tryd.func117, Tryd.ntmps117
  go_wp2
  go_quiet ((go_at_call 73; exact quiet_same (word_any _ _)))
  go_wp2
  go_ret
  exact ⟨ret_bool (by rw [Bool.eq_iff_iff]; simp [formedB]; omega), below_drewN (Below.refl _ _) _⟩
theorem formed_any (p : Int) (w : World) (T : Tabs w) :
    Calls Tryd.prog 117 #[.int .i64 p] w fun e w' => e = .returned (.bool (formedB p)) ∧ Below w.heap.size w w' := by
  cases hw : wordB p
  · exact formed_out p w hw
  · cases h27 : (p / 134217728 == 0)
    · exact formed_far p w hw h27
    · exact formed_in p w T hw h27
/-- A part of a header, by its number. -/
def headS (p i : Int) : Int := if formedB p then (if i = 0 then p % 16 else if i = 1 then p / 16 % 8 else p / 128) else 0
set_option maxHeartbeats 400000 in
theorem header_no (p i : Int) (w : World) (T : Tabs w) (hf : formedB p = false) :
    Calls Tryd.prog 120 #[.int .i64 p, .int .i64 i] w fun e w' => e = .returned (.int .i64 0) ∧ Below w.heap.size w w' := by
  go_enter Tryd.func120, Tryd.ntmps120
  go_wp2_with (go_at_call 117; refine (formed_any _ _ T).mono ?_; rintro e w1 ⟨rfl, hb⟩)
  go_ret
  exact ⟨rfl, hb⟩
set_option maxHeartbeats 400000 in
theorem header_0 (p : Int) (w : World) (T : Tabs w) (hf : formedB p = true) :
    Calls Tryd.prog 120 #[.int .i64 p, .int .i64 0] w fun e w' => e = .returned (.int .i64 (p % 16)) ∧ Below w.heap.size w w' := by
  have H := formedB_t hf
  go_enter Tryd.func120, Tryd.ntmps120
  go_wp2_with (go_at_call 117; refine (formed_any _ _ T).mono ?_; rintro e w1 ⟨rfl, hb⟩)
  have T1 := T.below hb
  have c0 := T1.h0
  have c1 := T1.h1
  go_region_held3 (fun w' => w'.cell? ⟨2, 0, none⟩ = some (.int .i64 0) ∧ w'.cell? ⟨2, 1, none⟩ = some (.int .i64 4))
    (first | go_keep | exact ⟨T3.h0, T3.h1⟩ | exact ⟨T2.h0, T2.h1⟩)
    (first
      | (go_at_call 75; refine (of_abs _ _).mono ?_; rintro e w2 ⟨a, rfl, hc, ha, hb2⟩; have T2 := T1.drew.below hb2)
      | (go_at_call 98; refine (clos_any a p 0 4 _ hc (by omega) (by omega) (by omega) (by omega) (by omega) (by omega) ha).mono ?_; rintro e w3 ⟨rfl, hb3⟩; have T3 := T2.below hb3))
  go_wp2
  go_ret
  exact ⟨ret_int (fld_0_4 p), below_next (below_next hb.drew hb2) hb3⟩
set_option maxHeartbeats 400000 in
theorem header_1 (p : Int) (w : World) (T : Tabs w) (hf : formedB p = true) :
    Calls Tryd.prog 120 #[.int .i64 p, .int .i64 1] w fun e w' => e = .returned (.int .i64 (p / 16 % 8)) ∧ Below w.heap.size w w' := by
  have H := formedB_t hf
  go_enter Tryd.func120, Tryd.ntmps120
  go_wp2_with (go_at_call 117; refine (formed_any _ _ T).mono ?_; rintro e w1 ⟨rfl, hb⟩)
  have T1 := T.below hb
  have c0 := T1.h2
  have c1 := T1.h3
  go_region_held3 (fun w' => w'.cell? ⟨2, 2, none⟩ = some (.int .i64 4) ∧ w'.cell? ⟨2, 3, none⟩ = some (.int .i64 3))
    (first | go_keep | exact ⟨T3.h2, T3.h3⟩ | exact ⟨T2.h2, T2.h3⟩)
    (first
      | (go_at_call 75; refine (of_abs _ _).mono ?_; rintro e w2 ⟨a, rfl, hc, ha, hb2⟩; have T2 := T1.drew.below hb2)
      | (go_at_call 98; refine (clos_any a p 4 3 _ hc (by omega) (by omega) (by omega) (by omega) (by omega) (by omega) ha).mono ?_; rintro e w3 ⟨rfl, hb3⟩; have T3 := T2.below hb3))
  go_wp2
  go_ret
  exact ⟨ret_int (fld_4_3 p), below_next (below_next hb.drew hb2) hb3⟩
set_option maxHeartbeats 400000 in
theorem header_2 (p : Int) (w : World) (T : Tabs w) (hf : formedB p = true) :
    Calls Tryd.prog 120 #[.int .i64 p, .int .i64 2] w fun e w' => e = .returned (.int .i64 (p / 128)) ∧ Below w.heap.size w w' := by
  have H := formedB_t hf
  go_enter Tryd.func120, Tryd.ntmps120
  go_wp2_with (go_at_call 117; refine (formed_any _ _ T).mono ?_; rintro e w1 ⟨rfl, hb⟩)
  have T1 := T.below hb
  have c0 := T1.h4
  have c1 := T1.h5
  go_region_held3 (fun w' => w'.cell? ⟨2, 4, none⟩ = some (.int .i64 7) ∧ w'.cell? ⟨2, 5, none⟩ = some (.int .i64 20))
    (first | go_keep | exact ⟨T3.h4, T3.h5⟩ | exact ⟨T2.h4, T2.h5⟩)
    (first
      | (go_at_call 75; refine (of_abs _ _).mono ?_; rintro e w2 ⟨a, rfl, hc, ha, hb2⟩; have T2 := T1.drew.below hb2)
      | (go_at_call 98; refine (clos_any a p 7 20 _ hc (by omega) (by omega) (by omega) (by omega) (by omega) (by omega) ha).mono ?_; rintro e w3 ⟨rfl, hb3⟩; have T3 := T2.below hb3))
  go_wp2
  go_ret
  exact ⟨ret_int (by rw [fld_7_20]; omega), below_next (below_next hb.drew hb2) hb3⟩
set_option maxHeartbeats 400000 in
theorem kind_any (p : Int) (w : World) (T : Tabs w) :
    Calls Tryd.prog 93 #[.int .i64 p] w fun e w' => e = .returned (.int .i64 (kindS p)) ∧ Below w.heap.size w w' := by
  cases hf : formedB p
  · have hs : kindS p = 0 := by simp [kindS, hf]
    rw [hs]
    clear hs
    go_enter Tryd.func93, Tryd.ntmps93
    go_wp2_with (go_at_call 120; refine (header_no _ _ _ T hf).mono ?_; rintro e w1 ⟨rfl, hb⟩)
    go_ret
    exact ⟨rfl, hb⟩
  · have hs : kindS p = p % 16 := by simp [kindS, hf]
    rw [hs]
    clear hs
    go_enter Tryd.func93, Tryd.ntmps93
    go_wp2_with (go_at_call 120; refine (header_0 _ _ T hf).mono ?_; rintro e w1 ⟨rfl, hb⟩)
    go_ret
    exact ⟨rfl, hb⟩
set_option maxHeartbeats 400000 in
theorem class_any (p : Int) (w : World) (T : Tabs w) :
    Calls Tryd.prog 95 #[.int .i64 p] w fun e w' => e = .returned (.int .i64 (classS p)) ∧ Below w.heap.size w w' := by
  cases hf : formedB p
  · have hs : classS p = 0 := by simp [classS, hf]
    rw [hs]
    clear hs
    go_enter Tryd.func95, Tryd.ntmps95
    go_wp2_with (go_at_call 120; refine (header_no _ _ _ T hf).mono ?_; rintro e w1 ⟨rfl, hb⟩)
    go_ret
    exact ⟨rfl, hb⟩
  · have hs : classS p = p / 16 % 8 := by simp [classS, hf]
    rw [hs]
    clear hs
    go_enter Tryd.func95, Tryd.ntmps95
    go_wp2_with (go_at_call 120; refine (header_1 _ _ T hf).mono ?_; rintro e w1 ⟨rfl, hb⟩)
    go_ret
    exact ⟨rfl, hb⟩
set_option maxHeartbeats 400000 in
theorem gener_any (p : Int) (w : World) (T : Tabs w) :
    Calls Tryd.prog 118 #[.int .i64 p] w fun e w' => e = .returned (.int .i64 (generS p)) ∧ Below w.heap.size w w' := by
  cases hf : formedB p
  · have hs : generS p = 0 := by simp [generS, hf]
    rw [hs]
    clear hs
    go_enter Tryd.func118, Tryd.ntmps118
    go_wp2_with (go_at_call 120; refine (header_no _ _ _ T hf).mono ?_; rintro e w1 ⟨rfl, hb⟩)
    go_ret
    exact ⟨rfl, hb⟩
  · have hs : generS p = p / 128 := by simp [generS, hf]
    rw [hs]
    clear hs
    go_enter Tryd.func118, Tryd.ntmps118
    go_wp2_with (go_at_call 120; refine (header_2 _ _ T hf).mono ?_; rintro e w1 ⟨rfl, hb⟩)
    go_ret
    exact ⟨rfl, hb⟩

end Go.Proofs.YtcngblnkfiggjaaDoor.Rm
