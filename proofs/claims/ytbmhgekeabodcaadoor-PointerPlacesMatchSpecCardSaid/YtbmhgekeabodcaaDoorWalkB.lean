/- Contracts of Make, Right, Line and Gen of package pointer, in every world in which the two tables of the package hold what their text lays. -/
import Derived.Test.YtbmhgekeabodcaaDoorWalkA
import Derived.Handy
import Derived.Deep.RegionWith
import Derived.Deep.RegionHeld3
namespace Go.Proofs.YtbmhgekeabodcaaDoor.Ptr
open Go Go.RowKit

/-- The two tables of the package: the cells of blocks 0 and 1. -/
structure Tabs (w : World) : Prop where
  p0 : w.cell? ⟨0, 0, none⟩ = some (.int .i64 0)
  p1 : w.cell? ⟨0, 1, none⟩ = some (.int .i64 12)
  p2 : w.cell? ⟨0, 2, none⟩ = some (.int .i64 12)
  p3 : w.cell? ⟨0, 3, none⟩ = some (.int .i64 20)
  h0 : w.cell? ⟨1, 0, none⟩ = some (.int .i64 0)
  h1 : w.cell? ⟨1, 1, none⟩ = some (.int .i64 4)
  h2 : w.cell? ⟨1, 2, none⟩ = some (.int .i64 4)
  h3 : w.cell? ⟨1, 3, none⟩ = some (.int .i64 3)
  h4 : w.cell? ⟨1, 4, none⟩ = some (.int .i64 7)
  h5 : w.cell? ⟨1, 5, none⟩ = some (.int .i64 20)
  sz : 2 ≤ w.heap.size

theorem Tabs.below {w w' : World} (T : Tabs w) (h : Below w.heap.size w w') : Tabs w' := by
  have z := T.sz
  have c : ∀ b o, b < 2 → w'.cell? ⟨b, o, none⟩ = w.cell? ⟨b, o, none⟩ := fun b o hb => h.cell (p := ⟨b, o, none⟩) (Nat.lt_of_lt_of_le hb z)
  exact ⟨(c 0 0 (by decide)).trans T.p0, (c 0 1 (by decide)).trans T.p1, (c 0 2 (by decide)).trans T.p2, (c 0 3 (by decide)).trans T.p3,
    (c 1 0 (by decide)).trans T.h0, (c 1 1 (by decide)).trans T.h1, (c 1 2 (by decide)).trans T.h2, (c 1 3 (by decide)).trans T.h3, (c 1 4 (by decide)).trans T.h4, (c 1 5 (by decide)).trans T.h5,
    Nat.le_trans z h.size⟩
theorem Tabs.drew {w : World} (T : Tabs w) : Tabs w.drew := T.below (Below.refl _ _).drew
theorem Tabs.drewN {w : World} (T : Tabs w) (n : Nat) : Tabs (w.drewN n) := T.below (below_drewN (Below.refl _ _) _)
theorem below_next {w w1 w2 : World} (h : Below w.heap.size w w1) (k : Below w1.heap.size w1 w2) : Below w.heap.size w w2 := h.trans (k.mono h.size)

set_option maxHeartbeats 400000 in
theorem make_any (l g : Int) (w : World) (T : Tabs w) :
    Calls Tryd.prog 14 #[.int .i64 l, .int .i64 g] w fun e w' => e = .returned (.int .i64 (makeS l g)) ∧ w = w' := by
  have c2 := T.p2
  clear T
  by_cases h1 : l < 1
  · go_enter Tryd.func14, Tryd.ntmps14
    go_wp2
    go_ret
    exact ⟨ret_int (by unfold makeS; rw [if_neg (by omega)]), rfl⟩
  by_cases h2 : 4096 ≤ l
  · go_enter Tryd.func14, Tryd.ntmps14
    go_wp2
    go_ret
    exact ⟨ret_int (by unfold makeS; rw [if_neg (by omega)]), rfl⟩
  by_cases h3 : g < 1
  · go_enter Tryd.func14, Tryd.ntmps14
    go_wp2
    go_ret
    exact ⟨ret_int (by unfold makeS; rw [if_neg (by omega)]), rfl⟩
  by_cases h4 : 1048576 ≤ g
  · go_enter Tryd.func14, Tryd.ntmps14
    go_wp2
    go_ret
    exact ⟨ret_int (by unfold makeS; rw [if_neg (by omega)]), rfl⟩
  go_enter Tryd.func14, Tryd.ntmps14
  go_wp2
  go_ret
  exact ⟨ret_int (by unfold makeS; rw [if_pos (by omega)]; exact or_join l g 12 (by omega) (by omega) (by omega) (by omega) (by omega)), rfl⟩

theorem of_abs (x : Int) (w : World) :
    Calls Tryd.prog 45 #[.int .i64 x] w fun e w' => ∃ a : Addr, e = .returned (.func (.func 50) #[] #[.pointer (some a)]) ∧ w'.cell? a = some (.int .i64 x) ∧ a.block < w'.heap.size ∧ Below w.heap.size w w' :=
  (of_any x w).mono fun _ _ ⟨he, hw⟩ => ⟨_, he, by subst hw; go_simp, by subst hw; simp, by subst hw; exact (Below.refl _ _).alloc (Nat.le_refl _) _⟩

theorem fld_0_12 (p : Int) : fld p 0 12 = p % 4096 := by simp [fld]
theorem fld_12_20 (p : Int) : fld p 12 20 = p / 4096 % 1048576 := by simp [fld]

set_option maxHeartbeats 400000 in
theorem right_any (p : Int) (w : World) (T : Tabs w) :
    Calls Tryd.prog 20 #[.int .i64 p] w fun e w' => e = .returned (.bool (rightB p)) ∧ Below w.heap.size w w' := by
  by_cases h0 : p = 0
  · subst h0
    go_enter Tryd.func20, Tryd.ntmps20
    go_wp2_with (go_at_call 45; refine (of_abs _ _).mono ?_; rintro e w' ⟨a, rfl, hc, ha, hb⟩)
    go_ret
    exact ⟨rfl, hb⟩
  have hz : (p == 0) = false := by simpa using h0
  by_cases hw : wordB p = true
  · have H1 := wordB_t hw
    by_cases h32 : p / 4294967296 = 0
    · have h32' : (p / 4294967296 == 0) = true := by simpa using h32
      clear h32
      go_enter Tryd.func20, Tryd.ntmps20
      go_wp2_with (first | (go_at_call 45; refine (of_abs _ _).mono ?_; rintro e w1 ⟨a, rfl, hc, ha, hb⟩))
      have T1 := T.below hb
      have c0 := T1.p0
      have c1 := T1.p1
      refine (word_any _ _).mono ?_
      rintro e w' ⟨rfl, rfl⟩
      go_wp2_with fail
      refine (clos_any a p 0 12 _ hc (by omega) (by omega) (by omega) (by omega) (by omega) (by omega) ha).mono ?_
      rintro e w2 ⟨rfl, hb2⟩
      rw [fld_0_12]
      have T2 := T1.below hb2
      have hc2 := (hb2.cell ha).trans hc
      have ha2 : a.block < w2.heap.size := Nat.lt_of_lt_of_le ha hb2.size
      clear c0 c1
      have c2 := T2.p2
      have c3 := T2.p3
      by_cases h1 : 0 < p % 4096
      · go_wp2_with fail
        refine (clos_any a p 12 20 _ hc2 (by omega) (by omega) (by omega) (by omega) (by omega) (by omega) ha2).mono ?_
        rintro e w3 ⟨rfl, hb3⟩
        rw [fld_12_20]
        go_wp2
        go_ret
        exact ⟨ret_bool (by simp only [beq_iff_eq] at h32'; rw [Bool.eq_iff_iff]; simp [rightB]; omega), below_next (below_next hb hb2) hb3⟩
      · go_wp2
        go_ret
        exact ⟨ret_bool (by rw [Bool.eq_iff_iff]; simp [rightB]; omega), below_next hb hb2⟩
    · have h32' : (p / 4294967296 == 0) = false := by simpa using h32
      go_enter Tryd.func20, Tryd.ntmps20
      go_wp2_with (first | (go_at_call 43; refine (word_any _ _).mono ?_; rintro e w' ⟨rfl, rfl⟩) | (go_at_call 45; refine (of_abs _ _).mono ?_; rintro e w' ⟨a, rfl, hc, ha, hb⟩))
      go_ret
      exact ⟨ret_bool (by simp [rightB]; omega), hb⟩
  · simp only [Bool.not_eq_true] at hw
    have H1 := wordB_f hw
    go_enter Tryd.func20, Tryd.ntmps20
    go_wp2_with (first | (go_at_call 43; refine (word_any _ _).mono ?_; rintro e w' ⟨rfl, rfl⟩) | (go_at_call 45; refine (of_abs _ _).mono ?_; rintro e w' ⟨a, rfl, hc, ha, hb⟩))
    go_ret
    exact ⟨ret_bool (by simp [rightB]; omega), hb⟩

theorem rightB_t {p : Int} (h : rightB p = true) : 0 ≤ p ∧ p ≤ 1099511627775 ∧ p / 4096 < 1048576 := by
  have := of_decide_eq_true h; omega

set_option maxHeartbeats 400000 in
theorem line_any (p : Int) (w : World) (T : Tabs w) :
    Calls Tryd.prog 18 #[.int .i64 p] w fun e w' => e = .returned (.int .i64 (lineS p)) ∧ Below w.heap.size w w' := by
  by_cases hr : rightB p = true
  · have H := rightB_t hr
    go_enter Tryd.func18, Tryd.ntmps18
    go_wp2_with (go_at_call 20; refine (right_any _ _ T).mono ?_; rintro e w1 ⟨rfl, hb⟩)
    have T1 := T.below hb
    have c0 := T1.p0
    have c1 := T1.p1
    go_region_held3 (fun w' => w'.cell? ⟨0, 0, none⟩ = some (.int .i64 0) ∧ w'.cell? ⟨0, 1, none⟩ = some (.int .i64 12))
      (first | go_keep | exact ⟨T3.p0, T3.p1⟩ | exact ⟨T2.p0, T2.p1⟩)
      (first
        | (go_at_call 45; refine (of_abs _ _).mono ?_; rintro e w2 ⟨a, rfl, hc, ha, hb2⟩; have T2 := T1.drew.below hb2)
        | (go_at_call 50; refine (clos_any a p 0 12 _ hc (by omega) (by omega) (by omega) (by omega) (by omega) (by omega) ha).mono ?_; rintro e w3 ⟨rfl, hb3⟩; have T3 := T2.below hb3))
    go_wp2
    go_ret
    exact ⟨ret_int (by rw [fld_0_12]; simp [lineS, hr]), below_next (below_next hb.drew hb2) hb3⟩
  · simp only [Bool.not_eq_true] at hr
    go_enter Tryd.func18, Tryd.ntmps18
    go_wp2_with (go_at_call 20; refine (right_any _ _ T).mono ?_; rintro e w1 ⟨rfl, hb⟩)
    go_ret
    exact ⟨ret_int (by simp [lineS, hr]), hb⟩

set_option maxHeartbeats 400000 in
theorem gen_any (p : Int) (w : World) (T : Tabs w) :
    Calls Tryd.prog 19 #[.int .i64 p] w fun e w' => e = .returned (.int .i64 (genS p)) ∧ Below w.heap.size w w' := by
  by_cases hr : rightB p = true
  · have H := rightB_t hr
    go_enter Tryd.func19, Tryd.ntmps19
    go_wp2_with (go_at_call 20; refine (right_any _ _ T).mono ?_; rintro e w1 ⟨rfl, hb⟩)
    have T1 := T.below hb
    have c0 := T1.p2
    have c1 := T1.p3
    go_region_held3 (fun w' => w'.cell? ⟨0, 2, none⟩ = some (.int .i64 12) ∧ w'.cell? ⟨0, 3, none⟩ = some (.int .i64 20))
      (first | go_keep | exact ⟨T3.p2, T3.p3⟩ | exact ⟨T2.p2, T2.p3⟩)
      (first
        | (go_at_call 45; refine (of_abs _ _).mono ?_; rintro e w2 ⟨a, rfl, hc, ha, hb2⟩; have T2 := T1.drew.below hb2)
        | (go_at_call 50; refine (clos_any a p 12 20 _ hc (by omega) (by omega) (by omega) (by omega) (by omega) (by omega) ha).mono ?_; rintro e w3 ⟨rfl, hb3⟩; have T3 := T2.below hb3))
    go_wp2
    go_ret
    exact ⟨ret_int (by rw [fld_12_20]; simp [genS, hr]; omega), below_next (below_next hb.drew hb2) hb3⟩
  · simp only [Bool.not_eq_true] at hr
    go_enter Tryd.func19, Tryd.ntmps19
    go_wp2_with (go_at_call 20; refine (right_any _ _ T).mono ?_; rintro e w1 ⟨rfl, hb⟩)
    go_ret
    exact ⟨ret_int (by simp [genS, hr]), hb⟩

end Go.Proofs.YtbmhgekeabodcaaDoor.Ptr
