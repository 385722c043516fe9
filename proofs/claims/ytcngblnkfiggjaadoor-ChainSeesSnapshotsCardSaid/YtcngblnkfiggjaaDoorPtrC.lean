/- Contracts of Lines and Check of package pointer, and of the specification (printed by gen_ptr.py). -/
import Derived.Test.YtcngblnkfiggjaaDoorPtrB
namespace Go.Proofs.YtcngblnkfiggjaaDoor.Rm
open Go Go.RowKit

theorem linesS_no {c : Int} (h : c < 0 ∨ 4 < c) : linesS c = 0 := by unfold linesS; rw [if_pos h]
theorem linesS_yes {c : Int} (h0 : 0 ≤ c) (h : c ≤ 4) : linesS c = 2 ^ c.toNat := by unfold linesS; rw [if_neg (by omega)]
set_option maxHeartbeats 400000 in
theorem lines_any (c : Int) (w : World) :
    Calls Tryd.prog 94 #[.int .i64 c] w fun e w' => e = .returned (.int .i64 (linesS c)) ∧ w = w' := by
  by_cases h1 : c < 0
  · go_enter Tryd.func94, Tryd.ntmps94
    go_wp2
    go_ret
    exact ⟨ret_int (linesS_no (by omega)).symm, rfl⟩
  by_cases h2 : 4 < c
  · go_enter Tryd.func94, Tryd.ntmps94
    go_wp2
    go_ret
    exact ⟨ret_int (linesS_no (by omega)).symm, rfl⟩
  have hp := pow_le c.toNat (by omega)
  go_enter Tryd.func94, Tryd.ntmps94
  go_wp2
  go_ret
  exact ⟨ret_int (linesS_yes (by omega) (by omega)).symm, rfl⟩
set_option maxHeartbeats 400000 in
theorem rmake_any (l g : Int) (w : World) :
    Calls Tryd.prog 32 #[.int .i64 l, .int .i64 g] w fun e w' => e = .returned (.int .i64 (makeS l g)) ∧ w = w' := by
  by_cases h1 : l < 1
  · go_enter Tryd.func32, Tryd.ntmps32
    go_wp2
    go_ret
    exact ⟨ret_int (by unfold makeS; split <;> omega), rfl⟩
  by_cases h2 : 4095 < l
  · go_enter Tryd.func32, Tryd.ntmps32
    go_wp2
    go_ret
    exact ⟨ret_int (by unfold makeS; split <;> omega), rfl⟩
  by_cases h3 : g < 1
  · go_enter Tryd.func32, Tryd.ntmps32
    go_wp2
    go_ret
    exact ⟨ret_int (by unfold makeS; split <;> omega), rfl⟩
  by_cases h4 : 1048575 < g
  · go_enter Tryd.func32, Tryd.ntmps32
    go_wp2
    go_ret
    exact ⟨ret_int (by unfold makeS; split <;> omega), rfl⟩
  go_enter Tryd.func32, Tryd.ntmps32
  go_wp2
  go_ret
  exact ⟨ret_int (by unfold makeS; split <;> omega), rfl⟩
set_option maxHeartbeats 400000 in
theorem rpack_any (k c g : Int) (w : World) :
    Calls Tryd.prog 31 #[.int .i64 k, .int .i64 c, .int .i64 g] w fun e w' => e = .returned (.int .i64 (packS k c g)) ∧ w = w' := by
  by_cases h1 : k < 0
  · go_enter Tryd.func31, Tryd.ntmps31
    go_wp2
    go_ret
    exact ⟨ret_int (by unfold packS; split <;> omega), rfl⟩
  by_cases h2 : 15 < k
  · go_enter Tryd.func31, Tryd.ntmps31
    go_wp2
    go_ret
    exact ⟨ret_int (by unfold packS; split <;> omega), rfl⟩
  by_cases h3 : c < 0
  · go_enter Tryd.func31, Tryd.ntmps31
    go_wp2
    go_ret
    exact ⟨ret_int (by unfold packS; split <;> omega), rfl⟩
  by_cases h4 : 4 < c
  · go_enter Tryd.func31, Tryd.ntmps31
    go_wp2
    go_ret
    exact ⟨ret_int (by unfold packS; split <;> omega), rfl⟩
  by_cases h5 : g < 0
  · go_enter Tryd.func31, Tryd.ntmps31
    go_wp2
    go_ret
    exact ⟨ret_int (by unfold packS; split <;> omega), rfl⟩
  by_cases h6 : 1048575 < g
  · go_enter Tryd.func31, Tryd.ntmps31
    go_wp2
    go_ret
    exact ⟨ret_int (by unfold packS; split <;> omega), rfl⟩
  go_enter Tryd.func31, Tryd.ntmps31
  go_wp2
  go_ret
  exact ⟨ret_int (by unfold packS; split <;> omega), rfl⟩
set_option maxHeartbeats 400000 in
theorem rright_any (p : Int) (w : World) :
    Calls Tryd.prog 35 #[.int .i64 p] w fun e w' => e = .returned (.bool (rightB p)) ∧ w = w' := by
  by_cases h0 : p = 0
  · subst h0
    go_enter Tryd.func35, Tryd.ntmps35
    go_wp2
    go_ret
    exact ⟨rfl, rfl⟩
  have hz : (p == 0) = false := by simpa using h0
  cases hw : wordB p
  · have H := wordB_f hw
    go_enter Tryd.func35, Tryd.ntmps35
    go_wp2_with (go_at_call 72; refine (rword_any _ _).mono ?_; rintro e w' ⟨rfl, rfl⟩)
    go_ret
    exact ⟨ret_bool (by rw [Bool.eq_iff_iff]; simp [rightB]; omega), rfl⟩
  · have H := wordB_t hw
    by_cases h1 : 0 < p % 4096
    · by_cases h2 : 0 < p / 4096
      · go_enter Tryd.func35, Tryd.ntmps35
        go_wp2_with (go_at_call 72; refine (rword_any _ _).mono ?_; rintro e w' ⟨rfl, rfl⟩)
        go_ret
        exact ⟨ret_bool (by rw [Bool.eq_iff_iff]; simp [rightB]; omega), rfl⟩
      · go_enter Tryd.func35, Tryd.ntmps35
        go_wp2_with (go_at_call 72; refine (rword_any _ _).mono ?_; rintro e w' ⟨rfl, rfl⟩)
        go_ret
        exact ⟨ret_bool (by rw [Bool.eq_iff_iff]; simp [rightB]; omega), rfl⟩
    · go_enter Tryd.func35, Tryd.ntmps35
      go_wp2_with (go_at_call 72; refine (rword_any _ _).mono ?_; rintro e w' ⟨rfl, rfl⟩)
      go_ret
      exact ⟨ret_bool (by rw [Bool.eq_iff_iff]; simp [rightB]; omega), rfl⟩

theorem or_zero (k : Int) (h0 : 0 ≤ k) (h1 : k ≤ 1099511627775) : bits .or .i64 0 k = k := by
  have := or_join 0 k 0 (by omega) (by omega) h0 (by omega) (by simpa using h1)
  simpa using this
/-- The world w has the tables, and what was there in w0 is as it was. -/
structure Ext (w0 w : World) : Prop where
  tabs : Tabs w
  below : Below w0.heap.size w0 w
theorem Ext.refl {w : World} (T : Tabs w) : Ext w w := ⟨T, Below.refl _ _⟩
theorem ext_below {f : FuncId} {args : Array Value} {v : Value} {w0 w : World} (E : Ext w0 w)
    (h : Tabs w → Calls Tryd.prog f args w fun e w' => e = .returned v ∧ Below w.heap.size w w') : Calls Tryd.prog f args w fun e w' => e = .returned v ∧ Ext w0 w' :=
  (h E.tabs).mono fun _ _ ⟨he, hb⟩ => ⟨he, E.tabs.below hb, below_next E.below hb⟩
theorem ext_same {f : FuncId} {args : Array Value} {v : Value} {w0 w : World} (E : Ext w0 w)
    (h : Calls Tryd.prog f args w fun e w' => e = .returned v ∧ w = w') : Calls Tryd.prog f args w fun e w' => e = .returned v ∧ Ext w0 w' :=
  h.mono fun _ _ ⟨he, hb⟩ => ⟨he, hb ▸ E⟩
theorem ext_tabs {f : FuncId} {args : Array Value} {v : Value} {w0 w : World} (E : Ext w0 w)
    (h : Tabs w → Calls Tryd.prog f args w fun e w' => e = .returned v ∧ w = w') : Calls Tryd.prog f args w fun e w' => e = .returned v ∧ Ext w0 w' :=
  (h E.tabs).mono fun _ _ ⟨he, hb⟩ => ⟨he, hb ▸ E⟩
theorem ext_drew {f : FuncId} {args : Array Value} {v : Value} {w0 w : World} (E : Ext w0 w)
    (h : Calls Tryd.prog f args w fun e w' => e = .returned v ∧ ∃ n, w' = w.drewN n) : Calls Tryd.prog f args w fun e w' => e = .returned v ∧ Ext w0 w' :=
  h.mono fun _ _ ⟨he, n, hb⟩ => ⟨he, by rw [hb]; exact ⟨E.tabs.drewN n, below_drewN E.below n⟩⟩
theorem checkS_arg {p h : Int} (H : (rightB p && decide (p ≠ 0) && formedB h) = false) : checkS p h = 1 := by unfold checkS; rw [H]; rfl
theorem checkS_in {p h : Int} (h1 : rightB p = true) (h2 : p ≠ 0) (h3 : formedB h = true) : checkS p h = if kindS h = 0 ∨ generS h ≠ genS p then 70 else 0 := by
  unfold checkS; simp [h1, h2, h3]
set_option maxHeartbeats 1000000 in
theorem check_any (p h : Int) (w : World) (T : Tabs w) :
    Calls Tryd.prog 92 #[.int .i64 p, .int .i64 h] w fun e w' => e = .returned (.int .i64 (checkS p h)) ∧ Below w.heap.size w w' := by
  have E := Ext.refl T
  by_cases h0 : p = 0
  · rw [checkS_arg (by simp [h0])]
    have hz : (p == 0) = true := by simpa using h0
    have hz' : (p != 0) = false := by simpa using h0
    clear h0
    cases hr : rightB p
    all_goals
      go_enter Tryd.func92, Tryd.ntmps92
      go_wp2_with (first | (go_at_call 39; (with_reducible refine (ext_below (by assumption) (right_any _ _)).mono ?_); rintro e w' ⟨rfl, hE⟩) | (go_at_call 117; (with_reducible refine (ext_below (by assumption) (formed_any _ _)).mono ?_); rintro e w' ⟨rfl, hE⟩) | (go_at_call 93; (with_reducible refine (ext_below (by assumption) (kind_any _ _)).mono ?_); rintro e w' ⟨rfl, hE⟩) | (go_at_call 118; (with_reducible refine (ext_below (by assumption) (gener_any _ _)).mono ?_); rintro e w' ⟨rfl, hE⟩) | (go_at_call 119; (with_reducible refine (ext_below (by assumption) (gen_any _ _)).mono ?_); rintro e w' ⟨rfl, hE⟩))
      go_ret
      exact ⟨rfl, by first | exact hE.below | exact Below.refl _ _⟩
  have hz : (p == 0) = false := by simpa using h0
  have hz' : (p != 0) = true := by simpa using h0
  cases hr : rightB p
  · rw [checkS_arg (by simp [hr])]
    clear h0
    go_enter Tryd.func92, Tryd.ntmps92
    go_wp2_with (first | (go_at_call 39; (with_reducible refine (ext_below (by assumption) (right_any _ _)).mono ?_); rintro e w' ⟨rfl, hE⟩) | (go_at_call 117; (with_reducible refine (ext_below (by assumption) (formed_any _ _)).mono ?_); rintro e w' ⟨rfl, hE⟩) | (go_at_call 93; (with_reducible refine (ext_below (by assumption) (kind_any _ _)).mono ?_); rintro e w' ⟨rfl, hE⟩) | (go_at_call 118; (with_reducible refine (ext_below (by assumption) (gener_any _ _)).mono ?_); rintro e w' ⟨rfl, hE⟩) | (go_at_call 119; (with_reducible refine (ext_below (by assumption) (gen_any _ _)).mono ?_); rintro e w' ⟨rfl, hE⟩))
    go_ret
    exact ⟨rfl, hE.below⟩
  cases hf : formedB h
  · rw [checkS_arg (by simp [hf])]
    clear h0
    go_enter Tryd.func92, Tryd.ntmps92
    go_wp2_with (first | (go_at_call 39; (with_reducible refine (ext_below (by assumption) (right_any _ _)).mono ?_); rintro e w' ⟨rfl, hE⟩) | (go_at_call 117; (with_reducible refine (ext_below (by assumption) (formed_any _ _)).mono ?_); rintro e w' ⟨rfl, hE⟩) | (go_at_call 93; (with_reducible refine (ext_below (by assumption) (kind_any _ _)).mono ?_); rintro e w' ⟨rfl, hE⟩) | (go_at_call 118; (with_reducible refine (ext_below (by assumption) (gener_any _ _)).mono ?_); rintro e w' ⟨rfl, hE⟩) | (go_at_call 119; (with_reducible refine (ext_below (by assumption) (gen_any _ _)).mono ?_); rintro e w' ⟨rfl, hE⟩))
    go_ret
    exact ⟨rfl, hE.below⟩
  by_cases hk : kindS h = 0
  · rw [checkS_in hr h0 hf, if_pos (Or.inl hk)]
    have hk' : (kindS h == 0) = true := by simpa using hk
    clear h0 hk
    go_enter Tryd.func92, Tryd.ntmps92
    go_wp2_with (first | (go_at_call 39; (with_reducible refine (ext_below (by assumption) (right_any _ _)).mono ?_); rintro e w' ⟨rfl, hE⟩) | (go_at_call 117; (with_reducible refine (ext_below (by assumption) (formed_any _ _)).mono ?_); rintro e w' ⟨rfl, hE⟩) | (go_at_call 93; (with_reducible refine (ext_below (by assumption) (kind_any _ _)).mono ?_); rintro e w' ⟨rfl, hE⟩) | (go_at_call 118; (with_reducible refine (ext_below (by assumption) (gener_any _ _)).mono ?_); rintro e w' ⟨rfl, hE⟩) | (go_at_call 119; (with_reducible refine (ext_below (by assumption) (gen_any _ _)).mono ?_); rintro e w' ⟨rfl, hE⟩))
    go_ret
    exact ⟨rfl, hE.below⟩
  have hk' : (kindS h == 0) = false := by simpa using hk
  by_cases hg : generS h = genS p
  · rw [checkS_in hr h0 hf, if_neg (by simp [hk, hg])]
    have hg' : (generS h != genS p) = false := by simpa using hg
    clear h0 hk hg
    go_enter Tryd.func92, Tryd.ntmps92
    go_wp2_with (first | (go_at_call 39; (with_reducible refine (ext_below (by assumption) (right_any _ _)).mono ?_); rintro e w' ⟨rfl, hE⟩) | (go_at_call 117; (with_reducible refine (ext_below (by assumption) (formed_any _ _)).mono ?_); rintro e w' ⟨rfl, hE⟩) | (go_at_call 93; (with_reducible refine (ext_below (by assumption) (kind_any _ _)).mono ?_); rintro e w' ⟨rfl, hE⟩) | (go_at_call 118; (with_reducible refine (ext_below (by assumption) (gener_any _ _)).mono ?_); rintro e w' ⟨rfl, hE⟩) | (go_at_call 119; (with_reducible refine (ext_below (by assumption) (gen_any _ _)).mono ?_); rintro e w' ⟨rfl, hE⟩))
    go_ret
    exact ⟨rfl, hE.below⟩
  · rw [checkS_in hr h0 hf, if_pos (Or.inr hg)]
    have hg' : (generS h != genS p) = true := by simpa using hg
    clear h0 hk hg
    go_enter Tryd.func92, Tryd.ntmps92
    go_wp2_with (first | (go_at_call 39; (with_reducible refine (ext_below (by assumption) (right_any _ _)).mono ?_); rintro e w' ⟨rfl, hE⟩) | (go_at_call 117; (with_reducible refine (ext_below (by assumption) (formed_any _ _)).mono ?_); rintro e w' ⟨rfl, hE⟩) | (go_at_call 93; (with_reducible refine (ext_below (by assumption) (kind_any _ _)).mono ?_); rintro e w' ⟨rfl, hE⟩) | (go_at_call 118; (with_reducible refine (ext_below (by assumption) (gener_any _ _)).mono ?_); rintro e w' ⟨rfl, hE⟩) | (go_at_call 119; (with_reducible refine (ext_below (by assumption) (gen_any _ _)).mono ?_); rintro e w' ⟨rfl, hE⟩))
    go_ret
    exact ⟨rfl, hE.below⟩

end Go.Proofs.YtcngblnkfiggjaaDoor.Rm
