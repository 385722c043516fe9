/- Contracts of Pack and Check of package pointer, and of the specification of Check, in every world in which the two tables of the package hold what their text lays. -/
import Derived.Test.YtbmhgekeabodcaaDoorWalkD
namespace Go.Proofs.YtbmhgekeabodcaaDoor.Ptr
open Go Go.RowKit

theorem or_zero (k : Int) (h0 : 0 ≤ k) (h1 : k ≤ 1099511627775) : bits .or .i64 0 k = k := by
  have := or_join 0 k 0 (by omega) (by omega) h0 (by omega) (by simpa using h1)
  simpa using this
theorem pack_eq (k c g : Int) (hk0 : 0 ≤ k) (hk : k < 16) (hc0 : 0 ≤ c) (hc : c < 8) (hg0 : 0 ≤ g) (hg : g < 1048576) :
    bits .or .i64 (bits .or .i64 (bits .or .i64 0 k) (c * 16)) (g * 128) = k + c * 16 + g * 128 := by
  rw [or_zero k hk0 (by omega)]
  have e1 := or_join k c 4 hk0 (by omega) hc0 (by omega) (by omega)
  have e2 := or_join (k + c * 16) g 7 (by omega) (by omega) hg0 (by omega) (by omega)
  simp only [show (2 : Int) ^ 4 = 16 by decide, show (2 : Int) ^ 7 = 128 by decide] at e1 e2
  rw [e1, e2]

set_option maxHeartbeats 1000000 in
theorem pack_any (k c g : Int) (w : World) (T : Tabs w) :
    Calls Tryd.prog 15 #[.int .i64 k, .int .i64 c, .int .i64 g] w fun e w' => e = .returned (.int .i64 (packS k c g)) ∧ w = w' := by
  have c0 := T.h0
  have c1 := T.h1
  have c2 := T.h2
  have c3 := T.h3
  have c4 := T.h4
  have c5 := T.h5
  clear T
  have i0 : ∀ w, (Instr.index 47 (.agg #[.int .i64 k, .int .i64 c, .int .i64 g]) (.int .i64 0)).run Tryd.prog w = .ok (.int .i64 k) w := fun _ => by kernel_rfl
  have i1 : ∀ w, (Instr.index 47 (.agg #[.int .i64 k, .int .i64 c, .int .i64 g]) (.int .i64 1)).run Tryd.prog w = .ok (.int .i64 c) w := fun _ => by kernel_rfl
  have i2 : ∀ w, (Instr.index 47 (.agg #[.int .i64 k, .int .i64 c, .int .i64 g]) (.int .i64 2)).run Tryd.prog w = .ok (.int .i64 g) w := fun _ => by kernel_rfl
  by_cases h1 : k < 0
  · go_enter Tryd.func15, Tryd.ntmps15
    go_wp2
    go_rounds 4
    go_ret
    exact ⟨ret_int (by unfold packS; rw [if_neg (by omega)]), rfl⟩
  by_cases h2 : 16 ≤ k
  · go_enter Tryd.func15, Tryd.ntmps15
    go_wp2
    go_rounds 4
    go_ret
    exact ⟨ret_int (by unfold packS; rw [if_neg (by omega)]), rfl⟩
  by_cases h3 : c < 0
  · go_enter Tryd.func15, Tryd.ntmps15
    go_wp2
    go_rounds 4
    go_ret
    exact ⟨ret_int (by unfold packS; rw [if_neg (by omega)]), rfl⟩
  by_cases h4 : 8 ≤ c
  · go_enter Tryd.func15, Tryd.ntmps15
    go_wp2
    go_rounds 4
    go_ret
    exact ⟨ret_int (by unfold packS; rw [if_neg (by omega)]), rfl⟩
  by_cases h5 : g < 0
  · go_enter Tryd.func15, Tryd.ntmps15
    go_wp2
    go_rounds 4
    go_ret
    exact ⟨ret_int (by unfold packS; rw [if_neg (by omega)]), rfl⟩
  by_cases h6 : 1048576 ≤ g
  · go_enter Tryd.func15, Tryd.ntmps15
    go_wp2
    go_rounds 4
    go_ret
    exact ⟨ret_int (by unfold packS; rw [if_neg (by omega)]), rfl⟩
  by_cases h7 : 4 < c
  · go_enter Tryd.func15, Tryd.ntmps15
    go_wp2
    go_rounds 4
    go_ret
    exact ⟨ret_int (by unfold packS; rw [if_neg (by omega)]), rfl⟩
  go_enter Tryd.func15, Tryd.ntmps15
  go_wp2
  go_rounds 4
  go_ret
  exact ⟨ret_int (by rw [pack_eq k c g (by omega) (by omega) (by omega) (by omega) (by omega) (by omega)]; unfold packS; rw [if_pos (by omega)]), rfl⟩

/-- The world w has the tables, and what was there in w0 is as it was. -/
structure Ext (w0 w : World) : Prop where
  tabs : Tabs w
  below : Below w0.heap.size w0 w
theorem Ext.refl {w : World} (T : Tabs w) : Ext w w := ⟨T, Below.refl _ _⟩
theorem ext_below {f : FuncId} {args : Array Value} {v : Value} {w0 w : World} (E : Ext w0 w)
    (h : Tabs w → Calls Tryd.prog f args w fun e w' => e = .returned v ∧ Below w.heap.size w w') : Calls Tryd.prog f args w fun e w' => e = .returned v ∧ Ext w0 w' :=
  (h E.tabs).mono fun _ _ ⟨he, hb⟩ => ⟨he, E.tabs.below hb, below_next E.below hb⟩
theorem ext_same {f : FuncId} {args : Array Value} {v : Value} {w0 w : World} (E : Ext w0 w)
    (h : Calls Tryd.prog f args w fun e w' => e = .returned v ∧ w = w') : Calls Tryd.prog f args w fun e w' => e = .returned v ∧ Ext w0 w' :=
  h.mono fun _ _ ⟨he, hb⟩ => ⟨he, hb ▸ E⟩
theorem ext_tabs {f : FuncId} {args : Array Value} {v : Value} {w0 w : World} (E : Ext w0 w)
    (h : Tabs w → Calls Tryd.prog f args w fun e w' => e = .returned v ∧ w = w') : Calls Tryd.prog f args w fun e w' => e = .returned v ∧ Ext w0 w' :=
  (h E.tabs).mono fun _ _ ⟨he, hb⟩ => ⟨he, hb ▸ E⟩
theorem ext_drew {f : FuncId} {args : Array Value} {v : Value} {w0 w : World} (E : Ext w0 w)
    (h : Calls Tryd.prog f args w fun e w' => e = .returned v ∧ ∃ n, w' = w.drewN n) : Calls Tryd.prog f args w fun e w' => e = .returned v ∧ Ext w0 w' :=
  h.mono fun _ _ ⟨he, n, hb⟩ => ⟨he, by rw [hb]; exact ⟨E.tabs.drewN n, below_drewN E.below n⟩⟩

theorem checkS_arg {p h : Int} (H : (rightB p && decide (p ≠ 0) && formedB h) = false) : checkS p h = 1 := by unfold checkS; rw [H]; rfl
theorem checkS_in {p h : Int} (h1 : rightB p = true) (h2 : p ≠ 0) (h3 : formedB h = true) : checkS p h = if kindS h = 0 ∨ generS h ≠ genS p then 70 else 0 := by
  unfold checkS; simp [h1, h2, h3]

set_option maxHeartbeats 1000000 in
theorem check_any (p h : Int) (w : World) (T : Tabs w) :
    Calls Tryd.prog 17 #[.int .i64 p, .int .i64 h] w fun e w' => e = .returned (.int .i64 (checkS p h)) ∧ Below w.heap.size w w' := by
  have E := Ext.refl T
  by_cases h0 : p = 0
  · rw [checkS_arg (by simp [h0])]
    have hz : (p == 0) = true := by simpa using h0
    have hz' : (p != 0) = false := by simpa using h0
    clear h0
    cases hr : rightB p
    all_goals
      go_enter Tryd.func17, Tryd.ntmps17
      go_wp2_with (first | (go_at_call 20; (with_reducible refine (ext_below (by assumption) (right_any _ _)).mono ?_); rintro e w' ⟨rfl, hE⟩) | (go_at_call 24; (with_reducible refine (ext_below (by assumption) (formed_any _ _)).mono ?_); rintro e w' ⟨rfl, hE⟩) | (go_at_call 21; (with_reducible refine (ext_below (by assumption) (kind_any _ _)).mono ?_); rintro e w' ⟨rfl, hE⟩) | (go_at_call 23; (with_reducible refine (ext_below (by assumption) (gener_any _ _)).mono ?_); rintro e w' ⟨rfl, hE⟩) | (go_at_call 19; (with_reducible refine (ext_below (by assumption) (gen_any _ _)).mono ?_); rintro e w' ⟨rfl, hE⟩))
      go_ret
      exact ⟨rfl, by first | exact hE.below | exact Below.refl _ _⟩
  have hz : (p == 0) = false := by simpa using h0
  have hz' : (p != 0) = true := by simpa using h0
  cases hr : rightB p
  · rw [checkS_arg (by simp [hr])]
    clear h0
    go_enter Tryd.func17, Tryd.ntmps17
    go_wp2_with (first | (go_at_call 20; (with_reducible refine (ext_below (by assumption) (right_any _ _)).mono ?_); rintro e w' ⟨rfl, hE⟩) | (go_at_call 24; (with_reducible refine (ext_below (by assumption) (formed_any _ _)).mono ?_); rintro e w' ⟨rfl, hE⟩) | (go_at_call 21; (with_reducible refine (ext_below (by assumption) (kind_any _ _)).mono ?_); rintro e w' ⟨rfl, hE⟩) | (go_at_call 23; (with_reducible refine (ext_below (by assumption) (gener_any _ _)).mono ?_); rintro e w' ⟨rfl, hE⟩) | (go_at_call 19; (with_reducible refine (ext_below (by assumption) (gen_any _ _)).mono ?_); rintro e w' ⟨rfl, hE⟩))
    go_ret
    exact ⟨rfl, hE.below⟩
  cases hf : formedB h
  · rw [checkS_arg (by simp [hf])]
    clear h0
    go_enter Tryd.func17, Tryd.ntmps17
    go_wp2_with (first | (go_at_call 20; (with_reducible refine (ext_below (by assumption) (right_any _ _)).mono ?_); rintro e w' ⟨rfl, hE⟩) | (go_at_call 24; (with_reducible refine (ext_below (by assumption) (formed_any _ _)).mono ?_); rintro e w' ⟨rfl, hE⟩) | (go_at_call 21; (with_reducible refine (ext_below (by assumption) (kind_any _ _)).mono ?_); rintro e w' ⟨rfl, hE⟩) | (go_at_call 23; (with_reducible refine (ext_below (by assumption) (gener_any _ _)).mono ?_); rintro e w' ⟨rfl, hE⟩) | (go_at_call 19; (with_reducible refine (ext_below (by assumption) (gen_any _ _)).mono ?_); rintro e w' ⟨rfl, hE⟩))
    go_ret
    exact ⟨rfl, hE.below⟩
  by_cases hk : kindS h = 0
  · rw [checkS_in hr h0 hf, if_pos (Or.inl hk)]
    have hk' : (kindS h == 0) = true := by simpa using hk
    clear h0 hk
    go_enter Tryd.func17, Tryd.ntmps17
    go_wp2_with (first | (go_at_call 20; (with_reducible refine (ext_below (by assumption) (right_any _ _)).mono ?_); rintro e w' ⟨rfl, hE⟩) | (go_at_call 24; (with_reducible refine (ext_below (by assumption) (formed_any _ _)).mono ?_); rintro e w' ⟨rfl, hE⟩) | (go_at_call 21; (with_reducible refine (ext_below (by assumption) (kind_any _ _)).mono ?_); rintro e w' ⟨rfl, hE⟩) | (go_at_call 23; (with_reducible refine (ext_below (by assumption) (gener_any _ _)).mono ?_); rintro e w' ⟨rfl, hE⟩) | (go_at_call 19; (with_reducible refine (ext_below (by assumption) (gen_any _ _)).mono ?_); rintro e w' ⟨rfl, hE⟩))
    go_ret
    exact ⟨rfl, hE.below⟩
  have hk' : (kindS h == 0) = false := by simpa using hk
  by_cases hg : generS h = genS p
  · rw [checkS_in hr h0 hf, if_neg (by simp [hk, hg])]
    have hg' : (generS h != genS p) = false := by simpa using hg
    clear h0 hk hg
    go_enter Tryd.func17, Tryd.ntmps17
    go_wp2_with (first | (go_at_call 20; (with_reducible refine (ext_below (by assumption) (right_any _ _)).mono ?_); rintro e w' ⟨rfl, hE⟩) | (go_at_call 24; (with_reducible refine (ext_below (by assumption) (formed_any _ _)).mono ?_); rintro e w' ⟨rfl, hE⟩) | (go_at_call 21; (with_reducible refine (ext_below (by assumption) (kind_any _ _)).mono ?_); rintro e w' ⟨rfl, hE⟩) | (go_at_call 23; (with_reducible refine (ext_below (by assumption) (gener_any _ _)).mono ?_); rintro e w' ⟨rfl, hE⟩) | (go_at_call 19; (with_reducible refine (ext_below (by assumption) (gen_any _ _)).mono ?_); rintro e w' ⟨rfl, hE⟩))
    go_ret
    exact ⟨rfl, hE.below⟩
  · rw [checkS_in hr h0 hf, if_pos (Or.inr hg)]
    have hg' : (generS h != genS p) = true := by simpa using hg
    clear h0 hk hg
    go_enter Tryd.func17, Tryd.ntmps17
    go_wp2_with (first | (go_at_call 20; (with_reducible refine (ext_below (by assumption) (right_any _ _)).mono ?_); rintro e w' ⟨rfl, hE⟩) | (go_at_call 24; (with_reducible refine (ext_below (by assumption) (formed_any _ _)).mono ?_); rintro e w' ⟨rfl, hE⟩) | (go_at_call 21; (with_reducible refine (ext_below (by assumption) (kind_any _ _)).mono ?_); rintro e w' ⟨rfl, hE⟩) | (go_at_call 23; (with_reducible refine (ext_below (by assumption) (gener_any _ _)).mono ?_); rintro e w' ⟨rfl, hE⟩) | (go_at_call 19; (with_reducible refine (ext_below (by assumption) (gen_any _ _)).mono ?_); rintro e w' ⟨rfl, hE⟩))
    go_ret
    exact ⟨rfl, hE.below⟩

set_option maxHeartbeats 1000000 in
theorem rcheck_any (p h : Int) (w : World) :
    Calls Tryd.prog 37 #[.int .i64 p, .int .i64 h] w fun e w' => e = .returned (.int .i64 (checkS p h)) ∧ w = w' := by
  by_cases h0 : p = 0
  · rw [checkS_arg (by simp [h0])]
    have hz : (p == 0) = true := by simpa using h0
    have hz' : (p != 0) = false := by simpa using h0
    clear h0
    cases hr : rightB p
    all_goals
      go_enter Tryd.func37, Tryd.ntmps37
      go_wp2_with (first | (go_at_call 26; refine (rright_any _ _).mono ?_; rintro e w' ⟨rfl, rfl⟩) | (go_at_call 30; refine (rformed_any _ _).mono ?_; rintro e w' ⟨rfl, rfl⟩) | (go_at_call 31; refine (rkind_any _ _).mono ?_; rintro e w' ⟨rfl, rfl⟩) | (go_at_call 33; refine (rgener_any _ _).mono ?_; rintro e w' ⟨rfl, rfl⟩) | (go_at_call 28; refine (rgen_any _ _).mono ?_; rintro e w' ⟨rfl, rfl⟩))
      go_ret
      exact ⟨rfl, rfl⟩
  have hz : (p == 0) = false := by simpa using h0
  have hz' : (p != 0) = true := by simpa using h0
  cases hr : rightB p
  · rw [checkS_arg (by simp [hr])]
    clear h0
    go_enter Tryd.func37, Tryd.ntmps37
    go_wp2_with (first | (go_at_call 26; refine (rright_any _ _).mono ?_; rintro e w' ⟨rfl, rfl⟩) | (go_at_call 30; refine (rformed_any _ _).mono ?_; rintro e w' ⟨rfl, rfl⟩) | (go_at_call 31; refine (rkind_any _ _).mono ?_; rintro e w' ⟨rfl, rfl⟩) | (go_at_call 33; refine (rgener_any _ _).mono ?_; rintro e w' ⟨rfl, rfl⟩) | (go_at_call 28; refine (rgen_any _ _).mono ?_; rintro e w' ⟨rfl, rfl⟩))
    go_ret
    exact ⟨rfl, rfl⟩
  cases hf : formedB h
  · rw [checkS_arg (by simp [hf])]
    clear h0
    go_enter Tryd.func37, Tryd.ntmps37
    go_wp2_with (first | (go_at_call 26; refine (rright_any _ _).mono ?_; rintro e w' ⟨rfl, rfl⟩) | (go_at_call 30; refine (rformed_any _ _).mono ?_; rintro e w' ⟨rfl, rfl⟩) | (go_at_call 31; refine (rkind_any _ _).mono ?_; rintro e w' ⟨rfl, rfl⟩) | (go_at_call 33; refine (rgener_any _ _).mono ?_; rintro e w' ⟨rfl, rfl⟩) | (go_at_call 28; refine (rgen_any _ _).mono ?_; rintro e w' ⟨rfl, rfl⟩))
    go_ret
    exact ⟨rfl, rfl⟩
  by_cases hk : kindS h = 0
  · rw [checkS_in hr h0 hf, if_pos (Or.inl hk)]
    have hk' : (kindS h == 0) = true := by simpa using hk
    clear h0 hk
    go_enter Tryd.func37, Tryd.ntmps37
    go_wp2_with (first | (go_at_call 26; refine (rright_any _ _).mono ?_; rintro e w' ⟨rfl, rfl⟩) | (go_at_call 30; refine (rformed_any _ _).mono ?_; rintro e w' ⟨rfl, rfl⟩) | (go_at_call 31; refine (rkind_any _ _).mono ?_; rintro e w' ⟨rfl, rfl⟩) | (go_at_call 33; refine (rgener_any _ _).mono ?_; rintro e w' ⟨rfl, rfl⟩) | (go_at_call 28; refine (rgen_any _ _).mono ?_; rintro e w' ⟨rfl, rfl⟩))
    go_ret
    exact ⟨rfl, rfl⟩
  have hk' : (kindS h == 0) = false := by simpa using hk
  by_cases hg : generS h = genS p
  · rw [checkS_in hr h0 hf, if_neg (by simp [hk, hg])]
    have hg' : (generS h != genS p) = false := by simpa using hg
    clear h0 hk hg
    go_enter Tryd.func37, Tryd.ntmps37
    go_wp2_with (first | (go_at_call 26; refine (rright_any _ _).mono ?_; rintro e w' ⟨rfl, rfl⟩) | (go_at_call 30; refine (rformed_any _ _).mono ?_; rintro e w' ⟨rfl, rfl⟩) | (go_at_call 31; refine (rkind_any _ _).mono ?_; rintro e w' ⟨rfl, rfl⟩) | (go_at_call 33; refine (rgener_any _ _).mono ?_; rintro e w' ⟨rfl, rfl⟩) | (go_at_call 28; refine (rgen_any _ _).mono ?_; rintro e w' ⟨rfl, rfl⟩))
    go_ret
    exact ⟨rfl, rfl⟩
  · rw [checkS_in hr h0 hf, if_pos (Or.inr hg)]
    have hg' : (generS h != genS p) = true := by simpa using hg
    clear h0 hk hg
    go_enter Tryd.func37, Tryd.ntmps37
    go_wp2_with (first | (go_at_call 26; refine (rright_any _ _).mono ?_; rintro e w' ⟨rfl, rfl⟩) | (go_at_call 30; refine (rformed_any _ _).mono ?_; rintro e w' ⟨rfl, rfl⟩) | (go_at_call 31; refine (rkind_any _ _).mono ?_; rintro e w' ⟨rfl, rfl⟩) | (go_at_call 33; refine (rgener_any _ _).mono ?_; rintro e w' ⟨rfl, rfl⟩) | (go_at_call 28; refine (rgen_any _ _).mono ?_; rintro e w' ⟨rfl, rfl⟩))
    go_ret
    exact ⟨rfl, rfl⟩

end Go.Proofs.YtbmhgekeabodcaaDoor.Ptr
