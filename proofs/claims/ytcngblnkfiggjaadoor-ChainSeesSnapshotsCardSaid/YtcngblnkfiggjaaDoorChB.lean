/- Contracts of Right of package chain and of its specification (printed by gen_b.py). -/
import Derived.Test.YtcngblnkfiggjaaDoorChA
namespace Go.Proofs.YtcngblnkfiggjaaDoor.Rm
open Go Go.RowKit Go.Maps

/-- Whether a cell is right. -/
def rightC (t r s p : Int) (d : Bool) (ws : List Int) : Bool :=
  decide (0 ≤ t ∧ t ≤ 255) && numB r && numB s && rightB p && decide (ws.length ≤ 123) && !(d && decide (0 < ws.length)) && ws.all wordB
theorem rightC_t {t r s p : Int} {d : Bool} {ws : List Int} (h : rightC t r s p d ws = true) : (0 ≤ t ∧ t ≤ 255) ∧ (1 ≤ r ∧ r ≤ 1073741824) ∧ (1 ≤ s ∧ s ≤ 1073741824) ∧ rightB p = true ∧ ws.length ≤ 123 ∧ (d = true → ws = []) ∧ ws.all wordB = true := by
  unfold rightC numB at h
  simp only [Bool.and_eq_true, decide_eq_true_eq, Bool.not_eq_true', Bool.and_eq_false_iff, decide_eq_false_iff_not] at h
  obtain ⟨⟨⟨⟨⟨⟨h1, h2⟩, h3⟩, h4⟩, h5⟩, h6⟩, h7⟩ := h
  refine ⟨h1, h2, h3, h4, h5, ?_, h7⟩
  intro hd
  rcases h6 with h6 | h6
  · rw [hd] at h6; cases h6
  · exact List.eq_nil_of_length_eq_zero (by omega)
set_option maxHeartbeats 2000000 in
set_option maxRecDepth 100000 in
theorem cright_any (t r s p : Int) (d : Bool) (v : Value) (ws : List Int) (w : World) (T : Tabs w) (h : Rd w v ws) :
    Calls Tryd.prog 10 #[.agg #[.int .i64 t, .int .i64 r, .int .i64 s, .bool d, .int .i64 p, v]] w fun e w' => e = .returned (.bool (rightC t r s p d ws)) ∧ Below w.heap.size w w' := by
  obtain ⟨ao, cap, rfl⟩ := h.shape
  have hbnd : ws.length ≤ 9223372036854775807 := by
    rcases h with ⟨_, _, h, rfl⟩ | ⟨_, _, _, h, _, h1, h2, _⟩
    · simp
    · unfold maxLen at h2; omega
  have HB := Lib.hid (show Below w.heap.size w (w.alloc (.cells #[.int .i64 t, .int .i64 r, .int .i64 s, .bool d, .int .i64 p, .slice ao ws.length cap] 24)) from (Below.refl _ _).alloc (Nat.le_refl _) _)
  have HC := Lib.hid (show ∀ w1, Below (w.heap.size + 1) (w.alloc (.cells #[.int .i64 t, .int .i64 r, .int .i64 s, .bool d, .int .i64 p, .slice ao ws.length cap] 24)) w1 → w1.cell? ⟨w.heap.size, 3, none⟩ = some (.bool d) ∧ w1.cell? ⟨w.heap.size, 5, none⟩ = some (.slice ao ws.length cap) from fun w1 hb =>
    ⟨by rw [hb.cell (p := ⟨w.heap.size, 3, none⟩) (by simp)]; go_simp, by rw [hb.cell (p := ⟨w.heap.size, 5, none⟩) (by simp)]; go_simp⟩)
  have HRD := Lib.hid h
  clear h
  by_cases h1 : t < 0
  · go_enter Tryd.func10, Tryd.ntmps10
    go_wp2
    go_ret
    exact ⟨ret_bool (by simp [rightC]; omega), HB.out⟩
  by_cases h2 : 255 < t
  · go_enter Tryd.func10, Tryd.ntmps10
    go_wp2
    go_ret
    exact ⟨ret_bool (by simp [rightC]; omega), HB.out⟩
  cases hr : numB r
  · go_enter Tryd.func10, Tryd.ntmps10
    go_wp2_with (go_at_call 38; refine (number_any _ _).mono ?_; rw [hr]; rintro e w1 ⟨rfl, rfl⟩)
    go_ret
    exact ⟨ret_bool (by simp [rightC, hr]), HB.out⟩
  cases hs : numB s
  · go_enter Tryd.func10, Tryd.ntmps10
    go_wp2_with (go_at_call 38; refine (number_any _ _).mono ?_; first | rw [hr] | rw [hs]; rintro e w1 ⟨rfl, rfl⟩)
    go_ret
    exact ⟨ret_bool (by simp [rightC, hs]), HB.out⟩
  have HT := Lib.hid (T.below HB.out)
  clear T
  cases hp : rightB p
  · go_enter Tryd.func10, Tryd.ntmps10
    go_wp2_with (go_at_call 38; refine (number_any _ _).mono ?_; first | rw [hr] | rw [hs]; rintro e w1 ⟨rfl, rfl⟩)
    refine (right_any _ _ HT.out).mono ?_
    rw [hp]
    rintro e w1 ⟨rfl, hb1⟩
    have HB1 := Lib.hid (below_next HB.out hb1)
    clear hb1
    go_wp2
    go_ret
    exact ⟨ret_bool (by simp [rightC, hp]), HB1.out⟩
  by_cases hl : 123 < ws.length
  · go_enter Tryd.func10, Tryd.ntmps10
    go_wp2_with (go_at_call 38; refine (number_any _ _).mono ?_; first | rw [hr] | rw [hs]; rintro e w1 ⟨rfl, rfl⟩)
    refine (right_any _ _ HT.out).mono ?_
    rw [hp]
    rintro e w1 ⟨rfl, hb1⟩
    have HB1 := Lib.hid (below_next HB.out hb1)
    have hb1' : Below (w.heap.size + 1) (w.alloc (.cells #[.int .i64 t, .int .i64 r, .int .i64 s, .bool d, .int .i64 p, .slice ao ws.length cap] 24)) w1 := by simpa using hb1
    obtain ⟨c3, c5⟩ := HC.out w1 hb1'
    clear hb1 hb1'
    go_wp2
    go_ret
    exact ⟨ret_bool (by simp [rightC]; omega), HB1.out⟩
  have hdl : (d = true ∧ 0 < ws.length) ∨ (d = true ∧ ws.length = 0) ∨ d = false := by
    cases d
    · exact .inr (.inr rfl)
    · by_cases h0 : 0 < ws.length
      · exact .inl ⟨rfl, h0⟩
      · exact .inr (.inl ⟨rfl, by omega⟩)
  have HFIN := Lib.hid (show ¬ (d = true ∧ 0 < ws.length) → rightC t r s p d ws = ws.all wordB from fun hd => by
    have e1 : decide (0 ≤ t ∧ t ≤ 255) = true := decide_eq_true (by omega)
    have e2 : decide (ws.length ≤ 123) = true := decide_eq_true (by omega)
    have e3 : (!(d && decide (0 < ws.length))) = true := by
      cases d
      · rfl
      · have : ¬ 0 < ws.length := fun h => hd ⟨rfl, h⟩
        rw [decide_eq_false this]; rfl
    unfold rightC
    rw [e1, hr, hs, hp, e2, e3]
    simp)
  rcases hdl with ⟨rfl, h0⟩ | ⟨rfl, h0⟩ | rfl
  · go_enter Tryd.func10, Tryd.ntmps10
    go_wp2_with (go_at_call 38; refine (number_any _ _).mono ?_; first | rw [hr] | rw [hs]; rintro e w1 ⟨rfl, rfl⟩)
    refine (right_any _ _ HT.out).mono ?_
    rw [hp]
    rintro e w1 ⟨rfl, hb1⟩
    have HB1 := Lib.hid (below_next HB.out hb1)
    have hb1' : Below (w.heap.size + 1) (w.alloc (.cells #[.int .i64 t, .int .i64 r, .int .i64 s, .bool true, .int .i64 p, .slice ao ws.length cap] 24)) w1 := by simpa using hb1
    obtain ⟨c3, c5⟩ := HC.out w1 hb1'
    have HR1 := Lib.hid ((HRD.out.below HB.out).below hb1)
    clear hb1 hb1'
    go_wp2
    go_ret
    exact ⟨ret_bool (by unfold rightC; rw [decide_eq_true h0]; simp), HB1.out⟩
  · have hws : ws = [] := List.eq_nil_of_length_eq_zero h0
    have hfin := HFIN.out (fun hh => by omega)
    clear HFIN
    subst hws
    clear h0
    rw [List.all_nil] at hfin
    simp only [List.length_nil] at *
    go_enter Tryd.func10, Tryd.ntmps10
    go_wp2_with (go_at_call 38; refine (number_any _ _).mono ?_; first | rw [hr] | rw [hs]; rintro e w1 ⟨rfl, rfl⟩)
    refine (right_any _ _ HT.out).mono ?_
    rw [hp]
    rintro e w1 ⟨rfl, hb1⟩
    have HB1 := Lib.hid (below_next HB.out hb1)
    have hb1' : Below (w.heap.size + 1) (w.alloc (.cells #[.int .i64 t, .int .i64 r, .int .i64 s, .bool true, .int .i64 p, .slice ao 0 cap] 24)) w1 := by simpa using hb1
    obtain ⟨c3, c5⟩ := HC.out w1 hb1'
    have HR1 := Lib.hid ((HRD.out.below HB.out).below hb1)
    clear hb1 hb1'
    have HF := Lib.hid hfin
    clear hfin
    go_wp2_with (go_at_call 40; refine (contains41 _ _ _ HR1.out).mono ?_; rintro e w2 ⟨rfl, rfl⟩)
    go_ret
    exact ⟨ret_bool (by rw [HF.out]), HB1.out⟩
  · go_enter Tryd.func10, Tryd.ntmps10
    go_wp2_with (go_at_call 38; refine (number_any _ _).mono ?_; first | rw [hr] | rw [hs]; rintro e w1 ⟨rfl, rfl⟩)
    refine (right_any _ _ HT.out).mono ?_
    rw [hp]
    rintro e w1 ⟨rfl, hb1⟩
    have HB1 := Lib.hid (below_next HB.out hb1)
    have hb1' : Below (w.heap.size + 1) (w.alloc (.cells #[.int .i64 t, .int .i64 r, .int .i64 s, .bool false, .int .i64 p, .slice ao ws.length cap] 24)) w1 := by simpa using hb1
    obtain ⟨c3, c5⟩ := HC.out w1 hb1'
    have HR1 := Lib.hid ((HRD.out.below HB.out).below hb1)
    clear hb1 hb1'
    go_wp2_with (go_at_call 40; refine (contains41 _ _ _ HR1.out).mono ?_; rintro e w2 ⟨rfl, rfl⟩)
    go_ret
    exact ⟨ret_bool ((HFIN.out (by simp)).symm), HB1.out⟩
set_option maxHeartbeats 2000000 in
set_option maxRecDepth 100000 in
theorem rright16_any (t r s p : Int) (d : Bool) (v : Value) (ws : List Int) (w : World) (h : Rd w v ws) :
    Calls Tryd.prog 8 #[.agg #[.int .i64 t, .int .i64 r, .int .i64 s, .bool d, .int .i64 p, v]] w fun e w' => e = .returned (.bool (rightC t r s p d ws)) ∧ Below w.heap.size w w' := by
  obtain ⟨ao, cap, rfl⟩ := h.shape
  have hbnd : ws.length ≤ 9223372036854775807 := by
    rcases h with ⟨_, _, h, rfl⟩ | ⟨_, _, _, h, _, h1, h2, _⟩
    · simp
    · unfold maxLen at h2; omega
  have HB := Lib.hid (show Below w.heap.size w (w.alloc (.cells #[.int .i64 t, .int .i64 r, .int .i64 s, .bool d, .int .i64 p, .slice ao ws.length cap] 24)) from (Below.refl _ _).alloc (Nat.le_refl _) _)
  have HC := Lib.hid (show ∀ w1, Below (w.heap.size + 1) (w.alloc (.cells #[.int .i64 t, .int .i64 r, .int .i64 s, .bool d, .int .i64 p, .slice ao ws.length cap] 24)) w1 → w1.cell? ⟨w.heap.size, 3, none⟩ = some (.bool d) ∧ w1.cell? ⟨w.heap.size, 5, none⟩ = some (.slice ao ws.length cap) from fun w1 hb =>
    ⟨by rw [hb.cell (p := ⟨w.heap.size, 3, none⟩) (by simp)]; go_simp, by rw [hb.cell (p := ⟨w.heap.size, 5, none⟩) (by simp)]; go_simp⟩)
  have HRD := Lib.hid h
  clear h
  by_cases h1 : t < 0
  · go_enter Tryd.func8, Tryd.ntmps8
    go_wp2
    go_ret
    exact ⟨ret_bool (by simp [rightC, numB]; omega), HB.out⟩
  by_cases h2 : 255 < t
  · go_enter Tryd.func8, Tryd.ntmps8
    go_wp2
    go_ret
    exact ⟨ret_bool (by simp [rightC, numB]; omega), HB.out⟩
  by_cases h3 : r < 1
  · go_enter Tryd.func8, Tryd.ntmps8
    go_wp2
    go_ret
    exact ⟨ret_bool (by simp [rightC, numB]; omega), HB.out⟩
  by_cases h4 : 1073741824 < r
  · go_enter Tryd.func8, Tryd.ntmps8
    go_wp2
    go_ret
    exact ⟨ret_bool (by simp [rightC, numB]; omega), HB.out⟩
  by_cases h5 : s < 1
  · go_enter Tryd.func8, Tryd.ntmps8
    go_wp2
    go_ret
    exact ⟨ret_bool (by simp [rightC, numB]; omega), HB.out⟩
  by_cases h6 : 1073741824 < s
  · go_enter Tryd.func8, Tryd.ntmps8
    go_wp2
    go_ret
    exact ⟨ret_bool (by simp [rightC, numB]; omega), HB.out⟩
  have hr : numB r = true := decide_eq_true (by omega)
  have hs : numB s = true := decide_eq_true (by omega)
  cases hp : rightB p
  · go_enter Tryd.func8, Tryd.ntmps8
    go_wp2_with (go_at_call 35; refine (rright_any _ _).mono ?_; rw [hp]; rintro e w1 ⟨rfl, rfl⟩)
    go_ret
    exact ⟨ret_bool (by simp [rightC, hp]), HB.out⟩
  by_cases hl : 123 < ws.length
  · go_enter Tryd.func8, Tryd.ntmps8
    go_wp2_with (go_at_call 35; refine (rright_any _ _).mono ?_; rw [hp]; rintro e w1 ⟨rfl, rfl⟩)
    go_ret
    exact ⟨ret_bool (by simp [rightC]; omega), HB.out⟩
  have hdl : (d = true ∧ 0 < ws.length) ∨ (d = true ∧ ws.length = 0) ∨ d = false := by
    cases d
    · exact .inr (.inr rfl)
    · by_cases h0 : 0 < ws.length
      · exact .inl ⟨rfl, h0⟩
      · exact .inr (.inl ⟨rfl, by omega⟩)
  have HFIN := Lib.hid (show ¬ (d = true ∧ 0 < ws.length) → rightC t r s p d ws = ws.all wordB from fun hd => by
    have e1 : decide (0 ≤ t ∧ t ≤ 255) = true := decide_eq_true (by omega)
    have e2 : decide (ws.length ≤ 123) = true := decide_eq_true (by omega)
    have e3 : (!(d && decide (0 < ws.length))) = true := by
      cases d
      · rfl
      · have : ¬ 0 < ws.length := fun h => hd ⟨rfl, h⟩
        rw [decide_eq_false this]; rfl
    unfold rightC
    rw [e1, hr, hs, hp, e2, e3]
    simp)
  rcases hdl with ⟨rfl, h0⟩ | ⟨rfl, h0⟩ | rfl
  · go_enter Tryd.func8, Tryd.ntmps8
    go_wp2_with (go_at_call 35; refine (rright_any _ _).mono ?_; rw [hp]; rintro e w1 ⟨rfl, rfl⟩)
    go_ret
    exact ⟨ret_bool (by unfold rightC; rw [decide_eq_true h0]; simp), HB.out⟩
  · have hws : ws = [] := List.eq_nil_of_length_eq_zero h0
    have hfin := HFIN.out (fun hh => by omega)
    clear HFIN
    subst hws
    simp only [List.length_nil, List.all_nil] at *
    have HF := Lib.hid hfin
    clear hfin
    go_enter Tryd.func8, Tryd.ntmps8
    go_wp2_with (go_at_call 35; refine (rright_any _ _).mono ?_; rw [hp]; rintro e w1 ⟨rfl, rfl⟩)
    refine wp_loop_rounds 1 ?_
    rw [rounds_succ]
    go_wp2
    go_ret
    exact ⟨ret_bool HF.out.symm, HB.out⟩
  · have hfin := Lib.hid (HFIN.out (by simp))
    clear HFIN
    rcases HRD.out with ⟨ao', cap', e1, e2⟩ | ⟨b, off, cap', e1, hp', hc1, hm1, hb1, he1⟩
    · subst e2
      simp only [List.length_nil, List.all_nil] at *
      go_enter Tryd.func8, Tryd.ntmps8
      go_wp2_with (go_at_call 35; refine (rright_any _ _).mono ?_; rw [hp]; rintro e w1 ⟨rfl, rfl⟩)
      refine wp_loop_rounds 1 ?_
      rw [rounds_succ]
      go_wp2
      go_ret
      exact ⟨ret_bool hfin.out.symm, HB.out⟩
    · simp only [Value.slice.injEq] at e1
      obtain ⟨rfl, _, rfl⟩ := e1
      have H1 := Lib.hid (show ∀ j, j < ws.length → (w.alloc (.cells #[.int .i64 t, .int .i64 r, .int .i64 s, .bool false, .int .i64 p, .slice (some ⟨b, off, none⟩) ws.length cap] 24)).cell? ⟨b, off + j, none⟩ = some (.int .i64 (nthI ws j)) from fun j hj => (HB.out.cell (p := ⟨b, off + j, none⟩) hb1).trans (he1 j hj))
      clear he1
      go_enter Tryd.func8, Tryd.ntmps8
      go_wp2_with (go_at_call 35; refine (rright_any _ _).mono ?_; rw [hp]; rintro e w1 ⟨rfl, rfl⟩)
      go_loop [3] (fun i => ∃ k : Nat, k ≤ ws.length ∧ i = .int .i64 k ∧ Hid (∀ j, j < k → wordB (nthI ws j) = true)) (fun i => ws.length - (RowKit.intOf i).toNat)
      case atStart => exact ⟨0, Nat.zero_le _, rfl, fun j hj => by omega⟩
      case round =>
        obtain ⟨k, hk, rfl, hP⟩ := hrel
        by_cases hlt : k < ws.length
        · have q1 := H1.out k hlt
          have i1 : (k : Int) < ws.length := by omega
          cases hwd : wordB (nthI ws k)
          · have HF := Lib.hid (all_no hlt hwd)
            go_wp2_with (go_at_call 36; refine (r16word_any _ _).mono ?_; rw [hwd]; rintro e w1 ⟨rfl, rfl⟩)
            go_ret
            exact ⟨ret_bool (by rw [hfin.out, HF.out]), HB.out⟩
          · have hP1 : Hid (∀ j, j < k + 1 → wordB (nthI ws j) = true) := fun j hj => by
              by_cases e : j = k
              · subst e; exact hwd
              · exact hP.out j (by omega)
            go_wp2_with (go_at_call 36; refine (r16word_any _ _).mono ?_; rw [hwd]; rintro e w1 ⟨rfl, rfl⟩)
            go_round
            case rel => exact ⟨k + 1, by omega, by go_num, hP1⟩
            case measure => simp [RowKit.intOf]; omega
        · obtain rfl : k = ws.length := by omega
          have HF := Lib.hid (all_of hP.out)
          go_wp2
          go_ret
          exact ⟨ret_bool (by rw [hfin.out, HF.out]), HB.out⟩

end Go.Proofs.YtcngblnkfiggjaaDoor.Rm
