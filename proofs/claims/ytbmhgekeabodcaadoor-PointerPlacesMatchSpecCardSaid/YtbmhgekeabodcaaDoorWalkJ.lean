/- Contracts of Within, the program's and the specification's, where the heap and the chunks of the layout are from 0 to 4096. -/
import Derived.Test.YtbmhgekeabodcaaDoorWalkI
namespace Go.Proofs.YtbmhgekeabodcaaDoor.Ptr
open Go Go.RowKit

theorem lines_rng (c : Int) : 0 ≤ linesS c ∧ linesS c ≤ 16 := by
  unfold linesS
  split
  · omega
  · rename_i h
    have h1 : c.toNat ≤ 4 := by omega
    have h2 : 2 ^ c.toNat ≤ 2 ^ 4 := Nat.pow_le_pow_right (by decide) h1
    have e : ((2 : Int) ^ c.toNat) = ((2 ^ c.toNat : Nat) : Int) := by simp
    rw [e]
    exact ⟨Int.natCast_nonneg _, by omega⟩
theorem line_rng (p : Int) : 0 ≤ lineS p ∧ lineS p ≤ 4095 := by
  unfold lineS; split <;> omega
theorem chunk_pos {h c n : Int} (H : 0 ≤ chunkS h c n) : h ≤ n := by
  unfold chunkS at H; split at H <;> omega
theorem chunk_neg {h c n : Int} (H : ¬ 0 ≤ chunkS h c n) : chunkS h c n = -1 := by
  unfold chunkS at H ⊢; split at H <;> omega
theorem within_f {h c p k : Int} (H : ¬ (0 < linesS k ∧ 0 < lineS p ∧ 0 ≤ chunkS h c (lineS p))) : withinB h c p k = false := by
  unfold withinB; rw [decide_eq_false_iff_not]; intro ⟨a, b, d, _⟩; exact H ⟨a, b, d⟩
theorem within_t {h c p k : Int} (a : 0 < linesS k) (b : 0 < lineS p) (d : 0 ≤ chunkS h c (lineS p)) : withinB h c p k = ((lineS p - h) % linesS k == 0) := by
  unfold withinB; rw [Bool.eq_iff_iff, decide_eq_true_eq, beq_iff_eq]; exact ⟨fun h => h.2.2.2, fun e => ⟨a, b, d, e⟩⟩

/-- A region that draws its order, whose operations are quiet in a class of worlds, its operations written out. -/
theorem wp_region_class {P : Program} {C : World → Prop} {id : Nat} {Q : Exit → Act → World → Prop} {a : Act} {w : World} {l : List Oper} (hm : P.follows .mixedOrders = true) (hB : Region.lexB .any l.toArray = true) (hC : C w.drew)
    (h : wpQuiet P l.toArray C (fun a' => ∀ w', C w' → Q .normal a' w') l a) : (Code.region id l.toArray true).wp P Q a w :=
  wp_region_quiet hm hB hC (by simpa using h)

theorem q_take {P : Program} {ops : Array Oper} {C : World → Prop} {Q : Act → Prop} {a : Act} {o : Oper} {rest : List Oper} (hw : Region.wanted o (yielded ops a.tmps) = true) (v : Value) (hq : ∀ w, C w → o.quietAt P a C w v)
    (hn : ∀ K : Act → Prop, (∀ a, wpQuiet P ops C Q rest a → K a) → K (a.put o.dst v)) : wpQuiet P ops C Q (o :: rest) a := by
  unfold wpQuiet; rw [if_pos hw]; exact ⟨v, hq, hn _ (fun _ h => h)⟩
theorem q_skip {P : Program} {ops : Array Oper} {C : World → Prop} {Q : Act → Prop} {a : Act} {o : Oper} {rest : List Oper} (hw : Region.wanted o (yielded ops a.tmps) = false)
    (hn : ∀ K : Act → Prop, (∀ a, wpQuiet P ops C Q rest a → K a) → K (a.put o.dst undef)) : wpQuiet P ops C Q (o :: rest) a := by
  unfold wpQuiet; rw [if_neg (by rw [hw]; decide)]; exact hn _ (fun _ h => h)

/-- A layout that lies in a block of its own. -/
structure Lay (a : Nat) (l0 l1 l2 l3 l4 l5 l6 l7 : Int) (w : World) : Prop where
  c0 : w.cell? ⟨a, 0, none⟩ = some (.int .i64 l0)
  c1 : w.cell? ⟨a, 1, none⟩ = some (.int .i64 l1)
  c2 : w.cell? ⟨a, 2, none⟩ = some (.int .i64 l2)
  c3 : w.cell? ⟨a, 3, none⟩ = some (.int .i64 l3)
  c4 : w.cell? ⟨a, 4, none⟩ = some (.int .i64 l4)
  c5 : w.cell? ⟨a, 5, none⟩ = some (.int .i64 l5)
  c6 : w.cell? ⟨a, 6, none⟩ = some (.int .i64 l6)
  c7 : w.cell? ⟨a, 7, none⟩ = some (.int .i64 l7)
  lt : a < w.heap.size
theorem Lay.below {a : Nat} {l0 l1 l2 l3 l4 l5 l6 l7 : Int} {w w' : World} (h : Lay a l0 l1 l2 l3 l4 l5 l6 l7 w) (hb : Below w.heap.size w w') : Lay a l0 l1 l2 l3 l4 l5 l6 l7 w' :=
  ⟨(hb.cell (p := ⟨a, 0, none⟩) h.lt).trans h.c0, (hb.cell (p := ⟨a, 1, none⟩) h.lt).trans h.c1, (hb.cell (p := ⟨a, 2, none⟩) h.lt).trans h.c2, (hb.cell (p := ⟨a, 3, none⟩) h.lt).trans h.c3, (hb.cell (p := ⟨a, 4, none⟩) h.lt).trans h.c4, (hb.cell (p := ⟨a, 5, none⟩) h.lt).trans h.c5, (hb.cell (p := ⟨a, 6, none⟩) h.lt).trans h.c6, (hb.cell (p := ⟨a, 7, none⟩) h.lt).trans h.c7, Nat.lt_of_lt_of_le h.lt hb.size⟩
theorem Lay.new (l0 l1 l2 l3 l4 l5 l6 l7 : Int) (w : World) : Lay w.heap.size l0 l1 l2 l3 l4 l5 l6 l7 (w.alloc (.cells #[.int .i64 l0, .int .i64 l1, .int .i64 l2, .int .i64 l3, .int .i64 l4, .int .i64 l5, .int .i64 l6, .int .i64 l7] 35)) :=
  ⟨by go_simp, by go_simp, by go_simp, by go_simp, by go_simp, by go_simp, by go_simp, by go_simp, by simp⟩

set_option maxHeartbeats 1000000 in
set_option maxRecDepth 100000 in
theorem within_any (l0 l1 l2 l3 l4 l5 l6 l7 p c : Int) (w : World) (T : Tabs w) (h0 : 0 ≤ l6) (h1 : l6 ≤ 4096) (h2 : 0 ≤ l7) (h3 : l7 ≤ 4096) :
    Calls Tryd.prog 41 #[.agg #[.int .i64 l0, .int .i64 l1, .int .i64 l2, .int .i64 l3, .int .i64 l4, .int .i64 l5, .int .i64 l6, .int .i64 l7], .int .i64 p, .int .i64 c] w fun e w' => e = .returned (.bool (withinB l6 l7 p c)) ∧ Below w.heap.size w w' := by
  have R1 := lines_rng c
  have R2 := line_rng p
  have B0 : Below w.heap.size w (w.alloc (.cells #[.int .i64 l0, .int .i64 l1, .int .i64 l2, .int .i64 l3, .int .i64 l4, .int .i64 l5, .int .i64 l6, .int .i64 l7] 35)) := (Below.refl _ _).alloc (Nat.le_refl _) _
  have Y := Lay.new l0 l1 l2 l3 l4 l5 l6 l7 w
  by_cases t0 : 0 < linesS c
  · by_cases t1 : 0 < lineS p
    · by_cases t2 : 0 ≤ chunkS l6 l7 (lineS p)
      · rw [within_t t0 t1 t2]
        have t3 := chunk_pos t2
        go_enter Tryd.func41, Tryd.ntmps41
        go_wp2_with (first | (go_at_call 35; refine (lines_any _ _).mono ?_; rintro e w' ⟨rfl, rfl⟩))
        refine (line_any p _ (T.below B0)).mono ?_
        rintro e w2 ⟨rfl, hb⟩
        have Y2 := Y.below hb
        have d0 := Y2.c0
        have d1 := Y2.c1
        have d2 := Y2.c2
        have d3 := Y2.c3
        have d4 := Y2.c4
        have d5 := Y2.c5
        have d6 := Y2.c6
        have d7 := Y2.c7
        go_wp2_with fail
        refine (chunk_any l0 l1 l2 l3 l4 l5 l6 l7 _ _ h0 h1 h2 h3 (by omega) (by omega)).mono ?_
        rintro e w3 ⟨rfl, hb3⟩
        have Y3 := Y2.below hb3
        have d6' := Y3.c6
        go_wp2
        go_ret
        exact ⟨rfl, below_next (below_next B0 hb) hb3⟩
      · rw [within_f (fun h => t2 h.2.2)]
        go_enter Tryd.func41, Tryd.ntmps41
        go_wp2_with (first | (go_at_call 35; refine (lines_any _ _).mono ?_; rintro e w' ⟨rfl, rfl⟩))
        refine (line_any p _ (T.below B0)).mono ?_
        rintro e w2 ⟨rfl, hb⟩
        have Y2 := Y.below hb
        have d0 := Y2.c0
        have d1 := Y2.c1
        have d2 := Y2.c2
        have d3 := Y2.c3
        have d4 := Y2.c4
        have d5 := Y2.c5
        have d6 := Y2.c6
        have d7 := Y2.c7
        go_wp2_with fail
        refine (chunk_any l0 l1 l2 l3 l4 l5 l6 l7 _ _ h0 h1 h2 h3 (by omega) (by omega)).mono ?_
        rintro e w3 ⟨rfl, hb3⟩
        go_wp2
        go_ret
        exact ⟨rfl, below_next (below_next B0 hb) hb3⟩
    · rw [within_f (fun h => t1 h.2.1)]
      go_enter Tryd.func41, Tryd.ntmps41
      go_wp2_with (first | (go_at_call 35; refine (lines_any _ _).mono ?_; rintro e w' ⟨rfl, rfl⟩))
      refine (line_any p _ (T.below B0)).mono ?_
      rintro e w2 ⟨rfl, hb⟩
      go_wp2
      go_ret
      exact ⟨rfl, below_next B0 hb⟩
  · rw [within_f (fun h => t0 h.1)]
    go_enter Tryd.func41, Tryd.ntmps41
    go_wp2_with (first | (go_at_call 35; refine (lines_any _ _).mono ?_; rintro e w' ⟨rfl, rfl⟩))
    refine (line_any p _ (T.below B0)).mono ?_
    rintro e w2 ⟨rfl, hb⟩
    go_wp2
    go_ret
    exact ⟨rfl, below_next B0 hb⟩

set_option maxHeartbeats 1000000 in
set_option maxRecDepth 100000 in
theorem rwithin_in (l0 l1 l2 l3 l4 l5 l6 l7 p c : Int) (w : World) (h0 : 0 ≤ l6) (h1 : l6 ≤ 4096) (h2 : 0 ≤ l7) (h3 : l7 ≤ 4096) (t0 : 0 < linesS c) (t1 : 0 < lineS p) (t2 : 0 ≤ chunkS l6 l7 (lineS p)) :
    Calls Tryd.prog 42 #[.agg #[.int .i64 l0, .int .i64 l1, .int .i64 l2, .int .i64 l3, .int .i64 l4, .int .i64 l5, .int .i64 l6, .int .i64 l7], .int .i64 p, .int .i64 c] w fun e w' => e = .returned (.bool ((lineS p - l6) % linesS c == 0)) ∧ Below w.heap.size w w' := by
  have R1 := lines_rng c
  have R2 := line_rng p
  have B0 : Below w.heap.size w (w.alloc (.cells #[.int .i64 l0, .int .i64 l1, .int .i64 l2, .int .i64 l3, .int .i64 l4, .int .i64 l5, .int .i64 l6, .int .i64 l7] 35)) := (Below.refl _ _).alloc (Nat.le_refl _) _
  have Y := Lay.new l0 l1 l2 l3 l4 l5 l6 l7 w
  have t3 := chunk_pos t2
  have g0 : (linesS c == 0) = false := by rw [beq_eq_false_iff_ne]; omega
  have g1 : (lineS p == 0) = false := by rw [beq_eq_false_iff_ne]; omega
  have g2 : decide (0 ≤ chunkS l6 l7 (lineS p)) = true := by simpa using t2
  have g3 : ¬ linesS c = 0 := by omega
  have g4 : IntKind.i64.wrap (lineS p - l6) = lineS p - l6 := IntWalk.i64_in _ (by omega)
  go_enter Tryd.func42, Tryd.ntmps42
  go_wp2_with (first | (go_at_call 36; refine (rlines_any _ _).mono ?_; rintro e w' ⟨rfl, rfl⟩) | (go_at_call 27; refine (rline_any _ _).mono ?_; rintro e w' ⟨rfl, rfl⟩))
  generalize w.alloc (.cells #[.int .i64 l0, .int .i64 l1, .int .i64 l2, .int .i64 l3, .int .i64 l4, .int .i64 l5, .int .i64 l6, .int .i64 l7] 35) = w1 at *
  have d0 := Y.c0
  have d1 := Y.c1
  have d2 := Y.c2
  have d3 := Y.c3
  have d4 := Y.c4
  have d5 := Y.c5
  have d6 := Y.c6
  have d7 := Y.c7
  go_region_held3 (fun w' => w'.cell? ⟨w.heap.size, 0, none⟩ = some (.int .i64 l0) ∧ w'.cell? ⟨w.heap.size, 1, none⟩ = some (.int .i64 l1) ∧ w'.cell? ⟨w.heap.size, 2, none⟩ = some (.int .i64 l2) ∧ w'.cell? ⟨w.heap.size, 3, none⟩ = some (.int .i64 l3) ∧ w'.cell? ⟨w.heap.size, 4, none⟩ = some (.int .i64 l4) ∧ w'.cell? ⟨w.heap.size, 5, none⟩ = some (.int .i64 l5) ∧ w'.cell? ⟨w.heap.size, 6, none⟩ = some (.int .i64 l6) ∧ w'.cell? ⟨w.heap.size, 7, none⟩ = some (.int .i64 l7))
    (first | go_keep | exact ⟨Y3.c0, Y3.c1, Y3.c2, Y3.c3, Y3.c4, Y3.c5, Y3.c6, Y3.c7⟩)
    (first
      | (go_at_call 27; refine (rline_any _ _).mono ?_; rintro e w' ⟨rfl, rfl⟩)
      | (go_at_call 40; refine (rchunk_any l0 l1 l2 l3 l4 l5 l6 l7 _ _ h0 h1 h2 h3 (by omega) (by omega)).mono ?_; rintro e w3 ⟨rfl, hb3⟩; have Y3 := (Y.below ((Below.refl _ _).drew)).below hb3))
  go_wp2
  go_ret
  exact ⟨ret_bool (by rw [Int.tmod_eq_emod_of_nonneg (by omega)]), below_next B0.drew hb3⟩

set_option maxHeartbeats 8000000 in
set_option maxRecDepth 100000 in
theorem rwithin_far (l0 l1 l2 l3 l4 l5 l6 l7 p c : Int) (w : World) (h0 : 0 ≤ l6) (h1 : l6 ≤ 4096) (h2 : 0 ≤ l7) (h3 : l7 ≤ 4096) (t0 : 0 < linesS c) (t1 : 0 < lineS p) (t2 : ¬ 0 ≤ chunkS l6 l7 (lineS p)) :
    Calls Tryd.prog 42 #[.agg #[.int .i64 l0, .int .i64 l1, .int .i64 l2, .int .i64 l3, .int .i64 l4, .int .i64 l5, .int .i64 l6, .int .i64 l7], .int .i64 p, .int .i64 c] w fun e w' => e = .returned (.bool false) ∧ Below w.heap.size w w' := by
  have R1 := lines_rng c
  have R2 := line_rng p
  have B0 : Below w.heap.size w (w.alloc (.cells #[.int .i64 l0, .int .i64 l1, .int .i64 l2, .int .i64 l3, .int .i64 l4, .int .i64 l5, .int .i64 l6, .int .i64 l7] 35)) := (Below.refl _ _).alloc (Nat.le_refl _) _
  have Y := Lay.new l0 l1 l2 l3 l4 l5 l6 l7 w
  have g0 : (linesS c == 0) = false := by rw [beq_eq_false_iff_ne]; omega
  have g1 : (lineS p == 0) = false := by rw [beq_eq_false_iff_ne]; omega
  have t4 : chunkS l6 l7 (lineS p) = -1 := chunk_neg t2
  clear t2
  go_enter Tryd.func42, Tryd.ntmps42
  go_wp2_with (first | (go_at_call 36; refine (rlines_any _ _).mono ?_; rintro e w' ⟨rfl, rfl⟩) | (go_at_call 27; refine (rline_any _ _).mono ?_; rintro e w' ⟨rfl, rfl⟩))
  generalize w.alloc (.cells #[.int .i64 l0, .int .i64 l1, .int .i64 l2, .int .i64 l3, .int .i64 l4, .int .i64 l5, .int .i64 l6, .int .i64 l7] 35) = w1 at *
  have d0 := Y.c0
  have d1 := Y.c1
  have d2 := Y.c2
  have d3 := Y.c3
  have d4 := Y.c4
  have d5 := Y.c5
  have d6 := Y.c6
  have d7 := Y.c7
  refine wp_region_class (C := fun w' => Below w1.heap.size w1 w' ∧ Lay w.heap.size l0 l1 l2 l3 l4 l5 l6 l7 w') (by kernel_rfl) (by kernel_rfl) ⟨(Below.refl _ _).drew, Y.below ((Below.refl _ _).drew)⟩ ?_
  refine q_take (by kernel_rfl) (.agg #[.int .i64 l0, .int .i64 l1, .int .i64 l2, .int .i64 l3, .int .i64 l4, .int .i64 l5, .int .i64 l6, .int .i64 l7]) (fun w' hw' => ?_) (fun K hK => ?_)
  · obtain ⟨hb', Y'⟩ := hw'
    have d0 := Y'.c0
    have d1 := Y'.c1
    have d2 := Y'.c2
    have d3 := Y'.c3
    have d4 := Y'.c4
    have d5 := Y'.c5
    have d6 := Y'.c6
    have d7 := Y'.c7
    unfold Oper.quietAt
    go_simp
  go_simp
  refine hK _ ?_
  clear hK K
  refine q_take (by kernel_rfl) (.int .i64 p) (fun w' hw' => ?_) (fun K hK => ?_)
  · unfold Oper.quietAt
    go_simp
  go_simp
  refine hK _ ?_
  clear hK K
  refine q_take (by kernel_rfl) (.int .i64 (lineS p)) (fun w' hw' => ?_) (fun K hK => ?_)
  · unfold Oper.quietAt
    go_simp
    exact (rline_any p w').mono fun e w'' ⟨he, hw⟩ => ⟨he, hw ▸ hw'⟩
  go_simp
  refine hK _ ?_
  clear hK K
  refine q_take (by kernel_rfl) (.int .i64 (-1)) (fun w' hw' => ?_) (fun K hK => ?_)
  · unfold Oper.quietAt
    go_simp
    exact (rchunk_any l0 l1 l2 l3 l4 l5 l6 l7 (lineS p) w' h0 h1 h2 h3 (by omega) (by omega)).mono fun e w'' ⟨he, hb⟩ => ⟨by rw [he, t4], hw'.1.trans (hb.mono hw'.1.size), hw'.2.below hb⟩
  go_simp
  refine hK _ ?_
  clear hK K
  refine q_take (by kernel_rfl) (.bool false) (fun w' hw' => ?_) (fun K hK => ?_)
  · unfold Oper.quietAt
    go_simp
  go_simp
  refine hK _ ?_
  clear hK K
  refine q_take (by kernel_rfl) (.bool false) (fun w' hw' => ?_) (fun K hK => ?_)
  · unfold Oper.quietAt
    go_simp
  go_simp
  refine hK _ ?_
  clear hK K
  refine q_skip (by kernel_rfl) (fun K hK => ?_)
  go_simp
  refine hK _ ?_
  clear hK K
  refine q_skip (by kernel_rfl) (fun K hK => ?_)
  go_simp
  refine hK _ ?_
  clear hK K
  refine q_skip (by kernel_rfl) (fun K hK => ?_)
  go_simp
  refine hK _ ?_
  clear hK K
  refine q_skip (by kernel_rfl) (fun K hK => ?_)
  go_simp
  refine hK _ ?_
  clear hK K
  refine q_skip (by kernel_rfl) (fun K hK => ?_)
  go_simp
  refine hK _ ?_
  clear hK K
  refine q_skip (by kernel_rfl) (fun K hK => ?_)
  go_simp
  refine hK _ ?_
  clear hK K
  refine q_skip (by kernel_rfl) (fun K hK => ?_)
  go_simp
  refine hK _ ?_
  clear hK K
  refine q_skip (by kernel_rfl) (fun K hK => ?_)
  go_simp
  refine hK _ ?_
  clear hK K
  refine q_take (by kernel_rfl) (.bool false) (fun w' hw' => ?_) (fun K hK => ?_)
  · unfold Oper.quietAt
    go_simp
  go_simp
  refine hK _ ?_
  clear hK K
  refine q_take (by kernel_rfl) (.bool false) (fun w' hw' => ?_) (fun K hK => ?_)
  · unfold Oper.quietAt
    go_simp
  go_simp
  refine hK _ ?_
  clear hK K
  refine wpQuiet_nil ?_
  intro w' hw'
  obtain ⟨hb3, _⟩ := hw'
  go_wp2
  go_ret
  exact ⟨rfl, below_next B0 hb3⟩

set_option maxHeartbeats 1000000 in
set_option maxRecDepth 100000 in
theorem rwithin_no (l0 l1 l2 l3 l4 l5 l6 l7 p c : Int) (w : World) (t : ¬ (0 < linesS c ∧ 0 < lineS p)) :
    Calls Tryd.prog 42 #[.agg #[.int .i64 l0, .int .i64 l1, .int .i64 l2, .int .i64 l3, .int .i64 l4, .int .i64 l5, .int .i64 l6, .int .i64 l7], .int .i64 p, .int .i64 c] w fun e w' => e = .returned (.bool false) ∧ Below w.heap.size w w' := by
  have R1 := lines_rng c
  have R2 := line_rng p
  by_cases t0 : linesS c = 0
  · have g0 : (linesS c == 0) = true := by simpa using t0
    clear t t0
    go_enter Tryd.func42, Tryd.ntmps42
    go_wp2_with (first | (go_at_call 36; refine (rlines_any _ _).mono ?_; rintro e w' ⟨rfl, rfl⟩) | (go_at_call 27; refine (rline_any _ _).mono ?_; rintro e w' ⟨rfl, rfl⟩))
    go_ret
    exact ⟨rfl, (Below.refl _ _).alloc (Nat.le_refl _) _⟩
  · have g0 : (linesS c == 0) = false := by simpa using t0
    have g1 : (lineS p == 0) = true := by rw [beq_iff_eq]; omega
    clear t t0
    go_enter Tryd.func42, Tryd.ntmps42
    go_wp2_with (first | (go_at_call 36; refine (rlines_any _ _).mono ?_; rintro e w' ⟨rfl, rfl⟩) | (go_at_call 27; refine (rline_any _ _).mono ?_; rintro e w' ⟨rfl, rfl⟩))
    go_ret
    exact ⟨rfl, (Below.refl _ _).alloc (Nat.le_refl _) _⟩

theorem rwithin_any (l0 l1 l2 l3 l4 l5 l6 l7 p c : Int) (w : World) (h0 : 0 ≤ l6) (h1 : l6 ≤ 4096) (h2 : 0 ≤ l7) (h3 : l7 ≤ 4096) :
    Calls Tryd.prog 42 #[.agg #[.int .i64 l0, .int .i64 l1, .int .i64 l2, .int .i64 l3, .int .i64 l4, .int .i64 l5, .int .i64 l6, .int .i64 l7], .int .i64 p, .int .i64 c] w fun e w' => e = .returned (.bool (withinB l6 l7 p c)) ∧ Below w.heap.size w w' := by
  by_cases t : 0 < linesS c ∧ 0 < lineS p
  · by_cases t2 : 0 ≤ chunkS l6 l7 (lineS p)
    · rw [within_t t.1 t.2 t2]
      exact rwithin_in l0 l1 l2 l3 l4 l5 l6 l7 p c w h0 h1 h2 h3 t.1 t.2 t2
    · rw [within_f (fun h => t2 h.2.2)]
      exact rwithin_far l0 l1 l2 l3 l4 l5 l6 l7 p c w h0 h1 h2 h3 t.1 t.2 t2
  · rw [within_f (fun h => t ⟨h.1, h.2.1⟩)]
    exact rwithin_no l0 l1 l2 l3 l4 l5 l6 l7 p c w t

end Go.Proofs.YtbmhgekeabodcaaDoor.Ptr
