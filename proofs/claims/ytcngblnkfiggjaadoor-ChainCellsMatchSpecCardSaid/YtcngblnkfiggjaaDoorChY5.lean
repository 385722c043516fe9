/- Contract of Decode of the specification of layer 16. -/
import Derived.Test.YtcngblnkfiggjaaDoorChH
import Derived.Test.YtcngblnkfiggjaaDoorChX1
import Derived.Deep.RegionHeld3
namespace Go.Proofs.YtcngblnkfiggjaaDoor.Rm
open Go Go.RowKit Go.Maps

/-- What the specification's Decode returns: the cell, a pointer, an error. -/
def gotV (c : Cl) (u : Value) (p e : Int) : Value := .agg #[.int .i64 c.t, .int .i64 c.r, .int .i64 c.s, .bool c.d, .int .i64 c.p, u, .int .i64 p, .int .i64 e]
abbrev box8 (t r s : Int) (d : Bool) (p : Int) (u : Value) (q e : Int) : _root_.Go.Obj := .cells #[.int .i64 t, .int .i64 r, .int .i64 s, .bool d, .int .i64 p, u, .int .i64 q, .int .i64 e] 36
theorem fz8g {w : World} {B : Nat} {t r s : Int} {d : Bool} {p : Int} {u : Value} {q e : Int} (h : w.heap[B]? = some (box8 t r s d p u q e)) : (w.frozen? ⟨B, 0, none⟩ = false ∧ w.frozen? ⟨B, 1, none⟩ = false ∧ w.frozen? ⟨B, 2, none⟩ = false ∧ w.frozen? ⟨B, 3, none⟩ = false ∧ w.frozen? ⟨B, 4, none⟩ = false ∧ w.frozen? ⟨B, 5, none⟩ = false ∧ w.frozen? ⟨B, 6, none⟩ = false ∧ w.frozen? ⟨B, 7, none⟩ = false) ∧
    w.cell? ⟨B, 0, none⟩ = some (.int .i64 t) ∧ w.cell? ⟨B, 1, none⟩ = some (.int .i64 r) ∧ w.cell? ⟨B, 2, none⟩ = some (.int .i64 s) ∧ w.cell? ⟨B, 3, none⟩ = some (.bool d) ∧ w.cell? ⟨B, 4, none⟩ = some (.int .i64 p) ∧ w.cell? ⟨B, 5, none⟩ = some u ∧ w.cell? ⟨B, 6, none⟩ = some (.int .i64 q) ∧ w.cell? ⟨B, 7, none⟩ = some (.int .i64 e) ∧ B < w.heap.size :=
  ⟨⟨Joins.unfrozen_of_block h 0, Joins.unfrozen_of_block h 1, Joins.unfrozen_of_block h 2, Joins.unfrozen_of_block h 3, Joins.unfrozen_of_block h 4, Joins.unfrozen_of_block h 5, Joins.unfrozen_of_block h 6, Joins.unfrozen_of_block h 7⟩, cell_blk h rfl, cell_blk h rfl, cell_blk h rfl, cell_blk h rfl, cell_blk h rfl, cell_blk h rfl, cell_blk h rfl, cell_blk h rfl, (Array.getElem?_eq_some_iff.1 h).1⟩
theorem all4_of {l : List Int} (hl : 4 ≤ l.length) (h : ∀ j, j < 4 → wordB (nthI l j) = true) : (l.take 4).all wordB = true := by
  match l, hl with
  | a :: b :: c :: e :: m, _ =>
    have h0 := h 0 (by omega)
    have h1 := h 1 (by omega)
    have h2 := h 2 (by omega)
    have h3 := h 3 (by omega)
    show (wordB a && (wordB b && (wordB c && (wordB e && true)))) = true
    rw [show wordB a = true from h0, show wordB b = true from h1, show wordB c = true from h2, show wordB e = true from h3]
    rfl
theorem okD_no {l : List Int} (hl : 4 ≤ l.length) {k : Nat} (hk : k < 4) (h : wordB (nthI l k) = false) : okD l = false := by
  have : (l.take 4).all wordB = false := by
    rw [← Bool.not_eq_true]
    intro ha
    have := List.all_eq_true.1 ha (nthI l k) (List.mem_of_getElem? (i := k) (by rw [List.getElem?_take_of_lt hk, nthI_getElem (by omega)]))
    rw [h] at this
    cases this
  unfold okD formD
  rw [this]; simp
theorem okD_short {l : List Int} (hl : l.length < 4) : okD l = false := by
  unfold okD formD
  rw [decide_eq_false (by omega)]; rfl
theorem step_append_rd (w : World) {ops : Array Oper} {o : Oper} {a : Act} {K : Act → World → Prop} {Q : Exit → Act → World → Prop} {E : Prop}
    (hg : o.guard = none) (s x : Operand) (hop : o.op = Op.call { callee := Callee.builtin Builtin.append, args := #[s, x], argTypes := #[22, 22] }) (hty : o.type = 22)
    (base : Nat) (v u : Value) (xs bs : List Int) (hs : a.eval s = v) (hx : a.eval x = u) (hown : OwnZ w base v xs) (hu : Rd w u bs) (hl : xs.length + bs.length < 1000000000) (hbase : base ≤ w.heap.size)
    (h : ∀ v' w', OwnZ w' base v' (xs ++ bs) → w.grownBy w' v.ownBlock → K (a.put o.dst v') w') :
    if Region.wanted o (yielded ops a.tmps) = true then Oper.wp Tryd.prog o a w K Q else E := by
  have hw : Region.wanted o (yielded ops a.tmps) = true := by simp [Region.wanted, hg]
  rw [if_pos hw]
  obtain ⟨v', w', hrun, r1, r2, r3⟩ := run_append_rd w base v u xs bs hown hu hl hbase
  unfold Oper.wp
  simp [execOp, hop, hty, resolve, invoke, builtin, hs, hx, hrun, Result.andThen]
  exact h v' w' r1 r2

theorem wp_region_D {P : Program} {ops : Array Oper} {Q : Exit → Act → World → Prop} {id : Nat} {a : Act} {w : World} (S : World → Prop) (D : List Nat) (hm : P.follows .mixedOrders = true) (hS : S w.drew)
    (h : S w.drew → wpAnyD P .any ops Q S D ops.size (Array.replicate ops.size false) a w.drew) : (Code.region id ops true).wp P Q a w := wp_region_any hm (wpAny_of_D _ _ _ _ (h hS))

set_option maxHeartbeats 1000000 in
set_option maxRecDepth 100000 in
theorem rdec_short (w : World) (v : Value) (l : List Int) (h : Rd w v l) (hl : l.length < 4) :
    Calls Tryd.prog 15 #[v] w fun e w' => e = .returned (gotV Cl.zero (.slice none 0 0) 0 3) ∧ Below w.heap.size w w' := by
  obtain ⟨ao, cap, rfl⟩ := h.shape
  have HB := Lib.hid ((Below.refl w.heap.size w).alloc (Nat.le_refl _) (box8 0 0 0 false 0 (.slice none 0 0) 0 3))
  have i4 : (l.length : Int) < 4 := by omega
  clear h
  go_enter Tryd.func15, Tryd.ntmps15
  go_wp2
  refine bodyPost_ret (v := gotV Cl.zero (.slice none 0 0) 0 3) (by simp [results, Tryd.f15, go_sem, gotV, Cl.zero]) rfl ?_
  exact ⟨rfl, HB.out⟩

set_option maxHeartbeats 4000000 in
set_option maxRecDepth 100000 in
theorem rdec_rest (w : World) (v : Value) (l : List Int) (h : Rd w v l) (hl : 4 ≤ l.length) (hlen : l.length < 1000000) :
    Calls Tryd.prog 15 #[v] w fun e w' => ((okD l = true ∧ ∃ u, e = .returned (gotV (decC l) u 0 0) ∧ Rd w' u (decC l).ws) ∨ (okD l = false ∧ e = .returned (gotV Cl.zero (.slice none 0 0) 0 3))) ∧ Below w.heap.size w w' := by
  obtain ⟨b, off, cap, rfl, hc1, hm, hb, he⟩ := h.open (by omega)
  unfold maxLen at hm
  have hB := (Below.refl w.heap.size w).alloc (Nat.le_refl _) (box8 0 0 0 false 0 (.slice none 0 0) 0 0)
  have HE := Lib.hid (fun (W : World) (hW : Below w.heap.size w W) (j : Nat) (hj : j < l.length) => (hW.cell (p := ⟨b, off + j, none⟩) hb).trans (he j hj))
  have HRD := Lib.hid h
  have HB := Lib.hid hB
  clear h he hB
  have i4 : ¬ (l.length : Int) < 4 := by omega
  have HERR := Lib.hid (fun (wr : World) (hz : wr.heap[w.heap.size]? = some (box8 0 0 0 false 0 (.slice none 0 0) 0 0)) (hbw : Below w.heap.size w wr) =>
    (And.intro (put8 wr w.heap.size 36 _ _ _ _ _ _ _ _ (.int .i64 0) (.int .i64 0) (.int .i64 0) (.bool false) (.int .i64 0) (.slice none 0 0) (.int .i64 0) (.int .i64 3) hz) (put8_below wr w.heap.size (.int .i64 0) (.int .i64 0) (.int .i64 0) (.bool false) (.int .i64 0) (.slice none 0 0) (.int .i64 0) (.int .i64 3) hbw (Nat.le_refl _))))
  go_enter Tryd.func15, Tryd.ntmps15
  go_wp2
  go_loopw [3] (fun i wr => ∃ k : Nat, k ≤ 4 ∧ i = .int .i64 k ∧ Hid ((∀ j, j < k → wordB (nthI l j) = true) ∧ wr.heap[w.heap.size]? = some (box8 0 0 0 false 0 (.slice none 0 0) 0 0) ∧ Below w.heap.size w wr)) (fun i _ => 4 - (RowKit.intOf i).toNat)
  case atStart => exact ⟨0, by omega, rfl, fun j hj => by omega, heap_alloc_new _ _, HB.out⟩
  case round =>
    obtain ⟨k, hk, rfl, hP⟩ := hrel
    by_cases hlt : k < 4
    · have q0 := HE.out wr hP.out.2.2 k (by omega)
      have i1 : (k : Int) < 4 := by omega
      have i2 : (k : Int) < l.length := by omega
      go_wp2_with fail
      refine (r16word_any _ _).mono ?_
      rintro e w1 ⟨rfl, rfl⟩
      cases hw : wordB (nthI l k)
      · obtain ⟨⟨z0, z1, z2, z3, z4, z5, z6, z7⟩, y0, y1, y2, y3, y4, y5, y6, y7, y8⟩ := fz8g hP.out.2.1
        have HNO := Lib.hid (okD_no hl hlt hw)
        obtain ⟨hr, hbe⟩ := HERR.out wr hP.out.2.1 hP.out.2.2
        have HR := Lib.hid hr
        have HBE := Lib.hid hbe
        clear hr hbe hw
        go_wp2
        -- END OF AN ERROR
        obtain ⟨_, r0, r1, r2, r3, r4, r5, r6, r7, _⟩ := fz8g HR.out
        have hbe := HBE.out
        obtain ⟨We, hWe⟩ : ∃ We, (((((((((wr.setCell ⟨w.heap.size, 0, none⟩ (.int .i64 0)).setCell ⟨w.heap.size, 1, none⟩ (.int .i64 0)).setCell ⟨w.heap.size, 2, none⟩ (.int .i64 0)).setCell ⟨w.heap.size, 3, none⟩ (.bool false)).setCell ⟨w.heap.size, 4, none⟩ (.int .i64 0)).setCell ⟨w.heap.size, 5, none⟩ (.slice none 0 0)).setCell ⟨w.heap.size, 6, none⟩ (.int .i64 0)).setCell ⟨w.heap.size, 7, none⟩ (.int .i64 3))) = We := ⟨_, rfl⟩
        rw [hWe] at r0 r1 r2 r3 r4 r5 r6 r7 hbe ⊢
        refine bodyPost_ret (v := gotV Cl.zero (.slice none 0 0) 0 3) (by simp [results, Tryd.f15, go_sem, gotV, Cl.zero, r0, r1, r2, r3, r4, r5, r6, r7]) rfl ?_
        exact ⟨.inr ⟨HNO.out, rfl⟩, hbe⟩
      · have HN := Lib.hid (show (∀ j, j < k + 1 → wordB (nthI l j) = true) ∧ wr.heap[w.heap.size]? = some (box8 0 0 0 false 0 (.slice none 0 0) 0 0) ∧ Below w.heap.size w wr from
          ⟨fun j hj => by
            by_cases e : j = k
            · subst e; exact hw
            · exact hP.out.1 j (by omega), hP.out.2⟩)
        go_wp2
        go_roundw
        case rel => exact ⟨k + 1, by omega, by go_num, HN.out⟩
        case measure => simp [RowKit.intOf]; omega
    · obtain rfl : k = 4 := by omega
      have hall := all4_of hl hP.out.1
      have hx0 := wordB_t (hP.out.1 0 (by omega))
      have q0 : wr.cell? ⟨b, off, none⟩ = some (.int .i64 (nthI l 0)) := HE.out wr hP.out.2.2 0 (by omega)
      have q1 := HE.out wr hP.out.2.2 1 (by omega)
      have q2 := HE.out wr hP.out.2.2 2 (by omega)
      have q3 := HE.out wr hP.out.2.2 3 (by omega)
      obtain ⟨x0, hxe⟩ : ∃ x0, nthI l 0 = x0 := ⟨_, rfl⟩
      rw [hxe] at hx0 q0
      obtain ⟨y0, y1⟩ := hx0
      obtain ⟨m, hm'⟩ := Int.eq_ofNat_of_zero_le (show 0 ≤ x0 / 65536 by omega)
      have hq1 : x0.tdiv 65536 = (m : Int) := by rw [Int.tdiv_eq_ediv_of_nonneg y0, hm']
      have hq2 : x0.tmod 65536 = x0 % 65536 := Int.tmod_eq_emod_of_nonneg y0
      have hq3 : x0.tmod 256 = x0 % 256 := Int.tmod_eq_emod_of_nonneg y0
      have hq4 : x0.tdiv 256 = x0 / 256 := Int.tdiv_eq_ediv_of_nonneg y0
      have hq5 : (x0 / 256).tmod 2 = x0 / 256 % 2 := Int.tmod_eq_emod_of_nonneg (by omega)
      have hfm : Hid (formD l = decide (m ≤ 255 ∧ x0 % 65536 ≤ 511 ∧ 4 + m ≤ l.length)) := by
        show formD l = _
        unfold formD
        rw [hall, decide_eq_true hl, Bool.eq_iff_iff, hxe]
        simp only [Bool.true_and, decide_eq_true_eq]
        omega
      have HX := Lib.hid hxe
      have HM := Lib.hid hm'
      have HP := Lib.hid hP.out
      have hm24 : m ≤ 16777216 := by omega
      clear hxe hm' hP hall
      have k0 : (0 : Int) < l.length := by omega
      have k1 : (1 : Int) < l.length := by omega
      have k2 : (2 : Int) < l.length := by omega
      have k3 : (3 : Int) < l.length := by omega
      by_cases c1 : 255 < m
      · have e1 : (255 : Int) < m := by omega
        obtain ⟨⟨z0, z1, z2, z3, z4, z5, z6, z7⟩, v0, v1, v2, v3, v4, v5, v6, v7, v8⟩ := fz8g HP.out.2.1
        have HNO := Lib.hid (show okD l = false from by unfold okD; rw [hfm.out, decide_eq_false (by omega)]; rfl)
        obtain ⟨hr, hbe⟩ := HERR.out wr HP.out.2.1 HP.out.2.2
        have HR := Lib.hid hr
        have HBE := Lib.hid hbe
        clear hr hbe
        go_wp2
        obtain ⟨_, r0, r1, r2, r3, r4, r5, r6, r7, _⟩ := fz8g HR.out
        have hbe := HBE.out
        obtain ⟨We, hWe⟩ : ∃ We, (((((((((wr.setCell ⟨w.heap.size, 0, none⟩ (.int .i64 0)).setCell ⟨w.heap.size, 1, none⟩ (.int .i64 0)).setCell ⟨w.heap.size, 2, none⟩ (.int .i64 0)).setCell ⟨w.heap.size, 3, none⟩ (.bool false)).setCell ⟨w.heap.size, 4, none⟩ (.int .i64 0)).setCell ⟨w.heap.size, 5, none⟩ (.slice none 0 0)).setCell ⟨w.heap.size, 6, none⟩ (.int .i64 0)).setCell ⟨w.heap.size, 7, none⟩ (.int .i64 3))) = We := ⟨_, rfl⟩
        rw [hWe] at r0 r1 r2 r3 r4 r5 r6 r7 hbe ⊢
        refine bodyPost_ret (v := gotV Cl.zero (.slice none 0 0) 0 3) (by simp [results, Tryd.f15, go_sem, gotV, Cl.zero, r0, r1, r2, r3, r4, r5, r6, r7]) rfl ?_
        exact ⟨.inr ⟨HNO.out, rfl⟩, hbe⟩
      by_cases c2 : 511 < x0 % 65536
      · have e1 : ¬ (255 : Int) < m := by omega
        have e2 : 511 < x0 % 65536 := c2
        obtain ⟨⟨z0, z1, z2, z3, z4, z5, z6, z7⟩, v0, v1, v2, v3, v4, v5, v6, v7, v8⟩ := fz8g HP.out.2.1
        have HNO := Lib.hid (show okD l = false from by unfold okD; rw [hfm.out, decide_eq_false (by omega)]; rfl)
        obtain ⟨hr, hbe⟩ := HERR.out wr HP.out.2.1 HP.out.2.2
        have HR := Lib.hid hr
        have HBE := Lib.hid hbe
        clear hr hbe
        go_wp2
        obtain ⟨_, r0, r1, r2, r3, r4, r5, r6, r7, _⟩ := fz8g HR.out
        have hbe := HBE.out
        obtain ⟨We, hWe⟩ : ∃ We, (((((((((wr.setCell ⟨w.heap.size, 0, none⟩ (.int .i64 0)).setCell ⟨w.heap.size, 1, none⟩ (.int .i64 0)).setCell ⟨w.heap.size, 2, none⟩ (.int .i64 0)).setCell ⟨w.heap.size, 3, none⟩ (.bool false)).setCell ⟨w.heap.size, 4, none⟩ (.int .i64 0)).setCell ⟨w.heap.size, 5, none⟩ (.slice none 0 0)).setCell ⟨w.heap.size, 6, none⟩ (.int .i64 0)).setCell ⟨w.heap.size, 7, none⟩ (.int .i64 3))) = We := ⟨_, rfl⟩
        rw [hWe] at r0 r1 r2 r3 r4 r5 r6 r7 hbe ⊢
        refine bodyPost_ret (v := gotV Cl.zero (.slice none 0 0) 0 3) (by simp [results, Tryd.f15, go_sem, gotV, Cl.zero, r0, r1, r2, r3, r4, r5, r6, r7]) rfl ?_
        exact ⟨.inr ⟨HNO.out, rfl⟩, hbe⟩
      by_cases c3 : l.length < 4 + m
      · have e1 : ¬ (255 : Int) < m := by omega
        have e2 : ¬ 511 < x0 % 65536 := c2
        have e3 : (l.length : Int) < 4 + m := by omega
        obtain ⟨⟨z0, z1, z2, z3, z4, z5, z6, z7⟩, v0, v1, v2, v3, v4, v5, v6, v7, v8⟩ := fz8g HP.out.2.1
        have HNO := Lib.hid (show okD l = false from by unfold okD; rw [hfm.out, decide_eq_false (by omega)]; rfl)
        obtain ⟨hr, hbe⟩ := HERR.out wr HP.out.2.1 HP.out.2.2
        have HR := Lib.hid hr
        have HBE := Lib.hid hbe
        clear hr hbe
        go_wp2
        obtain ⟨_, r0, r1, r2, r3, r4, r5, r6, r7, _⟩ := fz8g HR.out
        have hbe := HBE.out
        obtain ⟨We, hWe⟩ : ∃ We, (((((((((wr.setCell ⟨w.heap.size, 0, none⟩ (.int .i64 0)).setCell ⟨w.heap.size, 1, none⟩ (.int .i64 0)).setCell ⟨w.heap.size, 2, none⟩ (.int .i64 0)).setCell ⟨w.heap.size, 3, none⟩ (.bool false)).setCell ⟨w.heap.size, 4, none⟩ (.int .i64 0)).setCell ⟨w.heap.size, 5, none⟩ (.slice none 0 0)).setCell ⟨w.heap.size, 6, none⟩ (.int .i64 0)).setCell ⟨w.heap.size, 7, none⟩ (.int .i64 3))) = We := ⟨_, rfl⟩
        rw [hWe] at r0 r1 r2 r3 r4 r5 r6 r7 hbe ⊢
        refine bodyPost_ret (v := gotV Cl.zero (.slice none 0 0) 0 3) (by simp [results, Tryd.f15, go_sem, gotV, Cl.zero, r0, r1, r2, r3, r4, r5, r6, r7]) rfl ?_
        exact ⟨.inr ⟨HNO.out, rfl⟩, hbe⟩
      have e1 : ¬ (255 : Int) < m := by omega
      have e2 : ¬ 511 < x0 % 65536 := by omega
      have e3 : ¬ (l.length : Int) < 4 + m := by omega
      go_wp2
      have g1 : IntKind.i64.wrap (x0 / 256) = x0 / 256 := by simp [IntKind.wrap, IntKind.bits, IntKind.signed]; omega
      have HPB := Lib.hid HP.out.2
      have j0 : 0 < l.length := by omega
      go_region_held3 (fun W => W.cell? ⟨b, off, none⟩ = some (.int .i64 x0) ∧ W.cell? ⟨b, off + 1, none⟩ = some (.int .i64 (nthI l 1)) ∧ W.cell? ⟨b, off + 2, none⟩ = some (.int .i64 (nthI l 2)) ∧ W.cell? ⟨b, off + 3, none⟩ = some (.int .i64 (nthI l 3))) (go_keep) (fail)
      go_wp2
      have hBn : Below w.heap.size w (wr.alloc (.cells #[.int .i64 (x0 % 256), .int .i64 (nthI l 1), .int .i64 (nthI l 2), .bool (x0 / 256 % 2 == 1), .int .i64 (nthI l 3), .slice none 0 0] 24)).drew := (HPB.out.2.alloc HPB.out.2.size _).drew
      have hzr : (wr.alloc (.cells #[.int .i64 (x0 % 256), .int .i64 (nthI l 1), .int .i64 (nthI l 2), .bool (x0 / 256 % 2 == 1), .int .i64 (nthI l 3), .slice none 0 0] 24)).drew.heap[w.heap.size]? = some (box8 0 0 0 false 0 (.slice none 0 0) 0 0) := at_old HPB.out.1
      have hbox : (wr.alloc (.cells #[.int .i64 (x0 % 256), .int .i64 (nthI l 1), .int .i64 (nthI l 2), .bool (x0 / 256 % 2 == 1), .int .i64 (nthI l 3), .slice none 0 0] 24)).drew.heap[wr.heap.size]? = some (.cells #[.int .i64 (x0 % 256), .int .i64 (nthI l 1), .int .i64 (nthI l 2), .bool (x0 / 256 % 2 == 1), .int .i64 (nthI l 3), .slice none 0 0] 24 (0, 0)) := heap_alloc_new _ _
      have hsA : (wr.alloc (.cells #[.int .i64 (x0 % 256), .int .i64 (nthI l 1), .int .i64 (nthI l 2), .bool (x0 / 256 % 2 == 1), .int .i64 (nthI l 3), .slice none 0 0] 24)).drew.heap.size = wr.heap.size + 1 := by simp
      obtain ⟨WA, hWA⟩ : ∃ WA, (wr.alloc (.cells #[.int .i64 (x0 % 256), .int .i64 (nthI l 1), .int .i64 (nthI l 2), .bool (x0 / 256 % 2 == 1), .int .i64 (nthI l 3), .slice none 0 0] 24)).drew = WA := ⟨_, rfl⟩
      rw [hWA] at hBn hzr hbox hsA ⊢
      clear hWA
      have hwrl : w.heap.size < wr.heap.size := (Array.getElem?_eq_some_iff.1 HPB.out.1).1
      have s5 : WA.cell? ⟨wr.heap.size, 5, none⟩ = some (.slice none 0 0) := cell_blk hbox rfl
      have HBN := Lib.hid hBn
      have HZR := Lib.hid hzr
      have HBOX := Lib.hid hbox
      have g2 : IntKind.i64.wrap (4 + (m : Int)) = 4 + (m : Int) := by simp [IntKind.wrap, IntKind.bits, IntKind.signed]; omega
      obtain ⟨a4, hsl, hrm⟩ : ∃ a4 : Option Addr, (∀ W, (Instr.slice 22 (.slice (some ⟨b, off, none⟩) l.length cap) (some (.int .i64 4)) (some (.int .i64 (4 + (m : Int)))) none).run Tryd.prog W = .ok (.slice a4 m (cap - 4)) W) ∧ ∀ W, Below w.heap.size w W → Rd W (.slice a4 m (cap - 4)) ((l.drop 4).take m) := by
        have hrun := fun W => run_mid b off l.length cap 4 (4 + m) (by omega) (by omega) W
        rw [show ((4 + m : Nat) : Int) = 4 + (m : Int) by omega, show 4 + m - 4 = m by omega] at hrun
        refine ⟨_, hrun, fun W hW => ?_⟩
        by_cases hcp : cap = 4
        · have hm0 : m = 0 := by omega
          exact Or.inl ⟨_, _, by rw [hm0], by rw [hm0, List.take_zero]⟩
        · rw [if_neg hcp]; exact (HRD.out.below hW).mid (by omega)
      obtain ⟨ws, hws⟩ : ∃ ws, (l.drop 4).take m = ws := ⟨_, rfl⟩
      have hwl : ws.length < 1000000 := by rw [← hws]; simp; omega
      have HDC := Lib.hid (show decC l = ⟨x0 % 256, nthI l 1, nthI l 2, (x0 / 256 % 2 == 1), nthI l 3, ws⟩ from by
        unfold decC
        rw [HX.out, HM.out, ← hws]
        rfl)
      rw [hws] at hrm
      clear hws
      have hmx : Tryd.prog.follows .mixedOrders = true := by kernel_rfl
      clear hBn hzr hbox
      refine wp_region_D (fun W => W.cell? ⟨wr.heap.size, 5, none⟩ = some (.slice none 0 0)) [6, 8] hmx s5 (fun hHeld => ?_)
      refine wpAnyD_take (i := 0) (oi := { dst := some 63, op := Op.fieldAddr 24 (Operand.tmp 5) 5, type := 0, pos := "ref.go:62", after := #[], guard := none }) (v := ?_) [1, 6, 8] rfl (by kernel_rfl) (by kernel_rfl) (by kernel_rfl) (by kernel_rfl) (fun _ _ _ h => h) (Or.inl ⟨by rfl, ?_⟩) (by assumption) ?_
      rotate_left
      · intro w hSw; (try dsimp only at hSw); go_simp; try with_reducible rfl
      try simp only [Act.put, List.setIfInBounds_toArray, List.set_cons_zero, List.set_cons_succ]
      refine wpAnyD_take (i := 1) (oi := { dst := some 64, op := Op.load 22 (Operand.tmp 63), type := 22, pos := "ref.go:62", after := #[{ on := 0, ground := Ground.data }], guard := none }) (v := ?_) [6, 8] rfl (by kernel_rfl) (by kernel_rfl) (by kernel_rfl) (by kernel_rfl) (fun _ _ _ h => h) (Or.inl ⟨by rfl, ?_⟩) (by assumption) ?_
      rotate_left
      · intro w hSw; (try dsimp only at hSw); go_simp; try with_reducible rfl
      try simp only [Act.put, List.setIfInBounds_toArray, List.set_cons_zero, List.set_cons_succ]
      refine wpAnyD_take (i := 2) (oi := { dst := some 65, op := Op.move (Operand.tmp 0), type := 22, pos := "ref.go:62", after := #[], guard := none }) (v := ?_) [5, 6, 8] rfl (by kernel_rfl) (by kernel_rfl) (by kernel_rfl) (by kernel_rfl) (fun _ _ _ h => h) (Or.inl ⟨by rfl, ?_⟩) (by assumption) ?_
      rotate_left
      · intro w hSw; (try dsimp only at hSw); go_simp; try with_reducible rfl
      try simp only [Act.put, List.setIfInBounds_toArray, List.set_cons_zero, List.set_cons_succ]
      refine wpAnyD_take (i := 3) (oi := { dst := some 66, op := Op.move (Operand.tmp 4), type := 3, pos := "ref.go:62", after := #[], guard := none }) (v := ?_) [4, 5, 6, 8] rfl (by kernel_rfl) (by kernel_rfl) (by kernel_rfl) (by kernel_rfl) (fun _ _ _ h => h) (Or.inl ⟨by rfl, ?_⟩) (by assumption) ?_
      rotate_left
      · intro w hSw; (try dsimp only at hSw); go_simp; try with_reducible rfl
      try simp only [Act.put, List.setIfInBounds_toArray, List.set_cons_zero, List.set_cons_succ]
      refine wpAnyD_take (i := 4) (oi := { dst := some 67, op := Op.binOp BinOp.add 3 (Operand.const (Value.int IntKind.i64 4)) (Operand.tmp 66) 3, type := 3, pos := "ref.go:62", after := #[{ on := 3, ground := Ground.data }], guard := none }) (v := ?_) [5, 6, 8] rfl (by kernel_rfl) (by kernel_rfl) (by kernel_rfl) (by kernel_rfl) (fun _ _ _ h => h) (Or.inl ⟨by rfl, ?_⟩) (by assumption) ?_
      rotate_left
      · intro w hSw; (try dsimp only at hSw); go_simp; try with_reducible rfl
      try simp only [Act.put, List.setIfInBounds_toArray, List.set_cons_zero, List.set_cons_succ]
      refine wpAnyD_take (i := 5) (oi := { dst := some 68, op := Op.slice 22 (Operand.tmp 65) (some (Operand.const (Value.int IntKind.i64 4))) (some (Operand.tmp 67)) none, type := 22, pos := "ref.go:62", after := #[{ on := 2, ground := Ground.data }, { on := 4, ground := Ground.data }], guard := none }) (v := ?_) [6, 8] rfl (by kernel_rfl) (by kernel_rfl) (by kernel_rfl) (by kernel_rfl) (fun _ _ _ h => h) (Or.inl ⟨by rfl, ?_⟩) (by assumption) ?_
      rotate_left
      · intro w hSw; (try dsimp only at hSw); go_simp; try with_reducible rfl
      try simp only [Act.put, List.setIfInBounds_toArray, List.set_cons_zero, List.set_cons_succ]
      clear hHeld
      refine wpAnyD_ready [6] (by kernel_rfl) (by simp) ?_
      refine AllReadyD.cons (o := { dst := some 69, op := Op.call { callee := Callee.builtin Builtin.append, args := #[Operand.tmp 64, Operand.tmp 68], argTypes := #[22, 22] }, type := 22, pos := "ref.go:62", after := #[{ on := 1, ground := Ground.data }, { on := 5, ground := Ground.data }], guard := none }) rfl (fun K hK => ?_) AllReadyD.nil
      refine step_append_rd WA.drew rfl (.tmp 64) (.tmp 68) (by rfl) (by rfl) (wr.heap.size + 1) (.slice none 0 0) (.slice a4 m (cap - 4)) [] ws (by simp [Act.eval]) (by simp [Act.eval]) (OwnZ.nil _ _) (hrm _ HBN.out.drew) (by simp; omega) (by show wr.heap.size + 1 ≤ WA.heap.size; omega) ?_
      intro v6 W6 ho6 hg6
      rw [List.nil_append] at ho6
      have hb6 : Below WA.heap.size WA W6 := ⟨hg6.os, hg6.tape, hg6.output, hg6.size, fun k hk => hg6.block k hk (by simp [Value.ownBlock])⟩
      have HO6 := Lib.hid ho6
      have HB6 := Lib.hid hb6
      have HBOX6 := Lib.hid ((hb6.block _ (by omega)).trans HBOX.out)
      have HZR6 := Lib.hid ((hb6.block _ (by omega)).trans HZR.out)
      have HBN6 := Lib.hid (HBN.out.trans (hb6.mono (by omega)))
      obtain ⟨a6, c6, hsh6⟩ := owns_shape ho6
      subst hsh6
      have hs6 := hb6.size
      refine hK.out _ _ (fun h => absurd h (by decide)) ?_
      clear hK K ho6 hg6 hb6
      try simp only [Act.put, List.setIfInBounds_toArray, List.set_cons_zero, List.set_cons_succ]
      refine wpAnyD_ready [7] (by kernel_rfl) (by simp) ?_
      refine AllReadyD.cons (o := { dst := some 70, op := Op.fieldAddr 24 (Operand.tmp 5) 5, type := 0, pos := "ref.go:62", after := #[{ on := 0, ground := Ground.phase }, { on := 1, ground := Ground.phase }, { on := 2, ground := Ground.phase }, { on := 3, ground := Ground.phase }, { on := 4, ground := Ground.phase }, { on := 5, ground := Ground.phase }, { on := 6, ground := Ground.phase }], guard := none }) rfl (fun K hK => ?_) AllReadyD.nil
      go_simp
      refine hK.out _ _ (fun _ => cell_blk HBOX6.out rfl) ?_
      clear hK K
      try simp only [Act.put, List.setIfInBounds_toArray, List.set_cons_zero, List.set_cons_succ]
      have f5 := Joins.unfrozen_of_block HBOX6.out 5
      have d5 : W6.cell? ⟨wr.heap.size, 5, none⟩ = some (.slice none 0 0) := cell_blk HBOX6.out rfl
      refine wpAnyD_ready [8] (by kernel_rfl) (by simp) ?_
      refine AllReadyD.cons (o := { dst := none, op := Op.store 22 (Operand.tmp 70) (Operand.tmp 69), type := 0, pos := "ref.go:62", after := #[{ on := 7, ground := Ground.data }, { on := 6, ground := Ground.data }, { on := 6, ground := Ground.chain }, { on := 0, ground := Ground.phase }, { on := 1, ground := Ground.phase }, { on := 2, ground := Ground.phase }, { on := 3, ground := Ground.phase }, { on := 4, ground := Ground.phase }, { on := 5, ground := Ground.phase }, { on := 6, ground := Ground.phase }], guard := none }) rfl (fun K hK => ?_) AllReadyD.nil
      go_simp
      refine hK.out _ _ (fun h => absurd h (by decide)) ?_
      clear hK K
      try simp only [Act.put, List.setIfInBounds_toArray, List.set_cons_zero, List.set_cons_succ]
      refine wpAnyD_done (by kernel_rfl) ?_ _
      clear f5 d5
      have hbx7 := Joins.block_setCell HBOX6.out (i := 5) (.slice a6 ws.length c6)
      simp only [List.setIfInBounds_toArray, List.set_cons_zero, List.set_cons_succ] at hbx7
      have hot7 : ∀ k, k ≠ wr.heap.size → (W6.setCell ⟨wr.heap.size, 5, none⟩ (.slice a6 ws.length c6)).heap[k]? = W6.heap[k]? := fun k hk => Below.heap_setCell _ _ _ _ hk
      have hrd7 : OwnZ (W6.setCell ⟨wr.heap.size, 5, none⟩ (.slice a6 ws.length c6)) (wr.heap.size + 1) (.slice a6 ws.length c6) ws := row_carry HO6.out (fun k hk => hot7 k (by have := (OwnZ.lt HO6.out hk).1; omega))
      have hz7 := (hot7 w.heap.size (by omega)).trans HZR6.out
      have hb7 := HBN6.out.setCell (p := ⟨wr.heap.size, 5, none⟩) (show w.heap.size ≤ wr.heap.size by omega) (.slice a6 ws.length c6)
      obtain ⟨W7, hW7⟩ : ∃ W7, W6.setCell ⟨wr.heap.size, 5, none⟩ (.slice a6 ws.length c6) = W7 := ⟨_, rfl⟩
      rw [hW7] at hbx7 hrd7 hz7 hb7 ⊢
      clear hW7 hot7
      obtain ⟨t0, t1, t2, t3, t4, t5⟩ : W7.cell? ⟨wr.heap.size, 0, none⟩ = some (.int .i64 (x0 % 256)) ∧ W7.cell? ⟨wr.heap.size, 1, none⟩ = some (.int .i64 (nthI l 1)) ∧ W7.cell? ⟨wr.heap.size, 2, none⟩ = some (.int .i64 (nthI l 2)) ∧ W7.cell? ⟨wr.heap.size, 3, none⟩ = some (.bool (x0 / 256 % 2 == 1)) ∧ W7.cell? ⟨wr.heap.size, 4, none⟩ = some (.int .i64 (nthI l 3)) ∧ W7.cell? ⟨wr.heap.size, 5, none⟩ = some (.slice a6 ws.length c6) := ⟨cell_blk hbx7 rfl, cell_blk hbx7 rfl, cell_blk hbx7 rfl, cell_blk hbx7 rfl, cell_blk hbx7 rfl, cell_blk hbx7 rfl⟩
      have HBX7 := Lib.hid hbx7
      have HRD7 := Lib.hid hrd7.rd
      have HO7 := Lib.hid hrd7
      have HZ7 := Lib.hid hz7
      have HB7 := Lib.hid hb7
      have hw7 : wr.heap.size < W7.heap.size := (Array.getElem?_eq_some_iff.1 hbx7).1
      clear hbx7 hrd7 hz7 hb7
      go_wp2_with fail
      refine (rright16_any (x0 % 256) (nthI l 1) (nthI l 2) (nthI l 3) (x0 / 256 % 2 == 1) (.slice a6 ws.length c6) ws W7 HRD7.out).mono ?_
      rintro e W8 ⟨rfl, hb8⟩
      have HBX8 := Lib.hid ((hb8.block _ hw7).trans HBX7.out)
      have HO8 := Lib.hid (row_carry (w' := W8) HO7.out (fun k hk => hb8.block k (OwnZ.lt HO7.out hk).2))
      have HZ8 := Lib.hid ((hb8.block _ (by omega)).trans HZ7.out)
      have HB8 := Lib.hid (HB7.out.trans (hb8.mono (by have := HB7.out.size; omega)))
      clear hb8 t0 t1 t2 t3 t4 t5
      have HOK := Lib.hid (show okD l = rightC (x0 % 256) (nthI l 1) (nthI l 2) (nthI l 3) (x0 / 256 % 2 == 1) ws from by
        unfold okD
        rw [hfm.out, decide_eq_true (by omega), HDC.out]
        rfl)
      obtain ⟨⟨z0, z1, z2, z3, z4, z5, z6, z7⟩, v0, v1, v2, v3, v4, v5, v6, v7, v8⟩ := fz8g HZ8.out
      cases hrr : rightC (x0 % 256) (nthI l 1) (nthI l 2) (nthI l 3) (x0 / 256 % 2 == 1) ws
      · have HNO := Lib.hid (HOK.out.trans hrr)
        obtain ⟨hr, hbe⟩ := HERR.out W8 HZ8.out HB8.out
        have HR := Lib.hid hr
        have HBE := Lib.hid hbe
        clear hr hbe hrr
        go_wp2
        obtain ⟨_, r0, r1, r2, r3, r4, r5, r6, r7, _⟩ := fz8g HR.out
        have hbe := HBE.out
        obtain ⟨We, hWe⟩ : ∃ We, (((((((((W8.setCell ⟨w.heap.size, 0, none⟩ (.int .i64 0)).setCell ⟨w.heap.size, 1, none⟩ (.int .i64 0)).setCell ⟨w.heap.size, 2, none⟩ (.int .i64 0)).setCell ⟨w.heap.size, 3, none⟩ (.bool false)).setCell ⟨w.heap.size, 4, none⟩ (.int .i64 0)).setCell ⟨w.heap.size, 5, none⟩ (.slice none 0 0)).setCell ⟨w.heap.size, 6, none⟩ (.int .i64 0)).setCell ⟨w.heap.size, 7, none⟩ (.int .i64 3))) = We := ⟨_, rfl⟩
        rw [hWe] at r0 r1 r2 r3 r4 r5 r6 r7 hbe ⊢
        refine bodyPost_ret (v := gotV Cl.zero (.slice none 0 0) 0 3) (by simp [results, Tryd.f15, go_sem, gotV, Cl.zero, r0, r1, r2, r3, r4, r5, r6, r7]) rfl ?_
        exact ⟨.inr ⟨HNO.out, rfl⟩, hbe⟩
      · have HYES := Lib.hid (HOK.out.trans hrr)
        obtain ⟨t0, t1, t2, t3, t4, t5⟩ : W8.cell? ⟨wr.heap.size, 0, none⟩ = some (.int .i64 (x0 % 256)) ∧ W8.cell? ⟨wr.heap.size, 1, none⟩ = some (.int .i64 (nthI l 1)) ∧ W8.cell? ⟨wr.heap.size, 2, none⟩ = some (.int .i64 (nthI l 2)) ∧ W8.cell? ⟨wr.heap.size, 3, none⟩ = some (.bool (x0 / 256 % 2 == 1)) ∧ W8.cell? ⟨wr.heap.size, 4, none⟩ = some (.int .i64 (nthI l 3)) ∧ W8.cell? ⟨wr.heap.size, 5, none⟩ = some (.slice a6 ws.length c6) := ⟨cell_blk HBX8.out rfl, cell_blk HBX8.out rfl, cell_blk HBX8.out rfl, cell_blk HBX8.out rfl, cell_blk HBX8.out rfl, cell_blk HBX8.out rfl⟩
        have hr := put8 W8 w.heap.size 36 _ _ _ _ _ _ _ _ (.int .i64 (x0 % 256)) (.int .i64 (nthI l 1)) (.int .i64 (nthI l 2)) (.bool (x0 / 256 % 2 == 1)) (.int .i64 (nthI l 3)) (.slice a6 ws.length c6) (.int .i64 0) (.int .i64 0) HZ8.out
        have hbe := put8_below W8 w.heap.size (.int .i64 (x0 % 256)) (.int .i64 (nthI l 1)) (.int .i64 (nthI l 2)) (.bool (x0 / 256 % 2 == 1)) (.int .i64 (nthI l 3)) (.slice a6 ws.length c6) (.int .i64 0) (.int .i64 0) HB8.out (Nat.le_refl _)
        have HR := Lib.hid hr
        have HBE := Lib.hid hbe
        clear hr hbe hrr
        go_wp2
        obtain ⟨_, r0, r1, r2, r3, r4, r5, r6, r7, _⟩ := fz8g HR.out
        have hbe := HBE.out
        have ho := row_carry (w' := ((((((((W8.setCell ⟨w.heap.size, 0, none⟩ (.int .i64 (x0 % 256))).setCell ⟨w.heap.size, 1, none⟩ (.int .i64 (nthI l 1))).setCell ⟨w.heap.size, 2, none⟩ (.int .i64 (nthI l 2))).setCell ⟨w.heap.size, 3, none⟩ (.bool (x0 / 256 % 2 == 1))).setCell ⟨w.heap.size, 4, none⟩ (.int .i64 (nthI l 3))).setCell ⟨w.heap.size, 5, none⟩ (.slice a6 ws.length c6)).setCell ⟨w.heap.size, 6, none⟩ (.int .i64 0)).setCell ⟨w.heap.size, 7, none⟩ (.int .i64 0))) HO8.out (fun k hk => by
          have hne : k ≠ w.heap.size := by have := (OwnZ.lt HO8.out hk).1; omega
          rw [Below.heap_setCell _ _ _ _ hne, Below.heap_setCell _ _ _ _ hne, Below.heap_setCell _ _ _ _ hne, Below.heap_setCell _ _ _ _ hne, Below.heap_setCell _ _ _ _ hne, Below.heap_setCell _ _ _ _ hne, Below.heap_setCell _ _ _ _ hne, Below.heap_setCell _ _ _ _ hne])
        obtain ⟨We, hWe⟩ : ∃ We, ((((((((W8.setCell ⟨w.heap.size, 0, none⟩ (.int .i64 (x0 % 256))).setCell ⟨w.heap.size, 1, none⟩ (.int .i64 (nthI l 1))).setCell ⟨w.heap.size, 2, none⟩ (.int .i64 (nthI l 2))).setCell ⟨w.heap.size, 3, none⟩ (.bool (x0 / 256 % 2 == 1))).setCell ⟨w.heap.size, 4, none⟩ (.int .i64 (nthI l 3))).setCell ⟨w.heap.size, 5, none⟩ (.slice a6 ws.length c6)).setCell ⟨w.heap.size, 6, none⟩ (.int .i64 0)).setCell ⟨w.heap.size, 7, none⟩ (.int .i64 0)) = We := ⟨_, rfl⟩
        rw [hWe] at r0 r1 r2 r3 r4 r5 r6 r7 hbe ho ⊢
        refine bodyPost_ret (v := gotV ⟨x0 % 256, nthI l 1, nthI l 2, (x0 / 256 % 2 == 1), nthI l 3, ws⟩ (.slice a6 ws.length c6) 0 0) (by simp [results, Tryd.f15, go_sem, gotV, r0, r1, r2, r3, r4, r5, r6, r7]) rfl ?_
        rw [HDC.out]
        exact ⟨.inl ⟨HYES.out, _, rfl, OwnZ.rd ho⟩, hbe⟩

theorem rdecode_any (w : World) (v : Value) (l : List Int) (h : Rd w v l) (hlen : l.length < 1000000) :
    Calls Tryd.prog 15 #[v] w fun e w' => ((okD l = true ∧ ∃ u, e = .returned (gotV (decC l) u 0 0) ∧ Rd w' u (decC l).ws) ∨ (okD l = false ∧ e = .returned (gotV Cl.zero (.slice none 0 0) 0 3))) ∧ Below w.heap.size w w' := by
  by_cases hl : l.length < 4
  · exact (rdec_short w v l h hl).mono fun e w' ⟨he, hb⟩ => ⟨.inr ⟨okD_short hl, he⟩, hb⟩
  · exact rdec_rest w v l h (by omega) hlen

end Go.Proofs.YtcngblnkfiggjaaDoor.Rm
