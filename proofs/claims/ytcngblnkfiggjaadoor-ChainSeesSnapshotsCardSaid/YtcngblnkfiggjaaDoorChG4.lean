/- Walk of ChainSeesSnapshots. -/
import Derived.Test.YtcngblnkfiggjaaDoorChG3
import Derived.Test.YtcngblnkfiggjaaDoorChY3
import Derived.Test.YtcngblnkfiggjaaDoorChX1
namespace Go.Proofs.YtcngblnkfiggjaaDoor.Rm
open Go Go.RowKit Go.Maps

theorem itsG_at (gaps : List Int) (dead : List Bool) (n : Nat) : ∀ k, k < n → (itsG gaps dead n)[k]? = some (itG gaps dead (n - 1 - k)) := by
  induction n with
  | zero => intro k hk; omega
  | succ n ih =>
    intro k hk
    cases k with
    | zero => rfl
    | succ k =>
      show (itsG gaps dead n)[k]? = _
      rw [ih k (by omega)]
      congr 2
      omega
theorem wp_region_G {P : Program} {ops : Array Oper} {Q : Exit → Act → World → Prop} {id : Nat} {a : Act} {w : World} (S : World → Prop) (D : List Nat) (hm : P.follows .mixedOrders = true) (hS : S w.drew)
    (h : S w.drew → wpAnyD P .any ops Q S D ops.size (Array.replicate ops.size false) a w.drew) : (Code.region id ops true).wp P Q a w := wp_region_any hm (wpAny_of_D _ _ _ _ (h hS))
/-- What the first loop holds: the cell that is wanted. -/
def WI (b1 : Nat) (W0 : World) (cl : Cl) (W : World) : Prop := ∃ ao m cp, W.heap[b1]? = some (boxC cl (.slice ao m cp)) ∧ Rd W (.slice ao m cp) cl.ws ∧ Below b1 W0 W ∧ W0.heap.size ≤ W.heap.size
theorem cell_keep {w w' : World} {b o : Nat} {v : Value} (hW : Below w.heap.size w w') (h : w.cell? ⟨b, o, none⟩ = some v) : w'.cell? ⟨b, o, none⟩ = some v :=
  (World.cell?_of_block (hW.block b (block_lt_of_cell h))).trans h
theorem nthS_mem {xs : List Stp} {k : Nat} (h : k < xs.length) : nthS xs k ∈ xs := List.mem_of_getElem? (nthS_at h)

set_option maxHeartbeats 8000000 in
set_option maxRecDepth 100000 in
theorem sees_any (w : World) (T : Tabs w) (gaps : List Int) (dead : List Bool) (gv dv : Value) (snap : Int) (hg : Rd w gv gaps) (hd : RdB w dv dead) :
    Calls Tryd.prog 5 #[gv, dv, .int .i64 snap] w fun e w' => e = .returned (.bool true) ∧ Below w.heap.size w w' := by
  have HGR := Lib.hid (grown_any w T gaps dead gv dv hg hd)
  obtain ⟨n, hn⟩ : ∃ n, min gaps.length 16 = n := ⟨_, rfl⟩
  have hn16 : n ≤ 16 := by omega
  rw [hn] at HGR
  clear hn
  have HT := Lib.hid T
  clear hg hd T
  go_enter Tryd.func5, Tryd.ntmps5
  go_wp2_with fail
  refine HGR.out.mono ?_
  rintro e w1 ⟨Bv, Bm, F, c, vl, xs, rfl, hc, hG⟩
  obtain ⟨al, cl', hvl⟩ := owns_shape hG.row
  subst hvl
  have HG := Lib.hid hG
  have hT1 := HT.out.belowB hG.below HT.out.sz
  have HAT := Lib.hid (at_any w1 Bv Bm 40 (MG gaps dead n) F c hG.cv (by omega) hT1 (itsG gaps dead n) (ptrG n) (chain_G gaps dead hn16 n (Nat.le_refl _)) (by rw [itsG_length]; omega) snap)
  have HAL := Lib.hid (fun (W : World) (hW : Below w1.heap.size w1 W) => all_any W Bv Bm 40 (MG gaps dead n) F c (hG.cv.below hW) (by omega) (hT1.below hW) (itsG gaps dead n) (ptrG n) (chain_G gaps dead hn16 n (Nat.le_refl _)) (by rw [itsG_length]; omega))
  have HT1 := Lib.hid hT1
  obtain ⟨q, hq⟩ : ∃ q : Int × Cl, seenK (itsG gaps dead n) snap = q := ⟨_, rfl⟩
  rw [hq] at HAT
  unfold clV at HAT
  have HQ := Lib.hid hq
  clear hG hT1 HGR hq hc
  go_wp2_with fail
  refine HAT.out.mono ?_
  rintro e w2 ⟨⟨va, rfl, hra⟩, hb2⟩
  obtain ⟨aa, ca, hva⟩ := hra.shape
  subst hva
  have HB2 := Lib.hid hb2
  have HRA := Lib.hid hra
  have hs2 := hb2.size
  clear hra hb2 HAT
  have HW0 := Lib.hid (show Below w2.heap.size w2 ((w2.alloc (boxC q.2 (.slice aa q.2.ws.length ca))).alloc zero6) ∧ ((w2.alloc (boxC q.2 (.slice aa q.2.ws.length ca))).alloc zero6).heap[w2.heap.size]? = some (boxC q.2 (.slice aa q.2.ws.length ca)) ∧ WI (w2.heap.size + 1) ((w2.alloc (boxC q.2 (.slice aa q.2.ws.length ca))).alloc zero6) Cl.zero ((w2.alloc (boxC q.2 (.slice aa q.2.ws.length ca))).alloc zero6) ∧ ((w2.alloc (boxC q.2 (.slice aa q.2.ws.length ca))).alloc zero6).heap.size = w2.heap.size + 2 from
    ⟨((Below.refl _ w2).alloc (Nat.le_refl _) _).alloc (by simp) _, at_old (heap_alloc_new _ _), ⟨none, 0, 0, new_at (by simp), Or.inl ⟨_, _, rfl, rfl⟩, Below.refl _ _, Nat.le_refl _⟩, by simp⟩)
  go_wp2
  obtain ⟨W0, hW0⟩ : ∃ W0, ((w2.alloc (boxC q.2 (.slice aa q.2.ws.length ca))).alloc zero6) = W0 := ⟨_, rfl⟩
  rw [hW0] at HW0
  unfold boxC at hW0
  rw [hW0]
  clear hW0
  have hl5 : Hid (((seenK (itsG gaps dead 0) snap).1 != 0) = false) := rfl
  go_loopw [14, 41] (fun is i wr => ∃ k : Nat, k ≤ n ∧ i = .int .i64 k ∧ is = .bool ((seenK (itsG gaps dead k) snap).1 != 0) ∧ Hid (WI (w2.heap.size + 1) W0 (seenK (itsG gaps dead k) snap).2 wr)) (fun is i _ => n - (RowKit.intOf i).toNat)
  case atStart => exact ⟨0, Nat.zero_le _, rfl, rfl, HW0.out.2.2.1⟩
  case round =>
    obtain ⟨k, hk, rfl, rfl, hP⟩ := hrel
    obtain ⟨ao, m, cp, hbx, hrd, hbw, hsw⟩ := hP.out
    have hbw1 : Below w1.heap.size w1 wr := (HB2.out.trans (HW0.out.1.mono hs2)).trans (hbw.mono (by omega))
    by_cases hlt : k < n
    · have hG := HG.out.next hbw1
      have hx := hG.cls k hlt
      obtain ⟨g, hg⟩ : ∃ g, al = some ⟨g, 0, none⟩ := by
        obtain ⟨_, ⟨e, e2⟩ | ⟨g', cap', cur, e, _⟩⟩ := hG.row
        · omega
        · cases e; exact ⟨_, rfl⟩
      subst hg
      have hxn : k < xs.length := by rw [hG.len]; exact hlt
      have hrow := hG.row
      rw [← hG.len] at hrow
      obtain ⟨r0, r1, r2, r3, r4, r5⟩ := row_cells hrow hxn
      obtain ⟨hrx, _⟩ := hG.wrd _ (nthS_mem hxn)
      have hrb := fun b hb => ((HG.out.wrd _ (nthS_mem hxn)).2 b hb).1
      rw [hx] at r0 r1 r2 r3 r4 hrx
      obtain ⟨ax, cx, hxv⟩ := hrx.shape
      rw [hxv] at r5 hrx hrb
      have i1 : (k : Int) < n := by omega
      have hsk := seenG_succ gaps dead k snap
      obtain ⟨cz, hcz⟩ : ∃ cz, cellG gaps dead k = cz := ⟨_, rfl⟩
      rw [hcz] at r0 r1 r2 r3 r4 r5 hrx hrb hsk hx
      have HRB := Lib.hid hrb
      clear hrb
      have hw2 : w2.heap.size + 1 < wr.heap.size := (Array.getElem?_eq_some_iff.1 hbx).1
      have hBA : Below wr.heap.size wr (wr.alloc (boxC cz (.slice ax cz.ws.length cx))) := (Below.refl _ wr).alloc (Nat.le_refl _) _
      have hbxA := at_old (o := boxC cz (.slice ax cz.ws.length cx)) hbx
      obtain ⟨y0, y1, y2, y3, y4, y5⟩ := boxC_cells hbx
      have z0 := Joins.unfrozen_of_block hbx 0
      have z1 := Joins.unfrozen_of_block hbx 1
      have z2 := Joins.unfrozen_of_block hbx 2
      have z3 := Joins.unfrozen_of_block hbx 3
      have z4 := Joins.unfrozen_of_block hbx 4
      have z5 := Joins.unfrozen_of_block hbx 5
      have HBXA := Lib.hid hbxA
      have HBX := Lib.hid hbx
      have HBW := Lib.hid hbw
      have HRX0 := Lib.hid hrx
      have HBWA := Lib.hid (hbw.trans (hBA.mono (by omega)))
      have HRX := Lib.hid (hrx.below hBA)
      have HRD := Lib.hid (hrd.below hBA)
      have HSW := Lib.hid hsw
      clear hbx hrd hbw hsw hbw1 hG hx hrow hrx hxn hBA hbxA hP
      by_cases hle : cz.s ≤ snap
      · rw [if_pos hle] at hsk
        have hne : ((seenK (itsG gaps dead (k + 1)) snap).1 != 0) = true := by rw [hsk]; simpa using ptrG_ne (i := k) (by omega)
        have HNE := Lib.hid hne
        have hN : WI (w2.heap.size + 1) W0 (seenK (itsG gaps dead (k + 1)) snap).2 ((set6 wr (w2.heap.size + 1) (.int .i64 cz.t) (.int .i64 cz.r) (.int .i64 cz.s) (.bool cz.d) (.int .i64 cz.p) (.slice ax cz.ws.length cx)).alloc (boxC cz (.slice ax cz.ws.length cx))) := by
          rw [hsk]
          have hz : (set6 wr (w2.heap.size + 1) (.int .i64 cz.t) (.int .i64 cz.r) (.int .i64 cz.s) (.bool cz.d) (.int .i64 cz.p) (.slice ax cz.ws.length cx)).heap.size = wr.heap.size := by simp [set6]
          have hB6 := put6_below wr (w2.heap.size + 1) (.int .i64 cz.t) (.int .i64 cz.r) (.int .i64 cz.s) (.bool cz.d) (.int .i64 cz.p) (.slice ax cz.ws.length cx) HBW.out (Nat.le_refl _)
          refine ⟨ax, _, cx, at_old (put6 _ _ 24 _ _ _ _ _ _ _ _ _ _ _ _ HBX.out), ?_, hB6.alloc (by omega) _, ?_⟩
          · refine (HRX0.out.carry (Nat.le_of_eq hz.symm) (fun k' hk' _ => put6_other _ _ _ _ _ _ _ _ (by have := HRB.out _ hk'; omega))).below ((Below.refl _ _).alloc (Nat.le_refl _) _)
          · have := HSW.out; simp only [World.size_alloc]; omega
        unfold boxC set6 at hN
        have HN := Lib.hid hN
        clear hN
        clear hne hsk
        go_wp2
        go_roundw
        case rel => exact ⟨k + 1, by omega, by go_num, by rw [HNE.out], HN.out⟩
        case measure => simp [RowKit.intOf]; omega
      · rw [if_neg hle] at hsk
        have HN := Lib.hid (show WI (w2.heap.size + 1) W0 (seenK (itsG gaps dead (k + 1)) snap).2 (wr.alloc (boxC cz (.slice ax cz.ws.length cx))) from by
          rw [hsk]
          exact ⟨ao, m, cp, HBXA.out, HRD.out, HBWA.out, by have := HSW.out; simp; omega⟩)
        have HSK := Lib.hid hsk
        clear hsk
        go_wp2
        go_roundw
        case rel => exact ⟨k + 1, by omega, by go_num, by rw [HSK.out], HN.out⟩
        case measure => simp [RowKit.intOf]; omega
    · obtain rfl : k = n := by omega
      obtain ⟨hZ1, hZ2, _, hZ3⟩ := HW0.out
      rw [HQ.out] at hbx hrd ⊢
      have hgot := (hbw.block w2.heap.size (by omega)).trans hZ2
      obtain ⟨y0, y1, y2, y3, y4, y5⟩ := boxC_cells hgot
      obtain ⟨x0, x1, x2, x3, x4, x5⟩ := boxC_cells hbx
      have hc16 := csame_any wr q.2 _ _ (HRA.out.below (hZ1.trans (hbw.mono (by omega)))) hrd
      unfold clV at hc16
      have HC := Lib.hid hc16
      have HBW1 := Lib.hid hbw1
      have hbs := hbw1.size
      clear hgot hbx hrd hbw hsw hbw1 hZ1 hZ2 hZ3 hlt hP hc16
      go_wp2_with fail
      refine HC.out.mono ?_
      rintro e w3 ⟨rfl, hb3⟩
      have HB3 := Lib.hid (HBW1.out.trans (hb3.mono hbs))
      clear hb3 HC x0 x1 x2 x3 x4 x5 y0 y1 y2 y3 y4 y5
      have HA4 := Lib.hid (HAL.out w3 HB3.out)
      go_wp2_with fail
      refine HA4.out.mono ?_
      rintro e w4 ⟨⟨xs2, vl2, va2, hxs, rfl, hrow2, _, hrd2⟩, hb4⟩
      obtain ⟨a2, cl2, hvl2⟩ := owns_shape hrow2
      subst hvl2
      have hl2 : xs2.length = k := by have := congrArg List.length hxs; simpa [itsG_length] using this
      have HB4 := Lib.hid (HB3.out.trans (hb4.mono HB3.out.size))
      have HR2 := Lib.hid hrow2
      have HD2 := Lib.hid hrd2
      have HXS := Lib.hid hxs
      clear hb4 hrow2 hrd2 hxs HA4
      simp only [hl2]
      go_wp2
      go_loopw [83] (fun i wr' => ∃ m : Nat, m ≤ k ∧ i = .int .i64 m ∧ Hid (Below w4.heap.size w4 wr')) (fun i _ => k - (RowKit.intOf i).toNat)
      case atStart => exact ⟨0, Nat.zero_le _, rfl, Lib.hid (Below.refl _ _)⟩
      case round =>
        obtain ⟨m, hm, rfl, hB5⟩ := hrel
        by_cases hlt : m < k
        · have hG := HG.out.next (HB4.out.trans (hB5.out.mono HB4.out.size))
          obtain ⟨g, hg⟩ : ∃ g, al = some ⟨g, 0, none⟩ := by
            obtain ⟨_, ⟨e, e2⟩ | ⟨g', cap', cur, e, _⟩⟩ := hG.row
            · omega
            · cases e; exact ⟨_, rfl⟩
          subst hg
          have hr2 := row_carry HR2.out (fun b hb => hB5.out.block b (HR2.out.lt b hb).2)
          obtain ⟨g2, hg2⟩ : ∃ g, a2 = some ⟨g, 0, none⟩ := by
            obtain ⟨_, ⟨e, e2⟩ | ⟨g', cap', cur, e, _⟩⟩ := hr2
            · omega
            · cases e; exact ⟨_, rfl⟩
          subst hg2
          obtain ⟨mj, hmj⟩ : ∃ mj, k - 1 - m = mj := ⟨_, rfl⟩
          have hmk : mj < k := by omega
          have hrow := hG.row
          rw [← hG.len] at hrow
          obtain ⟨r0, r1, r2, r3, r4, r5⟩ := row_cells hrow (j := mj) (by rw [hG.len]; exact hmk)
          obtain ⟨t0, t1, t2, t3, t4, t5⟩ := row_cells hr2 (j := m) (by omega)
          have hcl : (nthS xs2 m).cl = cellG gaps dead mj := by
            have h1 : (xs2.map keyS)[m]? = some (keyS (nthS xs2 m)) := by rw [List.getElem?_map, nthS_at (by omega)]; rfl
            rw [HXS.out, List.getElem?_map, itsG_at gaps dead k m hlt, hmj] at h1
            exact (congrArg Prod.snd (Option.some.inj h1)).symm
          have hcj := hG.cls mj hmk
          have hd1 := (hG.wrd _ (nthS_mem (k := mj) (by rw [hG.len]; exact hmk))).1
          have hd2 := (HD2.out _ (nthS_mem (k := m) (by omega))).below hB5.out
          rw [hcl] at t0 t1 t2 t3 t4 hd2
          rw [hcj] at r0 r1 r2 r3 r4 hd1
          obtain ⟨cc, hcc⟩ : ∃ cc, cellG gaps dead mj = cc := ⟨_, rfl⟩
          rw [hcc] at t0 t1 t2 t3 t4 hd2 r0 r1 r2 r3 r4 hd1
          obtain ⟨u1, c1, hv1⟩ := hd1.shape
          obtain ⟨u2, c2, hv2⟩ := hd2.shape
          rw [hv1] at r5 hd1
          rw [hv2] at t5 hd2
          have HK := Lib.hid (fun (W : World) (hW : Below wr.heap.size wr W) => (show Below wr.heap.size wr W ∧ W.cell? ⟨g2, m * 6, none⟩ = some (.int .i64 cc.t) ∧ W.cell? ⟨g2, m * 6 + 1, none⟩ = some (.int .i64 cc.r) ∧ W.cell? ⟨g2, m * 6 + 2, none⟩ = some (.int .i64 cc.s) ∧ W.cell? ⟨g2, m * 6 + 3, none⟩ = some (.bool cc.d) ∧ W.cell? ⟨g2, m * 6 + 4, none⟩ = some (.int .i64 cc.p) ∧ W.cell? ⟨g2, m * 6 + 5, none⟩ = some (.slice u2 cc.ws.length c2) ∧ W.cell? ⟨g, mj * 6, none⟩ = some (.int .i64 cc.t) ∧ W.cell? ⟨g, mj * 6 + 1, none⟩ = some (.int .i64 cc.r) ∧ W.cell? ⟨g, mj * 6 + 2, none⟩ = some (.int .i64 cc.s) ∧ W.cell? ⟨g, mj * 6 + 3, none⟩ = some (.bool cc.d) ∧ W.cell? ⟨g, mj * 6 + 4, none⟩ = some (.int .i64 cc.p) ∧ W.cell? ⟨g, mj * 6 + 5, none⟩ = some (.slice u1 cc.ws.length c1) from
            ⟨hW, (cell_keep hW t0), (cell_keep hW t1), (cell_keep hW t2), (cell_keep hW t3), (cell_keep hW t4), (cell_keep hW t5), (cell_keep hW r0), (cell_keep hW r1), (cell_keep hW r2), (cell_keep hW r3), (cell_keep hW r4), (cell_keep hW r5)⟩))
          have C16 := Lib.hid (fun (W : World) (hW : Below wr.heap.size wr W) => (show Calls Tryd.prog 16 #[.agg #[.int .i64 cc.t, .int .i64 cc.r, .int .i64 cc.s, .bool cc.d, .int .i64 cc.p, .slice u2 cc.ws.length c2], .agg #[.int .i64 cc.t, .int .i64 cc.r, .int .i64 cc.s, .bool cc.d, .int .i64 cc.p, .slice u1 cc.ws.length c1]] W fun e W' => e = .returned (.bool true) ∧ Below wr.heap.size wr W' from
            (csame_any W cc _ _ (hd2.below hW) (hd1.below hW)).mono fun e W' ⟨he, hb⟩ => ⟨he, below_next hW hb⟩))
          have hb5 : Below wr.heap.size wr wr.drew := (Below.refl _ _).drew
          have i1 : (m : Int) < k := by omega
          have i2 : (mj : Int) < k := by omega
          have g1 : IntKind.i64.wrap ((k : Int) - 1) = (k : Int) - 1 := by simp [IntKind.wrap, IntKind.bits, IntKind.signed]; omega
          have g2' : IntKind.i64.wrap ((k : Int) - 1 - m) = (mj : Int) := by simp [IntKind.wrap, IntKind.bits, IntKind.signed]; omega
          have HB5 := Lib.hid hB5.out
          clear hG hrow hr2 r0 r1 r2 r3 r4 r5 t0 t1 t2 t3 t4 t5 hd1 hd2 hv1 hv2 hcl hcj hcc hB5
          go_wp2
          -- REGION BEGIN
          refine wp_region_G (fun W => Below wr.heap.size wr W ∧ W.cell? ⟨g2, m * 6, none⟩ = some (.int .i64 cc.t) ∧ W.cell? ⟨g2, m * 6 + 1, none⟩ = some (.int .i64 cc.r) ∧ W.cell? ⟨g2, m * 6 + 2, none⟩ = some (.int .i64 cc.s) ∧ W.cell? ⟨g2, m * 6 + 3, none⟩ = some (.bool cc.d) ∧ W.cell? ⟨g2, m * 6 + 4, none⟩ = some (.int .i64 cc.p) ∧ W.cell? ⟨g2, m * 6 + 5, none⟩ = some (.slice u2 cc.ws.length c2) ∧ W.cell? ⟨g, mj * 6, none⟩ = some (.int .i64 cc.t) ∧ W.cell? ⟨g, mj * 6 + 1, none⟩ = some (.int .i64 cc.r) ∧ W.cell? ⟨g, mj * 6 + 2, none⟩ = some (.int .i64 cc.s) ∧ W.cell? ⟨g, mj * 6 + 3, none⟩ = some (.bool cc.d) ∧ W.cell? ⟨g, mj * 6 + 4, none⟩ = some (.int .i64 cc.p) ∧ W.cell? ⟨g, mj * 6 + 5, none⟩ = some (.slice u1 cc.ws.length c1)) [] (by kernel_rfl) (HK.out _ hb5) (fun hHeld => ?_)
          refine wpAnyD_take (i := 0) (oi := { dst := some 86, op := Op.move (Operand.tmp 17), type := 42, pos := "law.go:225", after := #[], guard := none }) (v := ?_) [] rfl (by kernel_rfl) (by kernel_rfl) (by kernel_rfl) (by kernel_rfl) (fun _ _ _ h => h) (Or.inl ⟨by rfl, ?_⟩) (by assumption) ?_
          rotate_left
          · intro w hSw; (try dsimp only at hSw); obtain ⟨_, s0, s1, s2, s3, s4, s5, s6, s7, s8, s9, s10, s11⟩ := hSw; go_simp; try with_reducible rfl
          try simp only [Act.put, List.setIfInBounds_toArray, List.set_cons_zero, List.set_cons_succ]
          refine wpAnyD_take (i := 1) (oi := { dst := some 87, op := Op.move (Operand.tmp 20), type := 3, pos := "law.go:225", after := #[], guard := none }) (v := ?_) [] rfl (by kernel_rfl) (by kernel_rfl) (by kernel_rfl) (by kernel_rfl) (fun _ _ _ h => h) (Or.inl ⟨by rfl, ?_⟩) (by assumption) ?_
          rotate_left
          · intro w hSw; (try dsimp only at hSw); obtain ⟨_, s0, s1, s2, s3, s4, s5, s6, s7, s8, s9, s10, s11⟩ := hSw; go_simp; try with_reducible rfl
          try simp only [Act.put, List.setIfInBounds_toArray, List.set_cons_zero, List.set_cons_succ]
          refine wpAnyD_take (i := 2) (oi := { dst := some 88, op := Op.indexAddr 42 (Operand.tmp 86) (Operand.tmp 87), type := 0, pos := "law.go:225", after := #[{ on := 0, ground := Ground.data }, { on := 1, ground := Ground.data }], guard := none }) (v := ?_) [] rfl (by kernel_rfl) (by kernel_rfl) (by kernel_rfl) (by kernel_rfl) (fun _ _ _ h => h) (Or.inl ⟨by rfl, ?_⟩) (by assumption) ?_
          rotate_left
          · intro w hSw; (try dsimp only at hSw); obtain ⟨_, s0, s1, s2, s3, s4, s5, s6, s7, s8, s9, s10, s11⟩ := hSw; go_simp; try with_reducible rfl
          try simp only [Act.put, List.setIfInBounds_toArray, List.set_cons_zero, List.set_cons_succ]
          refine wpAnyD_take (i := 3) (oi := { dst := some 89, op := Op.load 24 (Operand.tmp 88), type := 24, pos := "law.go:225", after := #[{ on := 2, ground := Ground.data }], guard := none }) (v := ?_) [] rfl (by kernel_rfl) (by kernel_rfl) (by kernel_rfl) (by kernel_rfl) (fun _ _ _ h => h) (Or.inl ⟨by rfl, ?_⟩) (by assumption) ?_
          rotate_left
          · intro w hSw; (try dsimp only at hSw); obtain ⟨_, s0, s1, s2, s3, s4, s5, s6, s7, s8, s9, s10, s11⟩ := hSw; go_simp; try with_reducible rfl
          try simp only [Act.put, List.setIfInBounds_toArray, List.set_cons_zero, List.set_cons_succ]
          refine wpAnyD_take (i := 4) (oi := { dst := some 90, op := Op.move (Operand.tmp 9), type := 42, pos := "law.go:225", after := #[], guard := none }) (v := ?_) [] rfl (by kernel_rfl) (by kernel_rfl) (by kernel_rfl) (by kernel_rfl) (fun _ _ _ h => h) (Or.inl ⟨by rfl, ?_⟩) (by assumption) ?_
          rotate_left
          · intro w hSw; (try dsimp only at hSw); obtain ⟨_, s0, s1, s2, s3, s4, s5, s6, s7, s8, s9, s10, s11⟩ := hSw; go_simp; try with_reducible rfl
          try simp only [Act.put, List.setIfInBounds_toArray, List.set_cons_zero, List.set_cons_succ]
          refine wpAnyD_take (i := 5) (oi := { dst := some 91, op := Op.move (Operand.tmp 9), type := 42, pos := "law.go:225", after := #[], guard := none }) (v := ?_) [] rfl (by kernel_rfl) (by kernel_rfl) (by kernel_rfl) (by kernel_rfl) (fun _ _ _ h => h) (Or.inl ⟨by rfl, ?_⟩) (by assumption) ?_
          rotate_left
          · intro w hSw; (try dsimp only at hSw); obtain ⟨_, s0, s1, s2, s3, s4, s5, s6, s7, s8, s9, s10, s11⟩ := hSw; go_simp; try with_reducible rfl
          try simp only [Act.put, List.setIfInBounds_toArray, List.set_cons_zero, List.set_cons_succ]
          refine wpAnyD_take (i := 6) (oi := { dst := some 92, op := Op.call { callee := Callee.builtin Builtin.len, args := #[Operand.tmp 91], argTypes := #[42] }, type := 3, pos := "law.go:225", after := #[{ on := 5, ground := Ground.data }], guard := none }) (v := ?_) [] rfl (by kernel_rfl) (by kernel_rfl) (by kernel_rfl) (by kernel_rfl) (fun _ _ _ h => h) (Or.inl ⟨by rfl, ?_⟩) (by assumption) ?_
          rotate_left
          · intro w hSw; (try dsimp only at hSw); obtain ⟨_, s0, s1, s2, s3, s4, s5, s6, s7, s8, s9, s10, s11⟩ := hSw; go_simp; try with_reducible rfl
          try simp only [Act.put, List.setIfInBounds_toArray, List.set_cons_zero, List.set_cons_succ]
          refine wpAnyD_take (i := 7) (oi := { dst := some 93, op := Op.binOp BinOp.sub 3 (Operand.tmp 92) (Operand.const (Value.int IntKind.i64 1)) 3, type := 3, pos := "law.go:225", after := #[{ on := 6, ground := Ground.data }], guard := none }) (v := ?_) [] rfl (by kernel_rfl) (by kernel_rfl) (by kernel_rfl) (by kernel_rfl) (fun _ _ _ h => h) (Or.inl ⟨by rfl, ?_⟩) (by assumption) ?_
          rotate_left
          · intro w hSw; (try dsimp only at hSw); obtain ⟨_, s0, s1, s2, s3, s4, s5, s6, s7, s8, s9, s10, s11⟩ := hSw; go_simp; try with_reducible rfl
          try simp only [Act.put, List.setIfInBounds_toArray, List.set_cons_zero, List.set_cons_succ]
          refine wpAnyD_take (i := 8) (oi := { dst := some 94, op := Op.move (Operand.tmp 20), type := 3, pos := "law.go:225", after := #[], guard := none }) (v := ?_) [] rfl (by kernel_rfl) (by kernel_rfl) (by kernel_rfl) (by kernel_rfl) (fun _ _ _ h => h) (Or.inl ⟨by rfl, ?_⟩) (by assumption) ?_
          rotate_left
          · intro w hSw; (try dsimp only at hSw); obtain ⟨_, s0, s1, s2, s3, s4, s5, s6, s7, s8, s9, s10, s11⟩ := hSw; go_simp; try with_reducible rfl
          try simp only [Act.put, List.setIfInBounds_toArray, List.set_cons_zero, List.set_cons_succ]
          refine wpAnyD_take (i := 9) (oi := { dst := some 95, op := Op.binOp BinOp.sub 3 (Operand.tmp 93) (Operand.tmp 94) 3, type := 3, pos := "law.go:225", after := #[{ on := 7, ground := Ground.data }, { on := 8, ground := Ground.data }], guard := none }) (v := ?_) [] rfl (by kernel_rfl) (by kernel_rfl) (by kernel_rfl) (by kernel_rfl) (fun _ _ _ h => h) (Or.inl ⟨by rfl, ?_⟩) (by assumption) ?_
          rotate_left
          · intro w hSw; (try dsimp only at hSw); obtain ⟨_, s0, s1, s2, s3, s4, s5, s6, s7, s8, s9, s10, s11⟩ := hSw; go_simp; try with_reducible rfl
          try simp only [Act.put, List.setIfInBounds_toArray, List.set_cons_zero, List.set_cons_succ]
          refine wpAnyD_take (i := 10) (oi := { dst := some 96, op := Op.indexAddr 42 (Operand.tmp 90) (Operand.tmp 95), type := 0, pos := "law.go:225", after := #[{ on := 4, ground := Ground.data }, { on := 9, ground := Ground.data }], guard := none }) (v := ?_) [] rfl (by kernel_rfl) (by kernel_rfl) (by kernel_rfl) (by kernel_rfl) (fun _ _ _ h => h) (Or.inl ⟨by rfl, ?_⟩) (by assumption) ?_
          rotate_left
          · intro w hSw; (try dsimp only at hSw); obtain ⟨_, s0, s1, s2, s3, s4, s5, s6, s7, s8, s9, s10, s11⟩ := hSw; go_simp; try with_reducible rfl
          try simp only [Act.put, List.setIfInBounds_toArray, List.set_cons_zero, List.set_cons_succ]
          refine wpAnyD_take (i := 11) (oi := { dst := some 97, op := Op.load 24 (Operand.tmp 96), type := 24, pos := "law.go:225", after := #[{ on := 10, ground := Ground.data }], guard := none }) (v := ?_) [] rfl (by kernel_rfl) (by kernel_rfl) (by kernel_rfl) (by kernel_rfl) (fun _ _ _ h => h) (Or.inl ⟨by rfl, ?_⟩) (by assumption) ?_
          rotate_left
          · intro w hSw; (try dsimp only at hSw); obtain ⟨_, s0, s1, s2, s3, s4, s5, s6, s7, s8, s9, s10, s11⟩ := hSw; go_simp; try with_reducible rfl
          try simp only [Act.put, List.setIfInBounds_toArray, List.set_cons_zero, List.set_cons_succ]
          refine wpAnyD_ready [12] (by kernel_rfl) (by simp) ?_
          refine AllReadyD.cons (o := { dst := some 98, op := Op.call { callee := Callee.value (Operand.func 16), args := #[Operand.tmp 89, Operand.tmp 97], argTypes := #[24, 24] }, type := 4, pos := "law.go:225", after := #[{ on := 3, ground := Ground.data }, { on := 11, ground := Ground.data }], guard := none }) rfl (fun K hK => ?_) AllReadyD.nil
          go_simp
          refine (C16.out _ hb5).mono ?_
          rintro e W1 ⟨rfl, hbw1⟩
          refine hK.out _ _ (fun _ => HK.out _ hbw1) ?_
          clear hK K hHeld
          have hHeld := HK.out _ hbw1
          try simp only [Act.put, List.setIfInBounds_toArray, List.set_cons_zero, List.set_cons_succ]
          refine wpAnyD_take (i := 13) (oi := { dst := some 99, op := Op.unOp UnOp.not 4 (Operand.tmp 98), type := 4, pos := "law.go:225", after := #[{ on := 12, ground := Ground.data }], guard := none }) (v := ?_) [] rfl (by kernel_rfl) (by kernel_rfl) (by kernel_rfl) (by kernel_rfl) (fun _ _ _ h => h) (Or.inl ⟨by rfl, ?_⟩) (by assumption) ?_
          rotate_left
          · intro w hSw; (try dsimp only at hSw); obtain ⟨_, s0, s1, s2, s3, s4, s5, s6, s7, s8, s9, s10, s11⟩ := hSw; go_simp; try with_reducible rfl
          try simp only [Act.put, List.setIfInBounds_toArray, List.set_cons_zero, List.set_cons_succ]
          refine wpAnyD_done (by kernel_rfl) ?_ _
          -- REGION END
          go_wp2
          go_roundw
          case rel => exact ⟨m + 1, by omega, by go_num, Lib.hid (HB5.out.trans (hbw1.mono HB5.out.size))⟩
          case measure => simp [RowKit.intOf]; omega
        · obtain rfl : m = k := by omega
          have hE := HB4.out.trans (hB5.out.mono HB4.out.size)
          have HS := Lib.hid (csanity_any wr (HT1.out.below hE))
          have HE := Lib.hid (HG.out.below.trans (hE.mono HG.out.below.size))
          clear hE hB5
          go_wp2_with fail
          refine HS.out.mono ?_
          rintro e w6 ⟨rfl, hb6⟩
          have HF := Lib.hid (below_next HE.out hb6)
          clear hb6 HE
          go_wp2
          go_ret
          exact ⟨rfl, HF.out⟩

end Go.Proofs.YtcngblnkfiggjaaDoor.Rm
