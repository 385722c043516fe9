/- Contract of Write of package chain, where the block is there and fits. -/
import Derived.Test.YtcngblnkfiggjaaDoorChF
namespace Go.Proofs.YtcngblnkfiggjaaDoor.Rm
open Go Go.RowKit Go.Maps
attribute [local go_sem ↓] Go.wp_at_zero Go.wp_at_succ

theorem enc_words {c : Cl} (h : c.right = true) : ∀ j, j < c.enc.length → wordB (nthI c.enc j) = true := by
  obtain ⟨h1, h2, h3, h4, h5, h6, h7⟩ := rightC_t h
  obtain ⟨f1, f2, f3, f4, f5, f6⟩ := first_rng h
  have ha : c.enc.all wordB = true := by
    unfold Cl.enc
    rw [List.all_append, h7]
    simp only [List.all_cons, List.all_nil]
    rw [wordB_of ⟨f1, f2⟩, wordB_of (show 0 ≤ c.r ∧ c.r ≤ 1099511627775 by omega), wordB_of (show 0 ≤ c.s ∧ c.s ≤ 1099511627775 by omega), rightB_word h4]
    rfl
  exact fun j hj => all_at ha hj

set_option maxHeartbeats 4000000 in
set_option maxRecDepth 100000 in
theorem write_any (w : World) (Bv Bm n : Nat) (M : Int → Int) (F : Nat → Prop) (c : Nat) (h : CV w Bv Bm n M F c) (hc : c < 80000) (T : Tabs w) (p : Int) (k nl : Nat) (hb : Blk M n p k nl) (hnl : nl = 1 ∨ nl = 2) (hkn : k + nl ≤ n) (cl : Cl) (v : Value) (hv : Rd w v cl.ws) (hr : cl.right = true) (hfit : 5 + cl.ws.length ≤ 8 * nl) :
    Calls Tryd.prog 33 #[.pointer (some ⟨Bv, 0, none⟩), .int .i64 p, clV cl v] w fun e w' => e = .returned (.int .i64 0) ∧ ∃ F', CV w' Bv Bm n (wrt M (8 * k + 1) cl.enc) F' (c + 2 * cl.enc.length + nl) ∧ Moves F F' w w' := by
  have hn : n ≤ 1000 := h.mem.bounds.2
  have HLEN := Lib.hid (enc_length cl)
  have hws : cl.ws.length ≤ 11 := by rcases hnl with rfl | rfl <;> omega
  have hBv := h.lt
  have HCV := Lib.hid h
  have HF := Lib.hid (show ∀ b, F b → b < w.heap.size from fun b hb => h.mem.lt hb)
  have HB0 := Lib.hid (show Below w.heap.size w (w.alloc (boxC cl v)) from (Below.refl _ _).alloc (Nat.le_refl _) _)
  have HE := Lib.hid (encode_yes cl v (w.alloc (boxC cl v)) (T.below HB0.out) (hv.below HB0.out) hr)
  have HL := Lib.hid (show ∀ W, Below w.heap.size w W → Calls Tryd.prog 60 #[.pointer (some ⟨Bv, 0, none⟩), .int .i64 p] W fun e w' => e = .returned (.tuple #[.int .i64 nl, .int .i64 0]) ∧ Below W.heap.size W w' from fun W hW =>
    clines_any W Bv Bm n M F c (h.below hW) (by omega) (T.below hW) p k nl hb)
  have HP := Lib.hid (show ∀ W, Below w.heap.size w W → Calls Tryd.prog 61 #[.int .i64 p] W fun e w' => e = .returned (.int .i64 (k : Int)) ∧ Below W.heap.size W w' from fun W hW => by
    have := line_any p W (T.below hW)
    rw [hb.line] at this; exact this)
  have HM := Lib.hid (show ∀ W, Below w.heap.size w W → CV W Bv Bm n M F c from fun W hW => h.below hW)
  obtain ⟨ao, cap, rfl⟩ := hv.shape
  have HC := Lib.hid (show ∀ W, Below (w.alloc (boxC cl (.slice ao cl.ws.length cap))).heap.size (w.alloc (boxC cl (.slice ao cl.ws.length cap))) W → W.cell? ⟨w.heap.size, 0, none⟩ = some (.int .i64 cl.t) ∧ W.cell? ⟨w.heap.size, 1, none⟩ = some (.int .i64 cl.r) ∧ W.cell? ⟨w.heap.size, 2, none⟩ = some (.int .i64 cl.s) ∧ W.cell? ⟨w.heap.size, 3, none⟩ = some (.bool cl.d) ∧ W.cell? ⟨w.heap.size, 4, none⟩ = some (.int .i64 cl.p) ∧ W.cell? ⟨w.heap.size, 5, none⟩ = some (.slice ao cl.ws.length cap) from fun W hW =>
    boxC_cells ((hW.block w.heap.size (by simp)).trans (heap_alloc_new _ _)))
  have HWD := Lib.hid (enc_words hr)
  clear h T hb hv hr
  unfold boxC at HB0 HE HC
  unfold clV at HE
  unfold clV
  go_enter Tryd.func33, Tryd.ntmps33
  go_wp2_with fail
  refine HE.out.mono ?_
  rintro e w1 ⟨⟨u, rfl, ho1⟩, hb1⟩
  obtain ⟨au, cu, hsh⟩ := owns_shape ho1
  subst hsh
  have HO := Lib.hid ho1
  have HX1 := Lib.hid hb1
  clear ho1 hb1
  go_wp2_with fail
  refine (HL.out w1 (below_next HB0.out HX1.out)).mono ?_
  rintro e w2 ⟨rfl, hb2⟩
  have HX2 := Lib.hid (below_next HX1.out hb2)
  have HO2 := Lib.hid (show OwnZ w2 w.heap.size (.slice au cl.enc.length cu) cl.enc from row_carry (show w1.ownsRow w.heap.size 3 1 _ _ _ from by
    obtain ⟨x1, x2⟩ := HO.out
    refine ⟨x1, ?_⟩
    rcases x2 with x2 | ⟨g, cp, cur, y1, y2, y3⟩
    · exact Or.inl x2
    · exact Or.inr ⟨g, cp, cur, y1, by simp at y2; omega, y3⟩) (fun b hb => hb2.block b (World.ownsRow.lt HO.out b hb).2))
  have hc2 := (HM.out w2 (below_next HB0.out HX2.out)).blk
  have m0 : w2.cell? ⟨Bv, 0, none⟩ = some (.pointer (some ⟨Bm, 0, none⟩)) := cell_blk hc2 rfl
  clear hb2 hc2
  go_wp2_with fail
  refine (baseM_any _ _ _ rfl).mono ?_
  rintro e w3 ⟨rfl, hb3⟩
  have HX3 := Lib.hid (below_next HX2.out hb3)
  have HO3 := Lib.hid (show OwnZ w3 w.heap.size (.slice au cl.enc.length cu) cl.enc from row_carry HO2.out (fun b hb => hb3.block b (World.ownsRow.lt HO2.out b hb).2))
  clear hb3 m0
  go_wp2_with fail
  refine (HP.out w3 (below_next HB0.out HX3.out)).mono ?_
  rintro e w4 ⟨rfl, hb4⟩
  have HX4 := Lib.hid (below_next HX3.out hb4)
  have HO4 := Lib.hid (show OwnZ w4 w.heap.size (.slice au cl.enc.length cu) cl.enc from row_carry HO3.out (fun b hb => hb4.block b (World.ownsRow.lt HO3.out b hb).2))
  obtain ⟨s0, s1, s2, s3, s4, s5⟩ := HC.out w4 HX4.out
  have hlw4 : w.heap.size < w4.heap.size := by have := HX4.out.size; simp at this; omega
  have HO5 := Lib.hid (show OwnZ (w4.alloc (.cells #[.pointer (some ⟨Bm, 0, none⟩)] 59)) w.heap.size (.slice au cl.enc.length cu) cl.enc from World.ownsRow.alloc HO4.out _)
  have HB5 := Lib.hid (show Below w.heap.size w (w4.alloc (.cells #[.pointer (some ⟨Bm, 0, none⟩)] 59)) from (below_next HB0.out HX4.out).alloc (below_next HB0.out HX4.out).size _)
  have HBX := Lib.hid (show ∀ W, Below (w4.alloc (.cells #[.pointer (some ⟨Bm, 0, none⟩)] 59)).heap.size (w4.alloc (.cells #[.pointer (some ⟨Bm, 0, none⟩)] 59)) W → W.cell? ⟨w4.heap.size, 0, none⟩ = some (.pointer (some ⟨Bm, 0, none⟩)) ∧ w4.heap.size < W.heap.size from fun W hW =>
    ⟨cell_blk ((hW.block w4.heap.size (by simp)).trans (heap_alloc_new _ _)) rfl, Nat.lt_of_lt_of_le (by simp) hW.size⟩)
  have i1 : (5 : Int) + cl.ws.length ≤ 8 * nl := by omega
  have i2 : (k : Int) + nl ≤ n := by omega
  clear hb4
  go_wp2_with fail
  refine (size_any _ _ _ _ _ _ _ _ _ (by omega)).mono ?_
  rintro e w6 ⟨rfl, hb6⟩
  obtain ⟨x6, x6'⟩ := HBX.out w6 hb6
  have HX6 := Lib.hid hb6
  have HB6 := Lib.hid (below_next HB5.out hb6)
  clear s0 s1 s2 s3 s4 s5 hb6
  go_wp2_with fail
  refine (mlines_any w6 Bm n M F c (HM.out w6 HB6.out).mem).mono ?_
  rintro e w6a ⟨rfl, hw6⟩
  subst hw6
  go_wp2_with fail
  refine (span_any w6 k nl (by omega) hnl).mono ?_
  rintro e w7 ⟨⟨v7, rfl, hr7, hn7⟩, hb7⟩
  have HX7 := Lib.hid (below_next HX6.out hb7)
  have HB7 := Lib.hid (below_next HB6.out hb7)
  obtain ⟨x7, x7'⟩ := HBX.out w7 HX7.out
  have H40 := Lib.hid (contains64 w7 Bm n M F c (HM.out w7 HB7.out).mem w4.heap.size x7 x7' k nl hkn (by omega) v7 hr7)
  obtain ⟨a7, c7, hs7⟩ := hr7.shape
  subst hs7
  clear x6 x6' hb7 hr7 hn7
  go_wp2_with fail
  refine H40.out.mono ?_
  rintro e w8 ⟨rfl, hb8⟩
  have HX8 := Lib.hid (below_next HX7.out hb8)
  have HB8 := Lib.hid (below_next HB7.out hb8)
  obtain ⟨x8, x8'⟩ := HBX.out w8 HX8.out
  have HO8 := Lib.hid (show OwnZ w8 w.heap.size (.slice au cl.enc.length cu) cl.enc from row_carry HO5.out (fun b hb => HX8.out.block b (World.ownsRow.lt HO5.out b hb).2))
  have hfl := fill_any w8 Bm n M F c (HM.out w8 HB8.out).mem (8 * k + 1) cl.enc (.slice au cl.enc.length cu) (OwnZ.rd HO8.out) (fun b hb hF => by have h1 := HF.out b hF; have h2 := (World.ownsRow.lt HO8.out b hb).1; omega) (by have := HLEN.out; omega) (by have := HLEN.out; omega) HWD.out
  rw [show ((8 * k + 1 : Nat) : Int) = 8 * (k : Int) + 1 by omega] at hfl
  have HFL := Lib.hid hfl
  clear x7 x7' hb8 hfl
  go_wp2_with fail
  refine HFL.out.mono ?_
  rintro e w9 ⟨⟨u9, rfl⟩, F1, hm9, hv9⟩
  have hBxF : ¬ F w4.heap.size := fun hF => by have h1 := HF.out _ hF; omega
  have hBxF1 : ¬ F1 w4.heap.size := fun hF => by
    rcases hv9.sub _ hF with h1 | h1
    · exact hBxF h1
    · omega
  have x9 : w9.cell? ⟨w4.heap.size, 0, none⟩ = some (.pointer (some ⟨Bm, 0, none⟩)) := (hv9.cell (p := ⟨w4.heap.size, 0, none⟩) x8' hBxF).trans x8
  have x9' : w4.heap.size < w9.heap.size := Nat.lt_of_lt_of_le x8' hv9.size
  have HM9 := Lib.hid hm9
  have HV9 := Lib.hid ((Moves.of_below HB8.out).trans hv9)
  clear x8 x8' hm9 hv9
  go_wp2_with fail
  refine (span_any w9 k nl (by omega) hnl).mono ?_
  rintro e w10 ⟨⟨v10, rfl, hr10, hn10⟩, hb10⟩
  have HV10 := Lib.hid (HV9.out.trans (Moves.of_below hb10))
  have HM10 := Lib.hid (HM9.out.below hb10)
  have x10 : w10.cell? ⟨w4.heap.size, 0, none⟩ = some (.pointer (some ⟨Bm, 0, none⟩)) := (hb10.cell (p := ⟨w4.heap.size, 0, none⟩) x9').trans x9
  have x10' : w4.heap.size < w10.heap.size := Nat.lt_of_lt_of_le x9' hb10.size
  have hnF : ∀ b, v10.ownBlock = some b → ¬ F1 b := fun b hb hF => by have h1 := hn10 b hb; have h2 := HM9.out.lt hF; omega
  rcases hr10 with ⟨a10, c10, e10, e10'⟩ | ⟨b10, off10, cap10, e10, hp10, hc10, hm10, hbl10, he10⟩
  · exfalso
    have := congrArg List.length e10'
    rw [spanL_length] at this
    simp at this; omega
  rw [spanL_length] at e10
  subst e10
  have hnF1 := hnF b10 rfl
  have HR := Lib.hid (show ∀ (W : World) (F' : Nat → Prop), Moves F1 F' w10 W → (∀ j, j < nl → W.cell? ⟨b10, off10 + j, none⟩ = some (.int .i64 ((k + j : Nat) : Int))) ∧ W.cell? ⟨w4.heap.size, 0, none⟩ = some (.pointer (some ⟨Bm, 0, none⟩)) from fun W F' hm =>
    ⟨fun j hj => by rw [hm.cell (p := ⟨b10, off10 + j, none⟩) hbl10 hnF1, he10 j (by rw [spanL_length]; exact hj), spanL_at k nl j hj], (hm.cell (p := ⟨w4.heap.size, 0, none⟩) x10' hBxF1).trans x10⟩)
  unfold maxLen at hm10
  rw [spanL_length] at hc10
  clear x9 x9' x10 hb10 hn10 hnF he10 hp10
  go_wp2
  go_loopw [67] (fun i wr => ∃ q : Nat, q ≤ nl ∧ i = .int .i64 q ∧ Hid (∃ F', MO wr Bm n (wrt M (8 * k + 1) cl.enc) F' (c + 2 * cl.enc.length + q) ∧ Moves F1 F' w10 wr)) (fun i _ => nl - (RowKit.intOf i).toNat)
  case atStart => exact ⟨0, Nat.zero_le _, rfl, F1, HM10.out, Moves.refl _ _⟩
  case round =>
    obtain ⟨q, hq, rfl, hP⟩ := hrel
    by_cases hlt : q < nl
    · obtain ⟨F', hm, hv⟩ := hP.out
      obtain ⟨g1, g2⟩ := HR.out _ F' hv
      have g3 := g1 q hlt
      have HST := Lib.hid (flush_any _ Bm n _ F' _ hm (by have := HLEN.out; omega) (k + q) (by omega))
      have HV := Lib.hid hv
      have j1 : (q : Int) < nl := by omega
      clear hm hv hP g1
      go_wp2_with fail
      refine HST.out.mono ?_
      rintro e w2 ⟨rfl, F2, hm2, hv2⟩
      have hP2 : Hid (∃ F', MO w2 Bm n (wrt M (8 * k + 1) cl.enc) F' (c + 2 * cl.enc.length + (q + 1)) ∧ Moves F1 F' w10 w2) := ⟨F2, hm2, HV.out.trans hv2⟩
      clear hm2 hv2
      go_wp2
      go_roundw
      case rel => exact ⟨q + 1, by omega, by go_num, hP2⟩
      case measure => simp [RowKit.intOf]; omega
    · obtain rfl : q = nl := by omega
      obtain ⟨F', hm, hv⟩ := hP.out
      have HMF := Lib.hid hm
      have HVF := Lib.hid (HV10.out.trans hv)
      clear hm hv hP
      go_wp2
      go_ret
      exact ⟨rfl, F', HCV.out.moves HMF.out HVF.out, HVF.out⟩

end Go.Proofs.YtcngblnkfiggjaaDoor.Rm
