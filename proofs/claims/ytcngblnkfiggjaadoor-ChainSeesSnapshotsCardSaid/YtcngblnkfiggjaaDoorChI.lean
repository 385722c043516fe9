/- Contract of Read of package chain, where a cell has been written. -/
import Derived.Test.YtcngblnkfiggjaaDoorChH
import Derived.Test.YtcngblnkfiggjaaDoorChF
namespace Go.Proofs.YtcngblnkfiggjaaDoor.Rm
open Go Go.RowKit Go.Maps
attribute [local go_sem ↓] Go.wp_at_zero Go.wp_at_succ

theorem decode_any (w : World) (v : Value) (l : List Int) (T : Tabs w) (h : Rd w v l) (hlen : l.length < 1000000) :
    Calls Tryd.prog 14 #[v] w fun e w' => ((okD l = true ∧ ∃ u, e = .returned (.tuple #[clV (decC l) u, .int .i64 0]) ∧ OwnZ w' w.heap.size u (decC l).ws) ∨ (okD l = false ∧ e = .returned (.tuple #[clV Cl.zero (.slice none 0 0), .int .i64 3]))) ∧ Below w.heap.size w w' := by
  by_cases hl : l.length < 4
  · refine (decode_short w v l h hl).mono fun e w' ⟨he, hb⟩ => ⟨.inr ⟨?_, he⟩, hb⟩
    unfold okD formD
    rw [decide_eq_false (by omega)]; rfl
  · cases hw : (l.take 4).all wordB
    · refine (decode_noword w v l h (by omega) hw).mono fun e w' ⟨he, hb⟩ => ⟨.inr ⟨?_, he⟩, hb⟩
      unfold okD formD
      rw [hw]; simp
    · exact decode_rest w v l T h (by omega) hw hlen
theorem ok_enc {c : Cl} (h : c.right = true) : okD c.enc = true ∧ decC c.enc = c := by
  have := dec_enc h []
  rw [List.append_nil] at this
  refine ⟨?_, this.2⟩
  unfold okD
  rw [this.1, this.2, h]; rfl
/-- The cell cl lies in the block at line k. -/
structure Lies (M : Int → Int) (k nl : Nat) (cl : Cl) : Prop where
  right : cl.right = true
  fit : 5 + cl.ws.length ≤ 8 * nl
  at' : ∀ j, j < cl.enc.length → M (8 * k + 1 + j) = nthI cl.enc j

set_option maxHeartbeats 4000000 in
set_option maxRecDepth 100000 in
theorem read_any (w : World) (Bv Bm n : Nat) (M : Int → Int) (F : Nat → Prop) (c : Nat) (h : CV w Bv Bm n M F c) (hc : c < 100000) (T : Tabs w) (p : Int) (k nl : Nat) (hb : Blk M n p k nl) (hnl : nl = 1 ∨ nl = 2) (hkn : k + nl ≤ n) (cl : Cl) (hL : Lies M k nl cl) :
    Calls Tryd.prog 78 #[.pointer (some ⟨Bv, 0, none⟩), .int .i64 p] w fun e w' => (∃ u, e = .returned (.tuple #[clV cl u, .int .i64 0]) ∧ OwnZ w' w.heap.size u cl.ws) ∧ Below w.heap.size w w' := by
  have hn : n ≤ 1000 := h.mem.bounds.2
  have hws : cl.ws.length ≤ 11 := by rcases hnl with rfl | rfl <;> (have := hL.fit; omega)
  have hfit := hL.fit
  have HLEN := Lib.hid (enc_length cl)
  have hB0 := (Below.refl w.heap.size w).alloc (Nat.le_refl _) zero6
  have HB0 := Lib.hid hB0
  have HL := Lib.hid (clines_any (w.alloc zero6) Bv Bm n M F c (h.below hB0) hc (T.below hB0) p k nl hb)
  have HP := Lib.hid (show ∀ W, Below w.heap.size w W → Calls Tryd.prog 61 #[.int .i64 p] W fun e w' => e = .returned (.int .i64 (k : Int)) ∧ Below W.heap.size W w' from fun W hW => by
    have := line_any p W (T.below hW)
    rw [hb.line] at this; exact this)
  have HV := Lib.hid (show ∀ W, Below w.heap.size w W → ∀ q, q < 4 + cl.ws.length → Calls Tryd.prog 48 #[.pointer (some ⟨Bv, 0, none⟩), .int .i64 (8 * k + (q + 1))] W fun e w' => e = .returned (.tuple #[.int .i64 (nthI cl.enc q), .int .i64 0]) ∧ Below W.heap.size W w' from fun W hW q hq => by
    have := vload_any W Bv Bm n M F c (h.below hW) hc ((8 * k + 1 + q) / 8) ((8 * k + 1 + q) % 8) (by omega) (by omega) (8 * k + (q + 1)) (by omega)
    rw [show (8 : Int) * k + (q + 1) = 8 * k + 1 + q by omega, hL.at' q (by rw [enc_length]; exact hq)] at this
    rw [show (8 : Int) * k + (q + 1) = 8 * k + 1 + q by omega]
    exact this)
  have HT := Lib.hid (show ∀ W, Below w.heap.size w W → Tabs W from fun W hW => T.below hW)
  have hf := first_rng hL.right
  have HFD := Lib.hid (show fieldS cl.first 16 8 = (cl.ws.length : Int) from by
    rw [(form_first ⟨hf.1, hf.2.1⟩).1, hf.2.2.1]; omega)
  have HOK := Lib.hid (ok_enc hL.right)
  have HZ := Lib.hid (show ∀ W, Below (w.alloc zero6).heap.size (w.alloc zero6) W → W.heap[w.heap.size]? = some zero6 from fun W hW => (hW.block w.heap.size (by simp)).trans (heap_alloc_new _ _))
  clear h T hb hL hB0 hf
  go_enter Tryd.func78, Tryd.ntmps78
  go_wp2_with fail
  refine HL.out.mono ?_
  rintro e w1 ⟨rfl, hb1⟩
  have HX1 := Lib.hid hb1
  clear hb1
  go_wp2
  go_loopw [9, 10, 11] (fun l i s wr => ∃ (q : Nat) (al : Option Addr) (ml cp : Nat), q ≤ 4 + cl.ws.length ∧ l = .slice al ml cp ∧ i = .int .i64 ((q : Int) + 1) ∧ s = .int .i64 (if q = 0 then 5 else 5 + (cl.ws.length : Int)) ∧ Hid (OwnZ wr (w.alloc zero6).heap.size (.slice al ml cp) (cl.enc.take q) ∧ Below (w.alloc zero6).heap.size (w.alloc zero6) wr)) (fun _ i _ _ => 4 + cl.ws.length + 1 - (RowKit.intOf i).toNat)
  case atStart => exact ⟨0, _, _, _, Nat.zero_le _, rfl, rfl, rfl, OwnZ.nil _ _, HX1.out⟩
  case round =>
    obtain ⟨q, al, ml, cp, hq, rfl, rfl, rfl, hP⟩ := hrel
    by_cases hlt : q < 4 + cl.ws.length
    · obtain ⟨S, hSe, hS1, hS2⟩ : ∃ S : Int, (if q = 0 then 5 else 5 + (cl.ws.length : Int)) = S ∧ (q : Int) + 1 < S ∧ S ≤ 8 * nl := by
        refine ⟨_, rfl, ?_, ?_⟩
        · split <;> omega
        · split <;> omega
      rw [hSe]
      have hmn : min S (8 * (nl : Int)) = S := Int.min_eq_left hS2
      have hP61 := Lib.hid (HP.out _ (below_next HB0.out hP.out.2))
      clear hSe
      go_wp2_with fail
      refine hP61.out.mono ?_
      rintro e w2 ⟨rfl, hb2⟩
      have HX2 := Lib.hid (below_next hP.out.2 hb2)
      have HO2 := Lib.hid (show OwnZ w2 (w.alloc zero6).heap.size (.slice al ml cp) (cl.enc.take q) from row_carry hP.out.1 (fun b hb => hb2.block b (OwnZ.lt hP.out.1 hb).2))
      have H48 := Lib.hid (HV.out w2 (below_next HB0.out HX2.out) q hlt)
      clear hb2
      go_wp2_with fail
      refine H48.out.mono ?_
      rintro e w3 ⟨rfl, hb3⟩
      have HX3 := Lib.hid (below_next HX2.out hb3)
      have ho3 : OwnZ w3 (w.alloc zero6).heap.size (.slice al ml cp) (cl.enc.take q) := row_carry HO2.out (fun b hb => hb3.block b (OwnZ.lt HO2.out hb).2)
      have HO3 := Lib.hid ho3
      have hoa : OwnZ (w3.alloc (.cells #[.int .i64 (nthI cl.enc q)] 3)) (w.alloc zero6).heap.size (.slice al ml cp) (cl.enc.take q) := World.ownsRow.alloc ho3 _
      have hone := rd_new1 w3 (nthI cl.enc q)
      have hlk : (cl.enc.take q).length ≤ 1000 := by simp; omega
      have hb3s := HX3.out.size
      clear hb3 ho3
      go_wp2_with (at_builtin; refine wpList_append_rd _ rfl _ _ rfl rfl (w.alloc zero6).heap.size _ _ (cl.enc.take q) [nthI cl.enc q] rfl rfl hoa hone ?a1 ?a2 ?_)
      case a1 => simp; omega
      case a2 => simp at hb3s ⊢; omega
      intro v1 w4 hrow1 hg1 hv1
      have hX4 : Below (w.alloc zero6).heap.size (w.alloc zero6) w4 := (HX3.out.alloc HX3.out.size _).grown hg1 (by simp at hb3s ⊢; omega) (fun j hj => (OwnZ.lt HO3.out hj).1)
      have ho4 : OwnZ w4 (w.alloc zero6).heap.size v1 (cl.enc.take (q + 1)) := by
        rw [take_snoc (by rw [enc_length]; exact hlt)]
        unfold OwnZ
        simpa using hrow1
      have hl4 : 0 < (cl.enc.take (q + 1)).length := by
        have := HLEN.out
        simp; omega
      obtain ⟨b4, o4, cp4, hv4, hc4, hm4, hb4, he4⟩ := (OwnZ.rd ho4).open hl4
      have hfst : nthI (cl.enc.take (q + 1)) 0 = cl.first := rfl
      have x4 := he4 0 hl4
      rw [hfst] at x4
      have x4' : w4.cell? ⟨b4, o4, none⟩ = some (.int .i64 cl.first) := by simpa using x4
      obtain ⟨m4, hm4'⟩ : ∃ m4, (cl.enc.take (q + 1)).length = m4 := ⟨_, rfl⟩
      rw [hm4'] at hv4 hl4 hc4
      subst hv4
      have HO4 := Lib.hid ho4
      have HX4 := Lib.hid hX4
      unfold maxLen at hm4
      have hl4' : (0 : Int) < m4 := by omega
      clear hrow1 hg1 hv1 hX4 ho4 he4 x4 hm4' hoa hone hfst
      go_wp2_with fail
      refine (field_any _ _ _ _).mono ?_
      rw [HFD.out]
      rintro e w5 ⟨rfl, hb5⟩
      have hN : Hid (OwnZ w5 (w.alloc zero6).heap.size (.slice (some ⟨b4, o4, none⟩) m4 cp4) (cl.enc.take (q + 1)) ∧ Below (w.alloc zero6).heap.size (w.alloc zero6) w5) := ⟨row_carry HO4.out (fun b hb => hb5.block b (OwnZ.lt HO4.out hb).2), below_next HX4.out hb5⟩
      clear hb5 x4'
      go_wp2
      go_roundw
      case rel => exact ⟨q + 1, _, _, _, by omega, rfl, by congr 1, by rw [if_neg (by omega)], hN⟩
      case measure => simp [RowKit.intOf]; omega
    · obtain rfl : q = 4 + cl.ws.length := by omega
      have hmn : min (if 4 + cl.ws.length = 0 then 5 else 5 + (cl.ws.length : Int)) (8 * (nl : Int)) = 5 + cl.ws.length := by
        rw [if_neg (by omega)]; exact Int.min_eq_left (by omega)
      have hte : cl.enc.take (4 + cl.ws.length) = cl.enc := by rw [← enc_length]; exact List.take_length
      have ho := hP.out.1
      rw [hte] at ho
      have HDC := Lib.hid (decode_any _ _ cl.enc (HT.out _ (below_next HB0.out hP.out.2)) (OwnZ.rd ho) (by rw [enc_length]; omega))
      rw [if_neg (show ¬ 4 + cl.ws.length = 0 by omega)]
      rw [if_neg (show ¬ 4 + cl.ws.length = 0 by omega)] at hmn
      clear ho hte
      go_wp2_with fail
      refine HDC.out.mono ?_
      rw [HOK.out.2]
      rintro e w5 ⟨⟨_, u, rfl, ho5⟩ | ⟨h0, _⟩, hb5⟩
      · obtain ⟨au, cu, hsu⟩ := owns_shape ho5
        subst hsu
        have hX5 := below_next hP.out.2 hb5
        have z5 := HZ.out w5 hX5
        have HZ5 := Lib.hid z5
        have HB5 := Lib.hid (below_next HB0.out hX5)
        have HO5 := Lib.hid ho5
        have hwr := hP.out.2.size
        obtain ⟨⟨q0, q1, q2, q3, q4, q5⟩, p0, p1, p2, p3, p4, p5, p6⟩ := fz6 z5
        clear z5 hb5 ho5 hX5
        unfold clV
        go_wp2
        have hP6 := put6 w5 w.heap.size 24 _ _ _ _ _ _ (.int .i64 cl.t) (.int .i64 cl.r) (.int .i64 cl.s) (.bool cl.d) (.int .i64 cl.p) (.slice au cl.ws.length cu) HZ5.out
        have hPB := Lib.hid (put6_below w5 w.heap.size (.int .i64 cl.t) (.int .i64 cl.r) (.int .i64 cl.s) (.bool cl.d) (.int .i64 cl.p) (.slice au cl.ws.length cu) HB5.out (Nat.le_refl _))
        have hOB := Lib.hid (show OwnZ (set6 w5 w.heap.size (.int .i64 cl.t) (.int .i64 cl.r) (.int .i64 cl.s) (.bool cl.d) (.int .i64 cl.p) (.slice au cl.ws.length cu)) w.heap.size (.slice au cl.ws.length cu) cl.ws from OwnZ.base (Nat.le_trans HB0.out.size hwr) (row_carry HO5.out (fun k hk => put6_other _ _ _ _ _ _ _ _ (by have := (OwnZ.lt HO5.out hk).1; simp at hwr; omega))))
        obtain ⟨We, hWe⟩ : ∃ We, set6 w5 w.heap.size (.int .i64 cl.t) (.int .i64 cl.r) (.int .i64 cl.s) (.bool cl.d) (.int .i64 cl.p) (.slice au cl.ws.length cu) = We := ⟨_, rfl⟩
        unfold set6 at hWe hP6 hPB hOB
        rw [hWe] at hP6 hPB hOB ⊢
        clear hWe
        obtain ⟨r0, r1, r2, r3, r4, r5⟩ := boxC_cells (c := cl) hP6
        refine bodyPost_ret (v := .tuple #[clV cl (.slice au cl.ws.length cu), .int .i64 0]) (by simp [results, Tryd.f78, go_sem, clV, r0, r1, r2, r3, r4, r5]) rfl ?_
        exact ⟨⟨_, rfl, hOB.out⟩, hPB.out⟩
      · rw [HOK.out.1] at h0
        cases h0

end Go.Proofs.YtcngblnkfiggjaaDoor.Rm
