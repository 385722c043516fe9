/- Contract of Decode of package chain. -/
import Derived.Test.YtcngblnkfiggjaaDoorChE
import Derived.Test.YtcngblnkfiggjaaDoorChS
namespace Go.Proofs.YtcngblnkfiggjaaDoor.Rm
open Go Go.RowKit Go.Maps
attribute [local go_sem ↓] Go.wp_at_zero Go.wp_at_succ

/-- Six stores into a block of six cells. -/
abbrev set6 (w : World) (B : Nat) (x0 x1 x2 x3 x4 x5 : Value) : World :=
  (((((w.setCell ⟨B, 0, none⟩ x0).setCell ⟨B, 1, none⟩ x1).setCell ⟨B, 2, none⟩ x2).setCell ⟨B, 3, none⟩ x3).setCell ⟨B, 4, none⟩ x4).setCell ⟨B, 5, none⟩ x5
theorem put6 (w : World) (B : Nat) (t : TypeId) (a0 a1 a2 a3 a4 a5 x0 x1 x2 x3 x4 x5 : Value) (h : w.heap[B]? = some (.cells #[a0, a1, a2, a3, a4, a5] t (0, 0))) :
    (set6 w B x0 x1 x2 x3 x4 x5).heap[B]? = some (.cells #[x0, x1, x2, x3, x4, x5] t (0, 0)) := by
  have h0 := Joins.block_setCell h (i := 0) x0
  have h1 := Joins.block_setCell h0 (i := 1) x1
  have h2 := Joins.block_setCell h1 (i := 2) x2
  have h3 := Joins.block_setCell h2 (i := 3) x3
  have h4 := Joins.block_setCell h3 (i := 4) x4
  have h5 := Joins.block_setCell h4 (i := 5) x5
  simpa using h5
theorem put6_below {w0 : World} {n : Nat} (w : World) (B : Nat) (x0 x1 x2 x3 x4 x5 : Value) (h : Below n w0 w) (hB : n ≤ B) : Below n w0 (set6 w B x0 x1 x2 x3 x4 x5) :=
  (((((h.setCell (p := ⟨B, 0, none⟩) hB x0).setCell (p := ⟨B, 1, none⟩) hB x1).setCell (p := ⟨B, 2, none⟩) hB x2).setCell (p := ⟨B, 3, none⟩) hB x3).setCell (p := ⟨B, 4, none⟩) hB x4).setCell (p := ⟨B, 5, none⟩) hB x5
theorem put6_other (w : World) (B : Nat) (x0 x1 x2 x3 x4 x5 : Value) {k : Nat} (hk : k ≠ B) : (set6 w B x0 x1 x2 x3 x4 x5).heap[k]? = w.heap[k]? := by
  rw [Below.heap_setCell _ _ _ _ hk, Below.heap_setCell _ _ _ _ hk, Below.heap_setCell _ _ _ _ hk, Below.heap_setCell _ _ _ _ hk, Below.heap_setCell _ _ _ _ hk, Below.heap_setCell _ _ _ _ hk]
theorem Rd.first {w : World} {b off n cap : Nat} {bs : List Int} (h : Rd w (.slice (some ⟨b, off, none⟩) n cap) bs) {k : Nat} (hk : k ≤ bs.length) : Rd w (.slice (some ⟨b, off, none⟩) k cap) (bs.take k) := by
  by_cases e : k < bs.length
  · exact h.taken e
  · obtain rfl : k = bs.length := by omega
    obtain ⟨ao, cp, he⟩ := h.shape
    simp only [Value.slice.injEq] at he
    obtain ⟨_, rfl, _⟩ := he
    rw [List.take_length]; exact h
theorem Rd.mid {w : World} {b off n cap : Nat} {bs : List Int} (h : Rd w (.slice (some ⟨b, off, none⟩) n cap) bs) {j k : Nat} (hk : j + k ≤ bs.length) : Rd w (.slice (some ⟨b, off + j, none⟩) k (cap - j)) ((bs.drop j).take k) := by
  by_cases e : j < bs.length
  · exact (h.dropped e).first (by simp; omega)
  · have hk0 : k = 0 := by omega
    subst hk0
    exact Or.inl ⟨_, _, rfl, by simp⟩
theorem Rd.open {w : World} {v : Value} {bs : List Int} (h : Rd w v bs) (hp : 0 < bs.length) : ∃ b off cap, v = .slice (some ⟨b, off, none⟩) bs.length cap ∧ bs.length ≤ cap ∧ cap ≤ maxLen ∧ b < w.heap.size ∧ ∀ j, j < bs.length → w.cell? ⟨b, off + j, none⟩ = some (.int .i64 (nthI bs j)) := by
  rcases h with ⟨_, _, _, rfl⟩ | ⟨b, off, cap, h1, _, h2, h3, h4, h5⟩
  · simp at hp
  · exact ⟨b, off, cap, h1, h2, h3, h4, h5⟩
theorem size3 (w : World) : (sizeOf 3).run Tryd.prog w = .ok 1 w := by kernel_rfl
/-- A cut out of a slice of ints. -/
theorem run_mid (b off n cap lo hi : Nat) (h1 : lo ≤ hi) (h2 : hi ≤ cap) (w : World) :
    (Instr.slice 22 (.slice (some ⟨b, off, none⟩) n cap) (some (.int .i64 (lo : Int))) (some (.int .i64 (hi : Int))) none).run Tryd.prog w = .ok (.slice (if cap = lo then some ⟨b, off, none⟩ else some ⟨b, off + lo, none⟩) (hi - lo) (cap - lo)) w := by
  by_cases h : cap = lo
  · simp [Instr.slice, Instr.sliceBounds, Instr.sliceBound, asIntOf, run_underlying Tryd.underlying22, size3, h1, h2, h, Addr.add_lit]
    intro hh; omega
  · simp [Instr.slice, Instr.sliceBounds, Instr.sliceBound, asIntOf, run_underlying Tryd.underlying22, size3, h1, h2, h, Addr.add_lit]
/-- The box of a result, with a zero cell. -/
abbrev zero6 : _root_.Go.Obj := .cells #[.int .i64 0, .int .i64 0, .int .i64 0, .bool false, .int .i64 0, .slice none 0 0] 24
theorem fz6 {w : World} {B : Nat} (h : w.heap[B]? = some zero6) : (w.frozen? ⟨B, 0, none⟩ = false ∧ w.frozen? ⟨B, 1, none⟩ = false ∧ w.frozen? ⟨B, 2, none⟩ = false ∧ w.frozen? ⟨B, 3, none⟩ = false ∧ w.frozen? ⟨B, 4, none⟩ = false ∧ w.frozen? ⟨B, 5, none⟩ = false) ∧ w.cell? ⟨B, 0, none⟩ = some (.int .i64 0) ∧ w.cell? ⟨B, 1, none⟩ = some (.int .i64 0) ∧ w.cell? ⟨B, 2, none⟩ = some (.int .i64 0) ∧ w.cell? ⟨B, 3, none⟩ = some (.bool false) ∧ w.cell? ⟨B, 4, none⟩ = some (.int .i64 0) ∧ w.cell? ⟨B, 5, none⟩ = some (.slice none 0 0) ∧ B < w.heap.size :=
  ⟨⟨Joins.unfrozen_of_block h 0, Joins.unfrozen_of_block h 1, Joins.unfrozen_of_block h 2, Joins.unfrozen_of_block h 3, Joins.unfrozen_of_block h 4, Joins.unfrozen_of_block h 5⟩, cell_blk h rfl, cell_blk h rfl, cell_blk h rfl, cell_blk h rfl, cell_blk h rfl, cell_blk h rfl, (Array.getElem?_eq_some_iff.1 h).1⟩

set_option maxHeartbeats 1000000 in
set_option maxRecDepth 100000 in
theorem decode_short (w : World) (v : Value) (l : List Int) (h : Rd w v l) (hl : l.length < 4) :
    Calls Tryd.prog 14 #[v] w fun e w' => e = .returned (.tuple #[clV Cl.zero (.slice none 0 0), .int .i64 3]) ∧ Below w.heap.size w w' := by
  obtain ⟨ao, cap, rfl⟩ := h.shape
  have hB := (Below.refl w.heap.size w).alloc (Nat.le_refl _) zero6
  have HB := Lib.hid hB
  have i1 : (l.length : Int) < 4 := by omega
  clear h hB
  go_enter Tryd.func14, Tryd.ntmps14
  go_wp2
  refine bodyPost_ret (v := .tuple #[clV Cl.zero (.slice none 0 0), .int .i64 3]) (by simp [results, Tryd.f14, go_sem, clV, Cl.zero]) rfl ?_
  exact ⟨rfl, HB.out⟩
set_option maxHeartbeats 1000000 in
set_option maxRecDepth 100000 in
theorem decode_noword (w : World) (v : Value) (l : List Int) (h : Rd w v l) (hl : 4 ≤ l.length) (hw : (l.take 4).all wordB = false) :
    Calls Tryd.prog 14 #[v] w fun e w' => e = .returned (.tuple #[clV Cl.zero (.slice none 0 0), .int .i64 3]) ∧ Below w.heap.size w w' := by
  obtain ⟨b, off, cap, rfl, h1, h2, h3, h4⟩ := h.open (by omega)
  have hB := (Below.refl w.heap.size w).alloc (Nat.le_refl _) zero6
  have HB := Lib.hid hB
  have i1 : ¬ (l.length : Int) < 4 := by omega
  have H43 := Lib.hid (contains43 (w.alloc zero6) _ _ ((h.below hB).first hl))
  unfold maxLen at h2
  clear h hB h4
  go_enter Tryd.func14, Tryd.ntmps14
  go_wp2_with fail
  refine H43.out.mono ?_
  rw [hw]
  rintro e w1 ⟨rfl, hw1⟩
  subst hw1
  go_wp2
  refine bodyPost_ret (v := .tuple #[clV Cl.zero (.slice none 0 0), .int .i64 3]) (by simp [results, Tryd.f14, go_sem, clV, Cl.zero]) rfl ?_
  exact ⟨rfl, HB.out⟩

theorem OwnZ.base {w : World} {a b : Nat} {v : Value} {l : List Int} (h : b ≤ a) (ho : w.ownsRow a 3 1 v l.length (ints l)) : OwnZ w b v l := by
  obtain ⟨h1, h2⟩ := ho
  refine ⟨h1, ?_⟩
  rcases h2 with y | ⟨g, cp, cur, y1, y2, y3⟩
  · exact Or.inl y
  · exact Or.inr ⟨g, cp, cur, y1, Nat.le_trans h y2, y3⟩
/-- What a world still holds of the box of the result and of the list, later on. -/
theorem dec_keep {w : World} {v : Value} {l : List Int} (h : Rd w v l) {W : World} (hW : Below (w.alloc zero6).heap.size (w.alloc zero6) W) : W.heap[w.heap.size]? = some zero6 ∧ Rd W v l ∧ Below w.heap.size w W := by
  have hB := (Below.refl w.heap.size w).alloc (Nat.le_refl _) zero6
  exact ⟨(hW.block w.heap.size (by simp)).trans (heap_alloc_new _ _), (h.below hB).below hW, below_next hB hW⟩

set_option maxHeartbeats 4000000 in
set_option maxRecDepth 100000 in
theorem decode_rest (w : World) (v : Value) (l : List Int) (T : Tabs w) (h : Rd w v l) (hl : 4 ≤ l.length) (hw : (l.take 4).all wordB = true) (hlen : l.length < 1000000) :
    Calls Tryd.prog 14 #[v] w fun e w' => ((okD l = true ∧ ∃ u, e = .returned (.tuple #[clV (decC l) u, .int .i64 0]) ∧ OwnZ w' w.heap.size u (decC l).ws) ∨ (okD l = false ∧ e = .returned (.tuple #[clV Cl.zero (.slice none 0 0), .int .i64 3]))) ∧ Below w.heap.size w w' := by
  obtain ⟨b, off, cap, rfl, h1, h2, h3, h4⟩ := h.open (by omega)
  have hB := (Below.refl w.heap.size w).alloc (Nat.le_refl _) zero6
  have i1 : ¬ (l.length : Int) < 4 := by omega
  have j0 : 0 < l.length := by omega
  have j1 : 1 < l.length := by omega
  have j2 : 2 < l.length := by omega
  have j3 : 3 < l.length := by omega
  have k0 : (0 : Int) < l.length := by omega
  have k1 : (1 : Int) < l.length := by omega
  have k2 : (2 : Int) < l.length := by omega
  have k3 : (3 : Int) < l.length := by omega
  have H43 := Lib.hid (contains43 (w.alloc zero6) _ _ ((h.below hB).first hl))
  have hx0 := wordB_t (List.all_eq_true.1 hw (nthI l 0) (List.mem_of_getElem? (i := 0) (by rw [List.getElem?_take_of_lt (by omega), nthI_getElem (by omega)])))
  obtain ⟨f1, f2, f3, f4, f5⟩ := form_first hx0
  have HK := Lib.hid (show ∀ W, Below (w.alloc zero6).heap.size (w.alloc zero6) W → Below (w.alloc zero6).heap.size (w.alloc zero6) W ∧ W.cell? ⟨b, off, none⟩ = some (.int .i64 (nthI l 0)) ∧ W.cell? ⟨b, off + 1, none⟩ = some (.int .i64 (nthI l 1)) ∧ W.cell? ⟨b, off + 2, none⟩ = some (.int .i64 (nthI l 2)) ∧ W.cell? ⟨b, off + 3, none⟩ = some (.int .i64 (nthI l 3)) from fun W hW => by
    have hW' := (below_next hB hW)
    exact ⟨hW, (hW'.cell (p := ⟨b, off, none⟩) h3).trans (by simpa using h4 0 (by omega)), (hW'.cell (p := ⟨b, off + 1, none⟩) h3).trans (h4 1 (by omega)), (hW'.cell (p := ⟨b, off + 2, none⟩) h3).trans (h4 2 (by omega)), (hW'.cell (p := ⟨b, off + 3, none⟩) h3).trans (h4 3 (by omega))⟩)
  obtain ⟨HK0, s0, s1, s2, s3⟩ := HK.out _ (Below.refl _ _)
  have HREF := Lib.hid HK0
  have HRD := Lib.hid h
  have HT := Lib.hid (T.below hB)
  have hfm : Hid (formD l = decide (nthI l 0 = nthI l 0 % 512 + nthI l 0 / 65536 % 256 * 65536 ∧ 4 + nthI l 0 / 65536 % 256 ≤ (l.length : Int))) := by
    show formD l = _
    unfold formD
    rw [hw, decide_eq_true hl, Bool.eq_iff_iff]
    simp only [Bool.true_and, decide_eq_true_eq]
    omega
  obtain ⟨x0, hxe⟩ : ∃ x0, nthI l 0 = x0 := ⟨_, rfl⟩
  have hxl : Hid (nthI l 0 = x0) := hxe
  rw [hxe] at hx0 f1 f2 f3 f4 f5 hfm HK s0
  obtain ⟨y0, y1⟩ := hx0
  unfold maxLen at h2
  have F1 := Lib.hid f1
  have F2 := Lib.hid f2
  have F3 := Lib.hid f3
  have F4 := Lib.hid f4
  have F5 := Lib.hid f5
  clear h hB h4 T f1 f2 f3 f4 f5 HK0 hxe
  go_enter Tryd.func14, Tryd.ntmps14
  go_wp2_with fail
  refine H43.out.mono ?_
  rw [hw]
  rintro e w1 ⟨rfl, hw1⟩
  subst hw1
  go_wp2
  go_region_held3 (fun W => Below (w.alloc zero6).heap.size (w.alloc zero6) W ∧ W.cell? ⟨b, off, none⟩ = some (.int .i64 x0) ∧ W.cell? ⟨b, off + 1, none⟩ = some (.int .i64 (nthI l 1)) ∧ W.cell? ⟨b, off + 2, none⟩ = some (.int .i64 (nthI l 2)) ∧ W.cell? ⟨b, off + 3, none⟩ = some (.int .i64 (nthI l 3))) (first | exact HK.out _ HREF.out | exact HK.out _ HREF.out.drew | exact HK.out _ (below_next HREF.out.drew hb1) | go_keep) ((go_simp; go_at_call 44; refine (field_any _ _ _ _).mono ?_; rintro e w1 ⟨rfl, hb1⟩))
  have hbA := below_next HREF.out.drew hb1
  have HA := Lib.hid hbA
  clear hb1 hbA s0 s1 s2 s3
  rw [F1.out]
  obtain ⟨m, hm⟩ := Int.eq_ofNat_of_zero_le (show 0 ≤ x0 / 65536 % 256 by omega)
  have hm256 : m < 256 := by omega
  rw [hm]
  go_wp2_with fail
  refine (field_any _ _ _ _).mono ?_
  rw [F2.out]
  rintro e w2 ⟨rfl, hb2⟩
  have HA2 := Lib.hid (below_next HA.out hb2)
  clear hb2
  go_wp2_with fail
  refine (with_any _ _ _ _ _).mono ?_
  rw [show withS (x0 % 512) 16 8 (m : Int) = x0 % 512 + m * 65536 by have := F4.out; rw [hm] at this; exact this]
  rintro e w3 ⟨rfl, n3, rfl⟩
  have hbB := below_drewN HA2.out n3
  obtain ⟨W3, hW3⟩ : ∃ W3, w2.drewN n3 = W3 := ⟨_, rfl⟩
  rw [hW3] at hbB ⊢
  have HA3 := Lib.hid hbB
  clear hW3 hbB
  obtain ⟨z0, zr, zb⟩ := dec_keep HRD.out HA3.out
  have HZ := Lib.hid z0
  have HZB := Lib.hid zb
  have HRD3 := Lib.hid zr
  obtain ⟨⟨q0, q1, q2, q3, q4, q5⟩, p0, p1, p2, p3, p4, p5, p6⟩ := fz6 z0
  clear z0 zr zb
  by_cases hne : x0 = x0 % 512 + m * 65536
  case neg =>
    have hne' : (x0 != x0 % 512 + (m : Int) * 65536) = true := by simpa using hne
    have hNO : Hid (okD l = false) := by
      show okD l = false
      unfold okD
      rw [hfm.out, decide_eq_false (by rw [hm]; exact fun hh => hne hh.1)]
      rfl
    clear hne
    go_wp2
    have hP := put6 W3 w.heap.size 24 _ _ _ _ _ _ (.int .i64 0) (.int .i64 0) (.int .i64 0) (.bool false) (.int .i64 0) (.slice none 0 0) HZ.out
    have hPB := Lib.hid (put6_below W3 w.heap.size (.int .i64 0) (.int .i64 0) (.int .i64 0) (.bool false) (.int .i64 0) (.slice none 0 0) HZB.out (Nat.le_refl _))
    obtain ⟨We, hWe⟩ : ∃ We, set6 W3 w.heap.size (.int .i64 0) (.int .i64 0) (.int .i64 0) (.bool false) (.int .i64 0) (.slice none 0 0) = We := ⟨_, rfl⟩
    unfold set6 at hWe hP hPB
    rw [hWe] at hP hPB ⊢
    clear hWe
    obtain ⟨_, r0, r1, r2, r3, r4, r5, _⟩ := fz6 hP
    refine bodyPost_ret (v := .tuple #[clV Cl.zero (.slice none 0 0), .int .i64 3]) (by simp [results, Tryd.f14, go_sem, clV, Cl.zero, r0, r1, r2, r3, r4, r5]) rfl ?_
    exact ⟨.inr ⟨hNO.out, rfl⟩, hPB.out⟩
  have hne' : (x0 != x0 % 512 + (m : Int) * 65536) = false := by simpa using hne
  by_cases hsh : 4 + m ≤ l.length
  case neg =>
    have hsh' : (l.length : Int) < 4 + m := by omega
    have hNO : Hid (okD l = false) := by
      show okD l = false
      unfold okD
      rw [hfm.out, decide_eq_false (by rw [hm]; omega)]
      rfl
    clear hne
    go_wp2
    have hP := put6 W3 w.heap.size 24 _ _ _ _ _ _ (.int .i64 0) (.int .i64 0) (.int .i64 0) (.bool false) (.int .i64 0) (.slice none 0 0) HZ.out
    have hPB := Lib.hid (put6_below W3 w.heap.size (.int .i64 0) (.int .i64 0) (.int .i64 0) (.bool false) (.int .i64 0) (.slice none 0 0) HZB.out (Nat.le_refl _))
    obtain ⟨We, hWe⟩ : ∃ We, set6 W3 w.heap.size (.int .i64 0) (.int .i64 0) (.int .i64 0) (.bool false) (.int .i64 0) (.slice none 0 0) = We := ⟨_, rfl⟩
    unfold set6 at hWe hP hPB
    rw [hWe] at hP hPB ⊢
    clear hWe
    obtain ⟨_, r0, r1, r2, r3, r4, r5, _⟩ := fz6 hP
    refine bodyPost_ret (v := .tuple #[clV Cl.zero (.slice none 0 0), .int .i64 3]) (by simp [results, Tryd.f14, go_sem, clV, Cl.zero, r0, r1, r2, r3, r4, r5]) rfl ?_
    exact ⟨.inr ⟨hNO.out, rfl⟩, hPB.out⟩
  have hsh' : ¬ (l.length : Int) < 4 + m := by omega
  have HNE := Lib.hid hne
  clear hne q0 q1 q2 q3 q4 q5 p0 p1 p2 p3 p4 p5 p6
  have HK3 := Lib.hid (show ∀ W, Below W3.heap.size W3 W → Below W3.heap.size W3 W ∧ W.cell? ⟨b, off + 1, none⟩ = some (.int .i64 (nthI l 1)) ∧ W.cell? ⟨b, off + 2, none⟩ = some (.int .i64 (nthI l 2)) ∧ W.cell? ⟨b, off + 3, none⟩ = some (.int .i64 (nthI l 3)) from fun W hW => ⟨hW, (HK.out W (below_next HA3.out hW)).2.2⟩)
  have g2 : IntKind.i64.wrap (4 + (m : Int)) = 4 + (m : Int) := by simp [IntKind.wrap, IntKind.bits, IntKind.signed]; omega
  obtain ⟨a4, hsl, hrm⟩ : ∃ a4 : Option Addr, (∀ W, (Instr.slice 22 (.slice (some ⟨b, off, none⟩) l.length cap) (some (.int .i64 4)) (some (.int .i64 (4 + (m : Int)))) none).run Tryd.prog W = .ok (.slice a4 m (cap - 4)) W) ∧ ∀ W, Below W3.heap.size W3 W → Rd W (.slice a4 m (cap - 4)) ((l.drop 4).take m) := by
    have hrun := fun W => run_mid b off l.length cap 4 (4 + m) (by omega) (by omega) W
    rw [show ((4 + m : Nat) : Int) = 4 + (m : Int) by omega, show 4 + m - 4 = m by omega] at hrun
    refine ⟨_, hrun, fun W hW => ?_⟩
    by_cases hcp : cap = 4
    · have hm0 : m = 0 := by omega
      exact Or.inl ⟨_, _, by rw [hm0], by rw [hm0, List.take_zero]⟩
    · rw [if_neg hcp]; exact (HRD3.out.below hW).mid hsh
  obtain ⟨ws, hws⟩ : ∃ ws, (l.drop 4).take m = ws := ⟨_, rfl⟩
  rw [hws] at hrm
  have HRM := Lib.hid hrm
  have hlm : ws.length < 1000000 := by rw [← hws]; simp; omega
  have hD : Hid (formD l = true ∧ decC l = ⟨bits .and .i64 x0 255, nthI l 1, nthI l 2, (x0 / 256 % 2 == 1), nthI l 3, ws⟩) := by
    refine ⟨by rw [hfm.out]; exact decide_eq_true ⟨by rw [hm]; exact HNE.out, by rw [hm]; omega⟩, ?_⟩
    unfold decC
    rw [hxl.out, F5.out, ← hws]
    have e1 : (x0 / 65536).toNat = m := by have := HNE.out; omega
    have e2 : decide (x0 / 256 % 2 = 1) = (x0 / 256 % 2 == 1) := by rw [Bool.eq_iff_iff]; simp
    rw [e1, e2]
  clear hrm hws
  have HR3 := Lib.hid (Below.refl W3.heap.size W3)
  have hlt3 : w.heap.size < W3.heap.size := (Array.getElem?_eq_some_iff.1 HZ.out).1
  obtain ⟨c0, hc0⟩ : ∃ c0, bits .and .i64 x0 255 = c0 := ⟨_, rfl⟩
  obtain ⟨c3, hc3⟩ : ∃ c3, (x0 / 256 % 2 == 1) = c3 := ⟨_, rfl⟩
  have hDD : Hid (formD l = true ∧ decC l = ⟨c0, nthI l 1, nthI l 2, c3, nthI l 3, ws⟩) := by rw [← hc0, ← hc3]; exact hD
  go_wp2
  go_region_held3 (fun W => Below W3.heap.size W3 W ∧ W.cell? ⟨b, off + 1, none⟩ = some (.int .i64 (nthI l 1)) ∧ W.cell? ⟨b, off + 2, none⟩ = some (.int .i64 (nthI l 2)) ∧ W.cell? ⟨b, off + 3, none⟩ = some (.int .i64 (nthI l 3))) ((with_reducible refine HK3.out _ ?_; first | with_reducible exact And.left (by assumption) | with_reducible exact HR3.out | with_reducible exact HR3.out.drew | with_reducible exact (Below.alloc HR3.out HR3.out.size _).drew | with_reducible exact hS1 | with_reducible exact hS2 | (with_reducible refine Below.alloc ?ba ?bb _; (case ba => first | exact And.left (by assumption) | exact hS2); (case bb => first | exact Below.size (w := W3) (And.left (by assumption)) | exact hS2.size)) | (with_reducible refine put6_below _ _ _ _ _ _ _ _ ?ba ?bb; (case ba => first | exact And.left (by assumption) | exact hS2); (case bb => first | exact Nat.le_refl _ | exact hS1.size)))) (first | (go_simp; go_at_call 44; refine (field_any _ _ _ _).mono ?_; rw [F3.out]; rintro e w1 ⟨rfl, hb1⟩; have hS1 : Below W3.heap.size W3 w1 := below_next (And.left (by assumption)) hb1; try (have zA := (hb1.block W3.heap.size (by show W3.heap.size < (W3.alloc _).heap.size; simp)).trans (show (W3.alloc zero6).drew.heap[W3.heap.size]? = some zero6 from heap_alloc_new W3 _); have HZA := Lib.hid zA; clear zA)) | (go_simp; go_at_call 45; refine (clone_any _ _ _ (HRM.out _ (And.left (by assumption))) hlm).mono ?_; rintro e w2 ⟨⟨u, rfl, ho⟩, hb2⟩; obtain ⟨au, cu, hsu⟩ := owns_shape ho; subst hsu; have hS2 : Below W3.heap.size W3 w2 := below_next (And.left (by assumption)) hb2; have HO2 := Lib.hid ho; clear ho; (try (have zB := (hb2.block W3.heap.size (Array.getElem?_eq_some_iff.1 HZA.out).1).trans HZA.out; obtain ⟨⟨q0, q1, q2, q3, q4, q5⟩, p0, p1, p2, p3, p4, p5, p6⟩ := fz6 zB; have HZE := Lib.hid zB; clear zB)); (try (have zC : w2.heap[w1.heap.size]? = some zero6 := (hb2.block w1.heap.size (by simp)).trans (heap_alloc_new w1 _); obtain ⟨⟨q0, q1, q2, q3, q4, q5⟩, p0, p1, p2, p3, p4, p5, p6⟩ := fz6 zC; have HZC := Lib.hid zC; clear zC))))
  · have hsz2 := hS2.size
    have hPx : (w2.alloc (.cells #[.int .i64 c0, .int .i64 (nthI l 1), .int .i64 (nthI l 2), .bool c3, .int .i64 (nthI l 3), .slice au ws.length cu] 24)).heap[w2.heap.size]? = some (.cells #[.int .i64 c0, .int .i64 (nthI l 1), .int .i64 (nthI l 2), .bool c3, .int .i64 (nthI l 3), .slice au ws.length cu] 24) := heap_alloc_new _ _
    have hBf : Below W3.heap.size W3 (w2.alloc (.cells #[.int .i64 c0, .int .i64 (nthI l 1), .int .i64 (nthI l 2), .bool c3, .int .i64 (nthI l 3), .slice au ws.length cu] 24)) := hS2.alloc hS2.size _
    have hOx : OwnZ w2 W3.heap.size (.slice au ws.length cu) ws := ⟨HO2.out.1, by
      rcases HO2.out.2 with y | ⟨g, cp, cur, y1, y2, y3⟩
      · exact Or.inl y
      · exact Or.inr ⟨g, cp, cur, y1, Nat.le_trans hS1.size y2, y3⟩⟩
    have hOf : OwnZ (w2.alloc (.cells #[.int .i64 c0, .int .i64 (nthI l 1), .int .i64 (nthI l 2), .bool c3, .int .i64 (nthI l 3), .slice au ws.length cu] 24)) W3.heap.size (.slice au ws.length cu) ws := World.ownsRow.alloc hOx _
    obtain ⟨Wf, hWf⟩ : ∃ Wf, w2.alloc (.cells #[.int .i64 c0, .int .i64 (nthI l 1), .int .i64 (nthI l 2), .bool c3, .int .i64 (nthI l 3), .slice au ws.length cu] 24) = Wf := ⟨_, rfl⟩
    obtain ⟨Bx, hBx⟩ : ∃ Bx, w2.heap.size = Bx := ⟨_, rfl⟩
    have hBxw : w.heap.size < Bx := by omega
    rw [hWf, hBx] at hPx
    rw [hWf] at hBf hOf
    rw [hWf, hBx]
    have hne2 : w.heap.size ≠ Bx := by omega
    have hZf : Wf.heap[w.heap.size]? = some zero6 := (hBf.block _ hlt3).trans HZ.out
    have HPX := Lib.hid hPx
    have HZF := Lib.hid hZf
    have HOF := Lib.hid hOf
    have HBF := Lib.hid (below_next HZB.out hBf)
    have hTf := (HT.out.below (below_next HA3.out hBf))
    have HR := Lib.hid (cright_any c0 (nthI l 1) (nthI l 2) (nthI l 3) c3 (.slice au ws.length cu) ws Wf hTf (OwnZ.rd hOf))
    have hBxl : Bx < Wf.heap.size := (Array.getElem?_eq_some_iff.1 hPx).1
    obtain ⟨x0', x1', x2', x3', x4', x5'⟩ := boxC_cells (c := ⟨c0, nthI l 1, nthI l 2, c3, nthI l 3, ws⟩) hPx
    clear hWf hBx hPx hBf hOf hZf hTf
    go_wp2_with fail
    refine HR.out.mono ?_
    have hok : Hid (okD l = rightC c0 (nthI l 1) (nthI l 2) (nthI l 3) c3 ws) := by
      show okD l = _
      unfold okD
      rw [hDD.out.1, hDD.out.2]
      rfl
    cases hrt : rightC c0 (nthI l 1) (nthI l 2) (nthI l 3) c3 ws
    · rintro e w5 ⟨rfl, hb5⟩
      have z5 := (hb5.block w.heap.size (Array.getElem?_eq_some_iff.1 HZF.out).1).trans HZF.out
      have HB5 := Lib.hid (below_next HBF.out hb5)
      have HZ5 := Lib.hid z5
      obtain ⟨⟨q0, q1, q2, q3, q4, q5⟩, p0, p1, p2, p3, p4, p5, p6⟩ := fz6 z5
      clear z5 hb5 x0' x1' x2' x3' x4' x5'
      go_wp2
      have hP := put6 w5 w.heap.size 24 _ _ _ _ _ _ (.int .i64 0) (.int .i64 0) (.int .i64 0) (.bool false) (.int .i64 0) (.slice none 0 0) HZ5.out
      have hPB := Lib.hid (put6_below w5 w.heap.size (.int .i64 0) (.int .i64 0) (.int .i64 0) (.bool false) (.int .i64 0) (.slice none 0 0) HB5.out (Nat.le_refl _))
      obtain ⟨We, hWe⟩ : ∃ We, set6 w5 w.heap.size (.int .i64 0) (.int .i64 0) (.int .i64 0) (.bool false) (.int .i64 0) (.slice none 0 0) = We := ⟨_, rfl⟩
      unfold set6 at hWe hP hPB
      rw [hWe] at hP hPB ⊢
      clear hWe
      obtain ⟨_, r0, r1, r2, r3, r4, r5, _⟩ := fz6 hP
      refine bodyPost_ret (v := .tuple #[clV Cl.zero (.slice none 0 0), .int .i64 3]) (by simp [results, Tryd.f14, go_sem, clV, Cl.zero, r0, r1, r2, r3, r4, r5]) rfl ?_
      exact ⟨.inr ⟨by rw [hok.out, hrt], rfl⟩, hPB.out⟩
    · rintro e w5 ⟨rfl, hb5⟩
      have z5 := (hb5.block w.heap.size (Array.getElem?_eq_some_iff.1 HZF.out).1).trans HZF.out
      have y5 := (hb5.block Bx hBxl).trans HPX.out
      have HB5 := Lib.hid (below_next HBF.out hb5)
      have HZ5 := Lib.hid z5
      have HO5 := Lib.hid (show OwnZ w5 W3.heap.size (.slice au ws.length cu) ws from row_carry HOF.out (fun k hk => hb5.block k (OwnZ.lt HOF.out hk).2))
      obtain ⟨⟨q0, q1, q2, q3, q4, q5⟩, p0, p1, p2, p3, p4, p5, p6⟩ := fz6 z5
      clear x0' x1' x2' x3' x4' x5'
      obtain ⟨x0', x1', x2', x3', x4', x5'⟩ := boxC_cells (c := ⟨c0, nthI l 1, nthI l 2, c3, nthI l 3, ws⟩) y5
      clear z5 y5 hb5
      go_wp2
      have hP := put6 w5 w.heap.size 24 _ _ _ _ _ _ (.int .i64 c0) (.int .i64 (nthI l 1)) (.int .i64 (nthI l 2)) (.bool c3) (.int .i64 (nthI l 3)) (.slice au ws.length cu) HZ5.out
      have hPB := Lib.hid (put6_below w5 w.heap.size (.int .i64 c0) (.int .i64 (nthI l 1)) (.int .i64 (nthI l 2)) (.bool c3) (.int .i64 (nthI l 3)) (.slice au ws.length cu) HB5.out (Nat.le_refl _))
      have hOB := Lib.hid (show OwnZ (set6 w5 w.heap.size (.int .i64 c0) (.int .i64 (nthI l 1)) (.int .i64 (nthI l 2)) (.bool c3) (.int .i64 (nthI l 3)) (.slice au ws.length cu)) w.heap.size (.slice au ws.length cu) ws from OwnZ.base (Nat.le_of_lt hlt3) <| row_carry HO5.out (fun k hk => put6_other _ _ _ _ _ _ _ _ (by have := (OwnZ.lt HOF.out hk).1; have h2 := hlt3; omega)))
      obtain ⟨We, hWe⟩ : ∃ We, set6 w5 w.heap.size (.int .i64 c0) (.int .i64 (nthI l 1)) (.int .i64 (nthI l 2)) (.bool c3) (.int .i64 (nthI l 3)) (.slice au ws.length cu) = We := ⟨_, rfl⟩
      unfold set6 at hWe hP hPB hOB
      rw [hWe] at hP hPB hOB ⊢
      clear hWe
      obtain ⟨r0, r1, r2, r3, r4, r5⟩ := boxC_cells (c := ⟨c0, nthI l 1, nthI l 2, c3, nthI l 3, ws⟩) hP
      refine bodyPost_ret (v := .tuple #[clV (decC l) (.slice au ws.length cu), .int .i64 0]) (by rw [hDD.out.2]; simp [results, Tryd.f14, go_sem, clV, r0, r1, r2, r3, r4, r5]) rfl ?_
      refine ⟨.inl ⟨by rw [hok.out, hrt], _, rfl, ?_⟩, hPB.out⟩
      rw [hDD.out.2]
      exact hOB.out
  · have hsz2 := hS2.size
    have hsz1 := hS1.size
    have hPx := put6 w2 w1.heap.size 24 _ _ _ _ _ _ (.int .i64 c0) (.int .i64 (nthI l 1)) (.int .i64 (nthI l 2)) (.bool c3) (.int .i64 (nthI l 3)) (.slice au ws.length cu) HZC.out
    have hBf := put6_below w2 w1.heap.size (.int .i64 c0) (.int .i64 (nthI l 1)) (.int .i64 (nthI l 2)) (.bool c3) (.int .i64 (nthI l 3)) (.slice au ws.length cu) hS2 (hS1.size)
    have hOx : OwnZ w2 W3.heap.size (.slice au ws.length cu) ws := ⟨HO2.out.1, by
      rcases HO2.out.2 with y | ⟨g, cp, cur, y1, y2, y3⟩
      · exact Or.inl y
      · exact Or.inr ⟨g, cp, cur, y1, by have h9 := hS1.size; simp at y2; omega, y3⟩⟩
    have hOf : OwnZ (set6 w2 w1.heap.size (.int .i64 c0) (.int .i64 (nthI l 1)) (.int .i64 (nthI l 2)) (.bool c3) (.int .i64 (nthI l 3)) (.slice au ws.length cu)) W3.heap.size (.slice au ws.length cu) ws := row_carry hOx (fun k hk => put6_other _ _ _ _ _ _ _ _ (by have := (World.ownsRow.lt HO2.out k hk).1; simp at this; omega))
    unfold set6 at hPx hBf hOf
    obtain ⟨Wf, hWf⟩ : ∃ Wf, ((((((w2.setCell ⟨w1.heap.size, 0, none⟩ (.int .i64 c0)).setCell ⟨w1.heap.size, 1, none⟩ (.int .i64 (nthI l 1))).setCell ⟨w1.heap.size, 2, none⟩ (.int .i64 (nthI l 2))).setCell ⟨w1.heap.size, 3, none⟩ (.bool c3)).setCell ⟨w1.heap.size, 4, none⟩ (.int .i64 (nthI l 3))).setCell ⟨w1.heap.size, 5, none⟩ (.slice au ws.length cu)) = Wf := ⟨_, rfl⟩
    obtain ⟨Bx, hBx⟩ : ∃ Bx, w1.heap.size = Bx := ⟨_, rfl⟩
    have hBxw : w.heap.size < Bx := by omega
    rw [hWf, hBx] at hPx
    rw [hWf] at hBf hOf
    rw [hWf, hBx]
    have hne2 : w.heap.size ≠ Bx := by omega
    have hZf : Wf.heap[w.heap.size]? = some zero6 := (hBf.block _ hlt3).trans HZ.out
    have HPX := Lib.hid hPx
    have HZF := Lib.hid hZf
    have HOF := Lib.hid hOf
    have HBF := Lib.hid (below_next HZB.out hBf)
    have hTf := (HT.out.below (below_next HA3.out hBf))
    have HR := Lib.hid (cright_any c0 (nthI l 1) (nthI l 2) (nthI l 3) c3 (.slice au ws.length cu) ws Wf hTf (OwnZ.rd hOf))
    have hBxl : Bx < Wf.heap.size := (Array.getElem?_eq_some_iff.1 hPx).1
    obtain ⟨x0', x1', x2', x3', x4', x5'⟩ := boxC_cells (c := ⟨c0, nthI l 1, nthI l 2, c3, nthI l 3, ws⟩) hPx
    clear hWf hBx hPx hBf hOf hZf hTf p0 p1 p2 p3 p4 p5 p6 q0 q1 q2 q3 q4 q5
    go_wp2_with fail
    refine HR.out.mono ?_
    have hok : Hid (okD l = rightC c0 (nthI l 1) (nthI l 2) (nthI l 3) c3 ws) := by
      show okD l = _
      unfold okD
      rw [hDD.out.1, hDD.out.2]
      rfl
    cases hrt : rightC c0 (nthI l 1) (nthI l 2) (nthI l 3) c3 ws
    · rintro e w5 ⟨rfl, hb5⟩
      have z5 := (hb5.block w.heap.size (Array.getElem?_eq_some_iff.1 HZF.out).1).trans HZF.out
      have HB5 := Lib.hid (below_next HBF.out hb5)
      have HZ5 := Lib.hid z5
      obtain ⟨⟨q0, q1, q2, q3, q4, q5⟩, p0, p1, p2, p3, p4, p5, p6⟩ := fz6 z5
      clear z5 hb5 x0' x1' x2' x3' x4' x5'
      go_wp2
      have hP := put6 w5 w.heap.size 24 _ _ _ _ _ _ (.int .i64 0) (.int .i64 0) (.int .i64 0) (.bool false) (.int .i64 0) (.slice none 0 0) HZ5.out
      have hPB := Lib.hid (put6_below w5 w.heap.size (.int .i64 0) (.int .i64 0) (.int .i64 0) (.bool false) (.int .i64 0) (.slice none 0 0) HB5.out (Nat.le_refl _))
      obtain ⟨We, hWe⟩ : ∃ We, set6 w5 w.heap.size (.int .i64 0) (.int .i64 0) (.int .i64 0) (.bool false) (.int .i64 0) (.slice none 0 0) = We := ⟨_, rfl⟩
      unfold set6 at hWe hP hPB
      rw [hWe] at hP hPB ⊢
      clear hWe
      obtain ⟨_, r0, r1, r2, r3, r4, r5, _⟩ := fz6 hP
      refine bodyPost_ret (v := .tuple #[clV Cl.zero (.slice none 0 0), .int .i64 3]) (by simp [results, Tryd.f14, go_sem, clV, Cl.zero, r0, r1, r2, r3, r4, r5]) rfl ?_
      exact ⟨.inr ⟨by rw [hok.out, hrt], rfl⟩, hPB.out⟩
    · rintro e w5 ⟨rfl, hb5⟩
      have z5 := (hb5.block w.heap.size (Array.getElem?_eq_some_iff.1 HZF.out).1).trans HZF.out
      have y5 := (hb5.block Bx hBxl).trans HPX.out
      have HB5 := Lib.hid (below_next HBF.out hb5)
      have HZ5 := Lib.hid z5
      have HO5 := Lib.hid (show OwnZ w5 W3.heap.size (.slice au ws.length cu) ws from row_carry HOF.out (fun k hk => hb5.block k (OwnZ.lt HOF.out hk).2))
      obtain ⟨⟨q0, q1, q2, q3, q4, q5⟩, p0, p1, p2, p3, p4, p5, p6⟩ := fz6 z5
      clear x0' x1' x2' x3' x4' x5'
      obtain ⟨x0', x1', x2', x3', x4', x5'⟩ := boxC_cells (c := ⟨c0, nthI l 1, nthI l 2, c3, nthI l 3, ws⟩) y5
      clear z5 y5 hb5
      go_wp2
      have hP := put6 w5 w.heap.size 24 _ _ _ _ _ _ (.int .i64 c0) (.int .i64 (nthI l 1)) (.int .i64 (nthI l 2)) (.bool c3) (.int .i64 (nthI l 3)) (.slice au ws.length cu) HZ5.out
      have hPB := Lib.hid (put6_below w5 w.heap.size (.int .i64 c0) (.int .i64 (nthI l 1)) (.int .i64 (nthI l 2)) (.bool c3) (.int .i64 (nthI l 3)) (.slice au ws.length cu) HB5.out (Nat.le_refl _))
      have hOB := Lib.hid (show OwnZ (set6 w5 w.heap.size (.int .i64 c0) (.int .i64 (nthI l 1)) (.int .i64 (nthI l 2)) (.bool c3) (.int .i64 (nthI l 3)) (.slice au ws.length cu)) w.heap.size (.slice au ws.length cu) ws from OwnZ.base (Nat.le_of_lt hlt3) <| row_carry HO5.out (fun k hk => put6_other _ _ _ _ _ _ _ _ (by have := (OwnZ.lt HOF.out hk).1; have h2 := hlt3; omega)))
      obtain ⟨We, hWe⟩ : ∃ We, set6 w5 w.heap.size (.int .i64 c0) (.int .i64 (nthI l 1)) (.int .i64 (nthI l 2)) (.bool c3) (.int .i64 (nthI l 3)) (.slice au ws.length cu) = We := ⟨_, rfl⟩
      unfold set6 at hWe hP hPB hOB
      rw [hWe] at hP hPB hOB ⊢
      clear hWe
      obtain ⟨r0, r1, r2, r3, r4, r5⟩ := boxC_cells (c := ⟨c0, nthI l 1, nthI l 2, c3, nthI l 3, ws⟩) hP
      refine bodyPost_ret (v := .tuple #[clV (decC l) (.slice au ws.length cu), .int .i64 0]) (by rw [hDD.out.2]; simp [results, Tryd.f14, go_sem, clV, r0, r1, r2, r3, r4, r5]) rfl ?_
      refine ⟨.inl ⟨by rw [hok.out, hrt], _, rfl, ?_⟩, hPB.out⟩
      rw [hDD.out.2]
      exact hOB.out
  · have hsz2 := hS2.size
    have hsz1 := hS1.size
    have hPx := put6 w2 W3.heap.size 24 _ _ _ _ _ _ (.int .i64 c0) (.int .i64 (nthI l 1)) (.int .i64 (nthI l 2)) (.bool c3) (.int .i64 (nthI l 3)) (.slice au ws.length cu) HZE.out
    have hBf := put6_below w2 W3.heap.size (.int .i64 c0) (.int .i64 (nthI l 1)) (.int .i64 (nthI l 2)) (.bool c3) (.int .i64 (nthI l 3)) (.slice au ws.length cu) hS2 (Nat.le_refl _)
    have hOx : OwnZ w2 W3.heap.size (.slice au ws.length cu) ws := ⟨HO2.out.1, by
      rcases HO2.out.2 with y | ⟨g, cp, cur, y1, y2, y3⟩
      · exact Or.inl y
      · exact Or.inr ⟨g, cp, cur, y1, Nat.le_trans hS1.size y2, y3⟩⟩
    have hOf : OwnZ (set6 w2 W3.heap.size (.int .i64 c0) (.int .i64 (nthI l 1)) (.int .i64 (nthI l 2)) (.bool c3) (.int .i64 (nthI l 3)) (.slice au ws.length cu)) W3.heap.size (.slice au ws.length cu) ws := row_carry hOx (fun k hk => put6_other _ _ _ _ _ _ _ _ (by have := (World.ownsRow.lt HO2.out k hk).1; have h7 := (Array.getElem?_eq_some_iff.1 HZA.out).1; omega))
    unfold set6 at hPx hBf hOf
    obtain ⟨Wf, hWf⟩ : ∃ Wf, ((((((w2.setCell ⟨W3.heap.size, 0, none⟩ (.int .i64 c0)).setCell ⟨W3.heap.size, 1, none⟩ (.int .i64 (nthI l 1))).setCell ⟨W3.heap.size, 2, none⟩ (.int .i64 (nthI l 2))).setCell ⟨W3.heap.size, 3, none⟩ (.bool c3)).setCell ⟨W3.heap.size, 4, none⟩ (.int .i64 (nthI l 3))).setCell ⟨W3.heap.size, 5, none⟩ (.slice au ws.length cu)) = Wf := ⟨_, rfl⟩
    obtain ⟨Bx, hBx⟩ : ∃ Bx, W3.heap.size = Bx := ⟨_, rfl⟩
    have hBxw : w.heap.size < Bx := by omega
    rw [hWf, hBx] at hPx
    rw [hWf] at hBf hOf
    rw [hWf, hBx]
    have hne2 : w.heap.size ≠ Bx := by omega
    have hZf : Wf.heap[w.heap.size]? = some zero6 := (hBf.block _ hlt3).trans HZ.out
    have HPX := Lib.hid hPx
    have HZF := Lib.hid hZf
    have HOF := Lib.hid hOf
    have HBF := Lib.hid (below_next HZB.out hBf)
    have hTf := (HT.out.below (below_next HA3.out hBf))
    have HR := Lib.hid (cright_any c0 (nthI l 1) (nthI l 2) (nthI l 3) c3 (.slice au ws.length cu) ws Wf hTf (OwnZ.rd hOf))
    have hBxl : Bx < Wf.heap.size := (Array.getElem?_eq_some_iff.1 hPx).1
    obtain ⟨x0', x1', x2', x3', x4', x5'⟩ := boxC_cells (c := ⟨c0, nthI l 1, nthI l 2, c3, nthI l 3, ws⟩) hPx
    clear hWf hBx hPx hBf hOf hZf hTf p0 p1 p2 p3 p4 p5 p6 q0 q1 q2 q3 q4 q5
    go_wp2_with fail
    refine HR.out.mono ?_
    have hok : Hid (okD l = rightC c0 (nthI l 1) (nthI l 2) (nthI l 3) c3 ws) := by
      show okD l = _
      unfold okD
      rw [hDD.out.1, hDD.out.2]
      rfl
    cases hrt : rightC c0 (nthI l 1) (nthI l 2) (nthI l 3) c3 ws
    · rintro e w5 ⟨rfl, hb5⟩
      have z5 := (hb5.block w.heap.size (Array.getElem?_eq_some_iff.1 HZF.out).1).trans HZF.out
      have HB5 := Lib.hid (below_next HBF.out hb5)
      have HZ5 := Lib.hid z5
      obtain ⟨⟨q0, q1, q2, q3, q4, q5⟩, p0, p1, p2, p3, p4, p5, p6⟩ := fz6 z5
      clear z5 hb5 x0' x1' x2' x3' x4' x5'
      go_wp2
      have hP := put6 w5 w.heap.size 24 _ _ _ _ _ _ (.int .i64 0) (.int .i64 0) (.int .i64 0) (.bool false) (.int .i64 0) (.slice none 0 0) HZ5.out
      have hPB := Lib.hid (put6_below w5 w.heap.size (.int .i64 0) (.int .i64 0) (.int .i64 0) (.bool false) (.int .i64 0) (.slice none 0 0) HB5.out (Nat.le_refl _))
      obtain ⟨We, hWe⟩ : ∃ We, set6 w5 w.heap.size (.int .i64 0) (.int .i64 0) (.int .i64 0) (.bool false) (.int .i64 0) (.slice none 0 0) = We := ⟨_, rfl⟩
      unfold set6 at hWe hP hPB
      rw [hWe] at hP hPB ⊢
      clear hWe
      obtain ⟨_, r0, r1, r2, r3, r4, r5, _⟩ := fz6 hP
      refine bodyPost_ret (v := .tuple #[clV Cl.zero (.slice none 0 0), .int .i64 3]) (by simp [results, Tryd.f14, go_sem, clV, Cl.zero, r0, r1, r2, r3, r4, r5]) rfl ?_
      exact ⟨.inr ⟨by rw [hok.out, hrt], rfl⟩, hPB.out⟩
    · rintro e w5 ⟨rfl, hb5⟩
      have z5 := (hb5.block w.heap.size (Array.getElem?_eq_some_iff.1 HZF.out).1).trans HZF.out
      have y5 := (hb5.block Bx hBxl).trans HPX.out
      have HB5 := Lib.hid (below_next HBF.out hb5)
      have HZ5 := Lib.hid z5
      have HO5 := Lib.hid (show OwnZ w5 W3.heap.size (.slice au ws.length cu) ws from row_carry HOF.out (fun k hk => hb5.block k (OwnZ.lt HOF.out hk).2))
      obtain ⟨⟨q0, q1, q2, q3, q4, q5⟩, p0, p1, p2, p3, p4, p5, p6⟩ := fz6 z5
      clear x0' x1' x2' x3' x4' x5'
      obtain ⟨x0', x1', x2', x3', x4', x5'⟩ := boxC_cells (c := ⟨c0, nthI l 1, nthI l 2, c3, nthI l 3, ws⟩) y5
      clear z5 y5 hb5
      go_wp2
      have hP := put6 w5 w.heap.size 24 _ _ _ _ _ _ (.int .i64 c0) (.int .i64 (nthI l 1)) (.int .i64 (nthI l 2)) (.bool c3) (.int .i64 (nthI l 3)) (.slice au ws.length cu) HZ5.out
      have hPB := Lib.hid (put6_below w5 w.heap.size (.int .i64 c0) (.int .i64 (nthI l 1)) (.int .i64 (nthI l 2)) (.bool c3) (.int .i64 (nthI l 3)) (.slice au ws.length cu) HB5.out (Nat.le_refl _))
      have hOB := Lib.hid (show OwnZ (set6 w5 w.heap.size (.int .i64 c0) (.int .i64 (nthI l 1)) (.int .i64 (nthI l 2)) (.bool c3) (.int .i64 (nthI l 3)) (.slice au ws.length cu)) w.heap.size (.slice au ws.length cu) ws from OwnZ.base (Nat.le_of_lt hlt3) <| row_carry HO5.out (fun k hk => put6_other _ _ _ _ _ _ _ _ (by have := (OwnZ.lt HOF.out hk).1; have h2 := hlt3; omega)))
      obtain ⟨We, hWe⟩ : ∃ We, set6 w5 w.heap.size (.int .i64 c0) (.int .i64 (nthI l 1)) (.int .i64 (nthI l 2)) (.bool c3) (.int .i64 (nthI l 3)) (.slice au ws.length cu) = We := ⟨_, rfl⟩
      unfold set6 at hWe hP hPB hOB
      rw [hWe] at hP hPB hOB ⊢
      clear hWe
      obtain ⟨r0, r1, r2, r3, r4, r5⟩ := boxC_cells (c := ⟨c0, nthI l 1, nthI l 2, c3, nthI l 3, ws⟩) hP
      refine bodyPost_ret (v := .tuple #[clV (decC l) (.slice au ws.length cu), .int .i64 0]) (by rw [hDD.out.2]; simp [results, Tryd.f14, go_sem, clV, r0, r1, r2, r3, r4, r5]) rfl ?_
      refine ⟨.inl ⟨by rw [hok.out, hrt], _, rfl, ?_⟩, hPB.out⟩
      rw [hDD.out.2]
      exact hOB.out

end Go.Proofs.YtcngblnkfiggjaaDoor.Rm
