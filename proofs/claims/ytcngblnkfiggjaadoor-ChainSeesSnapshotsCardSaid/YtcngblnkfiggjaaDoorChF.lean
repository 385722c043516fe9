/- Contracts of lines, span, fill and of the question whether a line is rotten, of package chain. -/
import Derived.Test.YtcngblnkfiggjaaDoorChW
import Derived.Test.YtcngblnkfiggjaaDoorChE
namespace Go.Proofs.YtcngblnkfiggjaaDoor.Rm
open Go Go.RowKit Go.Maps
attribute [local go_sem ↓] Go.wp_at_zero Go.wp_at_succ

/-- The pointer p leads to a block of versions at line k, of nl lines, in a memory of n lines that shows M. -/
structure Blk (M : Int → Int) (n : Nat) (p : Int) (k nl : Nat) : Prop where
  right : rightB p = true
  ne : p ≠ 0
  line : lineS p = k
  lt : k < n
  chk : checkS p (M (8 * k)) = 0
  kind : kindS (M (8 * k)) = 1
  cls : linesS (classS (M (8 * k))) = nl

set_option maxHeartbeats 1000000 in
set_option maxRecDepth 100000 in
theorem clines_any (w : World) (Bv Bm n : Nat) (M : Int → Int) (F : Nat → Prop) (c : Nat) (h : CV w Bv Bm n M F c) (hc : c < 100000) (T : Tabs w) (p : Int) (k nl : Nat) (hb : Blk M n p k nl) :
    Calls Tryd.prog 60 #[.pointer (some ⟨Bv, 0, none⟩), .int .i64 p] w fun e w' => e = .returned (.tuple #[.int .i64 nl, .int .i64 0]) ∧ Below w.heap.size w w' := by
  have hn : n ≤ 1000 := h.mem.bounds.2
  have hkn := hb.lt
  have hz : (p == 0) = false := by simpa using hb.ne
  have H1 := Lib.hid (right_any p w T)
  have H2 := Lib.hid (show ∀ W, Below w.heap.size w W → Calls Tryd.prog 61 #[.int .i64 p] W fun e w' => e = .returned (.int .i64 (k : Int)) ∧ Below W.heap.size W w' from fun W hW => by
    have := line_any p W (T.below hW)
    rw [hb.line] at this; exact this)
  have H3 := Lib.hid (show ∀ W, Below w.heap.size w W → Calls Tryd.prog 48 #[.pointer (some ⟨Bv, 0, none⟩), .int .i64 (8 * k)] W fun e w' => e = .returned (.tuple #[.int .i64 (M (8 * k)), .int .i64 0]) ∧ Below W.heap.size W w' from fun W hW =>
    vload_any W Bv Bm n M F c (h.below hW) hc k 0 hb.lt (by omega) (8 * k) (by omega))
  have H4 := Lib.hid (show ∀ W, Below w.heap.size w W → Calls Tryd.prog 92 #[.int .i64 p, .int .i64 (M (8 * k))] W fun e w' => e = .returned (.int .i64 0) ∧ Below W.heap.size W w' from fun W hW => by
    have := check_any p (M (8 * k)) W (T.below hW)
    rw [hb.chk] at this; exact this)
  have H5 := Lib.hid (show ∀ W, Below w.heap.size w W → Calls Tryd.prog 93 #[.int .i64 (M (8 * k))] W fun e w' => e = .returned (.int .i64 1) ∧ Below W.heap.size W w' from fun W hW => by
    have := kind_any (M (8 * k)) W (T.below hW)
    rw [hb.kind] at this; exact this)
  have H6 := Lib.hid (show ∀ W, Below w.heap.size w W → Calls Tryd.prog 95 #[.int .i64 (M (8 * k))] W fun e w' => e = .returned (.int .i64 (classS (M (8 * k)))) ∧ Below W.heap.size W w' from fun W hW => class_any _ W (T.below hW))
  have H7 := Lib.hid (show ∀ W, Calls Tryd.prog 94 #[.int .i64 (classS (M (8 * k)))] W fun e w' => e = .returned (.int .i64 (nl : Int)) ∧ W = w' from fun W => by
    have := lines_any (classS (M (8 * k))) W
    rw [hb.cls] at this; exact this)
  have hr := hb.right
  clear h T hb
  obtain ⟨hd, hhd⟩ : ∃ hd, M (8 * k) = hd := ⟨_, rfl⟩
  rw [hhd] at H3 H4 H5 H6 H7
  clear hhd
  go_enter Tryd.func60, Tryd.ntmps60
  go_wp2_with fail
  refine H1.out.mono ?_
  rw [hr]
  rintro e w1 ⟨rfl, hb1⟩
  go_wp2_with fail
  refine (H2.out w1 hb1).mono ?_
  rintro e w2 ⟨rfl, hb2⟩
  have hb2' := below_next hb1 hb2
  clear hb1 hb2
  go_wp2_with fail
  refine (H3.out w2 hb2').mono ?_
  rintro e w3 ⟨rfl, hb3⟩
  have hb3' := below_next hb2' hb3
  clear hb2' hb3
  go_wp2_with fail
  refine (H4.out w3 hb3').mono ?_
  rintro e w4 ⟨rfl, hb4⟩
  have hb4' := below_next hb3' hb4
  clear hb3' hb4
  go_wp2_with fail
  refine (H5.out w4 hb4').mono ?_
  rintro e w5 ⟨rfl, hb5⟩
  have hb5' := below_next hb4' hb5
  clear hb4' hb5
  go_wp2_with fail
  refine (H6.out w5 hb5').mono ?_
  rintro e w6 ⟨rfl, hb6⟩
  have HB6 := Lib.hid (below_next hb5' hb6)
  clear hb5' hb6
  go_wp2_with fail
  refine (H7.out w6).mono ?_
  rintro e w7 ⟨rfl, rfl⟩
  go_wp2
  go_ret2
  exact ⟨rfl, HB6.out⟩

/-- So many numbers from one on. -/
def spanL (k nl : Nat) : List Int := (List.range nl).map fun i => ((k + i : Nat) : Int)
theorem spanL_length (k nl : Nat) : (spanL k nl).length = nl := by simp [spanL]
theorem spanL_at (k nl j : Nat) (h : j < nl) : nthI (spanL k nl) j = ((k + j : Nat) : Int) := by
  unfold nthI spanL; rw [List.getD_eq_getElem?_getD]; simp [h]
theorem mk1 (w : World) : (Instr.makeSlice 22 (.int .i64 1) (.int .i64 1)).run Tryd.prog w = .ok (.slice (some ⟨w.heap.size, 0, none⟩) 1 1) (w.alloc (.cells #[.int .i64 0] 3)) := by kernel_rfl
theorem mk2 (w : World) : (Instr.makeSlice 22 (.int .i64 2) (.int .i64 2)).run Tryd.prog w = .ok (.slice (some ⟨w.heap.size, 0, none⟩) 2 2) (w.alloc (.cells #[.int .i64 0, .int .i64 0] 3)) := by kernel_rfl
set_option maxHeartbeats 1000000 in
set_option maxRecDepth 100000 in
theorem span_any (w : World) (k nl : Nat) (hk : k ≤ 10000) (hnl : nl = 1 ∨ nl = 2) :
    Calls Tryd.prog 63 #[.int .i64 (k : Int), .int .i64 (nl : Int)] w fun e w' => (∃ v, e = .returned v ∧ Rd w' v (spanL k nl) ∧ (∀ b, v.ownBlock = some b → w.heap.size ≤ b)) ∧ Below w.heap.size w w' := by
  rcases hnl with rfl | rfl
  · have h1 := mk1
    have HE := Lib.hid (show Rd (w.alloc (.cells #[.int .i64 (k : Int)] 3)) (.slice (some ⟨w.heap.size, 0, none⟩) 1 1) (spanL k 1) ∧ Below w.heap.size w (w.alloc (.cells #[.int .i64 (k : Int)] 3)) from
      ⟨rd_new1 w _, (Below.refl w.heap.size w).alloc (Nat.le_refl _) _⟩)
    go_enter Tryd.func63, Tryd.ntmps63
    go_wp2
    refine wp_loop_rounds 2 ?_
    rw [rounds_succ]
    go_wp2
    rw [rounds_succ]
    go_wp2
    go_ret
    exact ⟨⟨_, rfl, HE.out.1, fun b hb => by cases hb; exact Nat.le_refl _⟩, HE.out.2⟩
  · have h1 := mk2
    have HE := Lib.hid (show Rd (w.alloc (.cells #[.int .i64 (k : Int), .int .i64 ((k : Int) + 1)] 3)) (.slice (some ⟨w.heap.size, 0, none⟩) 2 2) (spanL k 2) ∧ Below w.heap.size w (w.alloc (.cells #[.int .i64 (k : Int), .int .i64 ((k : Int) + 1)] 3)) from
      ⟨rd_new2 w _ _, (Below.refl w.heap.size w).alloc (Nat.le_refl _) _⟩)
    go_enter Tryd.func63, Tryd.ntmps63
    go_wp2
    refine wp_loop_rounds 3 ?_
    rw [rounds_succ]
    go_wp2
    rw [rounds_succ]
    go_wp2
    rw [rounds_succ]
    go_wp2
    go_ret
    exact ⟨⟨_, rfl, HE.out.1, fun b hb => by cases hb; exact Nat.le_refl _⟩, HE.out.2⟩

set_option maxHeartbeats 400000 in
set_option maxRecDepth 100000 in
theorem rot64 (w : World) (Bm n : Nat) (M : Int → Int) (F : Nat → Prop) (c : Nat) (h : MO w Bm n M F c) (B : Nat) (hB : w.cell? ⟨B, 0, none⟩ = some (.pointer (some ⟨Bm, 0, none⟩))) (k : Nat) (hk : k < n) :
    Calls Tryd.prog 64 #[.int .i64 (k : Int), .pointer (some ⟨B, 0, none⟩)] w fun e w' => e = .returned (.bool false) ∧ Below w.heap.size w w' := by
  have HS := Lib.hid (state_any w Bm n M F c h k hk)
  clear h
  go_enter Tryd.func64, Tryd.ntmps64
  go_wp2_with fail
  refine HS.out.mono ?_
  rintro e w1 ⟨rfl, hb1⟩
  have HB := Lib.hid hb1
  clear hb1
  go_wp2
  go_ret
  exact ⟨rfl, HB.out⟩
set_option maxHeartbeats 1000000 in
set_option maxRecDepth 100000 in
theorem index64 (w : World) (Bm n : Nat) (M : Int → Int) (F : Nat → Prop) (c : Nat) (h : MO w Bm n M F c) (B : Nat) (hB : w.cell? ⟨B, 0, none⟩ = some (.pointer (some ⟨Bm, 0, none⟩))) (hlB : B < w.heap.size) (k nl : Nat) (hk : k + nl ≤ n) (hnl : 0 < nl) (v : Value) (hv : Rd w v (spanL k nl)) :
    Calls Tryd.prog 76 #[v, .func (.func 64) #[] #[.pointer (some ⟨B, 0, none⟩)]] w fun e w' => e = .returned (.int .i64 (-1)) ∧ Below w.heap.size w w' := by
  have hn : n ≤ 1000 := h.bounds.2
  rcases hv with ⟨ao, cap, rfl, he⟩ | ⟨b, off, cap, rfl, hp, hc1, hm1, hb1, he1⟩
  · exfalso
    have := congrArg List.length he
    rw [spanL_length] at this
    simp at this; omega
  rw [spanL_length] at hc1 ⊢
  have H1 := Lib.hid (show ∀ W, Below w.heap.size w W → ∀ j, j < nl → W.cell? ⟨b, off + j, none⟩ = some (.int .i64 ((k + j : Nat) : Int)) ∧ Calls Tryd.prog 64 #[.int .i64 ((k + j : Nat) : Int), .pointer (some ⟨B, 0, none⟩)] W fun e w' => e = .returned (.bool false) ∧ Below W.heap.size W w' from fun W hW j hj => by
    refine ⟨(hW.cell hb1).trans ?_, rot64 W Bm n M F c (h.below hW) B ((hW.cell hlB).trans hB) (k + j) (by omega)⟩
    rw [he1 j (by rw [spanL_length]; exact hj), spanL_at k nl j hj])
  unfold maxLen at hm1
  clear he1 h hB hp
  go_enter Tryd.func76, Tryd.ntmps76
  go_wp2
  go_loopw [8] (fun i wr => ∃ q : Nat, q ≤ nl ∧ i = .int .i64 q ∧ Hid (Below w.heap.size w wr)) (fun i _ => nl - (RowKit.intOf i).toNat)
  case atStart => exact ⟨0, Nat.zero_le _, rfl, Below.refl _ _⟩
  case round =>
    obtain ⟨q, hq, rfl, hP⟩ := hrel
    by_cases hlt : q < nl
    · obtain ⟨q1, q2⟩ := H1.out wr hP.out q hlt
      have Q2 := Lib.hid q2
      have i1 : (q : Int) < nl := by omega
      clear q2
      go_wp2_with fail
      refine Q2.out.mono ?_
      rintro e w2 ⟨rfl, hb2⟩
      have hP2 : Hid (Below w.heap.size w w2) := below_next hP.out hb2
      clear hb2
      go_wp2
      go_roundw
      case rel => exact ⟨q + 1, by omega, by go_num, hP2⟩
      case measure => simp [RowKit.intOf]; omega
    · obtain rfl : q = nl := by omega
      go_wp2
      go_ret
      exact ⟨rfl, hP.out⟩
set_option maxHeartbeats 400000 in
set_option maxRecDepth 100000 in
theorem contains64 (w : World) (Bm n : Nat) (M : Int → Int) (F : Nat → Prop) (c : Nat) (h : MO w Bm n M F c) (B : Nat) (hB : w.cell? ⟨B, 0, none⟩ = some (.pointer (some ⟨Bm, 0, none⟩))) (hlB : B < w.heap.size) (k nl : Nat) (hk : k + nl ≤ n) (hnl : 0 < nl) (v : Value) (hv : Rd w v (spanL k nl)) :
    Calls Tryd.prog 40 #[v, .func (.func 64) #[] #[.pointer (some ⟨B, 0, none⟩)]] w fun e w' => e = .returned (.bool false) ∧ Below w.heap.size w w' := by
  have HI := Lib.hid (index64 w Bm n M F c h B hB hlB k nl hk hnl v hv)
  obtain ⟨ao, cap, rfl⟩ := hv.shape
  clear h hv hB
  go_enter Tryd.func40, Tryd.ntmps40
  go_wp2_with fail
  refine HI.out.mono ?_
  rintro e w1 ⟨rfl, hb1⟩
  have HB := Lib.hid hb1
  clear hb1
  go_wp2
  go_ret
  exact ⟨rfl, HB.out⟩

/-- A memory with other words from an address on. -/
def wrt (M : Int → Int) (a : Nat) (l : List Int) : Int → Int := fun i => if (a : Int) ≤ i ∧ i < a + l.length then nthI l (i - a).toNat else M i
theorem wr_nil (M : Int → Int) (a : Nat) : wrt M a [] = M := by
  funext i
  unfold wrt
  rw [if_neg (by simp)]
theorem wr_snoc (M : Int → Int) (a : Nat) (l : List Int) (x : Int) : upd (wrt M a l) (a + l.length : Int) x = wrt M a (l ++ [x]) := by
  funext i
  unfold upd wrt
  by_cases h : i = (a : Int) + l.length
  · subst h
    rw [if_pos rfl, if_pos (by simp; omega)]
    unfold nthI
    rw [List.getD_eq_getElem?_getD, show ((a : Int) + l.length - a).toNat = l.length by omega]
    simp
  · rw [if_neg h]
    by_cases h2 : (a : Int) ≤ i ∧ i < a + l.length
    · rw [if_pos h2, if_pos (by simp; omega)]
      unfold nthI
      rw [List.getD_eq_getElem?_getD, List.getD_eq_getElem?_getD, List.getElem?_append_left (by omega)]
    · rw [if_neg h2, if_neg (by simp; omega)]

set_option maxHeartbeats 2000000 in
set_option maxRecDepth 100000 in
theorem fill_any (w : World) (Bm n : Nat) (M : Int → Int) (F : Nat → Prop) (c : Nat) (h : MO w Bm n M F c) (a : Nat) (l : List Int) (v : Value) (hv : Rd w v l) (hF : ∀ b, v.ownBlock = some b → ¬ F b) (hl : a + l.length ≤ 8 * n) (hc : c + 2 * l.length < 90000) (hw : ∀ j, j < l.length → wordB (nthI l j) = true) :
    Calls Tryd.prog 66 #[.pointer (some ⟨Bm, 0, none⟩), .int .i64 (a : Int), v] w fun e w' => (∃ u, e = .returned u) ∧ ∃ F', MO w' Bm n (wrt M a l) F' (c + 2 * l.length) ∧ Moves F F' w w' := by
  have hn : n ≤ 1000 := h.bounds.2
  rcases hv with ⟨ao, cap, rfl, rfl⟩ | ⟨b, off, cap, rfl, hp, hc1, hm1, hb1, he1⟩
  · have HM := Lib.hid h
    clear h
    go_enter Tryd.func66, Tryd.ntmps66
    go_wp2
    refine wp_loop_rounds 1 ?_
    rw [rounds_succ]
    go_wp2
    go_end0
    exact ⟨⟨_, rfl⟩, F, by rw [wr_nil]; exact HM.out, Moves.refl _ _⟩
  · have hFb := hF b rfl
    have H1 := Lib.hid (show ∀ W F', Moves F F' w W → ∀ j, j < l.length → W.cell? ⟨b, off + j, none⟩ = some (.int .i64 (nthI l j)) from fun W F' hm j hj => (hm.cell (p := ⟨b, off + j, none⟩) hb1 hFb).trans (he1 j hj))
    have HW := Lib.hid hw
    have HS := Lib.hid h
    unfold maxLen at hm1
    clear he1 h hw hF hp
    go_enter Tryd.func66, Tryd.ntmps66
    go_wp2
    go_loopw [10] (fun i wr => ∃ q : Nat, q ≤ l.length ∧ i = .int .i64 q ∧ Hid (∃ F', MO wr Bm n (wrt M a (l.take q)) F' (c + 2 * q) ∧ Moves F F' w wr)) (fun i _ => l.length - (RowKit.intOf i).toNat)
    case atStart => exact ⟨0, Nat.zero_le _, rfl, F, by rw [List.take_zero, wr_nil]; exact HS.out, Moves.refl _ _⟩
    case round =>
      obtain ⟨q, hq, rfl, hP⟩ := hrel
      by_cases hlt : q < l.length
      · obtain ⟨F', hm, hv⟩ := hP.out
        have q1 := H1.out _ F' hv q hlt
        have hst := store_any _ Bm n _ F' _ hm (by omega) ((a + q) / 8) ((a + q) % 8) (by omega) (by omega) ((a : Int) + q) (nthI l q) (by omega) (HW.out q hlt)
        have HST := Lib.hid hst
        have HV := Lib.hid hv
        have i1 : (q : Int) < l.length := by omega
        clear hm hv hst hP
        go_wp2_with fail
        refine HST.out.mono ?_
        rintro e w2 ⟨rfl, F2, hm2, hv2⟩
        have hP2 : Hid (∃ F', MO w2 Bm n (wrt M a (l.take (q + 1))) F' (c + 2 * (q + 1)) ∧ Moves F F' w w2) := by
          refine ⟨F2, ?_, HV.out.trans hv2⟩
          have hlq : (l.take q).length = q := by simp; omega
          have := wr_snoc M a (l.take q) (nthI l q)
          rw [hlq] at this
          rw [take_snoc hlt, ← this]
          exact hm2
        clear hm2 hv2
        go_wp2
        go_roundw
        case rel => exact ⟨q + 1, by omega, by go_num, hP2⟩
        case measure => simp [RowKit.intOf]; omega
      · obtain rfl : q = l.length := by omega
        obtain ⟨F', hm, hv⟩ := hP.out
        rw [List.take_length] at hm
        have HM := Lib.hid hm
        have HV := Lib.hid hv
        clear hm hv hP
        go_wp2
        go_end0
        exact ⟨⟨_, rfl⟩, F', HM.out, HV.out⟩

end Go.Proofs.YtcngblnkfiggjaaDoor.Rm
