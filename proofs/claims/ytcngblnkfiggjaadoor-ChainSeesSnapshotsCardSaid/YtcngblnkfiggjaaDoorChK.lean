/- The iterator over a chain: contract of walk and of its closure. -/
import Derived.Test.YtcngblnkfiggjaaDoorChJ
import Derived.Test.YtcngblnkfiggjaaDoorChI
namespace Go.Proofs.YtcngblnkfiggjaaDoor.Rm
open Go Go.RowKit Go.Maps Go.Shelf
attribute [local go_sem] Oper.semAt_some

/-- A cell of a chain: the pointer to it, the line and the number of lines of its block. -/
structure It where
  p : Int
  k : Nat
  nl : Nat
  cl : Cl
/-- The chain from a pointer on. -/
def Chn (M : Int → Int) (n : Nat) : Int → List It → Prop
  | p, [] => p = 0
  | p, it :: r => it.p = p ∧ Blk M n p it.k it.nl ∧ (it.nl = 1 ∨ it.nl = 2) ∧ it.k + it.nl ≤ n ∧ Lies M it.k it.nl it.cl ∧ (∀ j, r.head? = some j → j.cl.t = it.cl.t ∧ j.cl.r = it.cl.r ∧ j.cl.s < it.cl.s) ∧ Chn M n it.cl.p r
/-- What is yielded: the pointer, the cell, the slice of its words. -/
structure Stp where
  p : Int
  cl : Cl
  v : Value
def encS (x : Stp) : Array Value := #[.agg #[.int .i64 x.p, .int .i64 x.cl.t, .int .i64 x.cl.r, .int .i64 x.cl.s, .bool x.cl.d, .int .i64 x.cl.p, x.v], .int .i64 0]
def keyS (x : Stp) : Int × Cl := (x.p, x.cl)
def keyI (x : It) : Int × Cl := (x.p, x.cl)
/-- What the iterator writes. -/
def ownW (Bp Bl : Nat) : Nat → Prop := fun k => k = Bp ∨ k = Bl
def StepW (Bp Bl : Nat) (A B : World) : Prop := Moves (ownW Bp Bl) (ownW Bp Bl) A B
def GW (its : List It) (Bl : Nat) (pre : List Stp) (x : Stp) (A0 A : World) : Prop := ((∃ it, its[pre.length]? = some it ∧ keyS x = keyI it) ∧ Bl < A0.heap.size) ∧ OwnZ A A0.heap.size x.v x.cl.ws
/-- What a round keeps. -/
structure KpW (n₀ Bp Bv Bl : Nat) (A0 A B : World) : Prop where
  os : B.os = A.os
  tape : B.tape = A.tape
  output : B.output = A.output
  size : A.heap.size ≤ B.heap.size
  block : ∀ k, k < A.heap.size → (k < n₀ ∨ k = Bp ∨ k = Bv ∨ k = Bl ∨ A0.heap.size ≤ k) → B.heap[k]? = A.heap[k]?
theorem KpW.below {n₀ Bp Bv Bl : Nat} {A0 A B : World} (h : KpW n₀ Bp Bv Bl A0 A B) (hn : n₀ ≤ A.heap.size) : Below n₀ A B := ⟨h.os, h.tape, h.output, h.size, fun k hk => h.block k (by omega) (.inl hk)⟩

/-- What a round ends with: the last cell and the next pointer. -/
def fin6 (B : World) (Bl : Nat) (c : Cl) (v : Value) (Bp : Nat) : World := ((set6 B Bl (.int .i64 c.t) (.int .i64 c.r) (.int .i64 c.s) (.bool c.d) (.int .i64 c.p) v).setCell ⟨Bp, 0, none⟩ (.int .i64 c.p)).drew
theorem fin6_below {n : Nat} {w : World} (B : World) (Bl : Nat) (c : Cl) (v : Value) (Bp : Nat) (h : Below n w B) (h1 : n ≤ Bl) (h2 : n ≤ Bp) : Below n w (fin6 B Bl c v Bp) :=
  ((put6_below B Bl (.int .i64 c.t) (.int .i64 c.r) (.int .i64 c.s) (.bool c.d) (.int .i64 c.p) v h h1).setCell (p := ⟨Bp, 0, none⟩) h2 (.int .i64 c.p)).drew
theorem drew_heap (w : World) (k : Nat) : w.drew.heap[k]? = w.heap[k]? := rfl
theorem fin6_other (B : World) (Bl : Nat) (c : Cl) (v : Value) (Bp : Nat) {k : Nat} (h1 : k ≠ Bl) (h2 : k ≠ Bp) : (fin6 B Bl c v Bp).heap[k]? = B.heap[k]? := by
  unfold fin6
  rw [drew_heap, Below.heap_setCell _ _ _ _ h2, put6_other _ _ _ _ _ _ _ _ h1]
theorem fin6_moves (B : World) (Bl : Nat) (c : Cl) (v : Value) (Bp : Nat) : StepW Bp Bl B (fin6 B Bl c v Bp) := by
  have hb := fin6_below B Bl c v Bp (Below.refl 0 B) (Nat.zero_le _) (Nat.zero_le _)
  exact ⟨hb.os, hb.tape, hb.output, hb.size, fun k _ hk => fin6_other B Bl c v Bp (fun e => hk (.inr e)) (fun e => hk (.inl e)), fun k h => Or.inl h⟩
theorem fin6_p (B : World) (Bl : Nat) (c : Cl) (v : Value) (Bp : Nat) (x : Int) (h : Boxed B Bp 3 (.int .i64 x)) (hne : Bp ≠ Bl) : Boxed (fin6 B Bl c v Bp) Bp 3 (.int .i64 c.p) := by
  have h6 : (set6 B Bl (.int .i64 c.t) (.int .i64 c.r) (.int .i64 c.s) (.bool c.d) (.int .i64 c.p) v).heap[Bp]? = some (.cells #[.int .i64 x] 3 (0, 0)) := (put6_other _ _ _ _ _ _ _ _ hne).trans h
  have := Joins.block_setCell h6 (i := 0) (.int .i64 c.p)
  simp only [List.setIfInBounds_toArray, List.set_cons_zero] at this
  unfold fin6 Boxed
  rw [drew_heap]
  exact this
theorem fin6_l (B : World) (Bl : Nat) (c lc : Cl) (v lv : Value) (Bp : Nat) (h : B.heap[Bl]? = some (boxC lc lv)) (hne : Bl ≠ Bp) : (fin6 B Bl c v Bp).heap[Bl]? = some (boxC c v) := by
  have h6 := put6 B Bl 24 _ _ _ _ _ _ (.int .i64 c.t) (.int .i64 c.r) (.int .i64 c.s) (.bool c.d) (.int .i64 c.p) v h
  unfold fin6
  rw [drew_heap, Below.heap_setCell _ _ _ _ hne]
  exact h6

set_option maxHeartbeats 400000 in
theorem walk_any (n : Nat) (w : World) (a : Option Addr) (p : Int) : CallsIn Fence.wide n Tryd.prog 46 #[.pointer a, .int .i64 p] w fun e w' => e = .returned (.func (.func 77) #[] #[.pointer (some ⟨w.heap.size + 1, 0, none⟩), .pointer (some ⟨w.heap.size, 0, none⟩)]) ∧ w' = (w.alloc (.cells #[.pointer a] 41)).alloc (.cells #[.int .i64 p] 3) := by
  refine callsIn_wide.2 ?_
  go_enter Tryd.func46, Tryd.ntmps46
  go_wp2
  go_ret
  exact ⟨rfl, rfl⟩

set_option maxHeartbeats 4000000 in
set_option maxRecDepth 100000 in
theorem walk1_c (n : Nat) (hn1 : 1 ≤ n) (w0 W : World) (Bv Bm nM : Nat) (M : Int → Int) (F : Nat → Prop) (c : Nat) (hCV : CV w0 Bv Bm nM M F c) (hc : c < 100000) (T : Tabs w0) (its : List It) (p0 : Int) (hch : Chn M nM p0 its) (hlen : its.length ≤ 1000) (Bp Bb : Nat)
    (hBp : Boxed W Bp 3 (.int .i64 p0)) (hBb : Boxed W Bb 41 (.pointer (some ⟨Bv, 0, none⟩))) (hne : Bp ≠ Bb) (hp0 : w0.heap.size ≤ Bp) (hb0 : w0.heap.size ≤ Bb) (hB : Below w0.heap.size w0 W) :
    SeqC n 77 #[.pointer (some ⟨Bp, 0, none⟩), .pointer (some ⟨Bb, 0, none⟩)] encS (StepW Bp W.heap.size) (GW its W.heap.size) (KpW w0.heap.size Bp Bb W.heap.size) (fun xs => xs.map keyS = its.map keyI) (fun pre => pre.map keyS = (its.map keyI).take pre.length) its.length W := by
  intro l J Jx hJ hY h0
  have hsz := hB.size
  have hBpl := hBp.lt
  have hBbl := hBb.lt
  have hAl : StepW Bp W.heap.size W (W.alloc zero6) := Moves.of_below ((Below.refl _ _).alloc (Nat.le_refl _) _)
  have HJ0 := Lib.hid (hJ _ _ _ h0 hAl)
  have HI0 := Lib.hid (show Boxed (W.alloc zero6) Bp 3 (.int .i64 p0) ∧ Boxed (W.alloc zero6) Bb 41 (.pointer (some ⟨Bv, 0, none⟩)) ∧ (W.alloc zero6).heap[W.heap.size]? = some (boxC Cl.zero (.slice none 0 0)) ∧ Below w0.heap.size w0 (W.alloc zero6) from
    ⟨hBp.alloc _, hBb.alloc _, heap_alloc_new _ _, hB.alloc hsz _⟩)
  have HCH := Lib.hid hch
  have HCV := Lib.hid hCV
  have HT := Lib.hid T
  have HY := Lib.hid hY
  have HJ := Lib.hid hJ
  clear hch hCV T hY hJ h0 hBp hBb hAl hB
  refine callsIn_of_wp Tryd.func77 rfl trivial ?_ rfl
  simp only [Tryd.ntmps77, List.size_toArray, List.length_cons, List.length_nil, Nat.reduceAdd, Nat.reduceSub, Array.replicate_succ, Array.replicate_zero, List.push_toArray, List.append_toArray, List.nil_append, List.cons_append]
  gi_wp2
  gi_loopw [5] (fun i wr => ∃ (don : List Stp) (rest : List It) (pc : Int) (lc : Cl) (lv : Value), i = .int .i64 (don.length : Int) ∧ don.length ≤ its.length ∧ Hid ((its.map keyI = don.map keyS ++ rest.map keyI ∧ Chn M nM pc rest ∧ (∀ j, rest.head? = some j → don ≠ [] → j.cl.t = lc.t ∧ j.cl.r = lc.r ∧ j.cl.s < lc.s)) ∧ (∃ a' m' c', lv = .slice a' m' c') ∧ J don wr ∧ Boxed wr Bp 3 (.int .i64 pc) ∧ Boxed wr Bb 41 (.pointer (some ⟨Bv, 0, none⟩)) ∧ wr.heap[W.heap.size]? = some (boxC lc lv) ∧ Below w0.heap.size w0 wr)) (fun i _ => its.length - (RowKit.intOf i).toNat)
  case atStart => exact ⟨[], its, p0, Cl.zero, .slice none 0 0, rfl, Nat.zero_le _, ⟨rfl, HCH.out, fun j _ h => (h rfl).elim⟩, ⟨_, _, _, rfl⟩, HJ0.out, HI0.out.1, HI0.out.2.1, HI0.out.2.2.1, HI0.out.2.2.2⟩
  case round =>
    obtain ⟨don, rest, pc, lc, lv, rfl, hdl, hP⟩ := hrel
    obtain ⟨⟨hmap, hchn, hlast⟩, ⟨la, lm, lcap, hlv⟩, hJd, bP, bB, bL, hBw⟩ := hP.out
    subst hlv
    have hlens : don.length + rest.length = its.length := by
      have := congrArg List.length hmap
      simp at this; omega
    have cP := bP.cell
    have cB := bB.cell
    have fP := bP.frozen
    cases rest with
    | nil =>
      have hpc : pc = 0 := hchn
      subst hpc
      have HEND := Lib.hid (show don.map keyS = its.map keyI ∧ J don wr from ⟨by rw [hmap]; simp, hJd⟩)
      clear hmap hchn hlast hJd bP bB bL hBw hP fP
      gi_wp2
      go_end0
      exact ⟨⟨_, rfl⟩, .inl ⟨don, HEND.out.1, HEND.out.2⟩⟩
    | cons it r =>
      obtain ⟨hip, hblk, hnl, hkn, hlies, hnext, hchr⟩ := hchn
      have hpz : (pc != 0) = true := by simpa using hblk.ne
      have hdn : don.length < its.length := by simp at hlens; omega
      have hRD := read_any wr Bv Bm nM M F c (HCV.out.below hBw) hc (HT.out.below hBw) pc it.k it.nl hblk hnl hkn it.cl hlies
      have HRD := Lib.hid hRD
      have hitx : its[don.length]? = some it ∨ ∃ it', its[don.length]? = some it' ∧ keyI it' = keyI it := by
        right
        have h1 : (its.map keyI)[don.length]? = some (keyI it) := by
          rw [hmap, List.getElem?_append_right (by simp)]; simp
        rw [List.getElem?_map] at h1
        cases h2 : its[don.length]? with
        | none => rw [h2] at h1; cases h1
        | some it' => rw [h2] at h1; exact ⟨it', rfl, by simpa using h1⟩
      have HG := Lib.hid (show ∃ it', its[don.length]? = some it' ∧ (it.p, it.cl) = keyI it' from by
        rcases hitx with h | ⟨it', h1, h2⟩
        · exact ⟨it, h, rfl⟩
        · exact ⟨it', h1, h2.symm⟩)
      have i1 : ((don.length : Int) == 1000) = false := by
        rw [beq_eq_false_iff_ne]; omega
      have hwl : W.heap.size < wr.heap.size := (Array.getElem?_eq_some_iff.1 bL).1
      have HP := Lib.hid hP.out
      have HHD := Lib.hid hlast
      have HMAP := Lib.hid hmap
      have HCR := Lib.hid hchr
      have HNX := Lib.hid hnext
      have HIP := Lib.hid hip
      clear hmap hlast hnext hlies hblk hchr hRD hitx hP hBw hip fP hlens
      gi_wp2_with fail
      refine ⟨trivial, (callsIn_wide.2 HRD.out).mono ?_⟩
      unfold clV
      rintro e w2 ⟨⟨u, rfl, ho2⟩, hb2⟩
      obtain ⟨au, cu, hsu⟩ := owns_shape ho2
      subst hsu
      have hA : Below wr.heap.size wr (w2.alloc (boxC it.cl (.slice au it.cl.ws.length cu))) := hb2.alloc hb2.size _
      have hw2 := hb2.size
      obtain ⟨_, _, hJd, bP, bB, bL, hBw⟩ := HP.out
      have hyd := HY.out don ⟨it.p, it.cl, .slice au it.cl.ws.length cu⟩ wr _ hJd (Moves.of_below hA) ⟨⟨HG.out, hwl⟩, World.ownsRow.alloc ho2 _⟩ hdn
      have HPA := Lib.hid (show Boxed (w2.alloc (boxC it.cl (.slice au it.cl.ws.length cu))) Bp 3 (.int .i64 pc) from (hA.block Bp bP.lt).trans bP)
      have HBA := Lib.hid (show Boxed (w2.alloc (boxC it.cl (.slice au it.cl.ws.length cu))) Bb 41 (.pointer (some ⟨Bv, 0, none⟩)) from (hA.block Bb bB.lt).trans bB)
      have HLA := Lib.hid (show (w2.alloc (boxC it.cl (.slice au it.cl.ws.length cu))).heap[W.heap.size]? = some (boxC lc (.slice la lm lcap)) from (hA.block _ hwl).trans bL)
      have HBW := Lib.hid hBw
      unfold encS at hyd
      rw [HIP.out] at hyd
      unfold boxC at hyd
      obtain ⟨fn, tmps, assign, body, hy, hR⟩ := hyd
      dsimp only at hy
      have d0 := HPA.out.cell
      obtain ⟨l0, l1, l2, l3, l4, l5⟩ := boxC_cells HLA.out
      unfold boxC at d0 l0 l1 l2
      clear ho2 hb2 hJd bP bB bL hBw cP cB l3 l4 l5
      by_cases hdz : don = []
      · have i2 : ¬ (0 : Int) < don.length := by rw [hdz]; simp
        clear hdz
        gi_wp2
        refine hR.mono ?_
        rintro e B (⟨rfl, hJB, hKB⟩ | ⟨rfl, hJx⟩)
        · have hBx : B.heap[w2.heap.size]? = some (boxC it.cl (.slice au it.cl.ws.length cu)) := (hKB.block w2.heap.size (by simp) (.inr (.inr (.inr (.inr hw2))))).trans (heap_alloc_new _ _)
          have hBl : B.heap[W.heap.size]? = some (boxC lc (.slice la lm lcap)) := (hKB.block W.heap.size (by simp; omega) (.inr (.inr (.inr (.inl rfl))))).trans HLA.out
          have hBp : Boxed B Bp 3 (.int .i64 pc) := (hKB.block Bp (by simp; omega) (.inr (.inl rfl))).trans HPA.out
          have hBb : Boxed B Bb 41 (.pointer (some ⟨Bv, 0, none⟩)) := (hKB.block Bb (by simp; omega) (.inr (.inr (.inl rfl)))).trans HBA.out
          have hBW : Below w0.heap.size w0 B := (HBW.out.trans (hA.mono (by omega))).trans (hKB.below (by simp; omega))
          have hszB := hKB.size
          have hwB : w2.heap.size < B.heap.size := (Array.getElem?_eq_some_iff.1 hBx).1
          obtain ⟨x0, x1, x2, x3, x4, x5⟩ := boxC_cells hBx
          obtain ⟨y0, y1, y2, y3, y4, y5⟩ := boxC_cells hBl
          have f0 : B.frozen? ⟨W.heap.size, 0, none⟩ = false := Joins.unfrozen_of_block hBl 0
          have f1 : B.frozen? ⟨W.heap.size, 1, none⟩ = false := Joins.unfrozen_of_block hBl 1
          have f2 : B.frozen? ⟨W.heap.size, 2, none⟩ = false := Joins.unfrozen_of_block hBl 2
          have f3 : B.frozen? ⟨W.heap.size, 3, none⟩ = false := Joins.unfrozen_of_block hBl 3
          have f4 : B.frozen? ⟨W.heap.size, 4, none⟩ = false := Joins.unfrozen_of_block hBl 4
          have f5 : B.frozen? ⟨W.heap.size, 5, none⟩ = false := Joins.unfrozen_of_block hBl 5
          have g0 := hBp.cell
          have g1 := hBp.frozen
          have hWB : W.heap.size < B.heap.size := (Array.getElem?_eq_some_iff.1 hBl).1
          have hpB : Bp < B.heap.size := hBp.lt
          have n1 : W.heap.size ≠ w2.heap.size := by omega
          have n2 : Bp ≠ w2.heap.size := by omega
          have n3 : Bp ≠ W.heap.size := by omega
          have HN := Lib.hid (show Hid ((its.map keyI = (don ++ [Stp.mk pc it.cl (.slice au it.cl.ws.length cu)]).map keyS ++ r.map keyI ∧ Chn M nM it.cl.p r ∧ (∀ j, r.head? = some j → (don ++ [Stp.mk pc it.cl (.slice au it.cl.ws.length cu)]) ≠ [] → j.cl.t = it.cl.t ∧ j.cl.r = it.cl.r ∧ j.cl.s < it.cl.s)) ∧ (∃ a' m' c', (Value.slice au it.cl.ws.length cu) = .slice a' m' c') ∧ J (don ++ [Stp.mk pc it.cl (.slice au it.cl.ws.length cu)]) (fin6 B W.heap.size it.cl (.slice au it.cl.ws.length cu) Bp) ∧ Boxed (fin6 B W.heap.size it.cl (.slice au it.cl.ws.length cu) Bp) Bp 3 (.int .i64 it.cl.p) ∧ Boxed (fin6 B W.heap.size it.cl (.slice au it.cl.ws.length cu) Bp) Bb 41 (.pointer (some ⟨Bv, 0, none⟩)) ∧ (fin6 B W.heap.size it.cl (.slice au it.cl.ws.length cu) Bp).heap[W.heap.size]? = some (boxC it.cl (.slice au it.cl.ws.length cu)) ∧ Below w0.heap.size w0 (fin6 B W.heap.size it.cl (.slice au it.cl.ws.length cu) Bp)) from by
            have hst := fin6_moves B W.heap.size it.cl (.slice au it.cl.ws.length cu) Bp
            refine ⟨⟨?_, HCR.out, fun j hj _ => HNX.out j hj⟩, ⟨_, _, _, rfl⟩, HJ.out _ _ _ hJB hst, ?_, ?_, ?_, ?_⟩
            · rw [HMAP.out]; simp [keyS, keyI, HIP.out]
            · exact fin6_p B _ _ _ _ pc hBp n3
            · exact (fin6_other B _ _ _ _ (by omega) hne.symm).trans hBb
            · exact fin6_l B _ _ lc _ _ _ hBl n3.symm
            · exact fin6_below B _ _ _ _ hBW hsz hp0)
          unfold fin6 set6 at HN
          clear hBx hBl hBp hBb hBW hKB hJB hR hy
          gi_wp2
          refine wpIn_wide.2 ?_
          go_region
          gi_wp2
          go_roundw
          case rel => exact ⟨_, r, it.cl.p, it.cl, _, by simp, by simp; omega, HN.out⟩
          case measure => simp [RowKit.intOf]; omega
        · have HX := Lib.hid (show (don ++ [Stp.mk pc it.cl (.slice au it.cl.ws.length cu)]).map keyS = (its.map keyI).take (don ++ [Stp.mk pc it.cl (.slice au it.cl.ws.length cu)]).length from by
            rw [HMAP.out]
            have e1 : (don ++ [Stp.mk pc it.cl (.slice au it.cl.ws.length cu)]).length = (don.map keyS).length + 1 := by simp
            rw [e1, List.take_length_add_append]
            simp [keyS, keyI, HIP.out])
          have HJX := Lib.hid hJx
          clear hJx hR hy
          gi_wp2
          refine bodyPost_ret (results_none rfl _ _ _) rfl ?_
          exact ⟨⟨_, rfl⟩, .inr ⟨_, HX.out, HJX.out⟩⟩
      · have i2 : (0 : Int) < don.length := by have := List.length_pos_iff.2 hdz; omega
        obtain ⟨e1, e2, e3⟩ := HHD.out it rfl hdz
        have e1' : (it.cl.t != lc.t) = false := by simpa using e1
        have e2' : (it.cl.r != lc.r) = false := by simpa using e2
        have e3' : ¬ lc.s ≤ it.cl.s := by omega
        clear hdz e1 e2 e3
        gi_wp2
        refine hR.mono ?_
        rintro e B (⟨rfl, hJB, hKB⟩ | ⟨rfl, hJx⟩)
        · have hBx : B.heap[w2.heap.size]? = some (boxC it.cl (.slice au it.cl.ws.length cu)) := (hKB.block w2.heap.size (by simp) (.inr (.inr (.inr (.inr hw2))))).trans (heap_alloc_new _ _)
          have hBl : B.heap[W.heap.size]? = some (boxC lc (.slice la lm lcap)) := (hKB.block W.heap.size (by simp; omega) (.inr (.inr (.inr (.inl rfl))))).trans HLA.out
          have hBp : Boxed B Bp 3 (.int .i64 pc) := (hKB.block Bp (by simp; omega) (.inr (.inl rfl))).trans HPA.out
          have hBb : Boxed B Bb 41 (.pointer (some ⟨Bv, 0, none⟩)) := (hKB.block Bb (by simp; omega) (.inr (.inr (.inl rfl)))).trans HBA.out
          have hBW : Below w0.heap.size w0 B := (HBW.out.trans (hA.mono (by omega))).trans (hKB.below (by simp; omega))
          have hszB := hKB.size
          have hwB : w2.heap.size < B.heap.size := (Array.getElem?_eq_some_iff.1 hBx).1
          obtain ⟨x0, x1, x2, x3, x4, x5⟩ := boxC_cells hBx
          obtain ⟨y0, y1, y2, y3, y4, y5⟩ := boxC_cells hBl
          have f0 : B.frozen? ⟨W.heap.size, 0, none⟩ = false := Joins.unfrozen_of_block hBl 0
          have f1 : B.frozen? ⟨W.heap.size, 1, none⟩ = false := Joins.unfrozen_of_block hBl 1
          have f2 : B.frozen? ⟨W.heap.size, 2, none⟩ = false := Joins.unfrozen_of_block hBl 2
          have f3 : B.frozen? ⟨W.heap.size, 3, none⟩ = false := Joins.unfrozen_of_block hBl 3
          have f4 : B.frozen? ⟨W.heap.size, 4, none⟩ = false := Joins.unfrozen_of_block hBl 4
          have f5 : B.frozen? ⟨W.heap.size, 5, none⟩ = false := Joins.unfrozen_of_block hBl 5
          have g0 := hBp.cell
          have g1 := hBp.frozen
          have hWB : W.heap.size < B.heap.size := (Array.getElem?_eq_some_iff.1 hBl).1
          have hpB : Bp < B.heap.size := hBp.lt
          have n1 : W.heap.size ≠ w2.heap.size := by omega
          have n2 : Bp ≠ w2.heap.size := by omega
          have n3 : Bp ≠ W.heap.size := by omega
          have HN := Lib.hid (show Hid ((its.map keyI = (don ++ [Stp.mk pc it.cl (.slice au it.cl.ws.length cu)]).map keyS ++ r.map keyI ∧ Chn M nM it.cl.p r ∧ (∀ j, r.head? = some j → (don ++ [Stp.mk pc it.cl (.slice au it.cl.ws.length cu)]) ≠ [] → j.cl.t = it.cl.t ∧ j.cl.r = it.cl.r ∧ j.cl.s < it.cl.s)) ∧ (∃ a' m' c', (Value.slice au it.cl.ws.length cu) = .slice a' m' c') ∧ J (don ++ [Stp.mk pc it.cl (.slice au it.cl.ws.length cu)]) (fin6 B W.heap.size it.cl (.slice au it.cl.ws.length cu) Bp) ∧ Boxed (fin6 B W.heap.size it.cl (.slice au it.cl.ws.length cu) Bp) Bp 3 (.int .i64 it.cl.p) ∧ Boxed (fin6 B W.heap.size it.cl (.slice au it.cl.ws.length cu) Bp) Bb 41 (.pointer (some ⟨Bv, 0, none⟩)) ∧ (fin6 B W.heap.size it.cl (.slice au it.cl.ws.length cu) Bp).heap[W.heap.size]? = some (boxC it.cl (.slice au it.cl.ws.length cu)) ∧ Below w0.heap.size w0 (fin6 B W.heap.size it.cl (.slice au it.cl.ws.length cu) Bp)) from by
            have hst := fin6_moves B W.heap.size it.cl (.slice au it.cl.ws.length cu) Bp
            refine ⟨⟨?_, HCR.out, fun j hj _ => HNX.out j hj⟩, ⟨_, _, _, rfl⟩, HJ.out _ _ _ hJB hst, ?_, ?_, ?_, ?_⟩
            · rw [HMAP.out]; simp [keyS, keyI, HIP.out]
            · exact fin6_p B _ _ _ _ pc hBp n3
            · exact (fin6_other B _ _ _ _ (by omega) hne.symm).trans hBb
            · exact fin6_l B _ _ lc _ _ _ hBl n3.symm
            · exact fin6_below B _ _ _ _ hBW hsz hp0)
          unfold fin6 set6 at HN
          clear hBx hBl hBp hBb hBW hKB hJB hR hy
          gi_wp2
          refine wpIn_wide.2 ?_
          go_region
          gi_wp2
          go_roundw
          case rel => exact ⟨_, r, it.cl.p, it.cl, _, by simp, by simp; omega, HN.out⟩
          case measure => simp [RowKit.intOf]; omega
        · have HX := Lib.hid (show (don ++ [Stp.mk pc it.cl (.slice au it.cl.ws.length cu)]).map keyS = (its.map keyI).take (don ++ [Stp.mk pc it.cl (.slice au it.cl.ws.length cu)]).length from by
            rw [HMAP.out]
            have e1 : (don ++ [Stp.mk pc it.cl (.slice au it.cl.ws.length cu)]).length = (don.map keyS).length + 1 := by simp
            rw [e1, List.take_length_add_append]
            simp [keyS, keyI, HIP.out])
          have HJX := Lib.hid hJx
          clear hJx hR hy
          gi_wp2
          refine bodyPost_ret (results_none rfl _ _ _) rfl ?_
          exact ⟨⟨_, rfl⟩, .inr ⟨_, HX.out, HJX.out⟩⟩

end Go.Proofs.YtcngblnkfiggjaaDoor.Rm
