/- Contract of grown of the statement of the snapshots. -/
import Derived.Test.YtcngblnkfiggjaaDoorChG2
namespace Go.Proofs.YtcngblnkfiggjaaDoor.Rm
open Go Go.RowKit Go.Maps

theorem gStore {w : World} {gaps : List Int} {dead : List Bool} {Bv Bm i : Nat} {F : Nat → Prop} {c : Nat} {vl : Value} {xs : List Stp} {W : World} (h : GI w gaps dead Bv Bm i (MG gaps dead i) F c vl xs W) (hi : i < 16) (hc : c ≤ 40 * i) (x y : Int) (hx : x = 8 * (4 + 2 * (i : Int))) (hy : y = hdrG i) :
    Calls Tryd.prog 30 #[.pointer (some ⟨Bm, 0, none⟩), .int .i64 x, .int .i64 y] W fun e w' => e = .returned (.int .i64 0) ∧ ∃ F', GI w gaps dead Bv Bm i (upd (MG gaps dead i) (8 * (4 + 2 * i)) (hdrG i)) F' (c + 2) vl xs w' ∧ Moves F F' W w' := by
  subst hx hy
  refine (store_any W Bm 40 _ F c h.cv.mem (by omega) (4 + 2 * i) 0 (by omega) (by omega) _ _ (by omega) (wordB_of (by rw [hdrG_eq hi]; omega))).mono ?_
  rintro e w' ⟨rfl, F', hm, hv⟩
  exact ⟨rfl, F', h.moves (h.cv.moves hm hv) hv, hv⟩
theorem gWrite {w : World} {gaps : List Int} {dead : List Bool} {Bv Bm i : Nat} {F : Nat → Prop} {c : Nat} {vl : Value} {xs : List Stp} {W : World} (h : GI w gaps dead Bv Bm i (upd (MG gaps dead i) (8 * (4 + 2 * i)) (hdrG i)) F c vl xs W) (hi : i < 16) (hc : c ≤ 40 * i + 2) (T : Tabs W) (q t r s : Int) (d : Bool) (p : Int) (v : Value) (hq : q = ptrG (i + 1)) (hcl : cellG gaps dead i = ⟨t, r, s, d, p, (cellG gaps dead i).ws⟩) (hv : Rd W v (cellG gaps dead i).ws) :
    Calls Tryd.prog 33 #[.pointer (some ⟨Bv, 0, none⟩), .int .i64 q, .agg #[.int .i64 t, .int .i64 r, .int .i64 s, .bool d, .int .i64 p, v]] W fun e w' => e = .returned (.int .i64 0) ∧ ∃ F' c', c' ≤ 40 * (i + 1) ∧ GI w gaps dead Bv Bm i (MG gaps dead (i + 1)) F' c' vl xs w' ∧ Moves F F' W w' := by
  subst hq
  have hb : Blk (upd (MG gaps dead i) (8 * (4 + 2 * i)) (hdrG i)) 40 (ptrG (i + 1)) (4 + 2 * i) 2 := hdrG_blk hi (by unfold upd; rw [if_pos rfl])
  have hl := cellG_len gaps dead i
  have he := enc_length (cellG gaps dead i)
  have hw := write_any W Bv Bm 40 _ F c h.cv (by omega) T (ptrG (i + 1)) (4 + 2 * i) 2 hb (.inr rfl) (by omega) (cellG gaps dead i) v hv (cellG_right gaps dead hi) (by omega)
  unfold clV at hw
  rw [hcl] at hw
  refine hw.mono ?_
  rw [← hcl]
  rintro e w' ⟨rfl, F', hcv, hm⟩
  exact ⟨rfl, F', _, by omega, h.moves hcv hm, hm⟩
theorem wpList_append_one (w : World) {ops : Array Oper} {rest : List Oper} {o : Oper} {a : Act} {Q : Exit → Act → World → Prop}
    (hg : o.guard = none) (s x : Operand) (sl el sz bytes : Nat) (z : Value) (hop : o.op = Op.call { callee := Callee.builtin Builtin.append, args := #[s, x], argTypes := #[sl, sl] }) (hty : o.type = sl)
    (hu : Tryd.prog.underlying sl = some (.slice el)) (hi : (Tryd.prog.info? el).map (fun i => (i.zero, i.size, i.bytes)) = some (some z, sz, bytes)) (hzs : z.cells.size = sz) (hsz : 0 < sz) (hby : bytes ≤ 1000)
    (base : Nat) (v : Value) (n : Nat) (xs news : List Value) (b : Nat) (hs : a.eval s = v) (hx : a.eval x = .slice (some ⟨b, 0, none⟩) 1 1) (hown : w.ownsRow base el sz v n xs) (hblk : w.heap[b]? = some (.cells news.toArray el (0, 0))) (hlen : news.length = sz) (h1 : ∀ u ∈ news, u.oneCell' = true) (hl : n < 1000000) (hbase : base ≤ w.heap.size)
    (h : ∀ v' w', w'.ownsRow base el sz v' (n + 1) (xs ++ news) → w.grownBy w' v.ownBlock → (v'.ownBlock = v.ownBlock ∨ v'.ownBlock = some w.heap.size) → wpList Tryd.prog ops Q rest (a.put o.dst v') w') :
    wpList Tryd.prog ops Q (o :: rest) a w := by
  refine wpList_plain hg fun K hK' => ?_
  obtain ⟨v', w', hrun, r1, r2, r3⟩ := run_append_one w sl el sz bytes z hu hi hzs hsz hby base v n xs news b hown hblk hlen h1 hl hbase
  unfold Oper.wp
  simp [execOp, hop, hty, resolve, invoke, builtin, hs, hx, hrun, Result.andThen]
  exact hK' _ _ (h v' w' r1 r2 r3)

set_option maxHeartbeats 8000000 in
set_option maxRecDepth 100000 in
theorem grown_any (w : World) (T : Tabs w) (gaps : List Int) (dead : List Bool) (gv dv : Value) (hg : Rd w gv gaps) (hd : RdB w dv dead) :
    Calls Tryd.prog 17 #[gv, dv] w fun e w' => ∃ Bv Bm F c vl xs, e = .returned (.tuple #[.pointer (some ⟨Bv, 0, none⟩), .int .i64 (ptrG (min gaps.length 16)), vl]) ∧ c ≤ 40 * (min gaps.length 16) ∧ GI w gaps dead Bv Bm (min gaps.length 16) (MG gaps dead (min gaps.length 16)) F c vl xs w' := by
  obtain ⟨ga, gcap, rfl⟩ := hg.shape
  obtain ⟨da, dcap, rfl⟩ := hd.shape
  have hgb := hg.bound
  have HG := Lib.hid hg
  have HD := Lib.hid hd
  have HT := Lib.hid T
  clear hg hd T
  go_enter Tryd.func17, Tryd.ntmps17
  go_wp2_with fail
  refine (new_any w 40 (by omega)).mono ?_
  rintro e w1 ⟨Bm, F0, rfl, hm, hF, hb1⟩
  obtain ⟨_, _, hlt, _⟩ := hm.top
  have HM := Lib.hid hm
  have HF := Lib.hid hF
  have HB1 := Lib.hid hb1
  clear hm hF hb1
  go_wp2_with fail
  refine (cover_any w1 Bm 40 _ F0 0 HM.out).mono ?_
  rintro e w2 ⟨Bv, rfl, hcv, hle, hb2⟩
  have hs1 := HB1.out.size
  have HGI := Lib.hid (show GI w gaps dead Bv Bm 0 (MG gaps dead 0) F0 0 (.slice none 0 0) [] w2 from
    ⟨hcv, HF.out, by omega, HB1.out.trans (hb2.mono hs1), rfl, fun j hj => by omega, World.ownsRow_nil _ _ _ _, (fun b hb => (by cases hb)), (fun x hx => (by cases hx))⟩)
  clear hcv hb2 HM HF
  go_wp2
  go_loopw [9, 10, 11, 22] (fun vl p st i wr => ∃ (k : Nat) (ao : Option Addr) (cp : Nat) (F : Nat → Prop) (cc : Nat) (xs : List Stp), k ≤ gaps.length ∧ k ≤ 16 ∧ i = .int .i64 k ∧ p = .int .i64 (ptrG k) ∧ st = .int .i64 (stampG gaps k) ∧ vl = .slice ao k cp ∧ Hid (cc ≤ 40 * k ∧ GI w gaps dead Bv Bm k (MG gaps dead k) F cc (.slice ao k cp) xs wr)) (fun vl p st i _ => gaps.length - (RowKit.intOf i).toNat)
  case atStart => exact ⟨0, none, 0, F0, 0, [], Nat.zero_le _, by omega, rfl, rfl, rfl, rfl, by omega, HGI.out⟩
  case round =>
    obtain ⟨k, ao, cp, F, cc, xs, hk1, hk2, rfl, rfl, rfl, rfl, hP⟩ := hrel
    have hbw := hP.out.2.below
    by_cases hlt : k < gaps.length
    · obtain ⟨b, off, hga, q0⟩ : ∃ b off, ga = some ⟨b, off, none⟩ ∧ wr.cell? ⟨b, off + k, none⟩ = some (.int .i64 (nthI gaps k)) := by
        rcases HG.out with ⟨_, _, e1, e2⟩ | ⟨b, off, cs, e1, _, h1, h2, h3, h4⟩
        · rw [e2] at hlt; simp at hlt
        · cases e1
          exact ⟨b, off, rfl, (World.cell?_of_block (hbw.block b h3)).trans (h4 k hlt)⟩
      subst hga
      have i1 : (k : Int) < gaps.length := by omega
      by_cases h16 : k < 16
      · have i3 : ¬ (16 : Int) ≤ k := by omega
        obtain ⟨a0, a1⟩ := and_rng (nthI gaps k) 3 (by omega) (by omega)
        obtain ⟨s0, s1⟩ := stampG_rng gaps k
        have HCC := Lib.hid hP.out.1
        clear hbw
        by_cases hdl : k < dead.length
        · obtain ⟨bd, offd, hda, q1⟩ : ∃ bd offd, da = some ⟨bd, offd, none⟩ ∧ wr.cell? ⟨bd, offd + k, none⟩ = some (.bool (deadG dead k)) := by
            rcases HD.out with ⟨_, _, e1, e2⟩ | ⟨b, off, cs, e1, _, h1, h2, h3, h4⟩
            · rw [e2] at hdl; simp at hdl
            · cases e1
              exact ⟨b, off, rfl, (World.cell?_of_block (hP.out.2.below.block b h3)).trans (h4 k hdl)⟩
          subst hda
          have i4 : (k : Int) < dead.length := by omega
          cases hdd : deadG dead k with
          | true =>
            rw [hdd] at q1
            -- LEAF 1 BEGIN
            have hcl : cellG gaps dead k = ⟨1, 9, (stampG gaps k + (1 + bits .and .i64 (nthI gaps k) 3)), true, ptrG k, []⟩ := by unfold cellG; rw [hdd]; rfl
            have hBA : Below wr.heap.size wr (wr.alloc (.cells #[.int .i64 1, .int .i64 9, .int .i64 (stampG gaps k + (1 + bits .and .i64 (nthI gaps k) 3)), .bool true, .int .i64 (ptrG k), (.slice none 0 0)] 24)) := (Below.refl _ wr).alloc (Nat.le_refl _) _
            have hGA := (hP.out.2).next hBA
            have hBX : (wr.alloc (.cells #[.int .i64 1, .int .i64 9, .int .i64 (stampG gaps k + (1 + bits .and .i64 (nthI gaps k) 3)), .bool true, .int .i64 (ptrG k), (.slice none 0 0)] 24)).heap[wr.heap.size]? = some (.cells #[.int .i64 1, .int .i64 9, .int .i64 (stampG gaps k + (1 + bits .and .i64 (nthI gaps k) 3)), .bool true, .int .i64 (ptrG k), (.slice none 0 0)] 24) := heap_alloc_new _ _
            have hRA : Rd (wr.alloc (.cells #[.int .i64 1, .int .i64 9, .int .i64 (stampG gaps k + (1 + bits .and .i64 (nthI gaps k) 3)), .bool true, .int .i64 (ptrG k), (.slice none 0 0)] 24)) (.slice none 0 0) [] := Or.inl ⟨_, _, rfl, rfl⟩
            have hTA := HT.out.belowB hGA.below HT.out.sz
            have hsA : (wr.alloc (.cells #[.int .i64 1, .int .i64 9, .int .i64 (stampG gaps k + (1 + bits .and .i64 (nthI gaps k) 3)), .bool true, .int .i64 (ptrG k), (.slice none 0 0)] 24)).heap.size = wr.heap.size + 1 := by simp
            have HGA := Lib.hid hGA
            have HBX := Lib.hid hBX
            have HRA := Lib.hid hRA
            have HTA := Lib.hid hTA
            have HCL := Lib.hid hcl
            have HSA := Lib.hid hsA
            have HBE := Lib.hid hBA
            clear hcl hBA hGA hBX hRA hTA hsA
            go_wp2_with fail
            refine (rmake_any _ _ _).mono ?_
            rintro e wx ⟨rfl, rfl⟩
            go_wp2_with fail
            refine (rpack_any _ _ _ _).mono ?_
            rintro e wx ⟨rfl, rfl⟩
            go_wp2_with fail
            refine (gStore HGA.out h16 HCC.out _ _ (by omega) (by unfold hdrG; first | rfl | (congr 1; omega))).mono ?_
            rintro e w4 ⟨rfl, F1, hG4, hv4⟩
            have hs4 := hv4.size
            rw [HSA.out] at hs4
            have hnF : ∀ b, wr.heap.size ≤ b → b < wr.heap.size + 1 → ¬ F b ∧ ¬ F1 b := fun b hb1 hb2 => by
              have h1 : ¬ F b := fun hF => by have := hP.out.2.cv.mem.lt hF; omega
              exact ⟨h1, fun hF1 => by
                rcases hv4.sub b hF1 with h2 | h2
                · exact h1 h2
                · rw [HSA.out] at h2; omega⟩
            have hbx4 := (hv4.block wr.heap.size (by rw [HSA.out]; omega) (hnF _ (Nat.le_refl _) (by omega)).1).trans HBX.out
            have hr4 : Rd w4 (.slice none 0 0) [] := Or.inl ⟨_, _, rfl, rfl⟩
            have HG4 := Lib.hid hG4
            have HR4 := Lib.hid (show Rd w4 (.slice none 0 0) (cellG gaps dead k).ws from by rw [HCL.out]; exact hr4)
            have HT4 := Lib.hid (HT.out.belowB hG4.below HT.out.sz)
            have HNF := Lib.hid hnF
            have HBX4 := Lib.hid hbx4
            have t0 := cell_blk (j := 0) hbx4 rfl
            have t1 := cell_blk (j := 1) hbx4 rfl
            have t2 := cell_blk (j := 2) hbx4 rfl
            have t3 := cell_blk (j := 3) hbx4 rfl
            have t4 := cell_blk (j := 4) hbx4 rfl
            have t5 := cell_blk (j := 5) hbx4 rfl
            clear hG4 hv4 hr4 hbx4 hnF
            go_wp2_with fail
            refine (gWrite HG4.out h16 (by have := HCC.out; omega) HT4.out _ _ _ _ _ _ _ (by show makeS _ _ = makeS _ _; first | rfl | (congr 1 <;> omega)) (by rw [HCL.out]) HR4.out).mono ?_
            rintro e w5 ⟨rfl, F2, c2, hc2, hG5, hv5⟩
            have hs5 := hv5.size
            have hnF2 : ∀ b, wr.heap.size ≤ b → b < wr.heap.size + 1 → ¬ F2 b := fun b hb1 hb2 hF2 => by
              rcases hv5.sub b hF2 with h2 | h2
              · exact (HNF.out b hb1 hb2).2 h2
              · omega
            have hbx5 := (hv5.block wr.heap.size (by omega) (HNF.out _ (Nat.le_refl _) (by omega)).2).trans HBX4.out
            have hr5 : Rd w5 (.slice none 0 0) (cellG gaps dead k).ws := by rw [HCL.out]; exact Or.inl ⟨_, _, rfl, rfl⟩
            clear t0 t1 t2 t3 t4 t5
            have t0 := cell_blk (j := 0) hbx5 rfl
            have t1 := cell_blk (j := 1) hbx5 rfl
            have t2 := cell_blk (j := 2) hbx5 rfl
            have t3 := cell_blk (j := 3) hbx5 rfl
            have t4 := cell_blk (j := 4) hbx5 rfl
            have t5 := cell_blk (j := 5) hbx5 rfl
            have hl5 := (Below.refl w5.heap.size w5).alloc (Nat.le_refl _) (.cells #[.int .i64 1, .int .i64 9, .int .i64 (stampG gaps k + (1 + bits .and .i64 (nthI gaps k) 3)), .bool true, .int .i64 (ptrG k), (.slice none 0 0)] 24)
            have hG6 := hG5.next hl5
            have hr6 := hr5.below hl5
            have hrow6 := hG6.row
            have hbl6 : (w5.alloc (.cells #[.int .i64 1, .int .i64 9, .int .i64 (stampG gaps k + (1 + bits .and .i64 (nthI gaps k) 3)), .bool true, .int .i64 (ptrG k), (.slice none 0 0)] 24)).heap[w5.heap.size]? = some (.cells (rowC [⟨0, ⟨1, 9, (stampG gaps k + (1 + bits .and .i64 (nthI gaps k) 3)), true, ptrG k, []⟩, (.slice none 0 0)⟩]).toArray 24 (0, 0)) := heap_alloc_new _ _
            have HG6 := Lib.hid hG6
            have HR6 := Lib.hid hr6
            have HNF2 := Lib.hid hnF2
            have HC2 := Lib.hid hc2
            clear hG5 hv5 hr5 hbx5 hnF2 hl5 hG6 hr6 hc2 HBX4 HR4 HT4 HG4
            go_wp2_with (at_builtin; refine wpList_append_one _ rfl _ _ 42 24 6 64 _ rfl rfl Tryd.underlying42 info24 (by rfl) (by omega) (by omega) w.heap.size _ k (rowC xs) _ w5.heap.size rfl rfl hrow6 hbl6 (by rfl) (by intro u hu; simp [rowC] at hu; rcases hu with rfl | rfl | rfl | rfl | rfl | rfl <;> rfl) (by omega) (by have := HG6.out.below.size; omega) ?_)
            intro v7 w7 ho7 hg7 hv7
            have hG7 := HG6.out.app (y := ⟨0, ⟨1, 9, (stampG gaps k + (1 + bits .and .i64 (nthI gaps k) 3)), true, ptrG k, []⟩, (.slice none 0 0)⟩) HCL.out.symm ⟨by have := HR6.out; rw [HCL.out] at this; exact this, fun b hb => ?bb⟩ ho7 hg7 (by rw [World.size_alloc]; exact hv7)
            case bb => cases hb
            obtain ⟨a7, c7, hsh7⟩ := owns_shape ho7
            subst hsh7
            have HG7 := Lib.hid hG7
            clear hG7 ho7 hg7 hv7 hrow6 hbl6 t0 t1 t2 t3 t4 t5
            go_wp2
            go_roundw
            case rel => exact ⟨k + 1, _, _, F2, c2, _, by omega, by omega, by go_num, rfl, rfl, rfl, HC2.out, HG7.out⟩
            case measure => simp [RowKit.intOf]; omega
            -- LEAF 1 END
          | false =>
            rw [hdd] at q1
            -- LEAF 2 BEGIN
            have hcl : cellG gaps dead k = ⟨1, 9, (stampG gaps k + (1 + bits .and .i64 (nthI gaps k) 3)), false, ptrG k, [(stampG gaps k + (1 + bits .and .i64 (nthI gaps k) 3)), (bits .and .i64 (nthI gaps k) 1099511627775), 7]⟩ := by unfold cellG; rw [hdd]; rfl
            have hBA : Below wr.heap.size wr ((wr.alloc (.cells #[.int .i64 1, .int .i64 9, .int .i64 (stampG gaps k + (1 + bits .and .i64 (nthI gaps k) 3)), .bool false, .int .i64 (ptrG k), (.slice (some ⟨wr.heap.size + 1, 0, none⟩) 3 3)] 24)).alloc (.cells #[.int .i64 (stampG gaps k + (1 + bits .and .i64 (nthI gaps k) 3)), .int .i64 (bits .and .i64 (nthI gaps k) 1099511627775), .int .i64 7] 3)) := ((Below.refl _ wr).alloc (Nat.le_refl _) _).alloc (by simp) _
            have hGA := (hP.out.2).next hBA
            have hBX : ((wr.alloc (.cells #[.int .i64 1, .int .i64 9, .int .i64 (stampG gaps k + (1 + bits .and .i64 (nthI gaps k) 3)), .bool false, .int .i64 (ptrG k), (.slice (some ⟨wr.heap.size + 1, 0, none⟩) 3 3)] 24)).alloc (.cells #[.int .i64 (stampG gaps k + (1 + bits .and .i64 (nthI gaps k) 3)), .int .i64 (bits .and .i64 (nthI gaps k) 1099511627775), .int .i64 7] 3)).heap[wr.heap.size]? = some (.cells #[.int .i64 1, .int .i64 9, .int .i64 (stampG gaps k + (1 + bits .and .i64 (nthI gaps k) 3)), .bool false, .int .i64 (ptrG k), (.slice (some ⟨wr.heap.size + 1, 0, none⟩) 3 3)] 24) := at_old (heap_alloc_new _ _)
            have hRA : Rd ((wr.alloc (.cells #[.int .i64 1, .int .i64 9, .int .i64 (stampG gaps k + (1 + bits .and .i64 (nthI gaps k) 3)), .bool false, .int .i64 (ptrG k), (.slice (some ⟨wr.heap.size + 1, 0, none⟩) 3 3)] 24)).alloc (.cells #[.int .i64 (stampG gaps k + (1 + bits .and .i64 (nthI gaps k) 3)), .int .i64 (bits .and .i64 (nthI gaps k) 1099511627775), .int .i64 7] 3)) (.slice (some ⟨wr.heap.size + 1, 0, none⟩) 3 3) [(stampG gaps k + (1 + bits .and .i64 (nthI gaps k) 3)), (bits .and .i64 (nthI gaps k) 1099511627775), 7] := OwnZ.rd (base := 0) ⟨rfl, Or.inr ⟨wr.heap.size + 1, 3, _, rfl, Nat.zero_le _, new_at (by simp), Nat.le_refl _, by unfold maxLen; omega, by simp, rfl⟩⟩
            have hTA := HT.out.belowB hGA.below HT.out.sz
            have hsA : ((wr.alloc (.cells #[.int .i64 1, .int .i64 9, .int .i64 (stampG gaps k + (1 + bits .and .i64 (nthI gaps k) 3)), .bool false, .int .i64 (ptrG k), (.slice (some ⟨wr.heap.size + 1, 0, none⟩) 3 3)] 24)).alloc (.cells #[.int .i64 (stampG gaps k + (1 + bits .and .i64 (nthI gaps k) 3)), .int .i64 (bits .and .i64 (nthI gaps k) 1099511627775), .int .i64 7] 3)).heap.size = wr.heap.size + 2 := by simp
            have HGA := Lib.hid hGA
            have HBX := Lib.hid hBX
            have HRA := Lib.hid hRA
            have HTA := Lib.hid hTA
            have HCL := Lib.hid hcl
            have HSA := Lib.hid hsA
            have HBE := Lib.hid hBA
            clear hcl hBA hGA hBX hRA hTA hsA
            go_wp2_with fail
            refine (rmake_any _ _ _).mono ?_
            rintro e wx ⟨rfl, rfl⟩
            go_wp2_with fail
            refine (rpack_any _ _ _ _).mono ?_
            rintro e wx ⟨rfl, rfl⟩
            go_wp2_with fail
            refine (gStore HGA.out h16 HCC.out _ _ (by omega) (by unfold hdrG; first | rfl | (congr 1; omega))).mono ?_
            rintro e w4 ⟨rfl, F1, hG4, hv4⟩
            have hs4 := hv4.size
            rw [HSA.out] at hs4
            have hnF : ∀ b, wr.heap.size ≤ b → b < wr.heap.size + 2 → ¬ F b ∧ ¬ F1 b := fun b hb1 hb2 => by
              have h1 : ¬ F b := fun hF => by have := hP.out.2.cv.mem.lt hF; omega
              exact ⟨h1, fun hF1 => by
                rcases hv4.sub b hF1 with h2 | h2
                · exact h1 h2
                · rw [HSA.out] at h2; omega⟩
            have hbx4 := (hv4.block wr.heap.size (by rw [HSA.out]; omega) (hnF _ (Nat.le_refl _) (by omega)).1).trans HBX.out
            have hr4 := HRA.out.carry hv4.size (fun b hb hb' => hv4.block b hb' (hnF b (by cases hb; show wr.heap.size ≤ wr.heap.size + 1; omega) (by cases hb; show wr.heap.size + 1 < wr.heap.size + 2; omega)).1)
            have HG4 := Lib.hid hG4
            have HR4 := Lib.hid (show Rd w4 (.slice (some ⟨wr.heap.size + 1, 0, none⟩) 3 3) (cellG gaps dead k).ws from by rw [HCL.out]; exact hr4)
            have HT4 := Lib.hid (HT.out.belowB hG4.below HT.out.sz)
            have HNF := Lib.hid hnF
            have HBX4 := Lib.hid hbx4
            have t0 := cell_blk (j := 0) hbx4 rfl
            have t1 := cell_blk (j := 1) hbx4 rfl
            have t2 := cell_blk (j := 2) hbx4 rfl
            have t3 := cell_blk (j := 3) hbx4 rfl
            have t4 := cell_blk (j := 4) hbx4 rfl
            have t5 := cell_blk (j := 5) hbx4 rfl
            clear hG4 hv4 hr4 hbx4 hnF
            go_wp2_with fail
            refine (gWrite HG4.out h16 (by have := HCC.out; omega) HT4.out _ _ _ _ _ _ _ (by show makeS _ _ = makeS _ _; first | rfl | (congr 1 <;> omega)) (by rw [HCL.out]) HR4.out).mono ?_
            rintro e w5 ⟨rfl, F2, c2, hc2, hG5, hv5⟩
            have hs5 := hv5.size
            have hnF2 : ∀ b, wr.heap.size ≤ b → b < wr.heap.size + 2 → ¬ F2 b := fun b hb1 hb2 hF2 => by
              rcases hv5.sub b hF2 with h2 | h2
              · exact (HNF.out b hb1 hb2).2 h2
              · omega
            have hbx5 := (hv5.block wr.heap.size (by omega) (HNF.out _ (Nat.le_refl _) (by omega)).2).trans HBX4.out
            have hr5 := HR4.out.carry hv5.size (fun b hb hb' => hv5.block b hb' (HNF.out b (by cases hb; show wr.heap.size ≤ wr.heap.size + 1; omega) (by cases hb; show wr.heap.size + 1 < wr.heap.size + 2; omega)).2)
            clear t0 t1 t2 t3 t4 t5
            have t0 := cell_blk (j := 0) hbx5 rfl
            have t1 := cell_blk (j := 1) hbx5 rfl
            have t2 := cell_blk (j := 2) hbx5 rfl
            have t3 := cell_blk (j := 3) hbx5 rfl
            have t4 := cell_blk (j := 4) hbx5 rfl
            have t5 := cell_blk (j := 5) hbx5 rfl
            have hl5 := (Below.refl w5.heap.size w5).alloc (Nat.le_refl _) (.cells #[.int .i64 1, .int .i64 9, .int .i64 (stampG gaps k + (1 + bits .and .i64 (nthI gaps k) 3)), .bool false, .int .i64 (ptrG k), (.slice (some ⟨wr.heap.size + 1, 0, none⟩) 3 3)] 24)
            have hG6 := hG5.next hl5
            have hr6 := hr5.below hl5
            have hrow6 := hG6.row
            have hbl6 : (w5.alloc (.cells #[.int .i64 1, .int .i64 9, .int .i64 (stampG gaps k + (1 + bits .and .i64 (nthI gaps k) 3)), .bool false, .int .i64 (ptrG k), (.slice (some ⟨wr.heap.size + 1, 0, none⟩) 3 3)] 24)).heap[w5.heap.size]? = some (.cells (rowC [⟨0, ⟨1, 9, (stampG gaps k + (1 + bits .and .i64 (nthI gaps k) 3)), false, ptrG k, [(stampG gaps k + (1 + bits .and .i64 (nthI gaps k) 3)), (bits .and .i64 (nthI gaps k) 1099511627775), 7]⟩, (.slice (some ⟨wr.heap.size + 1, 0, none⟩) 3 3)⟩]).toArray 24 (0, 0)) := heap_alloc_new _ _
            have HG6 := Lib.hid hG6
            have HR6 := Lib.hid hr6
            have HNF2 := Lib.hid hnF2
            have HC2 := Lib.hid hc2
            clear hG5 hv5 hr5 hbx5 hnF2 hl5 hG6 hr6 hc2 HBX4 HR4 HT4 HG4
            go_wp2_with (at_builtin; refine wpList_append_one _ rfl _ _ 42 24 6 64 _ rfl rfl Tryd.underlying42 info24 (by rfl) (by omega) (by omega) w.heap.size _ k (rowC xs) _ w5.heap.size rfl rfl hrow6 hbl6 (by rfl) (by intro u hu; simp [rowC] at hu; rcases hu with rfl | rfl | rfl | rfl | rfl | rfl <;> rfl) (by omega) (by have := HG6.out.below.size; omega) ?_)
            intro v7 w7 ho7 hg7 hv7
            have hG7 := HG6.out.app (y := ⟨0, ⟨1, 9, (stampG gaps k + (1 + bits .and .i64 (nthI gaps k) 3)), false, ptrG k, [(stampG gaps k + (1 + bits .and .i64 (nthI gaps k) 3)), (bits .and .i64 (nthI gaps k) 1099511627775), 7]⟩, (.slice (some ⟨wr.heap.size + 1, 0, none⟩) 3 3)⟩) HCL.out.symm ⟨by have := HR6.out; rw [HCL.out] at this; exact this, fun b hb => ?bb⟩ ho7 hg7 (by rw [World.size_alloc]; exact hv7)
            case bb =>
              cases hb
              refine ⟨by show wr.heap.size + 1 < _; simp; omega, HNF2.out (wr.heap.size + 1) (by omega) (by omega), fun e => ?_⟩
              have h8 : wr.heap.size + 1 < wr.heap.size := (hP.out.2.row.lt _ e).2
              omega
            obtain ⟨a7, c7, hsh7⟩ := owns_shape ho7
            subst hsh7
            have HG7 := Lib.hid hG7
            clear hG7 ho7 hg7 hv7 hrow6 hbl6 t0 t1 t2 t3 t4 t5
            go_wp2
            go_roundw
            case rel => exact ⟨k + 1, _, _, F2, c2, _, by omega, by omega, by go_num, rfl, rfl, rfl, HC2.out, HG7.out⟩
            case measure => simp [RowKit.intOf]; omega
            -- LEAF 2 END
        · have i4 : ¬ (k : Int) < dead.length := by omega
          have hdd : deadG dead k = false := by
            unfold deadG
            rw [List.getD_eq_getElem?_getD, List.getElem?_eq_none (by omega)]
            rfl
          -- LEAF 3 BEGIN
          have hcl : cellG gaps dead k = ⟨1, 9, (stampG gaps k + (1 + bits .and .i64 (nthI gaps k) 3)), false, ptrG k, [(stampG gaps k + (1 + bits .and .i64 (nthI gaps k) 3)), (bits .and .i64 (nthI gaps k) 1099511627775), 7]⟩ := by unfold cellG; rw [hdd]; rfl
          have hBA : Below wr.heap.size wr ((wr.alloc (.cells #[.int .i64 1, .int .i64 9, .int .i64 (stampG gaps k + (1 + bits .and .i64 (nthI gaps k) 3)), .bool false, .int .i64 (ptrG k), (.slice (some ⟨wr.heap.size + 1, 0, none⟩) 3 3)] 24)).alloc (.cells #[.int .i64 (stampG gaps k + (1 + bits .and .i64 (nthI gaps k) 3)), .int .i64 (bits .and .i64 (nthI gaps k) 1099511627775), .int .i64 7] 3)) := ((Below.refl _ wr).alloc (Nat.le_refl _) _).alloc (by simp) _
          have hGA := (hP.out.2).next hBA
          have hBX : ((wr.alloc (.cells #[.int .i64 1, .int .i64 9, .int .i64 (stampG gaps k + (1 + bits .and .i64 (nthI gaps k) 3)), .bool false, .int .i64 (ptrG k), (.slice (some ⟨wr.heap.size + 1, 0, none⟩) 3 3)] 24)).alloc (.cells #[.int .i64 (stampG gaps k + (1 + bits .and .i64 (nthI gaps k) 3)), .int .i64 (bits .and .i64 (nthI gaps k) 1099511627775), .int .i64 7] 3)).heap[wr.heap.size]? = some (.cells #[.int .i64 1, .int .i64 9, .int .i64 (stampG gaps k + (1 + bits .and .i64 (nthI gaps k) 3)), .bool false, .int .i64 (ptrG k), (.slice (some ⟨wr.heap.size + 1, 0, none⟩) 3 3)] 24) := at_old (heap_alloc_new _ _)
          have hRA : Rd ((wr.alloc (.cells #[.int .i64 1, .int .i64 9, .int .i64 (stampG gaps k + (1 + bits .and .i64 (nthI gaps k) 3)), .bool false, .int .i64 (ptrG k), (.slice (some ⟨wr.heap.size + 1, 0, none⟩) 3 3)] 24)).alloc (.cells #[.int .i64 (stampG gaps k + (1 + bits .and .i64 (nthI gaps k) 3)), .int .i64 (bits .and .i64 (nthI gaps k) 1099511627775), .int .i64 7] 3)) (.slice (some ⟨wr.heap.size + 1, 0, none⟩) 3 3) [(stampG gaps k + (1 + bits .and .i64 (nthI gaps k) 3)), (bits .and .i64 (nthI gaps k) 1099511627775), 7] := OwnZ.rd (base := 0) ⟨rfl, Or.inr ⟨wr.heap.size + 1, 3, _, rfl, Nat.zero_le _, new_at (by simp), Nat.le_refl _, by unfold maxLen; omega, by simp, rfl⟩⟩
          have hTA := HT.out.belowB hGA.below HT.out.sz
          have hsA : ((wr.alloc (.cells #[.int .i64 1, .int .i64 9, .int .i64 (stampG gaps k + (1 + bits .and .i64 (nthI gaps k) 3)), .bool false, .int .i64 (ptrG k), (.slice (some ⟨wr.heap.size + 1, 0, none⟩) 3 3)] 24)).alloc (.cells #[.int .i64 (stampG gaps k + (1 + bits .and .i64 (nthI gaps k) 3)), .int .i64 (bits .and .i64 (nthI gaps k) 1099511627775), .int .i64 7] 3)).heap.size = wr.heap.size + 2 := by simp
          have HGA := Lib.hid hGA
          have HBX := Lib.hid hBX
          have HRA := Lib.hid hRA
          have HTA := Lib.hid hTA
          have HCL := Lib.hid hcl
          have HSA := Lib.hid hsA
          have HBE := Lib.hid hBA
          clear hcl hBA hGA hBX hRA hTA hsA
          go_wp2_with fail
          refine (rmake_any _ _ _).mono ?_
          rintro e wx ⟨rfl, rfl⟩
          go_wp2_with fail
          refine (rpack_any _ _ _ _).mono ?_
          rintro e wx ⟨rfl, rfl⟩
          go_wp2_with fail
          refine (gStore HGA.out h16 HCC.out _ _ (by omega) (by unfold hdrG; first | rfl | (congr 1; omega))).mono ?_
          rintro e w4 ⟨rfl, F1, hG4, hv4⟩
          have hs4 := hv4.size
          rw [HSA.out] at hs4
          have hnF : ∀ b, wr.heap.size ≤ b → b < wr.heap.size + 2 → ¬ F b ∧ ¬ F1 b := fun b hb1 hb2 => by
            have h1 : ¬ F b := fun hF => by have := hP.out.2.cv.mem.lt hF; omega
            exact ⟨h1, fun hF1 => by
              rcases hv4.sub b hF1 with h2 | h2
              · exact h1 h2
              · rw [HSA.out] at h2; omega⟩
          have hbx4 := (hv4.block wr.heap.size (by rw [HSA.out]; omega) (hnF _ (Nat.le_refl _) (by omega)).1).trans HBX.out
          have hr4 := HRA.out.carry hv4.size (fun b hb hb' => hv4.block b hb' (hnF b (by cases hb; show wr.heap.size ≤ wr.heap.size + 1; omega) (by cases hb; show wr.heap.size + 1 < wr.heap.size + 2; omega)).1)
          have HG4 := Lib.hid hG4
          have HR4 := Lib.hid (show Rd w4 (.slice (some ⟨wr.heap.size + 1, 0, none⟩) 3 3) (cellG gaps dead k).ws from by rw [HCL.out]; exact hr4)
          have HT4 := Lib.hid (HT.out.belowB hG4.below HT.out.sz)
          have HNF := Lib.hid hnF
          have HBX4 := Lib.hid hbx4
          have t0 := cell_blk (j := 0) hbx4 rfl
          have t1 := cell_blk (j := 1) hbx4 rfl
          have t2 := cell_blk (j := 2) hbx4 rfl
          have t3 := cell_blk (j := 3) hbx4 rfl
          have t4 := cell_blk (j := 4) hbx4 rfl
          have t5 := cell_blk (j := 5) hbx4 rfl
          clear hG4 hv4 hr4 hbx4 hnF
          go_wp2_with fail
          refine (gWrite HG4.out h16 (by have := HCC.out; omega) HT4.out _ _ _ _ _ _ _ (by show makeS _ _ = makeS _ _; first | rfl | (congr 1 <;> omega)) (by rw [HCL.out]) HR4.out).mono ?_
          rintro e w5 ⟨rfl, F2, c2, hc2, hG5, hv5⟩
          have hs5 := hv5.size
          have hnF2 : ∀ b, wr.heap.size ≤ b → b < wr.heap.size + 2 → ¬ F2 b := fun b hb1 hb2 hF2 => by
            rcases hv5.sub b hF2 with h2 | h2
            · exact (HNF.out b hb1 hb2).2 h2
            · omega
          have hbx5 := (hv5.block wr.heap.size (by omega) (HNF.out _ (Nat.le_refl _) (by omega)).2).trans HBX4.out
          have hr5 := HR4.out.carry hv5.size (fun b hb hb' => hv5.block b hb' (HNF.out b (by cases hb; show wr.heap.size ≤ wr.heap.size + 1; omega) (by cases hb; show wr.heap.size + 1 < wr.heap.size + 2; omega)).2)
          clear t0 t1 t2 t3 t4 t5
          have t0 := cell_blk (j := 0) hbx5 rfl
          have t1 := cell_blk (j := 1) hbx5 rfl
          have t2 := cell_blk (j := 2) hbx5 rfl
          have t3 := cell_blk (j := 3) hbx5 rfl
          have t4 := cell_blk (j := 4) hbx5 rfl
          have t5 := cell_blk (j := 5) hbx5 rfl
          have hl5 := (Below.refl w5.heap.size w5).alloc (Nat.le_refl _) (.cells #[.int .i64 1, .int .i64 9, .int .i64 (stampG gaps k + (1 + bits .and .i64 (nthI gaps k) 3)), .bool false, .int .i64 (ptrG k), (.slice (some ⟨wr.heap.size + 1, 0, none⟩) 3 3)] 24)
          have hG6 := hG5.next hl5
          have hr6 := hr5.below hl5
          have hrow6 := hG6.row
          have hbl6 : (w5.alloc (.cells #[.int .i64 1, .int .i64 9, .int .i64 (stampG gaps k + (1 + bits .and .i64 (nthI gaps k) 3)), .bool false, .int .i64 (ptrG k), (.slice (some ⟨wr.heap.size + 1, 0, none⟩) 3 3)] 24)).heap[w5.heap.size]? = some (.cells (rowC [⟨0, ⟨1, 9, (stampG gaps k + (1 + bits .and .i64 (nthI gaps k) 3)), false, ptrG k, [(stampG gaps k + (1 + bits .and .i64 (nthI gaps k) 3)), (bits .and .i64 (nthI gaps k) 1099511627775), 7]⟩, (.slice (some ⟨wr.heap.size + 1, 0, none⟩) 3 3)⟩]).toArray 24 (0, 0)) := heap_alloc_new _ _
          have HG6 := Lib.hid hG6
          have HR6 := Lib.hid hr6
          have HNF2 := Lib.hid hnF2
          have HC2 := Lib.hid hc2
          clear hG5 hv5 hr5 hbx5 hnF2 hl5 hG6 hr6 hc2 HBX4 HR4 HT4 HG4
          go_wp2_with (at_builtin; refine wpList_append_one _ rfl _ _ 42 24 6 64 _ rfl rfl Tryd.underlying42 info24 (by rfl) (by omega) (by omega) w.heap.size _ k (rowC xs) _ w5.heap.size rfl rfl hrow6 hbl6 (by rfl) (by intro u hu; simp [rowC] at hu; rcases hu with rfl | rfl | rfl | rfl | rfl | rfl <;> rfl) (by omega) (by have := HG6.out.below.size; omega) ?_)
          intro v7 w7 ho7 hg7 hv7
          have hG7 := HG6.out.app (y := ⟨0, ⟨1, 9, (stampG gaps k + (1 + bits .and .i64 (nthI gaps k) 3)), false, ptrG k, [(stampG gaps k + (1 + bits .and .i64 (nthI gaps k) 3)), (bits .and .i64 (nthI gaps k) 1099511627775), 7]⟩, (.slice (some ⟨wr.heap.size + 1, 0, none⟩) 3 3)⟩) HCL.out.symm ⟨by have := HR6.out; rw [HCL.out] at this; exact this, fun b hb => ?bb⟩ ho7 hg7 (by rw [World.size_alloc]; exact hv7)
          case bb =>
            cases hb
            refine ⟨by show wr.heap.size + 1 < _; simp; omega, HNF2.out (wr.heap.size + 1) (by omega) (by omega), fun e => ?_⟩
            have h8 : wr.heap.size + 1 < wr.heap.size := (hP.out.2.row.lt _ e).2
            omega
          obtain ⟨a7, c7, hsh7⟩ := owns_shape ho7
          subst hsh7
          have HG7 := Lib.hid hG7
          clear hG7 ho7 hg7 hv7 hrow6 hbl6 t0 t1 t2 t3 t4 t5
          go_wp2
          go_roundw
          case rel => exact ⟨k + 1, _, _, F2, c2, _, by omega, by omega, by go_num, rfl, rfl, rfl, HC2.out, HG7.out⟩
          case measure => simp [RowKit.intOf]; omega
          -- LEAF 3 END
      · obtain rfl : k = 16 := by omega
        have HMIN := Lib.hid (show min gaps.length 16 = 16 by omega)
        have HP := Lib.hid hP.out
        go_wp2
        refine bodyPost_ret (v := .tuple #[.pointer (some ⟨Bv, 0, none⟩), .int .i64 (ptrG 16), .slice ao 16 cp]) (by simp [results, Tryd.f17, go_sem]) rfl ?_
        rw [HMIN.out]
        refine ⟨Bv, Bm, F, cc, _, xs, rfl, HP.out.1, HP.out.2⟩
    · obtain rfl : k = gaps.length := by omega
      have HMIN := Lib.hid (show min gaps.length 16 = gaps.length by omega)
      have HP := Lib.hid hP.out
      go_wp2
      refine bodyPost_ret (v := .tuple #[.pointer (some ⟨Bv, 0, none⟩), .int .i64 (ptrG gaps.length), .slice ao gaps.length cp]) (by simp [results, Tryd.f17, go_sem]) rfl ?_
      rw [HMIN.out]
      refine ⟨Bv, Bm, F, cc, _, xs, rfl, HP.out.1, HP.out.2⟩

end Go.Proofs.YtcngblnkfiggjaaDoor.Rm
