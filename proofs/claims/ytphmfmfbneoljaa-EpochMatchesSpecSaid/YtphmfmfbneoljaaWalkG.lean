/- Contract of Retire of package epoch: the blocks wait from now on, or nothing changes. -/
import Derived.Test.YtphmfmfbneoljaaWalkF
namespace Go.Proofs.Ytphmfmfbneoljaa.Ep
open Go Go.RowKit Go.Maps

theorem pushed_drew {w w2 : World} {B : Nat} {c0 c1 v c3 : Value} {l : List (Int × Int)} {bs : List Int} {e : Int} {k : Nat} (h : Pushed w.drew B c0 c1 v c3 l bs e k w2) : Pushed w B c0 c1 v c3 l bs e k w2 := by
  obtain ⟨vk, h1, h2, h3, h4⟩ := h
  exact ⟨vk, h1, h2, h3, h4.os, h4.tape, h4.output, h4.size, h4.block, h4.sub⟩

/-- The end of Retire: all blocks are marked and pushed, and the epoch is the next one. -/
theorem retire_done {w wr w2 : World} {B m1 m2 n1 n2 c : Nat} {v : Value} {D2 : DataW Unit} {s : St} {bs : List Int}
    (hB : w.heap[B]? = some (.cells #[.map (some m1), .map (some m2), v, .int .i64 s.now] 60 (0, 0)))
    (hm1 : w.ownsMap Try.prog 3 (plainElem Try.prog 3) m1 n1 (mapD s.rd)) (hm2 : w.ownsMap Try.prog 3 (plainElem Try.prog 4) m2 n2 D2)
    (hs : Seg w 68 2 v s.wt.length (itemCells s.wt)) (hd : B ≠ m1 ∧ B ≠ m2 ∧ m1 ≠ m2 ∧ v.ownBlock ≠ some B ∧ v.ownBlock ≠ some m1 ∧ v.ownBlock ≠ some m2)
    (c1 : n1 ≤ c) (c2 : n2 ≤ c) (c3 : s.wt.length ≤ c) (c4 : s.now ≤ c + 1) (hi : Inv s) (hf : fresh (names s.wt) bs = true)
    (hM : Marked w m2 n2 (names s.wt) bs bs.length wr) (hP : Pushed wr B (.map (some m1)) (.map (some m2)) v (.int .i64 s.now) s.wt bs s.now bs.length w2) :
    (w2.cell? ⟨B, 3, none⟩ = some (.int .i64 s.now) ∧ w2.frozen? ⟨B, 3, none⟩ = false) ∧
    ∃ F', Obj (w2.setCell ⟨B, 3, none⟩ (.int .i64 (s.now + 1))) B (s.retire bs) F' (c + bs.length + 1) ∧
      Moves (fun k => k = B ∨ k = m1 ∨ k = m2 ∨ v.ownBlock = some k) F' w (w2.setCell ⟨B, 3, none⟩ (.int .i64 (s.now + 1))) := by
  obtain ⟨D, ho, hD, hg⟩ := hM
  obtain ⟨v', hB2, hs2, hne2, hM2⟩ := hP
  obtain ⟨d1, d2, d3, d4, d5, d6⟩ := hd
  have hBlt : B < w.heap.size := (Array.getElem?_eq_some_iff.1 hB).1
  have k1 : m1 < w.heap.size := hm1.lt
  have k2 : m2 < w.heap.size := hm2.lt
  have hsz := hg.size
  have hv' : ∀ j, j < wr.heap.size → j ≠ B → v.ownBlock ≠ some j → v'.ownBlock ≠ some j := fun j hj h1 h2 h3 => by
    rcases hM2.sub j (Or.inr h3) with (h4 | h4) | h4
    · exact h1 h4
    · exact h2 h4
    · omega
  have hblk : ∀ j, j < wr.heap.size → j ≠ B → v.ownBlock ≠ some j → (w2.setCell ⟨B, 3, none⟩ (.int .i64 (s.now + 1))).heap[j]? = wr.heap[j]? := fun j hj h1 h2 => by
    rw [Below.heap_setCell _ _ _ _ h1]
    exact hM2.block j hj (fun h => by rcases h with h | h; exact h1 h; exact h2 h)
  refine ⟨⟨by simp [World.cell?, hB2], Joins.unfrozen_of_block hB2 3⟩, _, ⟨m1, m2, v', n1, n2 + bs.length, D, ?_, ?_, ?_, ?_, ?_, ?_, by omega, by omega, ?_, ?_, hi.retire bs, rfl⟩, ?_⟩
  · have := Joins.block_setCell hB2 (i := 3) (.int .i64 (s.now + 1))
    have e : (s.retire bs).now = s.now + 1 := by simp [St.retire, hf]
    rw [e]
    simpa using this
  · have e : (s.retire bs).rd = s.rd := by simp [St.retire, hf]
    rw [e]
    refine owns_carry (owns_carry hm1 (w' := wr) (hg.block m1 k1 (fun h => d3 (Option.some.inj h)))) ?_
    exact hblk m1 (by omega) (Ne.symm d1) d5
  · exact owns_carry ho (hblk m2 (by omega) (Ne.symm d2) d6)
  · intro j
    rw [hD j]
    have e : (s.retire bs).wt = s.wt ++ bs.map (fun b => (b, s.now)) := by simp [St.retire, hf]
    rw [e, names_append, names_stamp, List.take_length]
  · have e : (s.retire bs).wt = s.wt ++ bs.map (fun b => (b, s.now)) := by simp [St.retire, hf]
    rw [e, List.length_append, List.length_map]
    rw [stampd_all] at hs2
    exact hs2.carry (fun j hj => Below.heap_setCell _ _ _ _ (fun h => hne2 (by rw [hj, h])))
  · exact ⟨d1, d2, d3, hne2, hv' m1 (by omega) (Ne.symm d1) d5, hv' m2 (by omega) (Ne.symm d2) d6⟩
  · have e : (s.retire bs).wt = s.wt ++ bs.map (fun b => (b, s.now)) := by simp [St.retire, hf]
    rw [e, List.length_append, List.length_map]; omega
  · have e : (s.retire bs).now = s.now + 1 := by simp [St.retire, hf]
    rw [e]; omega
  · refine ⟨?_, ?_, ?_, ?_, ?_, ?_⟩
    · exact hM2.os.trans hg.os
    · exact hM2.tape.trans hg.tape
    · exact hM2.output.trans hg.output
    · have := hM2.size; simp; omega
    · intro j hj hF
      have hjB : j ≠ B := fun h => hF (Or.inl h)
      have hjv : v.ownBlock ≠ some j := fun h => hF (Or.inr (Or.inr (Or.inr h)))
      have hj2 : j ≠ m2 := fun h => hF (Or.inr (Or.inr (Or.inl h)))
      rw [hblk j (by omega) hjB hjv]
      exact hg.block j hj (fun h => hj2 (Option.some.inj h))
    · rintro j (rfl | rfl | rfl | hj)
      · exact Or.inl (Or.inl rfl)
      · exact Or.inl (Or.inr (Or.inl rfl))
      · exact Or.inl (Or.inr (Or.inr (Or.inl rfl)))
      · rcases hM2.sub j (Or.inr hj) with (h4 | h4) | h4
        · exact Or.inl (Or.inl h4)
        · exact Or.inl (Or.inr (Or.inr (Or.inr h4)))
        · exact Or.inr (by omega)

set_option maxHeartbeats 2000000 in
set_option maxRecDepth 100000 in
theorem retire_some (w : World) (B : Nat) (s : St) (F : Nat → Prop) (c : Nat) (h : Obj w B s F c) (bs : List Int) (b off cap : Nat) (hpos : 0 < bs.length) (hcap : bs.length ≤ cap) (hcm : cap ≤ maxLen) (hblt : b < w.heap.size)
    (hcells : ∀ j, j < bs.length → w.cell? ⟨b, off + j, none⟩ = some (.int .i64 (nthI bs j))) (hF : ¬ F b) (hw : ∀ x ∈ bs, (Lit.int .i64 x).wf = true) (hc : c + bs.length < 1000000) :
    Calls Try.prog 22 #[.pointer (some ⟨B, 0, none⟩), .slice (some ⟨b, off, none⟩) bs.length cap] w fun e w' => e = .returned (.int .i64 (s.retireErr bs)) ∧ ∃ F', Obj w' B (s.retire bs) F' (c + bs.length + 1) ∧ Moves F F' w w' := by
  have hO := h
  obtain ⟨m1, m2, v, n1, n2, D2, hB, hm1, hm2, hD, hs, hd, c1, c2, c3, c4, hi, rfl⟩ := h
  obtain ⟨k0, k1, k2, k3⟩ := Obj.cells (F := fun _ => True) (c := 0) hB
  have hdone := fun wr w2 hf => retire_done (wr := wr) (w2 := w2) (bs := bs) hB hm1 hm2 hs hd c1 c2 c3 c4 hi hf
  have hno : fresh (names s.wt) bs = false → (s.retireErr bs = 6 ∧ s.retire bs = s) := fun hf => by simp [St.retireErr, St.retire, hf]
  have hyes : fresh (names s.wt) bs = true → s.retireErr bs = 0 := fun hf => by simp [St.retireErr, hf]
  have HC := Lib.hid hcells
  have HD := Lib.hid hdone
  have HN := Lib.hid hno
  have HY := Lib.hid hyes
  have HDD := Lib.hid hD
  have HB := Lib.hid hB
  have HW := Lib.hid hw
  have HF := Lib.hid hF
  have HS := Lib.hid hs
  unfold maxLen at hcm
  clear hcells hdone hno hyes hD hB hw hF hs
  go_enter Try.func22, Try.ntmps22
  go_wp2
  go_loop [11] (fun i => ∃ k : Nat, k ≤ bs.length ∧ i = .int .i64 k ∧ Hid (fresh (names s.wt) (bs.take k) = true)) (fun i => bs.length - (intOf i).toNat)
  case atStart => exact ⟨0, Nat.zero_le _, rfl, rfl⟩
  case round =>
    obtain ⟨k, hk, rfl, hfk⟩ := hrel
    by_cases hlt : k < bs.length
    · have q1 := HC.out k hlt
      have hkw := HW.out _ (nthI_mem hlt)
      have hlook := lookup_bool hm2 hkw (HDD.out (nthI bs k))
      cases hx : (names s.wt).contains (nthI bs k)
      · rw [hx] at hlook
        have hcon := Try.slices_Contains_int b off k cap bs (nthI bs k) w (by omega) (by omega) (fun j hj => HC.out j hj)
        have HK := Lib.hid hcon
        clear hcon
        cases hy : (bs.take k).contains (nthI bs k)
        · have hnx : Hid (fresh (names s.wt) (bs.take (k + 1)) = true) := by
            show _ = true
            rw [take_snoc hlt, fresh_snoc, hfk.out, List.contains_append, hx, hy]; rfl
          have HYY := Lib.hid hy
          clear hx hy
          go_wp2_with (go_at_call 31; refine HK.out.mono ?_; rintro e w' ⟨rfl, hw'⟩; obtain rfl := hw'.symm; rw [HYY.out])
          go_round
          case rel => exact ⟨k + 1, by omega, by go_num, hnx⟩
          case measure => simp [intOf]; omega
        · have hfr := fresh_fails hlt (wt := names s.wt) (by rw [hx, hy]; rfl)
          have E := Lib.hid (HN.out hfr)
          have HYY := Lib.hid hy
          clear hx hy hfr
          go_wp2_with (go_at_call 31; refine HK.out.mono ?_; rintro e w' ⟨rfl, hw'⟩; obtain rfl := hw'.symm; rw [HYY.out])
          go_ret
          rw [E.out.1, E.out.2]
          exact ⟨rfl, _, hO.mono (by omega), Moves.refl _ _⟩
      · rw [hx] at hlook
        have hfr := fresh_fails hlt (wt := names s.wt) (by rw [hx]; rfl)
        have E := Lib.hid (HN.out hfr)
        clear hx hfr
        go_wp2
        go_ret
        rw [E.out.1, E.out.2]
        exact ⟨rfl, _, hO.mono (by omega), Moves.refl _ _⟩
    · obtain rfl : k = bs.length := by omega
      have hfr : fresh (names s.wt) bs = true := by have := hfk.out; rwa [List.take_length] at this
      have E1 := Lib.hid (HY.out hfr)
      have HFR := Lib.hid hfr
      clear hfr hfk
      have hM0 : Marked w m2 n2 (names s.wt) bs 0 w := ⟨D2, hm2, fun j => by rw [HDD.out j]; simp, ⟨rfl, rfl, rfl, Nat.le_refl _, fun _ _ _ => rfl⟩⟩
      have HM0 := Lib.hid hM0
      clear hM0
      go_wp2
      go_loopw [32] (fun i wr => ∃ k : Nat, k ≤ bs.length ∧ i = .int .i64 k ∧ Marked w m2 n2 (names s.wt) bs k wr) (fun i _ => bs.length - (intOf i).toNat)
      case atStart => exact ⟨0, Nat.zero_le _, rfl, HM0.out⟩
      case round =>
        obtain ⟨k, hk, rfl, hMk⟩ := hrel
        obtain ⟨d1, d2, d3, d4, d5, d6⟩ := hd
        have hg := hMk
        obtain ⟨D, ho, hDk, hg⟩ := hg
        have hfb : b ≠ B ∧ b ≠ m2 ∧ v.ownBlock ≠ some b := ⟨fun e => HF.out (Or.inl e), fun e => HF.out (Or.inr (Or.inr (Or.inl e))), fun e => HF.out (Or.inr (Or.inr (Or.inr e)))⟩
        have hBr : wr.heap[B]? = some (.cells #[.map (some m1), .map (some m2), v, .int .i64 s.now] 60 (0, 0)) := (hg.block B hO.self_lt (fun e => d2 (Option.some.inj e))).trans HB.out
        by_cases hlt : k < bs.length
        · have q1 := (World.cell?_of_block (w := w) (a := ⟨b, off + k, none⟩) (hg.block b hblt (fun e => hfb.2.1 (Option.some.inj e)))).trans (HC.out k hlt)
          have q2 : wr.cell? ⟨B, 1, none⟩ = some (.map (some m2)) := by simp [World.cell?, hBr]
          have hkw := HW.out _ (nthI_mem hlt)
          have hstep := fun w1 => Marked.step (w1 := w1) hlt ho hDk hg
          have HST := Lib.hid hstep
          clear hstep hDk hg hMk hBr
          go_wp2_with (at_mapUpdate; refine wpList_mapUpdate_own _ rfl _ _ _ 55 rfl 3 4 law3 Try.underlying55 _ m2 (n2 + k) _ rfl ho (by unfold maxLen; omega) _ _ _ rfl rfl (keyOf_int_mk Try.underlying3 hkw) _ [] (plainElem_bool Try.underlying4 true) ?_; intro w1 ho1 hg1)
          have hM1 := HST.out w1 ho1 hg1
          have HM1 := Lib.hid hM1
          clear hM1 ho1 hg1
          go_wp2
          go_roundw
          case rel => exact ⟨k + 1, by omega, by go_num, HM1.out⟩
          case measure => simp [intOf]; omega
        · obtain rfl : k = bs.length := by omega
          have hsr : Seg wr 68 2 v s.wt.length (itemCells s.wt) := HS.out.carry (fun j hj => hg.block j (HS.out.lt hj) (fun e => d6 (by rw [hj, e])))
          have hur : Rd wr (.slice (some ⟨b, off, none⟩) bs.length cap) bs := Or.inr ⟨b, off, cap, rfl, hpos, hcap, by unfold maxLen; exact hcm, Nat.lt_of_lt_of_le hblt hg.size, fun j hj => (World.cell?_of_block (w := w) (a := ⟨b, off + j, none⟩) (hg.block b hblt (fun e => hfb.2.1 (Option.some.inj e)))).trans (HC.out j hj)⟩
          have hpush := push_any wr.drew B (.map (some m1)) (.map (some m2)) v (.int .i64 s.now) (.slice (some ⟨b, off, none⟩) bs.length cap) s.wt bs s.now hBr hsr d4 hur (fun j hj _ => by cases hj; exact ⟨hfb.1, hfb.2.2⟩) (by omega)
          have q3 : wr.cell? ⟨B, 3, none⟩ = some (.int .i64 s.now) := by simp [World.cell?, hBr]
          have hfin := fun w2 hP => HD.out wr w2 HFR.out hMk hP
          have HFI := Lib.hid hfin
          have HPU := Lib.hid hpush
          have hnow : s.now ≤ 2000000 := by omega
          have hnow1 := hi.now1
          clear hfin hpush hur hsr hBr hDk hg hMk ho
          go_wp2
          go_region_with (go_at_call 32; refine HPU.out.mono ?_; rintro e w2 ⟨rfl, hP2⟩)
          obtain ⟨⟨q4, q5⟩, F', hO', hMv⟩ := HFI.out w2 (pushed_drew hP2)
          have HO' := Lib.hid hO'
          have HMv := Lib.hid hMv
          clear hO' hMv hP2
          go_wp2
          go_ret
          rw [E1.out]
          exact ⟨rfl, F', HO'.out, HMv.out⟩

set_option maxHeartbeats 2000000 in
set_option maxRecDepth 100000 in
theorem retire_none (w : World) (B : Nat) (s : St) (F : Nat → Prop) (c : Nat) (h : Obj w B s F c) (ao : Option Addr) (cap : Nat) (hc : c < 1000000) :
    Calls Try.prog 22 #[.pointer (some ⟨B, 0, none⟩), .slice ao 0 cap] w fun e w' => e = .returned (.int .i64 (s.retireErr [])) ∧ ∃ F', Obj w' B (s.retire []) F' (c + 1) ∧ Moves F F' w w' := by
  have hO := h
  obtain ⟨m1, m2, v, n1, n2, D2, hB, hm1, hm2, hD, hs, hd, c1, c2, c3, c4, hi, rfl⟩ := h
  obtain ⟨k0, k1, k2, k3⟩ := Obj.cells (F := fun _ => True) (c := 0) hB
  have hM0 : Marked w m2 n2 (names s.wt) [] 0 w := ⟨D2, hm2, fun j => by rw [hD j]; simp, ⟨rfl, rfl, rfl, Nat.le_refl _, fun _ _ _ => rfl⟩⟩
  have hfin := fun w2 => retire_done (wr := w) (w2 := w2) (bs := []) hB hm1 hm2 hs hd c1 c2 c3 c4 hi rfl hM0
  have hpush := push_any w.drew B (.map (some m1)) (.map (some m2)) v (.int .i64 s.now) (.slice ao 0 cap) s.wt [] s.now hB hs hd.2.2.2.1 (Or.inl ⟨ao, cap, rfl, rfl⟩) (fun _ _ h => absurd rfl h) (by simp; omega)
  have HFI := Lib.hid hfin
  have HPU := Lib.hid hpush
  have hnow : s.now ≤ 2000000 := by omega
  have hnow1 := hi.now1
  clear hfin hpush hM0 hD hB hs
  go_enter Try.func22, Try.ntmps22
  go_wp2
  refine wp_loop_rounds 1 ?_
  rw [rounds_succ]
  go_wp2
  refine wp_loop_rounds 1 ?_
  rw [rounds_succ]
  go_wp2
  go_region_with (go_at_call 32; refine HPU.out.mono ?_; rintro e w2 ⟨rfl, hP2⟩)
  obtain ⟨⟨q4, q5⟩, F', hO', hMv⟩ := HFI.out w2 (pushed_drew hP2)
  have HO' := Lib.hid hO'
  have HMv := Lib.hid hMv
  clear hO' hMv hP2
  go_wp2
  go_ret
  exact ⟨rfl, F', HO'.out, HMv.out⟩

/-- Retire, of whatever blocks. -/
theorem retire_any (w : World) (B : Nat) (s : St) (F : Nat → Prop) (c : Nat) (u : Value) (bs : List Int) (h : Obj w B s F c) (hu : Rd w u bs) (hF : ∀ k, u.ownBlock = some k → bs ≠ [] → ¬ F k) (hw : ∀ x ∈ bs, (Lit.int .i64 x).wf = true) (hc : c + bs.length < 1000000) :
    Calls Try.prog 22 #[.pointer (some ⟨B, 0, none⟩), u] w fun e w' => e = .returned (.int .i64 (s.retireErr bs)) ∧ ∃ F', Obj w' B (s.retire bs) F' (c + bs.length + 1) ∧ Moves F F' w w' := by
  rcases hu with ⟨ao, cap, rfl, rfl⟩ | ⟨b, off, cap, rfl, hpos, hcap, hcm, hblt, hcells⟩
  · exact retire_none w B s F c h ao cap (by simpa using hc)
  · exact retire_some w B s F c h bs b off cap hpos hcap hcm hblt hcells (hF b rfl (fun e => by rw [e] at hpos; simp at hpos)) hw hc

end Go.Proofs.Ytphmfmfbneoljaa.Ep
