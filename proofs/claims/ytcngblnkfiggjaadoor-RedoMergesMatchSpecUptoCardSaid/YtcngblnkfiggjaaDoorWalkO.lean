/- The walk of the statement on merging. -/
import Derived.Test.YtcngblnkfiggjaaDoorWalkN
namespace Go.Proofs.YtcngblnkfiggjaaDoor.Rm
open Go Go.RowKit Go.Maps

def Goal (w : World) : Ending → World → Prop := fun e w' => e = .returned (.bool true) ∧ Below w.heap.size w w'

set_option maxHeartbeats 4000000 in
set_option maxRecDepth 100000 in
theorem merges_any (w : World) (ao : Option Addr) (cap : Nat) (l : List Rec) (hu : Recs w (.slice ao l.length cap) l) (ht : (allE l).length < 100000000) (hwf : wfE (allE l)) (hll : l.length < 1000000000) :
    Calls Tryd.prog 6 #[.slice ao l.length cap] w (Goal w) := by
  have HU := Lib.hid hu
  have HWF := Lib.hid hwf
  have HA := Lib.hid (all_any w ao cap l hu ht)
  clear hu hwf
  go_enter Tryd.func6, Tryd.ntmps6
  go_wp2_with fail
  refine HA.out.mono ?_
  rintro e w1 ⟨r, rfl, ho, hb1⟩
  clear HA
  obtain ⟨ar, cr, hsh⟩ := ho.shape
  subst hsh
  have hR := Lib.hid ho.rd
  clear ho
  by_cases h20 : 20 < l.length
  · have i1 : (20 : Int) < (l.length : Int) := by omega
    go_wp2_with fail
    refine (sanity_any w1).mono ?_
    rintro e w2 ⟨rfl, hb2⟩
    have hB := below_next hb1 hb2
    clear hb1 hb2
    go_wp2
    go_ret
    exact ⟨rfl, hB⟩
  have i1 : (l.length : Int) ≤ 20 := by omega
  go_wp2_with fail
  refine (few_any w1 _ _ _).mono ?_
  rintro e w2 ⟨rfl, hw2⟩
  subst hw2
  by_cases h60 : 60 < (allE l).length
  · have hd : decide (((allE l).length : Int) ≤ 60) = false := by simp; omega
    rw [hd]
    go_wp2_with fail
    refine (sanity_any w1).mono ?_
    rintro e w2 ⟨rfl, hb2⟩
    have hB := below_next hb1 hb2
    clear hb1 hb2
    go_wp2
    go_ret
    exact ⟨rfl, hB⟩
  have hd : decide (((allE l).length : Int) ≤ 60) = true := by simp; omega
  rw [hd]
  have h60' : (allE l).length ≤ 60 := by omega
  clear hd h60
  go_wp2
  go_loopw [22] (fun i wr => ∃ k : Nat, k ≤ (allE l).length ∧ i = .int .i64 k ∧ Hid (∀ j, j < k → 0 ≤ (nth (allE l) j).1) ∧ Below w1.heap.size w1 wr) (fun i _ => (allE l).length - (RowKit.intOf i).toNat)
  case atStart => exact ⟨0, Nat.zero_le _, rfl, fun j hj => by omega, Below.refl _ _⟩
  case round =>
    obtain ⟨k, hk, rfl, hP, hbr⟩ := hrel
    by_cases hlt : k < (allE l).length
    · obtain ⟨b, off, rfl, hc1, hm1, hb, q1, q2⟩ := hR.out.at hlt
      have d1 := (hbr.cell (p := ⟨b, off + k * 2, none⟩) hb).trans q1
      have d2 := (hbr.cell (p := ⟨b, off + k * 2 + 1, none⟩) hb).trans q2
      have hbz : b < wr.heap.size := Nat.lt_of_lt_of_le hb hbr.size
      have i2 : (k : Int) < (allE l).length := by omega
      unfold maxLen at hm1
      clear q1 q2
      by_cases hneg : (nth (allE l) k).1 < 0
      · go_wp2_with fail
        have hB0 := (below_next hb1 hbr).alloc (Nat.le_trans hb1.size hbr.size) (.cells #[.int .i64 (nth (allE l) k).1, .int .i64 (nth (allE l) k).2] 55)
        refine (sanity_any _).mono ?_
        rintro e w2 ⟨rfl, hb2⟩
        have hB2 := below_next hB0 hb2
        clear hB0 hb2
        go_wp2_with fail
        refine (merge_any w2 ao cap l (HU.out.below hB2) (by omega) HWF.out hll).mono ?_
        rintro e w3 ⟨r3, rfl, ho3, hb3⟩
        have hB3 := below_next hB2 hb3
        have hr3 := Lib.hid ho3.rd
        clear hB2 hb3 ho3
        go_wp2_with fail
        refine (merge_ref w3 ao cap l (HU.out.below hB3) ht).mono ?_
        rintro e w4 ⟨r4, rfl, ho4, hb4⟩
        have hB4 := below_next hB3 hb4
        have hr4 := Lib.hid ho4.rd
        have hr3' := Lib.hid (hr3.out.below hb4)
        clear hB3 hb4 ho4 hr3
        have hml := mergeE_length (allE l)
        go_wp2_with fail
        refine (same_any w4 _ _ _ _ hr3'.out hr4.out (by omega) (by omega)).mono ?_
        rintro e w5 ⟨rfl, hb5⟩
        have hB5 := below_next hB4 hb5
        rw [sameE_self]
        clear hB4 hb5 hr3' hr4
        go_wp2
        go_ret
        exact ⟨rfl, hB5⟩
      · have hge : 0 ≤ (nth (allE l) k).1 := by omega
        go_wp2
        exact ⟨⟨k + 1, by omega, by go_num, (fun j hj => by
          by_cases e : j = k
          · subst e; exact hge
          · exact hP.out j (by omega)), hbr.alloc hbr.size _⟩, by simp [RowKit.intOf]; omega⟩
    · obtain rfl : k = (allE l).length := by omega
      go_wp2_with fail
      have hRr := Lib.hid (hR.out.below hbr)
      have hN0 : Hid (∀ p ∈ allE l, 0 ≤ p.1) := fun p hp => by
        obtain ⟨j, hj, e⟩ := List.getElem_of_mem hp
        have h1 := hP.out j hj
        have h2 := nth_getElem hj
        rw [List.getElem?_eq_getElem hj, e] at h2
        cases h2
        exact h1
      have hBr := below_next hb1 hbr
      clear hR hb1 hbr hP
      refine (lines_any wr ar cr (allE l) hRr.out (by omega) HWF.out hN0.out).mono ?_
      rintro e wa ⟨ra, rfl, hoa, hba⟩
      have hRa := Lib.hid (hRr.out.below hba)
      have hBa := below_next hBr hba
      have hla := Lib.hid hoa
      clear hRr hBr hba hoa
      go_wp2_with fail
      refine (lines_ref wa ar cr (allE l) hRa.out (by omega) HWF.out hN0.out).mono ?_
      rintro e wb ⟨rb, rfl, hob, hbb⟩
      have hBb := below_next hBa hbb
      have hla' := Lib.hid (hla.out.below hbb)
      have hlb := Lib.hid hob
      clear hBa hbb hob hla hRa
      obtain ⟨aa, ca, hsa⟩ := hla'.out.shape
      obtain ⟨ab, cb, hsb⟩ := hlb.out.shape
      subst hsa hsb
      go_wp2
      go_loopw [49] (fun i wq => ∃ k : Nat, k ≤ (linesE (allE l)).length ∧ i = .int .i64 k ∧ ∃ n, Hid (wq = wb.drewN n)) (fun i _ => (linesE (allE l)).length - (RowKit.intOf i).toNat)
      case atStart => exact ⟨0, Nat.zero_le _, rfl, 0, rfl⟩
      case round =>
        obtain ⟨k, hk2, rfl, n, hwq⟩ := hrel
        have hwq2 := hwq.out
        clear hwq
        subst hwq2
        by_cases hlt2 : k < (linesE (allE l)).length
        · obtain ⟨b1, o1, rfl, _, hc1, hm1, hb1, q1⟩ := hla'.out.at hlt2
          obtain ⟨b2, o2, rfl, _, hc2, hm2, hb2, q2⟩ := hlb.out.at hlt2
          have i2 : (k : Int) < (linesE (allE l)).length := by omega
          unfold maxLen at hm1 hm2
          go_wp2
          go_quiet (fail)
          go_wp2
          exact ⟨⟨k + 1, by omega, by go_num, _, rfl⟩, by simp [RowKit.intOf]; omega⟩
        · obtain rfl : k = (linesE (allE l)).length := by omega
          have hB0 := below_drewN hBb n
          clear hBb hla' hlb
          go_wp2_with fail
          refine (sanity_any _).mono ?_
          rintro e w2 ⟨rfl, hb2⟩
          have hB2 := below_next hB0 hb2
          clear hB0 hb2
          go_wp2_with fail
          refine (merge_any w2 ao cap l (HU.out.below hB2) (by omega) HWF.out hll).mono ?_
          rintro e w3 ⟨r3, rfl, ho3, hb3⟩
          have hB3 := below_next hB2 hb3
          have hr3 := Lib.hid ho3.rd
          clear hB2 hb3 ho3
          go_wp2_with fail
          refine (merge_ref w3 ao cap l (HU.out.below hB3) ht).mono ?_
          rintro e w4 ⟨r4, rfl, ho4, hb4⟩
          have hB4 := below_next hB3 hb4
          have hr4 := Lib.hid ho4.rd
          have hr3' := Lib.hid (hr3.out.below hb4)
          clear hB3 hb4 ho4 hr3
          have hml := mergeE_length (allE l)
          go_wp2_with fail
          refine (same_any w4 _ _ _ _ hr3'.out hr4.out (by omega) (by omega)).mono ?_
          rintro e w5 ⟨rfl, hb5⟩
          have hB5 := below_next hB4 hb5
          rw [sameE_self]
          clear hB4 hb5 hr3' hr4
          go_wp2
          go_ret
          exact ⟨rfl, hB5⟩

end Go.Proofs.YtcngblnkfiggjaaDoor.Rm
