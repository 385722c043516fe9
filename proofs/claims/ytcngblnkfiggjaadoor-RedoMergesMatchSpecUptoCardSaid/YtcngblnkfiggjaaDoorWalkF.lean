/- Contracts of merged and Merge of package redo: one entry for each address, ascending. -/
import Derived.Test.YtcngblnkfiggjaaDoorWalkE
namespace Go.Proofs.YtcngblnkfiggjaaDoor.Rm
open Go Go.RowKit Go.Maps

theorem atKey_mapD {l : List (Int × Int)} (h : Asc l) {k : Nat} (hk : k < l.length) (zd : DataW Unit) : (mapD l).atKey (.int .i64 (nth l k).1) zd = .lit (.int .i64 (nth l k).2) := by
  induction l generalizing k with
  | nil => simp at hk
  | cons y r ih =>
    have hp := List.pairwise_cons.1 h
    cases k with
    | zero => simp [mapD, DataW.atKey, nth, Lit.sameKey]
    | succ k =>
      have e : nth (y :: r) (k + 1) = nth r k := by simp [nth]
      have hk' : k < r.length := by simpa using hk
      have hne : y.1 ≠ (nth r k).1 := by
        have := hp.1 (nth r k) (List.mem_of_getElem? (nth_getElem hk'))
        omega
      rw [e, ← ih hp.2 hk']
      simp [mapD, DataW.atKey, Lit.sameKey, List.find?_cons, hne]
theorem mem_addE {l : List (Int × Int)} {x p : Int × Int} (h : p ∈ addE l x) : p = x ∨ p ∈ l := by
  unfold addE at h
  rcases mem_ins.1 h with h | h
  · exact Or.inl h
  · exact Or.inr (List.mem_filter.1 h).1
theorem wf_mergeE {l : List (Int × Int)} (h : wfE l) : wfE (mergeE l) := by
  have : ∀ m : List (Int × Int), wfE m → wfE (l.foldl addE m) := by
    induction l with
    | nil => intro m hm; exact hm
    | cons y r ih =>
      intro m hm
      exact ih (fun p hp => h p (List.mem_cons_of_mem _ hp)) _ (fun p hp => by
        rcases mem_addE hp with e | e
        · rw [e]; exact h y List.mem_cons_self
        · exact hm p e)
  exact this [] (fun p hp => by cases hp)

set_option maxHeartbeats 4000000 in
set_option maxRecDepth 100000 in
theorem merged_any (w : World) (ao : Option Addr) (cap : Nat) (l : List (Int × Int)) (hu : RdI w (.slice ao l.length cap) l) (hl : l.length < 1000000) (hw : wfE l) :
    Calls Tryd.prog 53 #[.slice ao l.length cap] w fun e w' => ∃ r, e = .returned r ∧ OwnI w' w.heap.size r (mergeE l) ∧ Below w.heap.size w w' := by
  have HU := Lib.hid hu
  have HW := Lib.hid hw
  have hmm := @run_makeMap Tryd.prog
  have HM0 := Lib.hid (show (w.alloc (.map #[] 0)).ownsMap Tryd.prog 3 (plainElem Tryd.prog 3) w.heap.size 0 (mapD (mergeE (l.take 0))) from World.ownsMap_made _ _ _ _)
  have HB0 := Lib.hid (show Below w.heap.size w (w.alloc (.map #[] 0)) from by go_grown)
  clear hu hw
  go_enter Tryd.func53, Tryd.ntmps53
  go_wp2
  go_loopw [12] (fun i wr => ∃ k : Nat, k ≤ l.length ∧ i = .int .i64 k ∧ wr.ownsMap Tryd.prog 3 (plainElem Tryd.prog 3) w.heap.size k (mapD (mergeE (l.take k))) ∧ Below w.heap.size w wr) (fun i _ => l.length - (RowKit.intOf i).toNat)
  case atStart => exact ⟨0, Nat.zero_le _, rfl, HM0.out, HB0.out⟩
  case round =>
    obtain ⟨k, hk, rfl, ho, hb⟩ := hrel
    by_cases hlt : k < l.length
    · obtain ⟨b, off, rfl, hc1, hm1, hbl, q1, q2⟩ := HU.out.at hlt
      have d1 := (hb.cell (p := ⟨b, off + k * 2, none⟩) hbl).trans q1
      have d2 := (hb.cell (p := ⟨b, off + k * 2 + 1, none⟩) hbl).trans q2
      obtain ⟨w1f, w2f⟩ := HW.out _ (List.mem_of_getElem? (nth_getElem hlt))
      have hoA := ho.alloc (.cells #[.int .i64 (nth l k).1, .int .i64 (nth l k).2] 55)
      have hsz := hb.size
      have HS := Lib.hid (mergeE_succ hlt)
      unfold maxLen at hm1
      clear q1 q2
      go_wp2_with (at_mapUpdate; refine wpList_mapUpdate_own _ rfl _ _ _ 129 rfl 3 3 law3 Tryd.underlying129 _ w.heap.size k _ rfl hoA (by unfold maxLen; omega) _ _ _ rfl rfl (keyOf_int_mk Tryd.underlying3 w1f) _ [] (plainElem_int Tryd.underlying3 w2f) ?_; intro w3 ho3 hg3)
      have HN := Lib.hid (show w3.ownsMap Tryd.prog 3 (plainElem Tryd.prog 3) w.heap.size (k + 1) (mapD (mergeE (l.take (k + 1)))) ∧ Below w.heap.size w w3 from
        ⟨by rw [HS.out, ← put_mapD_any]; exact ho3, (hb.alloc hsz _).grown hg3 (by simp; omega) (fun j hj => by cases hj; exact Nat.le_refl _)⟩)
      clear ho3 hg3 ho hb hoA d1 d2 w1f w2f HS
      go_wp2
      go_roundw
      case rel => exact ⟨k + 1, by omega, by go_num, HN.out.1, HN.out.2⟩
      case measure => simp [RowKit.intOf]; omega
    · obtain rfl : k = l.length := by omega
      rw [List.take_length] at ho
      have hml := mergeE_length l
      have hasc := mergeE_asc l
      have HWM := Lib.hid (wf_mergeE HW.out)
      obtain ⟨M, hM⟩ : ∃ M, mergeE l = M := ⟨_, rfl⟩
      rw [hM] at ho hml hasc HWM
      have HME := Lib.hid hM
      clear hM
      have hks := sortedKeys wr w.heap.size l.length M ho (by omega) hasc
      have HKS := Lib.hid hks
      have HO := Lib.hid ho
      have HASC := Lib.hid hasc
      clear hks ho hasc
      go_wp2_with fail
      refine (keys_any _ _).mono ?_
      rintro e w1 ⟨rfl, rfl⟩
      go_wp2_with fail
      refine HKS.out.mono ?_
      rintro e w2 ⟨vk, rfl, hrow, hb2⟩
      have hkrd : Rd w2 vk (names M) := Rd.of_owns hrow
      have hb2' := below_next hb hb2
      have HO2 := Lib.hid (show w2.ownsMap Tryd.prog 3 (plainElem Tryd.prog 3) w.heap.size l.length (mapD M) from by
        obtain ⟨es, clock, h1, h2⟩ := HO.out
        exact ⟨es, clock, (hb2.block _ HO.out.lt).trans h1, h2⟩)
      have hmlt : w.heap.size < w2.heap.size := HO2.out.lt
      have HKR := Lib.hid hkrd
      have HB2 := Lib.hid hb2'
      have hnl := names_length M
      obtain ⟨ak, ck, hsk⟩ := owns_shape hrow
      rw [hnl] at hsk
      subst hsk
      clear hrow hkrd hb2' hb2 hb HO HKS hnl
      go_wp2
      go_loopw [6, 26] (fun u i wr => ∃ k : Nat, k ≤ M.length ∧ i = .int .i64 k ∧ OwnI wr w2.heap.size u (M.take k) ∧ Below w2.heap.size w2 wr) (fun _ i _ => M.length - (RowKit.intOf i).toNat)
      case atStart => exact ⟨0, Nat.zero_le _, rfl, OwnI.nil _ _, Below.refl _ _⟩
      case round =>
        obtain ⟨k, hk, rfl, p2, p3⟩ := hrel
        by_cases hlt : k < M.length
        · obtain ⟨b, off, rfl, -, hcp, hcm, hbl, q1⟩ := HKR.out.at (j := k) (by rw [names_length]; exact hlt)
          have hnk : nthI (names M) k = (nth M k).1 := by unfold nthI nth names; simp [hlt]
          rw [hnk] at q1
          have d1 := (p3.cell (p := ⟨b, off + k, none⟩) hbl).trans q1
          have how : wr.ownsMap Tryd.prog 3 (plainElem Tryd.prog 3) w.heap.size l.length (mapD M) := by
            obtain ⟨es, clock, h1, h2⟩ := HO2.out
            exact ⟨es, clock, (p3.block _ hmlt).trans h1, h2⟩
          obtain ⟨w1f, w2f⟩ := HWM.out _ (List.mem_of_getElem? (nth_getElem hlt))
          have HAT := Lib.hid (atKey_mapD HASC.out hlt (.lit (.int .i64 0)))
          have HS := Lib.hid (take_item hlt)
          have p2a := p2.alloc (.cells #[.int .i64 (nth M k).1, .int .i64 (nth M k).2] 55)
          have hone := RdI.one wr (nth M k).1 (nth M k).2 wr.heap.size rfl
          have hsz := p3.size
          unfold maxLen at hcm
          clear q1 hnk
          go_wp2_with (first
            | (at_lookup; refine wpList_lookup_own_int _ rfl _ _ 129 rfl 3 3 .i64 law3 Tryd.underlying129 Tryd.underlying3 (zero3 _) w.heap.size l.length _ rfl how _ _ rfl (keyOf_int_mk Tryd.underlying3 w1f) ?_; intro cc hat hwc; obtain rfl : (nth M k).2 = cc := by rw [HAT.out] at hat; simpa using hat)
            | (at_builtin; refine wpList_append_rdI _ rfl _ _ rfl rfl w2.heap.size _ _ (M.take k) [((nth M k).1, (nth M k).2)] rfl rfl p2a hone (by simp; omega) (by simp; omega) ?_; intro v1 w3 hrow1 hg1))
          have HN := Lib.hid (show OwnI w3 w2.heap.size v1 (M.take (k + 1)) ∧ Below w2.heap.size w2 w3 from ⟨by rw [HS.out]; exact hrow1, (p3.alloc p3.size _).grown hg1 (by simp; omega) (fun j hj => (p2.lt hj).1)⟩)
          clear hrow1 hg1 p2 p2a hone p3 HS d1 how w1f w2f
          go_wp2
          go_roundw
          case rel => exact ⟨k + 1, by omega, by go_num, HN.out.1, HN.out.2⟩
          case measure => simp [RowKit.intOf]; omega
        · obtain rfl : k = M.length := by omega
          have HR := Lib.hid (show OwnI wr w.heap.size u6 (mergeE l) ∧ Below w.heap.size w wr from ⟨by rw [HME.out]; rw [List.take_length] at p2; exact Joins.ownsRow_le p2 (by omega), below_next HB2.out p3⟩)
          clear p2 p3
          go_wp2
          go_ret
          exact ⟨_, rfl, HR.out.1, HR.out.2⟩

set_option maxHeartbeats 2000000 in
set_option maxRecDepth 100000 in
theorem merge_any (w : World) (ao : Option Addr) (cap : Nat) (l : List Rec) (hu : Recs w (.slice ao l.length cap) l) (ht : (allE l).length < 1000000) (hwf : wfE (allE l)) (hll : l.length < 1000000000) :
    Calls Tryd.prog 24 #[.slice ao l.length cap] w fun e w' => ∃ r, e = .returned r ∧ OwnI w' w.heap.size r (mergeE (allE l)) ∧ Below w.heap.size w w' := by
  have HU := Lib.hid hu
  have HWF := Lib.hid hwf
  have HLE := Lib.hid (allE_take_le l)
  clear hu hwf
  go_enter Tryd.func24, Tryd.ntmps24
  go_wp2
  go_loopw [3, 8] (fun u i wr => ∃ k : Nat, k ≤ l.length ∧ i = .int .i64 k ∧ OwnI wr w.heap.size u (allE (l.take k)) ∧ Below w.heap.size w wr) (fun _ i _ => l.length - (RowKit.intOf i).toNat)
  case atStart => exact ⟨0, Nat.zero_le _, rfl, OwnI.nil _ _, Below.refl _ _⟩
  case round =>
    obtain ⟨k, hk, rfl, p2, p3⟩ := hrel
    by_cases hlt : k < l.length
    · obtain ⟨b, off, rfl, hc1, hm1, hb, q1, q2, hok⟩ := HU.out.at hlt
      obtain ⟨av, cv, hsh⟩ := hok.1.shape
      rw [hsh] at q2
      have d1 := (p3.cell (p := ⟨b, off + k * 2, none⟩) hb).trans q1
      have d2 := (p3.cell (p := ⟨b, off + k * 2 + 1, none⟩) hb).trans q2
      have hba : Below w.heap.size w (wr.alloc (.cells #[.int .i64 (nthR l k).num, .slice av (nthR l k).es.length cv] 78)) := p3.alloc p3.size _
      have hrd := hok.1.below hba
      rw [hsh] at hrd
      have p2a := p2.alloc (.cells #[.int .i64 (nthR l k).num, .slice av (nthR l k).es.length cv] 78)
      have hsz := p3.size
      have hle := HLE.out (k + 1)
      have HS := Lib.hid (allE_succ hlt)
      rw [HS.out, List.length_append] at hle
      unfold maxLen at hm1
      clear q1 q2 hsh hok
      go_wp2_with (at_builtin; refine wpList_append_rdI _ rfl _ _ rfl rfl w.heap.size _ _ (allE (l.take k)) (nthR l k).es rfl rfl p2a hrd ?c1 ?c2 ?_)
      case c1 => omega
      case c2 => simp; omega
      intro v1 w1 hrow1 hg1
      have hN : Hid (OwnI w1 w.heap.size v1 (allE (l.take (k + 1)))) := by rw [HS.out]; exact hrow1
      have b1 : Below w.heap.size w w1 := hba.grown hg1 (by simp; omega) (fun j hj => (p2.lt hj).1)
      clear hrow1 hg1 p2 p2a p3 hrd d1 d2 HS hba
      go_wp2
      go_roundw
      case rel => exact ⟨k + 1, by omega, by go_num, hN.out, b1⟩
      case measure => simp [RowKit.intOf]; omega
    · obtain rfl : k = l.length := by omega
      rw [List.take_length] at p2
      obtain ⟨au, cu, hsh⟩ := p2.shape
      subst hsh
      have HMG := Lib.hid (merged_any wr au cu (allE l) p2.rd ht HWF.out)
      go_wp2_with fail
      refine HMG.out.mono ?_
      rintro e w2 ⟨r2, rfl, hr2, hb2⟩
      have hN : Hid (OwnI w2 w.heap.size r2 (mergeE (allE l)) ∧ Below w.heap.size w w2) := ⟨Joins.ownsRow_le hr2 p3.size, below_next p3 hb2⟩
      clear hr2 hb2 p2 p3
      go_wp2
      go_ret
      exact ⟨_, rfl, hN.out.1, hN.out.2⟩

end Go.Proofs.YtcngblnkfiggjaaDoor.Rm
