/- Contracts of Merged and Merge of the specification's package of layer 10. -/
import Derived.Test.YtcngblnkfiggjaaDoorWalkC
namespace Go.Proofs.YtcngblnkfiggjaaDoor.Rm
open Go Go.RowKit Go.Maps

set_option maxHeartbeats 1000000 in
set_option maxRecDepth 100000 in
theorem merged_ref (w : World) (ao : Option Addr) (cap : Nat) (l : List (Int × Int)) (hu : RdI w (.slice ao l.length cap) l) (hl : l.length < 100000000) :
    Calls Tryd.prog 54 #[.slice ao l.length cap] w fun e w' => ∃ r, e = .returned r ∧ OwnI w' w.heap.size r (mergeE l) ∧ Below w.heap.size w w' := by
  have HU := Lib.hid hu
  clear hu
  go_enter Tryd.func54, Tryd.ntmps54
  go_wp2
  go_loopw [3, 4] (fun u i wr => ∃ k : Nat, k ≤ l.length ∧ i = .int .i64 k ∧ OwnI wr w.heap.size u (mergeE (l.take k)) ∧ Below w.heap.size w wr) (fun _ i _ => l.length - (RowKit.intOf i).toNat)
  case atStart => exact ⟨0, Nat.zero_le _, rfl, OwnI.nil _ _, Below.refl _ _⟩
  case round =>
    obtain ⟨k, hk, rfl, p2, p3⟩ := hrel
    by_cases hlt : k < l.length
    · obtain ⟨b, off, rfl, hc1, hm1, hb, q1, q2⟩ := HU.out.at hlt
      have d1 := (p3.cell (p := ⟨b, off + k * 2, none⟩) hb).trans q1
      have d2 := (p3.cell (p := ⟨b, off + k * 2 + 1, none⟩) hb).trans q2
      have hml := mergeE_length (l.take k)
      have htl : (l.take k).length ≤ l.length := by simp; omega
      obtain ⟨au, cu, hsh⟩ := p2.shape
      have hwi := with_any wr au cu (mergeE (l.take k)) (nth l k).1 (nth l k).2 (by rw [← hsh]; exact p2.rd) (by omega)
      rw [withE_asc (mergeE_asc _), show ((nth l k).1, (nth l k).2) = nth l k from rfl, ← mergeE_succ hlt, ← hsh] at hwi
      have HWI := Lib.hid hwi
      have hsz := p3.size
      unfold maxLen at hm1
      clear q1 q2 hsh hwi
      go_wp2_with fail
      refine HWI.out.mono ?_
      rintro e w1 ⟨r, rfl, hr, hb1⟩
      have hN : Hid (OwnI w1 w.heap.size r (mergeE (l.take (k + 1))) ∧ Below w.heap.size w w1) := ⟨Joins.ownsRow_le hr hsz, below_next p3 hb1⟩
      clear hr hb1 p2 p3 d1 d2
      go_wp2
      go_roundw
      case rel => exact ⟨k + 1, by omega, by go_num, hN.out.1, hN.out.2⟩
      case measure => simp [RowKit.intOf]; omega
    · obtain rfl : k = l.length := by omega
      go_wp2
      go_ret
      exact ⟨_, rfl, by simpa using p2, p3⟩

set_option maxHeartbeats 1000000 in
set_option maxRecDepth 100000 in
theorem merge_ref (w : World) (ao : Option Addr) (cap : Nat) (l : List Rec) (hu : Recs w (.slice ao l.length cap) l) (ht : (allE l).length < 100000000) :
    Calls Tryd.prog 25 #[.slice ao l.length cap] w fun e w' => ∃ r, e = .returned r ∧ OwnI w' w.heap.size r (mergeE (allE l)) ∧ Below w.heap.size w w' := by
  go_enter Tryd.func25, Tryd.ntmps25
  go_wp2_with fail
  refine (all_any w ao cap l hu ht).mono ?_
  rintro e w1 ⟨r, rfl, hr, hb1⟩
  obtain ⟨au, cu, hsh⟩ := hr.shape
  subst hsh
  go_wp2_with fail
  refine (merged_ref w1 au cu (allE l) hr.rd ht).mono ?_
  rintro e w2 ⟨r2, rfl, hr2, hb2⟩
  have hN : Hid (OwnI w2 w.heap.size r2 (mergeE (allE l)) ∧ Below w.heap.size w w2) := ⟨Joins.ownsRow_le hr2 hb1.size, below_next hb1 hb2⟩
  clear hr2 hb2 hr hb1
  go_wp2
  go_ret
  exact ⟨_, rfl, hN.out.1, hN.out.2⟩

end Go.Proofs.YtcngblnkfiggjaaDoor.Rm
