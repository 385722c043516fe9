/- Contract of Same of the specification of layer 16, of equal cells. -/
import Derived.Test.YtcngblnkfiggjaaDoorChZ4
namespace Go.Proofs.YtcngblnkfiggjaaDoor.Rm
open Go Go.RowKit Go.Maps Go.Shelf

set_option maxHeartbeats 2000000 in
set_option maxRecDepth 100000 in
theorem csame_any (w : World) (c : Cl) (u v : Value) (hu : Rd w u c.ws) (hv : Rd w v c.ws) :
    Calls Tryd.prog 16 #[clV c u, clV c v] w fun e w' => e = .returned (.bool true) ∧ Below w.heap.size w w' := by
  have hbnd := hu.bound
  rcases hu with ⟨ao, cap, rfl, hn⟩ | ⟨b, off, cap, rfl, hp, hc1, hm1, hb1, he1⟩
  · obtain ⟨av, cv, rfl⟩ : ∃ av cv, v = .slice av 0 cv := by
      rcases hv with ⟨ao, cap, rfl, _⟩ | ⟨b, off, cap, rfl, hp, _⟩
      · exact ⟨_, _, rfl⟩
      · rw [hn] at hp; simp at hp
    have HB := Lib.hid (show Below w.heap.size w ((w.alloc (boxC c (.slice ao 0 cap))).alloc (boxC c (.slice av 0 cv))) from ((Below.refl _ _).alloc (Nat.le_refl _) _).alloc (by simp) _)
    unfold boxC at HB
    clear hv hn
    unfold clV
    go_enter Tryd.func16, Tryd.ntmps16
    go_wp2
    refine wp_loop_rounds 1 ?_
    rw [rounds_succ]
    go_wp2
    go_ret
    exact ⟨rfl, HB.out⟩
  · rcases hv with ⟨ao', cap', rfl, hn⟩ | ⟨b', off', cap', rfl, hp', hc2, hm2, hb2, he2⟩
    · exfalso; rw [hn] at hp; simp at hp
    · have HB := Lib.hid (show Below w.heap.size w ((w.alloc (boxC c (.slice (some ⟨b, off, none⟩) c.ws.length cap))).alloc (boxC c (.slice (some ⟨b', off', none⟩) c.ws.length cap'))) from ((Below.refl _ _).alloc (Nat.le_refl _) _).alloc (by simp) _)
      have HS := Lib.hid (show ((w.alloc (boxC c (.slice (some ⟨b, off, none⟩) c.ws.length cap))).alloc (boxC c (.slice (some ⟨b', off', none⟩) c.ws.length cap'))).cell? ⟨w.heap.size, 5, none⟩ = some (.slice (some ⟨b, off, none⟩) c.ws.length cap) ∧ ((w.alloc (boxC c (.slice (some ⟨b, off, none⟩) c.ws.length cap))).alloc (boxC c (.slice (some ⟨b', off', none⟩) c.ws.length cap'))).cell? ⟨w.heap.size + 1, 5, none⟩ = some (.slice (some ⟨b', off', none⟩) c.ws.length cap') from
        ⟨(boxC_cells (at_old (heap_alloc_new _ _))).2.2.2.2.2, (boxC_cells (new_at (by simp))).2.2.2.2.2⟩)
      unfold boxC at HB HS
      have H1 := Lib.hid he1
      have H2 := Lib.hid he2
      unfold maxLen at hm1 hm2
      clear he1 he2
      unfold clV
      go_enter Tryd.func16, Tryd.ntmps16
      go_wp2
      go_loopw [5] (fun i wr => ∃ k : Nat, k ≤ c.ws.length ∧ i = .int .i64 k ∧ Hid (wr.cell? ⟨w.heap.size, 5, none⟩ = some (.slice (some ⟨b, off, none⟩) c.ws.length cap) ∧ wr.cell? ⟨w.heap.size + 1, 5, none⟩ = some (.slice (some ⟨b', off', none⟩) c.ws.length cap') ∧ Below w.heap.size w wr)) (fun i _ => c.ws.length - (RowKit.intOf i).toNat)
      case atStart => exact ⟨0, Nat.zero_le _, rfl, HS.out.1, HS.out.2, HB.out⟩
      case round =>
        obtain ⟨k, hk, rfl, hP⟩ := hrel
        by_cases hlt : k < c.ws.length
        · have q1 := (hP.out.2.2.cell (p := ⟨b, off + k, none⟩) hb1).trans (H1.out k hlt)
          have q2 := (hP.out.2.2.cell (p := ⟨b', off' + k, none⟩) hb2).trans (H2.out k hlt)
          have i1 : (k : Int) < c.ws.length := by omega
          obtain ⟨p1, p2, _⟩ := hP.out
          have HN := Lib.hid (show ∀ nq, (wr.drewN nq).cell? ⟨w.heap.size, 5, none⟩ = some (.slice (some ⟨b, off, none⟩) c.ws.length cap) ∧ (wr.drewN nq).cell? ⟨w.heap.size + 1, 5, none⟩ = some (.slice (some ⟨b', off', none⟩) c.ws.length cap') ∧ Below w.heap.size w (wr.drewN nq) from fun nq => ⟨p1, p2, below_drewN hP.out.2.2 nq⟩)
          go_wp2
          go_quiet (fail)
          go_wp2
          go_roundw
          case rel => exact ⟨k + 1, by omega, by go_num, HN.out _⟩
          case measure => simp [RowKit.intOf]; omega
        · obtain rfl : k = c.ws.length := by omega
          obtain ⟨p1, p2, _⟩ := hP.out
          go_wp2
          go_ret
          exact ⟨rfl, hP.out.2.2⟩

end Go.Proofs.YtcngblnkfiggjaaDoor.Rm
