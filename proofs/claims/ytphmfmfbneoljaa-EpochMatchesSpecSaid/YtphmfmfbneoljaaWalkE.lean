/- Contract of push of the queue in package epoch: the elements are put to the end, with the epoch. -/
import Derived.Test.YtphmfmfbneoljaaWalkC
import Derived.Test.YtphmfmfbneoljaaSegLaw
import Derived.Lib.SmallJoins
namespace Go.Proofs.Ytphmfmfbneoljaa.Ep
open Go Go.RowKit Go.Maps

theorem Try.info68 : (Try.prog.info? 68).map (fun i => (i.zero, i.size, i.bytes)) = some (some (.agg #[.int .i64 0, .int .i64 0]), 2, 16) := by kernel_rfl

/-- An element of a list, with a default. -/
def nthI (l : List Int) (j : Nat) : Int := l.getD j 0
theorem nthI_getElem {l : List Int} {j : Nat} (h : j < l.length) : l[j]? = some (nthI l j) := by
  unfold nthI; rw [List.getD_eq_getElem?_getD]; simp [h]
/-- A slice of ints that is read: these are its elements (whatever its address, where there is none). -/
def Rd (w : World) (v : Value) (bs : List Int) : Prop :=
  (∃ ao cap, v = .slice ao 0 cap ∧ bs = []) ∨
  ∃ b off cap, v = .slice (some ⟨b, off, none⟩) bs.length cap ∧ 0 < bs.length ∧ bs.length ≤ cap ∧ cap ≤ maxLen ∧ b < w.heap.size ∧ ∀ j, j < bs.length → w.cell? ⟨b, off + j, none⟩ = some (.int .i64 (nthI bs j))
theorem Rd.carry {w w' : World} {v : Value} {bs : List Int} (h : Rd w v bs) (hs : w.heap.size ≤ w'.heap.size) (hb : ∀ k, v.ownBlock = some k → k < w.heap.size → w'.heap[k]? = w.heap[k]?) : Rd w' v bs := by
  rcases h with h | ⟨b, off, cap, rfl, h0, hc, hm, h1, h2⟩
  · exact Or.inl h
  · exact Or.inr ⟨b, off, cap, rfl, h0, hc, hm, by omega, fun j hj => (World.cell?_of_block (w := w) (hb b rfl h1)).trans (h2 j hj)⟩
theorem Rd.of_owns {w : World} {base : Nat} {v : Value} {bs : List Int} (h : w.ownsRow base 3 1 v bs.length (ints bs)) : Rd w v bs := by
  have h0 := h
  obtain ⟨h1, ⟨rfl, h2⟩ | ⟨g, cap, cur, rfl, _, hh, hn, hm, _⟩⟩ := h
  · exact Or.inl ⟨none, 0, rfl, List.eq_nil_of_length_eq_zero h2⟩
  · by_cases hz : bs.length = 0
    · exact Or.inl ⟨some ⟨g, 0, none⟩, cap, by rw [hz], List.eq_nil_of_length_eq_zero hz⟩
    · refine Or.inr ⟨g, 0, cap, rfl, by omega, hn, hm, (Array.getElem?_eq_some_iff.1 hh).1, fun j hj => ?_⟩
      have := h0.cells (g := g) rfl j (.int .i64 (nthI bs j)) (by rw [ints, List.getElem?_map, nthI_getElem hj]; rfl)
      rwa [Addr.add_lit] at this

theorem itemCells_append (a b : List (Int × Int)) : itemCells (a ++ b) = itemCells a ++ itemCells b := by unfold itemCells; exact List.flatMap_append
/-- The first k elements, each with the epoch e. -/
def stampd (bs : List Int) (e : Int) (k : Nat) : List (Int × Int) := (bs.take k).map (fun b => (b, e))
theorem stamp_succ {bs : List Int} {k : Nat} (h : k < bs.length) (e : Int) : stampd bs e (k + 1) = stampd bs e k ++ [(nthI bs k, e)] := by
  unfold stampd
  rw [List.take_add_one, List.map_append, nthI_getElem h]
  rfl
theorem stampd_all (bs : List Int) (e : Int) : stampd bs e bs.length = bs.map (fun b => (b, e)) := by unfold stampd; rw [List.take_length]
theorem stampd_zero (bs : List Int) (e : Int) : stampd bs e 0 = [] := rfl

/-- What holds when k elements have been pushed. -/
def Pushed (w : World) (B : Nat) (c0 c1 v c3 : Value) (l : List (Int × Int)) (bs : List Int) (e : Int) (k : Nat) (wr : World) : Prop :=
  ∃ vk, wr.heap[B]? = some (.cells #[c0, c1, vk, c3] 60 (0, 0)) ∧ Seg wr 68 2 vk (l.length + k) (itemCells (l ++ stampd bs e k)) ∧ vk.ownBlock ≠ some B ∧
    Moves (fun j => j = B ∨ v.ownBlock = some j) (fun j => j = B ∨ vk.ownBlock = some j) w wr

theorem pushed_step {w : World} {B : Nat} {c0 c1 v c3 : Value} {l : List (Int × Int)} {bs : List Int} {e : Int} {k : Nat} {wr w1 : World} {vk v' : Value} {o : _root_.Go.Obj}
    (hk : k < bs.length) (hBlt : B < w.heap.size) (hB : wr.heap[B]? = some (.cells #[c0, c1, vk, c3] 60 (0, 0))) (hne : vk.ownBlock ≠ some B)
    (hM : Moves (fun j => j = B ∨ v.ownBlock = some j) (fun j => j = B ∨ vk.ownBlock = some j) w wr)
    (hseg : Seg w1 68 2 v' (l.length + k + 1) (itemCells (l ++ stampd bs e k) ++ [.int .i64 (nthI bs k), .int .i64 e]))
    (hg : (wr.alloc o).grownBy w1 vk.ownBlock) (hv : v'.ownBlock = vk.ownBlock ∨ ∃ g, v'.ownBlock = some g ∧ (wr.alloc o).heap.size ≤ g) :
    w1.heap[B]? = some (.cells #[c0, c1, vk, c3] 60 (0, 0)) ∧ Pushed w B c0 c1 v c3 l bs e (k + 1) (w1.setCell ⟨B, 2, none⟩ v') := by
  have hBwr : B < wr.heap.size := (Array.getElem?_eq_some_iff.1 hB).1
  have hB1 : w1.heap[B]? = some (.cells #[c0, c1, vk, c3] 60 (0, 0)) := by
    rw [hg.block B (by simp; omega) (fun h => hne h.symm), Below.heap_alloc _ _ _ hBwr]; exact hB
  have hv' : v'.ownBlock ≠ some B := by
    rcases hv with h | ⟨g, h, hg2⟩
    · rw [h]; exact hne
    · rw [h]; intro h2; have := Option.some.inj h2; simp at hg2; omega
  refine ⟨hB1, v', ?_, ?_, hv', ?_⟩
  · have := Joins.block_setCell hB1 (i := 2) v'
    simpa using this
  · rw [stamp_succ hk, ← List.append_assoc, itemCells_append]
    have : Seg w1 68 2 v' (l.length + (k + 1)) (itemCells (l ++ stampd bs e k) ++ itemCells [(nthI bs k, e)]) := hseg
    exact this.carry (fun j hj => Below.heap_setCell _ _ _ _ (fun h => hv' (by rw [hj, h])))
  · refine ⟨?_, ?_, ?_, ?_, ?_, ?_⟩
    · exact hg.os.trans hM.os
    · exact hg.tape.trans hM.tape
    · exact hg.output.trans hM.output
    · have h1 := hM.size
      have h2 := hg.size
      simp at h2 ⊢
      omega
    · intro j hj hF
      have hjr : j < wr.heap.size := Nat.lt_of_lt_of_le hj hM.size
      have hnk : vk.ownBlock ≠ some j := fun h => by
        rcases hM.sub j (Or.inr h) with h2 | h2
        · exact hF h2
        · omega
      rw [Below.heap_setCell _ _ _ _ (fun h => hF (Or.inl h)), hg.block j (by simp; omega) (fun h => hnk h.symm), Below.heap_alloc _ _ _ hjr]
      exact hM.block j hj hF
    · rintro j (rfl | hj)
      · exact Or.inl (Or.inl rfl)
      · rcases hv with h | ⟨g, h, hg2⟩
        · exact hM.sub j (Or.inr (h ▸ hj))
        · rw [h] at hj
          have := Option.some.inj hj
          have h1 := hM.size
          simp at hg2
          exact Or.inr (by omega)

set_option maxHeartbeats 1000000 in
set_option maxRecDepth 100000 in
theorem push_any (w : World) (B : Nat) (c0 c1 v c3 u : Value) (l : List (Int × Int)) (bs : List Int) (e : Int)
    (hB : w.heap[B]? = some (.cells #[c0, c1, v, c3] 60 (0, 0))) (hseg : Seg w 68 2 v l.length (itemCells l)) (hne : v.ownBlock ≠ some B)
    (hu : Rd w u bs) (hu1 : ∀ k, u.ownBlock = some k → bs ≠ [] → k ≠ B ∧ v.ownBlock ≠ some k) (hn : l.length + bs.length < 1000000000) :
    Calls Try.prog 32 #[.pointer (some ⟨B, 2, none⟩), .int .i64 e, u] w fun r w' => r = .returned (.tuple #[]) ∧ Pushed w B c0 c1 v c3 l bs e bs.length w' := by
  have hstart : Pushed w B c0 c1 v c3 l bs e 0 w := ⟨v, hB, by rw [stampd_zero, List.append_nil]; exact hseg, hne, Moves.refl _ _⟩
  have hBlt : B < w.heap.size := (Array.getElem?_eq_some_iff.1 hB).1
  obtain ⟨i0, hi0, hz0, hz1, hz2⟩ := info_parts Try.info68
  rcases hu with ⟨ao, cap, rfl, rfl⟩ | ⟨b, off, cap, rfl, hpos, _, _, hblt, hcells⟩
  · clear hB hseg
    go_enter Try.func32, Try.ntmps32
    go_wp2
    refine wp_loop_rounds 1 ?_
    rw [rounds_succ]
    go_wp2
    go_end0
    exact ⟨rfl, hstart⟩
  · obtain ⟨hbB, hbv⟩ := hu1 b rfl (fun e => by rw [e] at hpos; simp at hpos)
    have HC := Lib.hid hcells
    have HS := Lib.hid hstart
    clear hcells hu1 hB hseg hstart
    go_enter Try.func32, Try.ntmps32
    go_wp2
    go_loopw [10] (fun i wr => ∃ k : Nat, k ≤ bs.length ∧ i = .int .i64 k ∧ Pushed w B c0 c1 v c3 l bs e k wr) (fun i _ => bs.length - (intOf i).toNat)
    case atStart => exact ⟨0, Nat.zero_le _, rfl, HS.out⟩
    case round =>
      obtain ⟨k, hk, rfl, hP⟩ := hrel
      by_cases hlt : k < bs.length
      · obtain ⟨vk, hBk, hsegk, hnek, hMk⟩ := hP
        have q1 := (World.cell?_of_block (w := w) (a := ⟨b, off + k, none⟩) (hMk.block b hblt (fun h => by rcases h with h | h; exact hbB h; exact hbv h))).trans (HC.out k hlt)
        have q2 : wr.cell? ⟨B, 2, none⟩ = some vk := by simp [World.cell?, hBk]
        have hBwr : B < wr.heap.size := (Array.getElem?_eq_some_iff.1 hBk).1
        have hsegA : Seg (wr.alloc (.cells #[.int .i64 (nthI bs k), .int .i64 e] 68)) 68 2 vk (l.length + k) (itemCells (l ++ stampd bs e k)) :=
          hsegk.carry (fun j hj => Below.heap_alloc _ _ _ (hsegk.lt hj))
        have hstep := fun v' w1 => pushed_step (l := l) (e := e) (w1 := w1) (v' := v') (o := .cells #[.int .i64 (nthI bs k), .int .i64 e] 68) hlt hBlt hBk hnek hMk
        have HST := Lib.hid hstep
        clear hstep hsegk hMk hnek hBk
        go_wp2_with (at_builtin; refine wpList_append_seg _ rfl _ _ 56 rfl 68 i0 (.agg #[.int .i64 0, .int .i64 0]) 2 16 Try.underlying56 hi0 hz0 hz1 hz2 rfl (by decide) _ _ _ rfl hsegA ⟨wr.heap.size, 0, none⟩ 1 1 [.int .i64 (nthI bs k), .int .i64 e] rfl rfl ?c1 ?c2 ?c3 ?c4 ?_)
        case c1 => exact World.news_of_block (cs := #[.int .i64 (nthI bs k), .int .i64 e]) (t := 68) (fr := (0, 0)) (new_at rfl)
        case c2 => simp [Value.oneCell']
        case c3 => unfold maxLen; omega
        case c4 => omega
        intro v' w1 hseg1 hg1 hv1
        obtain ⟨hB1, hP1⟩ := HST.out v' w1 hseg1 hg1 (by simpa using hv1)
        obtain ⟨g', off', cap', rfl⟩ : ∃ g' off' cap', v' = .slice (some ⟨g', off', none⟩) (l.length + k + 1) cap' := by
          obtain ⟨_, ⟨_, h0⟩ | ⟨g', off', cap', _, h, _⟩⟩ := hseg1
          · omega
          · exact ⟨g', off', cap', h⟩
        have q3 : w1.cell? ⟨B, 2, none⟩ = some vk := by simp [World.cell?, hB1]
        have q4 : w1.frozen? ⟨B, 2, none⟩ = false := Joins.unfrozen_of_block hB1 2
        have HP1 := Lib.hid hP1
        clear hP1 hseg1 hg1 hv1 hsegA hB1
        go_wp2
        go_roundw
        case rel => exact ⟨k + 1, by omega, by go_num, HP1.out⟩
        case measure => simp [intOf]; omega
      · obtain rfl : k = bs.length := by omega
        have HP := Lib.hid hP
        clear hP
        go_wp2
        go_end0
        exact ⟨rfl, HP.out⟩

end Go.Proofs.Ytphmfmfbneoljaa.Ep
