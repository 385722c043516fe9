/- Contract of Waiting of package epoch: a new slice with the waiting blocks; nothing that was there changes. -/
import Derived.Test.YtphmfmfbneoljaaWalkB
import Derived.Deep.AppendLies
namespace Go.Proofs.Ytphmfmfbneoljaa.Ep
open Go Go.RowKit Go.Maps

theorem Try.info3 : (Try.prog.info? 3).map (fun i => (i.zero, i.size, i.bytes)) = some (some (.int .i64 0), 1, 8) := by kernel_rfl
/-- A list of ints as cells. -/
def ints (l : List Int) : List Value := l.map (Value.int .i64)
/-- A pair of a list of pairs, with a default. -/
def nth (l : List (Int × Int)) (j : Nat) : Int × Int := l.getD j (0, 0)
theorem nth_getElem {l : List (Int × Int)} {j : Nat} (h : j < l.length) : l[j]? = some (nth l j) := by
  unfold nth; rw [List.getD_eq_getElem?_getD]; simp [h]
theorem itemCells_at {l : List (Int × Int)} {j : Nat} (h : j < l.length) : (itemCells l)[2 * j]? = some (.int .i64 (nth l j).1) ∧ (itemCells l)[2 * j + 1]? = some (.int .i64 (nth l j).2) := by
  induction l generalizing j with
  | nil => simp at h
  | cons y r ih =>
    cases j with
    | zero => simp [itemCells, nth]
    | succ j =>
      have := ih (j := j) (by simpa using h)
      have e1 : 2 * (j + 1) = (2 * j) + 2 := by omega
      have e2 : 2 * (j + 1) + 1 = (2 * j + 1) + 2 := by omega
      rw [e2, e1]
      unfold itemCells at *
      simp only [List.flatMap_cons, List.cons_append, List.nil_append, List.getElem?_cons_succ]
      simpa [nth] using this
theorem itemCells_length (l : List (Int × Int)) : (itemCells l).length = l.length * 2 := by
  induction l with
  | nil => rfl
  | cons y r ih => unfold itemCells at *; simp only [List.flatMap_cons, List.length_append, ih, List.length_cons, List.length_nil]; omega
/-- The pairs that such a slice holds, as a walk spells their addresses. -/
theorem Seg.pair {w : World} {e : TypeId} {v : Value} {n : Nat} {l : List (Int × Int)} (h : Seg w e 2 v n (itemCells l)) {g off cap m : Nat} (hv : v = .slice (some ⟨g, off, none⟩) m cap) :
    ∀ j, j < l.length → w.cell? ⟨g, off + j * 2, none⟩ = some (.int .i64 (nth l j).1) ∧ w.cell? ⟨g, off + j * 2 + 1, none⟩ = some (.int .i64 (nth l j).2) := by
  intro j hj
  have q1 := h.cell hv (itemCells_at hj).1
  have q2 := h.cell hv (itemCells_at hj).2
  rw [show off + j * 2 = off + 2 * j by omega, show off + 2 * j + 1 = off + (2 * j + 1) by omega]
  exact ⟨q1, q2⟩
theorem names_take_succ {l : List (Int × Int)} {k : Nat} (h : k < l.length) : names (l.take (k + 1)) = names (l.take k) ++ [(nth l k).1] := by
  have e := nth_getElem h
  unfold names
  rw [List.take_add_one, e]
  simp
theorem names_take_length {l : List (Int × Int)} {k : Nat} (h : k ≤ l.length) : (names (l.take k)).length = k := by
  unfold names; simp; omega

theorem new_at {w : World} {o : _root_.Go.Obj} {b : Nat} (h : b = w.heap.size) : (w.alloc o).heap[b]? = some o := by rw [h]; exact heap_alloc_new _ _

set_option maxHeartbeats 1000000 in
set_option maxRecDepth 100000 in
theorem waiting_any (w : World) (B : Nat) (s : St) (F : Nat → Prop) (c : Nat) (h : Obj w B s F c) (hc : c < 1000000000) :
    Calls Try.prog 19 #[.pointer (some ⟨B, 0, none⟩)] w fun e w' => ∃ v, e = .returned v ∧ w'.ownsRow w.heap.size 3 1 v s.wt.length (ints (names s.wt)) ∧ Below w.heap.size w w' := by
  obtain ⟨m1, m2, v, n1, n2, D2, hB, hm1, hm2, hD, hs, hd, c1, c2, c3, c4, hi, rfl⟩ := h
  obtain ⟨k0, k1, k2, k3⟩ := Obj.cells (F := fun _ => True) (c := 0) hB
  obtain ⟨i0, hi0, hz0, hz1, hz2⟩ := info_parts Try.info3
  clear hD hB hm1 hm2 k0 k1 k3
  have hseg := hs
  obtain ⟨hl, ⟨rfl, h0⟩ | ⟨g, off, cap, cur, rfl, hh, hn, hcm, hsz, hx⟩⟩ := hs
  · have hwt : s.wt = [] := List.length_eq_zero_iff.1 h0
    rw [hwt]
    go_enter Try.func19, Try.ntmps19
    go_wp2
    refine wp_loop_rounds 1 ?_
    rw [rounds_succ]
    go_wp2
    go_ret
    exact ⟨_, rfl, World.ownsRow_nil _ _ _ _, Below.refl _ _⟩
  · have hg : g < w.heap.size := hseg.lt rfl
    have hcells := hseg.pair rfl
    have HC := Lib.hid hcells
    clear hcells hseg hx hl hh hsz
    go_enter Try.func19, Try.ntmps19
    go_wp2
    go_loopw [3, 12] (fun u i wr => ∃ k : Nat, k ≤ s.wt.length ∧ i = .int .i64 k ∧ wr.ownsRow w.heap.size 3 1 u k (ints (names (s.wt.take k))) ∧ Below w.heap.size w wr) (fun _ i _ => s.wt.length - (intOf i).toNat)
    case atStart => exact ⟨0, Nat.zero_le _, rfl, by simpa [names, ints] using World.ownsRow_nil _ _ _ _, Below.refl _ _⟩
    case round =>
      obtain ⟨k, hk, rfl, hown, hnx⟩ := hrel
      by_cases hlt : k < s.wt.length
      · obtain ⟨q1, q2⟩ := HC.out k hlt
        have d1 := (hnx.cell (p := ⟨g, off + k * 2, none⟩) hg).trans q1
        have d2 := (hnx.cell (p := ⟨g, off + k * 2 + 1, none⟩) hg).trans q2
        clear q1 q2
        have hsz := hnx.size
        go_wp2_with (at_builtin; refine wpList_append_own _ rfl _ _ 29 rfl w.heap.size 3 i0 (.int .i64 0) 1 8 Try.underlying29 hi0 hz0 hz1 hz2 rfl (by decide) _ k _ rfl ((hown.alloc _).alloc _) ⟨wr.heap.size + 1, 0, none⟩ 1 1 [.int .i64 (nth s.wt k).1] rfl rfl ?c1 ?c2 ?c3 ?c4 ?c5 ?_)
        case c1 => exact World.news_of_block (cs := #[.int .i64 (nth s.wt k).1]) (t := 3) (fr := (0, 0)) (new_at (by simp))
        case c2 => simp [Value.oneCell']
        case c3 => unfold maxLen; omega
        case c4 => omega
        case c5 => simp; omega
        intro v' w1 hown' hgrow _
        have hown1 : w1.ownsRow w.heap.size 3 1 v' (k + 1) (ints (names (s.wt.take (k + 1)))) := by
          rw [names_take_succ hlt]; simpa [ints] using hown'
        have hb1 : Below w.heap.size w w1 := ((hnx.alloc hnx.size _).alloc (by simp; omega) _).grown hgrow (by simp; omega) (fun j hj => (hown.lt j hj).1)
        clear hown' hgrow hown
        go_wp2
        go_roundw
        case rel => exact ⟨k + 1, by omega, by go_num, hown1, hb1⟩
        case measure => simp [intOf]; omega
      · go_wp2
        go_ret
        obtain rfl : k = s.wt.length := by omega
        exact ⟨_, rfl, by simpa using hown, hnx⟩

end Go.Proofs.Ytphmfmfbneoljaa.Ep
