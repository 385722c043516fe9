/- For Trim of package chain: the library's iterator over a slice of cells, from the last to the first. -/
import Derived.Test.YtcngblnkfiggjaaDoorChX
namespace Go.Proofs.YtcngblnkfiggjaaDoor.Rm
open Go Go.RowKit Go.Maps Go.Shelf
attribute [local go_sem] Oper.semAt_some

def nthS (xs : List Stp) (j : Nat) : Stp := xs.getD j ⟨0, Cl.zero, .slice none 0 0⟩
theorem nthS_at {xs : List Stp} {j : Nat} (h : j < xs.length) : xs[j]? = some (nthS xs j) := by
  unfold nthS
  rw [List.getD_eq_getElem?_getD, List.getElem?_eq_getElem h]
  rfl
theorem rowC_at {xs : List Stp} {j : Nat} (h : j < xs.length) (i : Nat) (hi : i < 6) : (rowC xs)[j * 6 + i]? = (rowC [nthS xs j])[i]? := by
  have hx := nthS_at h
  have e : xs = xs.take j ++ ([nthS xs j] ++ xs.drop (j + 1)) := by
    rw [List.singleton_append]
    have : nthS xs j = xs[j] := by rw [List.getElem?_eq_getElem h] at hx; exact (Option.some.inj hx).symm
    rw [this, ← List.drop_eq_getElem_cons h, List.take_append_drop]
  have hl : (rowC (xs.take j)).length = j * 6 := by rw [rowC_length, List.length_take, Nat.min_eq_left (by omega)]
  have h1 : (rowC [nthS xs j]).length = 6 := rfl
  rw [e, rowC_append, rowC_append, List.getElem?_append_right (by rw [hl]; omega), hl, List.getElem?_append_left (by rw [h1]; omega), ← e]
  congr 1; omega
/-- What a row of cells holds. -/
theorem row_cells {w : World} {base g cap : Nat} {xs : List Stp} (h : w.ownsRow base 24 6 (.slice (some ⟨g, 0, none⟩) xs.length cap) xs.length (rowC xs)) {j : Nat} (hj : j < xs.length) :
    w.cell? ⟨g, j * 6, none⟩ = some (.int .i64 (nthS xs j).cl.t) ∧ w.cell? ⟨g, j * 6 + 1, none⟩ = some (.int .i64 (nthS xs j).cl.r) ∧ w.cell? ⟨g, j * 6 + 2, none⟩ = some (.int .i64 (nthS xs j).cl.s) ∧ w.cell? ⟨g, j * 6 + 3, none⟩ = some (.bool (nthS xs j).cl.d) ∧ w.cell? ⟨g, j * 6 + 4, none⟩ = some (.int .i64 (nthS xs j).cl.p) ∧ w.cell? ⟨g, j * 6 + 5, none⟩ = some (nthS xs j).v := by
  have hc : ∀ i, i < 6 → w.cell? ⟨g, j * 6 + i, none⟩ = (rowC [nthS xs j])[i]? := fun i hi => by
    rw [h.cellAt (j * 6 + i) (by omega), rowC_at hj i hi]
  exact ⟨hc 0 (by omega), hc 1 (by omega), hc 2 (by omega), hc 3 (by omega), hc 4 (by omega), hc 5 (by omega)⟩
theorem row_cap {w : World} {base g n cap : Nat} {e : TypeId} {sz : Nat} {l : List Value} (h : w.ownsRow base e sz (.slice (some ⟨g, 0, none⟩) n cap) n l) : n ≤ cap ∧ cap ≤ 9223372036854775807 := by
  obtain ⟨_, ⟨h2, _⟩ | ⟨g', cap', cur, h2, hb, hh, hn, hm, _⟩⟩ := h
  · cases h2
  · cases h2
    unfold maxLen at hm
    exact ⟨hn, by omega⟩
/-- The k-th from the end: its index, and the step. -/
def downC (xs : List Stp) (k : Nat) : Nat × Stp := (xs.length - 1 - k, nthS xs (xs.length - 1 - k))
def uptoC (xs : List Stp) (k : Nat) : List (Nat × Stp) := (List.range k).map (downC xs)
theorem uptoC_succ (xs : List Stp) (k : Nat) : uptoC xs (k + 1) = uptoC xs k ++ [downC xs k] := by simp [uptoC, List.range_succ]
theorem uptoC_length (xs : List Stp) (k : Nat) : (uptoC xs k).length = k := by simp [uptoC]
def encB (x : Nat × Stp) : Array Value := #[.int .i64 (x.1 : Int), clV x.2.cl x.2.v]

set_option maxHeartbeats 1000000 in
theorem backC_any (n : Nat) (w : World) (a : Option Addr) (len cap : Nat) :
    CallsIn Fence.wide n Tryd.prog 70 #[.slice a len cap] w fun e w' => e = .returned (.func (.func 97) #[] #[.pointer (some ⟨w.heap.size, 0, none⟩)]) ∧ w' = w.alloc (.cells #[.slice a len cap] 42) := by
  refine callsIn_of_wp Tryd.func70 rfl trivial ?_ rfl
  simp only [Tryd.ntmps70, List.size_toArray, List.length_cons, List.length_nil, Nat.reduceAdd, Nat.reduceSub, Array.replicate_succ, Array.replicate_zero, List.push_toArray, List.append_toArray, List.nil_append, List.cons_append]
  gi_wp2
  go_ret
  exact ⟨rfl, rfl⟩

set_option maxRecDepth 100000 in
set_option maxHeartbeats 2000000 in
theorem backC_c (n : Nat) (hn : 1 ≤ n) (Bs g cap base : Nat) (xs : List Stp) (hlen : xs.length < 1000000) (hpos : 0 < xs.length) (W : World) (hBs : Boxed W Bs 42 (.slice (some ⟨g, 0, none⟩) xs.length cap)) (hrow : W.ownsRow base 24 6 (.slice (some ⟨g, 0, none⟩) xs.length cap) xs.length (rowC xs)) :
    SeqC n 97 #[.pointer (some ⟨Bs, 0, none⟩)] encB (fun A B => A = B) (fun pre x A0 A => x = downC xs pre.length ∧ A0 = A) (fun _ A B => B.heap[Bs]? = A.heap[Bs]? ∧ B.heap[g]? = A.heap[g]?) (fun ys => ys = uptoC xs xs.length) (fun pre => ∃ k, k ≤ xs.length ∧ pre = uptoC xs k) xs.length W := by
  intro l J Jx _ hY h0
  obtain ⟨hcap1, hcap2⟩ := row_cap hrow
  have HC := Lib.hid (fun (wr : World) (he : wr.heap[g]? = W.heap[g]?) (j : Nat) (hj : j < xs.length) => row_cells (row_carry (w' := wr) hrow (fun k hk => by cases hk; exact he)) hj)
  have HY := Lib.hid hY
  have HBS := Lib.hid hBs
  have hst := hBs.cell
  clear hY hrow hBs
  refine callsIn_of_wp Tryd.func97 rfl trivial ?_ rfl
  simp only [Tryd.ntmps97, List.size_toArray, List.length_cons, List.length_nil, Nat.reduceAdd, Nat.reduceSub, Array.replicate_succ, Array.replicate_zero, List.push_toArray, List.append_toArray, List.nil_append, List.cons_append]
  gi_wp2
  gi_loopw [3] (fun i wr => ∃ k : Nat, k ≤ xs.length ∧ i = .int .i64 ((xs.length : Int) - 1 - k) ∧ Hid (J (uptoC xs k) wr ∧ wr.heap[Bs]? = W.heap[Bs]? ∧ wr.heap[g]? = W.heap[g]?))
    (fun i _ => (RowKit.intOf i + 1).toNat)
  case atStart => exact ⟨0, Nat.zero_le _, by simp, h0, rfl, rfl⟩
  case round =>
    obtain ⟨k, hk, rfl, hP⟩ := hrel
    by_cases hlt : k < xs.length
    · obtain ⟨m, hm⟩ : ∃ m, xs.length = m + k + 1 := ⟨xs.length - k - 1, by omega⟩
      have hme : xs.length - 1 - k = m := by omega
      have hi : (xs.length : Int) - 1 - k = (m : Int) := by omega
      have hyd := HY.out _ (downC xs k) wr wr hP.out.1 rfl ⟨by rw [uptoC_length], rfl⟩ (by rw [uptoC_length]; exact hlt)
      unfold encB downC clV at hyd
      rw [hme] at hyd
      obtain ⟨fn, tmps, assign, body, hy, hR⟩ := hyd
      dsimp only at hy
      obtain ⟨q0, q1, q2, q3, q4, q5⟩ := HC.out wr hP.out.2.2 m (by omega)
      have d0 : wr.cell? ⟨Bs, 0, none⟩ = some (.slice (some ⟨g, 0, none⟩) xs.length cap) := (World.cell?_of_block hP.out.2.1).trans hst
      have hml : (m : Int) < xs.length := by omega
      rw [hi]
      have HHI := Lib.hid hi
      have HM := Lib.hid hm
      have HPP := Lib.hid hP.out
      have HME := Lib.hid hme
      clear hi hm hme hP
      gi_wp2
      refine hR.mono ?_
      rintro e W3 (⟨rfl, hJ3, hk3⟩ | ⟨rfl, hJx3⟩)
      · have HN := Lib.hid (show J (uptoC xs (k + 1)) W3 ∧ W3.heap[Bs]? = W.heap[Bs]? ∧ W3.heap[g]? = W.heap[g]? from by
          refine ⟨?_, hk3.1.trans HPP.out.2.1, hk3.2.trans HPP.out.2.2⟩
          rw [uptoC_succ]
          unfold downC
          rw [HME.out]
          exact hJ3)
        clear hJ3 hk3
        gi_wp2
        go_roundw
        case rel => exact ⟨k + 1, by omega, by congr 1; have := HHI.out; omega, HN.out⟩
        case measure => first | (simp [RowKit.intOf]; done) | (simp [RowKit.intOf]; omega)
      · have HN := Lib.hid (show Jx (uptoC xs (k + 1)) W3 from by
          rw [uptoC_succ]
          unfold downC
          rw [HME.out]
          exact hJx3)
        clear hJx3
        gi_wp2
        refine bodyPost_ret (results_none rfl _ _ _) rfl ?_
        exact ⟨⟨_, rfl⟩, .inr ⟨_, ⟨k + 1, by omega, rfl⟩, HN.out⟩⟩
    · obtain rfl : k = xs.length := by omega
      rw [show (xs.length : Int) - 1 - xs.length = -1 by omega]
      gi_wp2
      go_end0
      exact ⟨⟨_, rfl⟩, .inl ⟨_, rfl, hP.out.1⟩⟩

end Go.Proofs.YtcngblnkfiggjaaDoor.Rm
