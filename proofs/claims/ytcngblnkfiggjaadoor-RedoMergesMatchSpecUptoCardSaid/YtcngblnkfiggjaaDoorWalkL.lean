/- The library's iterator over a slice of entries, from the last to the first: contracts of slices.Backward and of its closure. -/
import Derived.Test.YtcngblnkfiggjaaDoorWalkK
import Derived.RangeFuncNested
import Derived.RangeFuncBound
import Derived.RangeFuncCalls
import Derived.RangeFuncLeaves
import Derived.Shelf.Abstract
import Derived.OwnWalkIn
import Derived.TacticsInMore
import Derived.LoopNIn
import Derived.LoopIn
namespace Go.Proofs.YtcngblnkfiggjaaDoor.Rm
open Go Go.RowKit Go.Maps Go.Shelf
attribute [local go_sem] Oper.semAt_some

/-- What has come when k rounds are over. -/
def upto {α : Type} (f : Nat → α) (k : Nat) : List α := (List.range k).map f
theorem upto_succ {α : Type} (f : Nat → α) (k : Nat) : upto f (k + 1) = upto f k ++ [f k] := by simp [upto, List.range_succ]
theorem upto_length {α : Type} (f : Nat → α) (k : Nat) : (upto f k).length = k := by simp [upto]
/-- The k-th from the end: its index, and the entry. -/
def downE (es : List (Int × Int)) (k : Nat) : Nat × (Int × Int) := (es.length - 1 - k, nth es (es.length - 1 - k))

set_option maxRecDepth 100000 in
set_option maxHeartbeats 2000000 in
theorem back1_in (F : Fence) (n : Nat) (h99 : F.fn 99) (hro : F.round = none) (hn : 1 ≤ n) (l Bs n₀ b off cap : Nat) (es : List (Int × Int)) (hlen : es.length < 1000000) (hcap : es.length ≤ cap ∧ cap ≤ 9223372036854775807) (hpos : 0 < es.length) (hb : b < n₀) (hBs0 : Bs < n₀) (J Jx : List (Nat × (Int × Int)) → World → Prop)
    (hY : ∀ pre x W, J pre W → pre.length < es.length → YieldAt F (n - 1) Tryd.prog l #[.int .i64 (x.1 : Int), .agg #[.int .i64 x.2.1, .int .i64 x.2.2]] W fun e W' =>
      (e = .returned (.bool true) ∧ J (pre ++ [x]) W' ∧ Below n₀ W W') ∨ (e = .returned (.bool false) ∧ Jx (pre ++ [x]) W'))
    (W : World) (hBs : W.cell? ⟨Bs, 0, none⟩ = some (.slice (some ⟨b, off, none⟩) es.length cap)) (hc : ∀ j, j < es.length → W.cell? ⟨b, off + j * 2, none⟩ = some (.int .i64 (nth es j).1) ∧ W.cell? ⟨b, off + j * 2 + 1, none⟩ = some (.int .i64 (nth es j).2)) (h0 : J [] W) :
    CallsIn F n Tryd.prog 99 #[.func (.yield l) #[] #[], .pointer (some ⟨Bs, 0, none⟩)] W fun e W' => (∃ v, e = .returned v) ∧
      ((∃ ys, ys = upto (downE es) es.length ∧ J ys W') ∨ (∃ pre, (∃ k, k ≤ es.length ∧ pre = upto (downE es) k) ∧ Jx pre W')) := by
  have HC := Lib.hid hc
  have HBS := Lib.hid hBs
  have hst : Hid ((W.cell? ⟨Bs, 0, none⟩ = some (.slice (some ⟨b, off, none⟩) es.length cap))) := hBs
  clear hc
  obtain ⟨hcap1, hcap2⟩ := hcap
  refine callsIn_of_wp Tryd.func99 rfl h99 ?_ hro
  simp only [Tryd.ntmps99, List.size_toArray, List.length_cons, List.length_nil, Nat.reduceAdd, Nat.reduceSub, Array.replicate_succ, Array.replicate_zero, List.push_toArray, List.append_toArray, List.nil_append, List.cons_append]
  gi_wp2
  gi_loopw [3] (fun i wr => ∃ k : Nat, k ≤ es.length ∧ i = .int .i64 ((es.length : Int) - 1 - k) ∧ J (upto (downE es) k) wr ∧ Below n₀ W wr)
    (fun i _ => (RowKit.intOf i + 1).toNat)
  case atStart => exact ⟨0, Nat.zero_le _, by simp, h0, Below.refl _ _⟩
  case round =>
    obtain ⟨k, hk, rfl, hJs, hnx⟩ := hrel
    by_cases hlt : k < es.length
    · obtain ⟨m, hm⟩ : ∃ m, es.length = m + k + 1 := ⟨es.length - k - 1, by omega⟩
      have hme : es.length - 1 - k = m := by omega
      have hi : (es.length : Int) - 1 - k = (m : Int) := by omega
      obtain ⟨fn, tmps, assign, body, hy, hR⟩ := hY _ (downE es k) wr hJs (by rw [upto_length]; exact hlt)
      unfold downE at hy
      rw [hme] at hy
      dsimp only at hy
      obtain ⟨q1, q2⟩ := HC.out m (by omega)
      have d0 := (hnx.cell (p := ⟨Bs, 0, none⟩) hBs0).trans HBS.out
      have d1 := (hnx.cell (p := ⟨b, off + m * 2, none⟩) hb).trans q1
      have d2 := (hnx.cell (p := ⟨b, off + m * 2 + 1, none⟩) hb).trans q2
      have hml : (m : Int) < es.length := by omega
      rw [hi]
      have HHI := Lib.hid hi
      have HM := Lib.hid hm
      clear hi q1 q2 hm hme
      gi_wp2
      refine hR.mono ?_
      rintro e W3 (⟨rfl, hJ3, hk3⟩ | ⟨rfl, hJx3⟩)
      · gi_wp2
        go_roundw
        case rel => exact ⟨k + 1, by omega, by congr 1; have := HHI.out; omega, by rw [upto_succ]; exact hJ3, hnx.trans hk3⟩
        case measure => first | (simp [RowKit.intOf]; done) | (simp [RowKit.intOf]; omega)
      · gi_wp2
        refine bodyPost_ret (results_none rfl _ _ _) rfl ?_
        exact ⟨⟨_, rfl⟩, .inr ⟨_, ⟨k + 1, by omega, (upto_succ _ _).symm⟩, hJx3⟩⟩
    · obtain rfl : k = es.length := by omega
      rw [show (es.length : Int) - 1 - es.length = -1 by omega]
      gi_wp2
      go_end0
      exact ⟨⟨_, rfl⟩, .inl ⟨_, rfl, hJs⟩⟩

set_option maxHeartbeats 1000000 in
theorem back_in (F : Fence) (n : Nat) (h80 : F.fn 80) (hro : F.round = none) (a : Option Addr) (len cap : Nat) (w : World) :
    CallsIn F n Tryd.prog 80 #[.slice a len cap] w fun e w' => e = .returned (.func (.func 99) #[] #[.pointer (some ⟨w.heap.size, 0, none⟩)]) ∧ w' = w.alloc (.cells #[.slice a len cap] 51) := by
  refine callsIn_of_wp Tryd.func80 rfl h80 ?_ hro
  simp only [Tryd.ntmps80, List.size_toArray, List.length_cons, List.length_nil, Nat.reduceAdd, Nat.reduceSub, Array.replicate_succ, Array.replicate_zero, List.push_toArray, List.append_toArray, List.nil_append, List.cons_append]
  gi_wp2
  go_ret
  exact ⟨rfl, rfl⟩

theorem back_stops (F : Fence) (n : Nat) (h99 : F.fn 99) (hro : F.round = none) (hn : 1 ≤ n) (Bs n₀ b off cap : Nat) (es : List (Int × Int)) (hlen : es.length < 1000000) (hcap : es.length ≤ cap ∧ cap ≤ 9223372036854775807) (hpos : 0 < es.length) (hb : b < n₀) (hBs0 : Bs < n₀) (w : World) (hBs : Bs < w.heap.size) (hn₀ : n₀ ≤ w.heap.size)
    (hc : w.cell? ⟨Bs, 0, none⟩ = some (.slice (some ⟨b, off, none⟩) es.length cap)) (hI : ∀ j, j < es.length → w.cell? ⟨b, off + j * 2, none⟩ = some (.int .i64 (nth es j).1) ∧ w.cell? ⟨b, off + j * 2 + 1, none⟩ = some (.int .i64 (nth es j).2)) :
    SeqStopsK F n Tryd.prog 99 #[.pointer (some ⟨Bs, 0, none⟩)] (fun x : Nat × (Int × Int) => #[Value.int .i64 (x.1 : Int), Value.agg #[.int .i64 x.2.1, .int .i64 x.2.2]]) (Below n₀) (fun ys => ys = upto (downE es) es.length)
      (fun pre => ∃ k, k ≤ es.length ∧ pre = upto (downE es) k) es.length w := fun l J Jx W hW _ _ hY h0 => by
  have hc' := (hW.cell (p := ⟨Bs, 0, none⟩) hBs).trans hc
  have hbw : b < w.heap.size := Nat.lt_of_lt_of_le hb hn₀
  exact back1_in F n h99 hro hn l Bs n₀ b off cap es hlen hcap hpos hb hBs0 J Jx hY W hc' (fun j hj => ⟨(hW.cell hbw).trans (hI j hj).1, (hW.cell hbw).trans (hI j hj).2⟩) h0

end Go.Proofs.YtcngblnkfiggjaaDoor.Rm
