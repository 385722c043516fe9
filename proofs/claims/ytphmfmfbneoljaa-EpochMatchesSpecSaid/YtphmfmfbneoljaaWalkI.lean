/- Contract of cut of the queue in package epoch: it takes off the elements of epochs before one, and returns them. -/
import Derived.Test.YtphmfmfbneoljaaWalkH
namespace Go.Proofs.Ytphmfmfbneoljaa.Ep
open Go Go.RowKit Go.Maps

/-- What cut leaves. -/
def Cut (w : World) (B : Nat) (c0 c1 v c3 : Value) (l : List (Int × Int)) (m : Int) (r : Ending) (w' : World) : Prop :=
  ∃ ro v', r = .returned ro ∧ w'.ownsRow w.heap.size 3 1 ro (olds m l) (ints (names (l.take (olds m l)))) ∧ w'.heap[B]? = some (.cells #[c0, c1, v', c3] 60 (0, 0)) ∧
    Seg w' 68 2 v' (l.length - olds m l) (itemCells (l.drop (olds m l))) ∧ v'.ownBlock = v.ownBlock ∧ w.grownBy w' (some B)

theorem itemCells_drop (l : List (Int × Int)) (t : Nat) : itemCells (l.drop t) = (itemCells l).drop (t * 2) := by
  induction l generalizing t with
  | nil => simp [itemCells]
  | cons y r ih =>
    cases t with
    | zero => simp
    | succ t =>
      rw [List.drop_succ_cons, ih, show (t + 1) * 2 = t * 2 + 2 by omega]
      unfold itemCells
      simp only [List.flatMap_cons, List.cons_append, List.nil_append, List.drop_succ_cons]

/-- The slice behind the first t elements. -/
theorem Seg.tail {w : World} {g off cap n t : Nat} {l : List (Int × Int)} (h : Seg w 68 2 (.slice (some ⟨g, off, none⟩) n cap) n (itemCells l)) (hl : l.length = n) (ht : t ≤ n) (off' : Nat) (ho : off' = off + t * 2 ∨ (t = cap ∧ off' = off)) :
    Seg w 68 2 (.slice (some ⟨g, off', none⟩) (n - t) (cap - t)) (n - t) (itemCells (l.drop t)) := by
  obtain ⟨h1, ⟨h2, _⟩ | ⟨g', off2, cap2, cur, he, hh, hn, hm, hsz, hx⟩⟩ := h
  · cases h2
  · cases he
    refine ⟨by rw [itemCells_length, List.length_drop, hl], Or.inr ⟨g, off', cap - t, cur, rfl, hh, by omega, by omega, ?_, ?_⟩⟩
    · rcases ho with rfl | ⟨rfl, rfl⟩ <;> omega
    · rcases ho with rfl | ⟨rfl, rfl⟩
      · rw [itemCells_drop, ← hx, List.drop_take, List.drop_drop, Nat.sub_mul]
      · obtain rfl : n = t := by omega
        rw [← hl, List.drop_length]
        simp [itemCells]

set_option maxHeartbeats 1000000 in
set_option maxRecDepth 100000 in
theorem cut_some (w : World) (B : Nat) (c0 c1 c3 : Value) (l : List (Int × Int)) (m : Int) (g off cap : Nat)
    (hB : w.heap[B]? = some (.cells #[c0, c1, .slice (some ⟨g, off, none⟩) l.length cap, c3] 60 (0, 0))) (hseg : Seg w 68 2 (.slice (some ⟨g, off, none⟩) l.length cap) l.length (itemCells l)) (hne : g ≠ B) (hl : l.length < 1000000000) :
    Calls Try.prog 33 #[.pointer (some ⟨B, 2, none⟩), .int .i64 m] w (Cut w B c0 c1 (.slice (some ⟨g, off, none⟩) l.length cap) c3 l m) := by
  have hto := olds_le m l
  obtain ⟨i0, hi0, hz0, hz1, hz2⟩ := info_parts Try.info3
  have hg : g < w.heap.size := hseg.lt rfl
  have hBlt : B < w.heap.size := (Array.getElem?_eq_some_iff.1 hB).1
  have hcap : l.length ≤ cap ∧ cap ≤ 9223372036854775807 := by
    obtain ⟨_, ⟨h, _⟩ | ⟨_, _, _, _, h, _, h1, h2, _⟩⟩ := hseg
    · cases h
    · cases h; exact ⟨h1, h2⟩
  have k2 : w.cell? ⟨B, 2, none⟩ = some (.slice (some ⟨g, off, none⟩) l.length cap) := by simp [World.cell?, hB]
  have HC := Lib.hid (hseg.pair rfl)
  have HSEG := Lib.hid hseg
  have HB := Lib.hid hB
  clear hseg hB
  by_cases ht : olds m l < l.length
  · have hidx : idxS m l = olds m l := by unfold idxS; rw [if_pos ht]
    have hcall := indexf_any (w.alloc (.cells #[.int .i64 m] 3)) (.slice (some ⟨g, off, none⟩) l.length cap) l ⟨w.heap.size, 0, none⟩ m (HSEG.out.carry (fun j hj => Below.heap_alloc _ _ _ (HSEG.out.lt hj))) (by go_simp) (by simp) hl
    rw [hidx] at hcall
    have HCA := Lib.hid hcall
    clear hcall hidx
    generalize htt0 : olds m l = t at *
    have htt := Lib.hid htt0
    clear htt0
    have hcl : t < cap := by omega
    go_enter Try.func33, Try.ntmps33
    go_wp2_with fail
    refine HCA.out.mono ?_
    rintro e w1 ⟨rfl, hb1⟩
    have hold : ∀ j, j < w.heap.size → w1.heap[j]? = w.heap[j]? := fun j hj => (hb1.block j (by simp; omega)).trans (Below.heap_alloc _ _ _ hj)
    have hB1 : w1.heap[B]? = some (.cells #[c0, c1, .slice (some ⟨g, off, none⟩) l.length cap, c3] 60 (0, 0)) := (hold B hBlt).trans HB.out
    have k2' : w1.cell? ⟨B, 2, none⟩ = some (.slice (some ⟨g, off, none⟩) l.length cap) := by simp [World.cell?, hB1]
    have k3' : w1.frozen? ⟨B, 2, none⟩ = false := Joins.unfrozen_of_block hB1 2
    have hBW : (w1.setCell ⟨B, 2, none⟩ (.slice (some ⟨g, off + t * 2, none⟩) (l.length - t) (cap - t))).heap[B]? = some (.cells #[c0, c1, .slice (some ⟨g, off + t * 2, none⟩) (l.length - t) (cap - t), c3] 60 (0, 0)) := by simpa using Joins.block_setCell hB1 (i := 2) (.slice (some ⟨g, off + t * 2, none⟩) (l.length - t) (cap - t))
    have hgW : w.grownBy (w1.setCell ⟨B, 2, none⟩ (.slice (some ⟨g, off + t * 2, none⟩) (l.length - t) (cap - t))) (some B) := ⟨hb1.os, hb1.tape, hb1.output, by have := hb1.size; simp at this ⊢; omega, fun j hj hne => (Below.heap_setCell _ _ _ _ (fun e => hne (by rw [e]))).trans (hold j hj)⟩
    have hst : Seg w 68 2 (.slice (some ⟨g, off + t * 2, none⟩) (l.length - t) (cap - t)) (l.length - t) (itemCells (l.drop t)) := by
      have := HSEG.out.tail (t := t) rfl (by omega) (off + t * 2) (Or.inl rfl)
      simpa using this
    have HBW := Lib.hid hBW
    have HGW := Lib.hid hgW
    have HST := Lib.hid hst
    clear hold hB1 HCA hb1 hBW hgW hst
    go_wp2
    generalize w1.setCell ⟨B, 2, none⟩ (.slice (some ⟨g, off + t * 2, none⟩) (l.length - t) (cap - t)) = W0 at *
    have hszW := HGW.out.size
    go_loopw [7, 41] (fun u i wr => ∃ k : Nat, k ≤ t ∧ i = .int .i64 k ∧ wr.ownsRow W0.heap.size 3 1 u k (ints (names (l.take k))) ∧ Below W0.heap.size W0 wr) (fun _ i _ => t - (intOf i).toNat)
    case atStart => exact ⟨0, Nat.zero_le _, rfl, by simpa [names, ints] using World.ownsRow_nil _ _ _ _, Below.refl _ _⟩
    case round =>
      obtain ⟨k, hk, rfl, hown, hnx⟩ := hrel
      by_cases hlt : k < t
      · obtain ⟨q1, q2⟩ := HC.out k (by omega)
        have hgb : wr.heap[g]? = w.heap[g]? := (hnx.block g (by omega)).trans (HGW.out.block g hg (fun e => hne (Option.some.inj e)))
        have d1 := (World.cell?_of_block (w := w) (a := ⟨g, off + k * 2, none⟩) hgb).trans q1
        have d2 := (World.cell?_of_block (w := w) (a := ⟨g, off + k * 2 + 1, none⟩) hgb).trans q2
        have hsz := hnx.size
        clear q1 q2 hgb
        go_wp2_with (at_builtin; refine wpList_append_own _ rfl _ _ 29 rfl W0.heap.size 3 i0 (.int .i64 0) 1 8 Try.underlying29 hi0 hz0 hz1 hz2 rfl (by decide) _ k _ rfl ((hown.alloc _).alloc _) ⟨wr.heap.size + 1, 0, none⟩ 1 1 [.int .i64 (nth l k).1] rfl rfl ?c1 ?c2 ?c3 ?c4 ?c5 ?_)
        case c1 => exact World.news_of_block (cs := #[.int .i64 (nth l k).1]) (t := 3) (fr := (0, 0)) (new_at (by simp))
        case c2 => simp [Value.oneCell']
        case c3 => unfold maxLen; omega
        case c4 => omega
        case c5 => simp; omega
        intro v' w2 hown' hgrow _
        have hown1 : w2.ownsRow W0.heap.size 3 1 v' (k + 1) (ints (names (l.take (k + 1)))) := by
          rw [names_take_succ (by omega)]; simpa [ints] using hown'
        have hb2 : Below W0.heap.size W0 w2 := ((hnx.alloc hnx.size _).alloc (by simp; omega) _).grown hgrow (by simp; omega) (fun j hj => (hown.lt j hj).1)
        clear hown' hgrow hown
        go_wp2
        go_roundw
        case rel => exact ⟨k + 1, by omega, by go_num, hown1, hb2⟩
        case measure => simp [intOf]; omega
      · obtain rfl : k = t := by omega
        go_wp2
        go_ret
        refine ⟨_, _, rfl, ?_, (hnx.block B (by omega)).trans HBW.out, ?_, rfl, ?_⟩
        · rw [htt.out]; exact Joins.ownsRow_le hown hszW
        · rw [htt.out]; exact HST.out.carry (fun j hj => by cases hj; exact (hnx.block g (by omega)).trans (HGW.out.block g hg (fun e => hne (Option.some.inj e))))
        · exact ⟨hnx.os.trans HGW.out.os, hnx.tape.trans HGW.out.tape, hnx.output.trans HGW.out.output, Nat.le_trans hszW hnx.size, fun j hj hne' => (hnx.block j (by omega)).trans (HGW.out.block j hj hne')⟩
  · have hidx : idxS m l = -1 := by unfold idxS; rw [if_neg ht]
    have htt := Lib.hid (show olds m l = l.length by omega)
    clear ht hto
    by_cases hfull : l.length = cap
    · have hcall := indexf_any (w.alloc (.cells #[.int .i64 m] 3)) (.slice (some ⟨g, off, none⟩) l.length cap) l ⟨w.heap.size, 0, none⟩ m (HSEG.out.carry (fun j hj => Below.heap_alloc _ _ _ (HSEG.out.lt hj))) (by go_simp) (by simp) hl
      rw [hidx] at hcall
      have HCA := Lib.hid hcall
      clear hcall hidx
      subst hfull
      go_enter Try.func33, Try.ntmps33
      go_wp2_with fail
      refine HCA.out.mono ?_
      rintro e w1 ⟨rfl, hb1⟩
      have hold : ∀ j, j < w.heap.size → w1.heap[j]? = w.heap[j]? := fun j hj => (hb1.block j (by simp; omega)).trans (Below.heap_alloc _ _ _ hj)
      have hB1 : w1.heap[B]? = some (.cells #[c0, c1, .slice (some ⟨g, off, none⟩) l.length l.length, c3] 60 (0, 0)) := (hold B hBlt).trans HB.out
      have k2' : w1.cell? ⟨B, 2, none⟩ = some (.slice (some ⟨g, off, none⟩) l.length l.length) := by simp [World.cell?, hB1]
      have k3' : w1.frozen? ⟨B, 2, none⟩ = false := Joins.unfrozen_of_block hB1 2
      have hBW : (w1.setCell ⟨B, 2, none⟩ (.slice (some ⟨g, off, none⟩) 0 0)).heap[B]? = some (.cells #[c0, c1, .slice (some ⟨g, off, none⟩) 0 0, c3] 60 (0, 0)) := by simpa using Joins.block_setCell hB1 (i := 2) (.slice (some ⟨g, off, none⟩) 0 0)
      have hgW : w.grownBy (w1.setCell ⟨B, 2, none⟩ (.slice (some ⟨g, off, none⟩) 0 0)) (some B) := ⟨hb1.os, hb1.tape, hb1.output, by have := hb1.size; simp at this ⊢; omega, fun j hj hne => (Below.heap_setCell _ _ _ _ (fun e => hne (by rw [e]))).trans (hold j hj)⟩
      have hst : Seg w 68 2 (.slice (some ⟨g, off, none⟩) 0 0) (l.length - l.length) (itemCells (l.drop l.length)) := by
        have := HSEG.out.tail (t := l.length) rfl (by omega) (off) (Or.inr ⟨rfl, rfl⟩)
        simpa using this
      have HBW := Lib.hid hBW
      have HGW := Lib.hid hgW
      have HST := Lib.hid hst
      clear hold hB1 HCA hb1 hBW hgW hst
      go_wp2
      generalize w1.setCell ⟨B, 2, none⟩ (.slice (some ⟨g, off, none⟩) 0 0) = W0 at *
      have hszW := HGW.out.size
      go_loopw [7, 41] (fun u i wr => ∃ k : Nat, k ≤ l.length ∧ i = .int .i64 k ∧ wr.ownsRow W0.heap.size 3 1 u k (ints (names (l.take k))) ∧ Below W0.heap.size W0 wr) (fun _ i _ => l.length - (intOf i).toNat)
      case atStart => exact ⟨0, Nat.zero_le _, rfl, by simpa [names, ints] using World.ownsRow_nil _ _ _ _, Below.refl _ _⟩
      case round =>
        obtain ⟨k, hk, rfl, hown, hnx⟩ := hrel
        by_cases hlt : k < l.length
        · obtain ⟨q1, q2⟩ := HC.out k (by omega)
          have hgb : wr.heap[g]? = w.heap[g]? := (hnx.block g (by omega)).trans (HGW.out.block g hg (fun e => hne (Option.some.inj e)))
          have d1 := (World.cell?_of_block (w := w) (a := ⟨g, off + k * 2, none⟩) hgb).trans q1
          have d2 := (World.cell?_of_block (w := w) (a := ⟨g, off + k * 2 + 1, none⟩) hgb).trans q2
          have hsz := hnx.size
          clear q1 q2 hgb
          go_wp2_with (at_builtin; refine wpList_append_own _ rfl _ _ 29 rfl W0.heap.size 3 i0 (.int .i64 0) 1 8 Try.underlying29 hi0 hz0 hz1 hz2 rfl (by decide) _ k _ rfl ((hown.alloc _).alloc _) ⟨wr.heap.size + 1, 0, none⟩ 1 1 [.int .i64 (nth l k).1] rfl rfl ?c1 ?c2 ?c3 ?c4 ?c5 ?_)
          case c1 => exact World.news_of_block (cs := #[.int .i64 (nth l k).1]) (t := 3) (fr := (0, 0)) (new_at (by simp))
          case c2 => simp [Value.oneCell']
          case c3 => unfold maxLen; omega
          case c4 => omega
          case c5 => simp; omega
          intro v' w2 hown' hgrow _
          have hown1 : w2.ownsRow W0.heap.size 3 1 v' (k + 1) (ints (names (l.take (k + 1)))) := by
            rw [names_take_succ (by omega)]; simpa [ints] using hown'
          have hb2 : Below W0.heap.size W0 w2 := ((hnx.alloc hnx.size _).alloc (by simp; omega) _).grown hgrow (by simp; omega) (fun j hj => (hown.lt j hj).1)
          clear hown' hgrow hown
          go_wp2
          go_roundw
          case rel => exact ⟨k + 1, by omega, by go_num, hown1, hb2⟩
          case measure => simp [intOf]; omega
        · obtain rfl : k = l.length := by omega
          go_wp2
          go_ret
          refine ⟨_, _, rfl, ?_, (hnx.block B (by omega)).trans HBW.out, ?_, rfl, ?_⟩
          · rw [htt.out]; exact Joins.ownsRow_le hown hszW
          · rw [htt.out]; exact HST.out.carry (fun j hj => by cases hj; exact (hnx.block g (by omega)).trans (HGW.out.block g hg (fun e => hne (Option.some.inj e))))
          · exact ⟨hnx.os.trans HGW.out.os, hnx.tape.trans HGW.out.tape, hnx.output.trans HGW.out.output, Nat.le_trans hszW hnx.size, fun j hj hne' => (hnx.block j (by omega)).trans (HGW.out.block j hj hne')⟩
    · have hcl : l.length < cap := by omega
      clear hfull
      have hcall := indexf_any (w.alloc (.cells #[.int .i64 m] 3)) (.slice (some ⟨g, off, none⟩) l.length cap) l ⟨w.heap.size, 0, none⟩ m (HSEG.out.carry (fun j hj => Below.heap_alloc _ _ _ (HSEG.out.lt hj))) (by go_simp) (by simp) hl
      rw [hidx] at hcall
      have HCA := Lib.hid hcall
      clear hcall hidx
      go_enter Try.func33, Try.ntmps33
      go_wp2_with fail
      refine HCA.out.mono ?_
      rintro e w1 ⟨rfl, hb1⟩
      have hold : ∀ j, j < w.heap.size → w1.heap[j]? = w.heap[j]? := fun j hj => (hb1.block j (by simp; omega)).trans (Below.heap_alloc _ _ _ hj)
      have hB1 : w1.heap[B]? = some (.cells #[c0, c1, .slice (some ⟨g, off, none⟩) l.length cap, c3] 60 (0, 0)) := (hold B hBlt).trans HB.out
      have k2' : w1.cell? ⟨B, 2, none⟩ = some (.slice (some ⟨g, off, none⟩) l.length cap) := by simp [World.cell?, hB1]
      have k3' : w1.frozen? ⟨B, 2, none⟩ = false := Joins.unfrozen_of_block hB1 2
      have hBW : (w1.setCell ⟨B, 2, none⟩ (.slice (some ⟨g, off + l.length * 2, none⟩) 0 (cap - l.length))).heap[B]? = some (.cells #[c0, c1, .slice (some ⟨g, off + l.length * 2, none⟩) 0 (cap - l.length), c3] 60 (0, 0)) := by simpa using Joins.block_setCell hB1 (i := 2) (.slice (some ⟨g, off + l.length * 2, none⟩) 0 (cap - l.length))
      have hgW : w.grownBy (w1.setCell ⟨B, 2, none⟩ (.slice (some ⟨g, off + l.length * 2, none⟩) 0 (cap - l.length))) (some B) := ⟨hb1.os, hb1.tape, hb1.output, by have := hb1.size; simp at this ⊢; omega, fun j hj hne => (Below.heap_setCell _ _ _ _ (fun e => hne (by rw [e]))).trans (hold j hj)⟩
      have hst : Seg w 68 2 (.slice (some ⟨g, off + l.length * 2, none⟩) 0 (cap - l.length)) (l.length - l.length) (itemCells (l.drop l.length)) := by
        have := HSEG.out.tail (t := l.length) rfl (by omega) (off + l.length * 2) (Or.inl rfl)
        simpa using this
      have HBW := Lib.hid hBW
      have HGW := Lib.hid hgW
      have HST := Lib.hid hst
      clear hold hB1 HCA hb1 hBW hgW hst
      go_wp2
      generalize w1.setCell ⟨B, 2, none⟩ (.slice (some ⟨g, off + l.length * 2, none⟩) 0 (cap - l.length)) = W0 at *
      have hszW := HGW.out.size
      go_loopw [7, 41] (fun u i wr => ∃ k : Nat, k ≤ l.length ∧ i = .int .i64 k ∧ wr.ownsRow W0.heap.size 3 1 u k (ints (names (l.take k))) ∧ Below W0.heap.size W0 wr) (fun _ i _ => l.length - (intOf i).toNat)
      case atStart => exact ⟨0, Nat.zero_le _, rfl, by simpa [names, ints] using World.ownsRow_nil _ _ _ _, Below.refl _ _⟩
      case round =>
        obtain ⟨k, hk, rfl, hown, hnx⟩ := hrel
        by_cases hlt : k < l.length
        · obtain ⟨q1, q2⟩ := HC.out k (by omega)
          have hgb : wr.heap[g]? = w.heap[g]? := (hnx.block g (by omega)).trans (HGW.out.block g hg (fun e => hne (Option.some.inj e)))
          have d1 := (World.cell?_of_block (w := w) (a := ⟨g, off + k * 2, none⟩) hgb).trans q1
          have d2 := (World.cell?_of_block (w := w) (a := ⟨g, off + k * 2 + 1, none⟩) hgb).trans q2
          have hsz := hnx.size
          clear q1 q2 hgb
          go_wp2_with (at_builtin; refine wpList_append_own _ rfl _ _ 29 rfl W0.heap.size 3 i0 (.int .i64 0) 1 8 Try.underlying29 hi0 hz0 hz1 hz2 rfl (by decide) _ k _ rfl ((hown.alloc _).alloc _) ⟨wr.heap.size + 1, 0, none⟩ 1 1 [.int .i64 (nth l k).1] rfl rfl ?c1 ?c2 ?c3 ?c4 ?c5 ?_)
          case c1 => exact World.news_of_block (cs := #[.int .i64 (nth l k).1]) (t := 3) (fr := (0, 0)) (new_at (by simp))
          case c2 => simp [Value.oneCell']
          case c3 => unfold maxLen; omega
          case c4 => omega
          case c5 => simp; omega
          intro v' w2 hown' hgrow _
          have hown1 : w2.ownsRow W0.heap.size 3 1 v' (k + 1) (ints (names (l.take (k + 1)))) := by
            rw [names_take_succ (by omega)]; simpa [ints] using hown'
          have hb2 : Below W0.heap.size W0 w2 := ((hnx.alloc hnx.size _).alloc (by simp; omega) _).grown hgrow (by simp; omega) (fun j hj => (hown.lt j hj).1)
          clear hown' hgrow hown
          go_wp2
          go_roundw
          case rel => exact ⟨k + 1, by omega, by go_num, hown1, hb2⟩
          case measure => simp [intOf]; omega
        · obtain rfl : k = l.length := by omega
          go_wp2
          go_ret
          refine ⟨_, _, rfl, ?_, (hnx.block B (by omega)).trans HBW.out, ?_, rfl, ?_⟩
          · rw [htt.out]; exact Joins.ownsRow_le hown hszW
          · rw [htt.out]; exact HST.out.carry (fun j hj => by cases hj; exact (hnx.block g (by omega)).trans (HGW.out.block g hg (fun e => hne (Option.some.inj e))))
          · exact ⟨hnx.os.trans HGW.out.os, hnx.tape.trans HGW.out.tape, hnx.output.trans HGW.out.output, Nat.le_trans hszW hnx.size, fun j hj hne' => (hnx.block j (by omega)).trans (HGW.out.block j hj hne')⟩

set_option maxHeartbeats 1000000 in
set_option maxRecDepth 100000 in
theorem cut_none (w : World) (B : Nat) (c0 c1 c3 : Value) (m : Int) (hB : w.heap[B]? = some (.cells #[c0, c1, .slice none 0 0, c3] 60 (0, 0))) :
    Calls Try.prog 33 #[.pointer (some ⟨B, 2, none⟩), .int .i64 m] w (Cut w B c0 c1 (.slice none 0 0) c3 [] m) := by
  have hBlt : B < w.heap.size := (Array.getElem?_eq_some_iff.1 hB).1
  have k2 : w.cell? ⟨B, 2, none⟩ = some (.slice none 0 0) := by simp [World.cell?, hB]
  have HB := Lib.hid hB
  have hcall := indexf_any (w.alloc (.cells #[.int .i64 m] 3)) (.slice none 0 0) [] ⟨w.heap.size, 0, none⟩ m ⟨rfl, Or.inl ⟨rfl, rfl⟩⟩ (by go_simp) (by simp) (by simp)
  have hidx : idxS m [] = -1 := rfl
  rw [hidx] at hcall
  have HCA := Lib.hid hcall
  clear hcall hidx hB
  go_enter Try.func33, Try.ntmps33
  go_wp2_with fail
  refine HCA.out.mono ?_
  rintro e w1 ⟨rfl, hb1⟩
  have hold : ∀ j, j < w.heap.size → w1.heap[j]? = w.heap[j]? := fun j hj => (hb1.block j (by simp; omega)).trans (Below.heap_alloc _ _ _ hj)
  have hB1 : w1.heap[B]? = some (.cells #[c0, c1, .slice none 0 0, c3] 60 (0, 0)) := (hold B hBlt).trans HB.out
  have k2' : w1.cell? ⟨B, 2, none⟩ = some (.slice none 0 0) := by simp [World.cell?, hB1]
  have k3' : w1.frozen? ⟨B, 2, none⟩ = false := Joins.unfrozen_of_block hB1 2
  have hfin : Cut w B c0 c1 (.slice none 0 0) c3 [] m (.returned (.slice none 0 0)) (w1.setCell ⟨B, 2, none⟩ (.slice none 0 0)) := by
    refine ⟨_, .slice none 0 0, rfl, World.ownsRow_nil _ _ _ _, by simpa using Joins.block_setCell hB1 (i := 2) (.slice none 0 0), ⟨rfl, Or.inl ⟨rfl, rfl⟩⟩, rfl, ?_⟩
    exact ⟨hb1.os, hb1.tape, hb1.output, by have := hb1.size; simp at this ⊢; omega, fun j hj hne => (Below.heap_setCell _ _ _ _ (fun e => hne (by rw [e]))).trans (hold j hj)⟩
  have HFI := Lib.hid hfin
  clear hold hB1 HCA hb1 hfin
  go_wp2
  refine wp_loop_rounds 1 ?_
  rw [rounds_succ]
  go_wp2
  go_ret
  exact HFI.out

theorem cut_any (w : World) (B : Nat) (c0 c1 v c3 : Value) (l : List (Int × Int)) (m : Int) (hB : w.heap[B]? = some (.cells #[c0, c1, v, c3] 60 (0, 0))) (hseg : Seg w 68 2 v l.length (itemCells l)) (hne : v.ownBlock ≠ some B) (hl : l.length < 1000000000) :
    Calls Try.prog 33 #[.pointer (some ⟨B, 2, none⟩), .int .i64 m] w (Cut w B c0 c1 v c3 l m) := by
  have hs := hseg
  obtain ⟨_, ⟨rfl, h0⟩ | ⟨g, off, cap, cur, rfl, _⟩⟩ := hs
  · have hl0 : l = [] := List.length_eq_zero_iff.1 h0
    subst hl0
    exact cut_none w B c0 c1 c3 m hB
  · exact cut_some w B c0 c1 c3 l m g off cap hB hseg (fun e => hne (by rw [e]; rfl)) hl

end Go.Proofs.Ytphmfmfbneoljaa.Ep
