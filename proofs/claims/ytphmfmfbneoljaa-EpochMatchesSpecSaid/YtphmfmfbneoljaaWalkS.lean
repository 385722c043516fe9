/- The specification's object of layer 17 in memory; contracts of New, Has, Names and Least of the specification's package. -/
import Derived.Test.YtphmfmfbneoljaaPlainF
namespace Go.Proofs.Ytphmfmfbneoljaa.Ep
open Go Go.RowKit Go.Maps

theorem Try.info62 : (Try.prog.info? 62).map (fun i => (i.zero, i.size, i.bytes)) = some (some (.agg #[.int .i64 0, .int .i64 0]), 2, 16) := by kernel_rfl

/-- The specification's object at block B: it holds the state s; F says which blocks it owns; c bounds its sizes. -/
def RObj (w : World) (B : Nat) (s : St) (F : Nat → Prop) (c : Nat) : Prop :=
  ∃ vR vW : Value, w.heap[B]? = some (.cells #[vR, vW, .int .i64 s.now] 40 (0, 0)) ∧ Seg w 62 2 vR s.rd.length (itemCells s.rd) ∧ Seg w 62 2 vW s.wt.length (itemCells s.wt) ∧
    (vR.ownBlock ≠ some B ∧ vW.ownBlock ≠ some B) ∧ s.rd.length ≤ c ∧ s.wt.length ≤ c ∧ s.now ≤ c + 1 ∧ Inv s ∧ F = fun k => k = B ∨ vR.ownBlock = some k ∨ vW.ownBlock = some k
theorem RObj.lt {w : World} {B : Nat} {s : St} {F : Nat → Prop} {c : Nat} (h : RObj w B s F c) : ∀ k, F k → k < w.heap.size := by
  obtain ⟨vR, vW, hB, hR, hW, hd, c1, c2, c3, hi, rfl⟩ := h
  rintro k (rfl | hk | hk)
  · exact (Array.getElem?_eq_some_iff.1 hB).1
  · exact hR.lt hk
  · exact hW.lt hk
theorem RObj.mono {w : World} {B : Nat} {s : St} {F : Nat → Prop} {c c' : Nat} (h : RObj w B s F c) (hc : c ≤ c') : RObj w B s F c' := by
  obtain ⟨vR, vW, hB, hR, hW, hd, c1, c2, c3, hi, rfl⟩ := h
  exact ⟨vR, vW, hB, hR, hW, hd, by omega, by omega, by omega, hi, rfl⟩
theorem RObj.carry {w w' : World} {B : Nat} {s : St} {F : Nat → Prop} {c : Nat} (h : RObj w B s F c) (hb : ∀ k, F k → w'.heap[k]? = w.heap[k]?) : RObj w' B s F c := by
  obtain ⟨vR, vW, hB, hR, hW, hd, c1, c2, c3, hi, rfl⟩ := h
  exact ⟨vR, vW, (hb B (Or.inl rfl)).trans hB, hR.carry (fun k hk => hb k (Or.inr (Or.inl hk))), hW.carry (fun k hk => hb k (Or.inr (Or.inr hk))), hd, c1, c2, c3, hi, rfl⟩
theorem RObj.below {w w' : World} {B : Nat} {s : St} {F : Nat → Prop} {c : Nat} (h : RObj w B s F c) (hb : Below w.heap.size w w') : RObj w' B s F c :=
  h.carry (fun k hk => hb.block k (h.lt k hk))

set_option maxHeartbeats 400000 in
theorem rnew_any (w : World) :
    Calls Try.prog 10 #[] w fun e w' => ∃ (B : Nat) (F : Nat → Prop), e = .returned (.pointer (some ⟨B, 0, none⟩)) ∧ RObj w' B St.new F 0 ∧ Below w.heap.size w w' ∧ ∀ k, F k → w.heap.size ≤ k := by
  go_enter Try.func10, Try.ntmps10
  go_wp2
  go_ret
  refine ⟨w.heap.size, _, rfl, ⟨.slice none 0 0, .slice none 0 0, heap_alloc_new _ _, ⟨rfl, Or.inl ⟨rfl, rfl⟩⟩, ⟨rfl, Or.inl ⟨rfl, rfl⟩⟩, ⟨by simp [Value.ownBlock], by simp [Value.ownBlock]⟩, Nat.le_refl _, Nat.le_refl _, Int.le_refl _, Inv.new, rfl⟩, ?_, ?_⟩
  · go_grown
  · rintro k (rfl | hk | hk)
    · exact Nat.le_refl _
    · cases hk
    · cases hk

theorem has_take_succ {l : List (Int × Int)} {k : Nat} (h : k < l.length) (x : Int) : has (l.take (k + 1)) x = (has (l.take k) x || (nth l k).1 == x) := by
  unfold has
  rw [List.take_add_one, nth_getElem h]
  simp
theorem has_at {l : List (Int × Int)} {k : Nat} (h : k < l.length) : has l (nth l k).1 = true := has_iff.2 ⟨(nth l k).2, List.mem_of_getElem? (nth_getElem h)⟩

set_option maxHeartbeats 1000000 in
set_option maxRecDepth 100000 in
theorem rhas_any (w : World) (v : Value) (l : List (Int × Int)) (x : Int) (hseg : Seg w 62 2 v l.length (itemCells l)) (hl : l.length < 1000000000) :
    Calls Try.prog 34 #[v, .int .i64 x] w fun e w' => e = .returned (.bool (has l x)) ∧ w = w' := by
  have hs := hseg
  obtain ⟨hx1, ⟨rfl, h0⟩ | ⟨g, off, cap, cur, rfl, hh, hn, hcm, hsz, hx⟩⟩ := hs
  · have hl0 : l = [] := List.length_eq_zero_iff.1 h0
    subst hl0
    clear hseg hx1 h0
    go_enter Try.func34, Try.ntmps34
    go_wp2
    refine wp_loop_rounds 1 ?_
    rw [rounds_succ]
    go_wp2
    go_ret
    exact ⟨rfl, rfl⟩
  · have HC := Lib.hid (hseg.pair rfl)
    unfold maxLen at hcm
    clear hseg hx hx1 hh hsz
    go_enter Try.func34, Try.ntmps34
    go_wp2
    go_loop [5] (fun i => ∃ k : Nat, k ≤ l.length ∧ i = .int .i64 k ∧ Hid (has (l.take k) x = false)) (fun i => l.length - (intOf i).toNat)
    case atStart => exact ⟨0, Nat.zero_le _, rfl, rfl⟩
    case round =>
      obtain ⟨k, hk, rfl, hP⟩ := hrel
      by_cases hlt : k < l.length
      · obtain ⟨q1, q2⟩ := HC.out k hlt
        by_cases heq : (nth l k).1 = x
        · have hq : ((nth l k).1 == x) = true := by simpa using heq
          have HF : Hid (has l x = true) := by show _ = true; rw [← heq]; exact has_at hlt
          clear heq
          go_wp2
          go_ret
          exact ⟨ret_bool HF.out.symm, rfl⟩
        · have hq : ((nth l k).1 == x) = false := by simpa using heq
          have hP1 : Hid (has (l.take (k + 1)) x = false) := by
            show _ = false
            rw [has_take_succ hlt, hP.out, hq]; rfl
          clear heq
          go_wp2
          go_round
          case rel => exact ⟨k + 1, by omega, by go_num, hP1⟩
          case measure => simp [intOf]; omega
      · obtain rfl : k = l.length := by omega
        have HF : Hid (has l x = false) := by have := hP.out; rwa [List.take_length] at this
        go_wp2
        go_ret
        exact ⟨ret_bool HF.out.symm, rfl⟩

set_option maxHeartbeats 1000000 in
set_option maxRecDepth 100000 in
theorem rnames_any (w : World) (v : Value) (l : List (Int × Int)) (hseg : Seg w 62 2 v l.length (itemCells l)) (hc : l.length < 1000000000) :
    Calls Try.prog 18 #[v] w fun e w' => ∃ r, e = .returned r ∧ w'.ownsRow w.heap.size 3 1 r l.length (ints (names l)) ∧ Below w.heap.size w w' := by
  obtain ⟨i0, hi0, hz0, hz1, hz2⟩ := info_parts Try.info3
  have hs := hseg
  obtain ⟨hl, ⟨rfl, h0⟩ | ⟨g, off, cap, cur, rfl, hh, hn, hcm, hsz, hx⟩⟩ := hs
  · have hl0 : l = [] := List.length_eq_zero_iff.1 h0
    subst hl0
    clear hseg hl h0
    go_enter Try.func18, Try.ntmps18
    go_wp2
    refine wp_loop_rounds 1 ?_
    rw [rounds_succ]
    go_wp2
    go_ret
    exact ⟨_, rfl, World.ownsRow_nil _ _ _ _, Below.refl _ _⟩
  · have hg : g < w.heap.size := hseg.lt rfl
    have HC := Lib.hid (hseg.pair rfl)
    clear hseg hx hl hh hsz
    go_enter Try.func18, Try.ntmps18
    go_wp2
    go_loopw [3, 4] (fun u i wr => ∃ k : Nat, k ≤ l.length ∧ i = .int .i64 k ∧ wr.ownsRow w.heap.size 3 1 u k (ints (names (l.take k))) ∧ Below w.heap.size w wr) (fun _ i _ => l.length - (intOf i).toNat)
    case atStart => exact ⟨0, Nat.zero_le _, rfl, by simpa [names, ints] using World.ownsRow_nil _ _ _ _, Below.refl _ _⟩
    case round =>
      obtain ⟨k, hk, rfl, hown, hnx⟩ := hrel
      by_cases hlt : k < l.length
      · obtain ⟨q1, q2⟩ := HC.out k hlt
        have d1 := (hnx.cell (p := ⟨g, off + k * 2, none⟩) hg).trans q1
        clear q1 q2
        have hsz := hnx.size
        go_wp2_with (at_builtin; refine wpList_append_own _ rfl _ _ 29 rfl w.heap.size 3 i0 (.int .i64 0) 1 8 Try.underlying29 hi0 hz0 hz1 hz2 rfl (by decide) _ k _ rfl (hown.alloc _) ⟨wr.heap.size, 0, none⟩ 1 1 [.int .i64 (nth l k).1] rfl rfl ?c1 ?c2 ?c3 ?c4 ?c5 ?_)
        case c1 => exact World.news_of_block (cs := #[.int .i64 (nth l k).1]) (t := 3) (fr := (0, 0)) (new_at (by simp))
        case c2 => simp [Value.oneCell']
        case c3 => unfold maxLen; omega
        case c4 => omega
        case c5 => simp; omega
        intro v' w1 hown' hgrow _
        have hown1 : w1.ownsRow w.heap.size 3 1 v' (k + 1) (ints (names (l.take (k + 1)))) := by
          rw [names_take_succ hlt]; simpa [ints] using hown'
        have hb1 : Below w.heap.size w w1 := (hnx.alloc hnx.size _).grown hgrow (by simp; omega) (fun j hj => (hown.lt j hj).1)
        clear hown' hgrow hown
        go_wp2
        go_roundw
        case rel => exact ⟨k + 1, by omega, by go_num, hown1, hb1⟩
        case measure => simp [intOf]; omega
      · go_wp2
        go_ret
        obtain rfl : k = l.length := by omega
        exact ⟨_, rfl, by simpa using hown, hnx⟩

theorem leastOf_take_succ {l : List (Int × Int)} {k : Nat} (h : k < l.length) (now : Int) : leastOf now (l.take (k + 1)) = min (leastOf now (l.take k)) (nth l k).2 := by
  induction l generalizing k with
  | nil => simp at h
  | cons y r ih =>
    cases k with
    | zero => simp [leastOf, nth]; omega
    | succ k =>
      have := ih (k := k) (by simpa using h)
      simp only [List.take_succ_cons, leastOf, this]
      have e : nth (y :: r) (k + 1) = nth r k := by simp [nth]
      rw [e]
      omega
theorem leastOf_low {l : List (Int × Int)} {now : Int} (h : ∀ p ∈ l, 1 ≤ p.2) (hn : 1 ≤ now) : 1 ≤ leastOf now l := leastOf_ge hn h

set_option maxHeartbeats 1000000 in
set_option maxRecDepth 100000 in
theorem rleast_any (w : World) (B : Nat) (s : St) (F : Nat → Prop) (c : Nat) (h : RObj w B s F c) (hc : c < 1000000000) :
    Calls Try.prog 16 #[.pointer (some ⟨B, 0, none⟩)] w fun e w' => e = .returned (.int .i64 s.least) ∧ w = w' := by
  obtain ⟨vR, vW, hB, hR, hW, hd, c1, c2, c3, hi, rfl⟩ := h
  have k0 : w.cell? ⟨B, 0, none⟩ = some vR := by simp [World.cell?, hB]
  have k2 : w.cell? ⟨B, 2, none⟩ = some (.int .i64 s.now) := by simp [World.cell?, hB]
  have hn1 := hi.now1
  have hn2 : s.now ≤ 1000000000 := by omega
  have HLE := Lib.hid (show ∀ k, 1 ≤ leastOf s.now (s.rd.take k) ∧ leastOf s.now (s.rd.take k) ≤ s.now from fun k => ⟨leastOf_low (fun p hp => (hi.rdle p (List.mem_of_mem_take hp)).1) hn1, leastOf_le _ _⟩)
  have hseg := hR
  clear hW hB hd
  obtain ⟨hx1, ⟨rfl, h0⟩ | ⟨g, off, cap, cur, rfl, hh, hn, hcm, hsz, hx⟩⟩ := hR
  · have hrd : s.rd = [] := List.length_eq_zero_iff.1 h0
    have HR : Hid (s.least = s.now) := by show _ = _; unfold St.least; rw [hrd]; rfl
    clear hseg hx1 h0 hrd
    go_enter Try.func16, Try.ntmps16
    go_wp2
    refine wp_loop_rounds 1 ?_
    rw [rounds_succ]
    go_wp2
    go_ret
    exact ⟨ret_int HR.out.symm, rfl⟩
  · have HC := Lib.hid (hseg.pair rfl)
    have HRD := Lib.hid hi.rdle
    unfold maxLen at hcm
    clear hseg hx hx1 hh hsz hi
    go_enter Try.func16, Try.ntmps16
    go_wp2
    go_loop [3, 4] (fun m i => ∃ k : Nat, k ≤ s.rd.length ∧ i = .int .i64 k ∧ m = .int .i64 (leastOf s.now (s.rd.take k))) (fun _ i => s.rd.length - (intOf i).toNat)
    case atStart => exact ⟨0, Nat.zero_le _, rfl, rfl⟩
    case round =>
      obtain ⟨k, hk, rfl, rfl⟩ := hrel
      obtain ⟨l1, l2⟩ := HLE.out k
      by_cases hlt : k < s.rd.length
      · obtain ⟨q1, q2⟩ := HC.out k hlt
        have HS := Lib.hid (leastOf_take_succ hlt s.now)
        have hr := HRD.out _ (List.mem_of_getElem? (nth_getElem hlt))
        go_wp2
        go_round
        case rel => exact ⟨k + 1, by omega, by go_num, by rw [HS.out]⟩
        case measure => simp [intOf]; omega
      · obtain rfl : k = s.rd.length := by omega
        go_wp2
        go_ret
        exact ⟨ret_int rfl, rfl⟩

end Go.Proofs.Ytphmfmfbneoljaa.Ep
