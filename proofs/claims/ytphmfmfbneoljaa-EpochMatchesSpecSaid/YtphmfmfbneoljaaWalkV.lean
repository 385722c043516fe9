/- Contract of Free of the specification's object. -/
import Derived.Test.YtphmfmfbneoljaaWalkU
namespace Go.Proofs.Ytphmfmfbneoljaa.Ep
open Go Go.RowKit Go.Maps

theorem run_append_rdI_at (w : World) (base : Nat) (v u : Value) (xs ys : List (Int × Int)) (hown : OwnI w base v xs) (hu : RdI w u ys) (hl : xs.length + ys.length < 1000000000) (hbase : base ≤ w.heap.size) :
    ∃ v' w', (Builtin.append_ #[38, 38] 38 #[v, u]).run Try.prog w = .ok v' w' ∧ OwnI w' base v' (xs ++ ys) ∧ w.grownBy w' v.ownBlock ∧ (v'.ownBlock = v.ownBlock ∨ v'.ownBlock = some w.heap.size) := by
  rcases hu with ⟨ao, cap, rfl, rfl⟩ | ⟨b, off, cap, rfl, hp, hc1, hm1, hb1, he1⟩
  · exact ⟨v, w, run_append_nothingI w base v _ _ ao cap hown, by simpa using hown, ⟨rfl, rfl, rfl, Nat.le_refl _, fun _ _ _ => rfl⟩, Or.inl rfl⟩
  · obtain ⟨i0, hi0, hz0, hz1, hz2⟩ := info_parts Try.info62
    obtain ⟨v', w', hr, r1, r2, _, r3⟩ := run_append_own_at (P := Try.prog) w base 38 38 62 i0 (.agg #[.int .i64 0, .int .i64 0]) 2 16 Try.underlying38 hi0 hz0 hz1 hz2 rfl (by decide) v xs.length (itemCells xs) hown ⟨b, off, none⟩ ys.length cap (itemCells ys) (itemCells_length _)
      (fun j x hj => by
        obtain ⟨k, hk, ⟨rfl, rfl⟩ | ⟨rfl, rfl⟩⟩ := itemCells_get hj
        · rw [Addr.add_lit]; exact (he1 k hk).1
        · rw [Addr.add_lit, ← Nat.add_assoc]; exact (he1 k hk).2)
      itemCells_one (by unfold maxLen; omega) (by omega) hbase
    refine ⟨v', w', hr, ?_, r2, r3⟩
    unfold OwnI
    rw [List.length_append, itemCells_append]
    exact r1
theorem wpList_append_rdI_at (w : World) {ops : Array Oper} {rest : List Oper} {o : Oper} {a : Act} {Q : Exit → Act → World → Prop}
    (hg : o.guard = none) (s x : Operand) (hop : o.op = Op.call { callee := Callee.builtin Builtin.append, args := #[s, x], argTypes := #[38, 38] }) (hty : o.type = 38)
    (base : Nat) (v u : Value) (xs ys : List (Int × Int)) (hs : a.eval s = v) (hx : a.eval x = u) (hown : OwnI w base v xs) (hu : RdI w u ys) (hl : xs.length + ys.length < 1000000000) (hbase : base ≤ w.heap.size)
    (hK : ∀ v' w', OwnI w' base v' (xs ++ ys) → w.grownBy w' v.ownBlock → (v'.ownBlock = v.ownBlock ∨ v'.ownBlock = some w.heap.size) → wpList Try.prog ops Q rest (a.put o.dst v') w') :
    wpList Try.prog ops Q (o :: rest) a w := by
  refine wpList_plain hg fun K hK' => ?_
  obtain ⟨v', w', hrun, r1, r2, r3⟩ := run_append_rdI_at w base v u xs ys hown hu hl hbase
  unfold Oper.wp
  simp [execOp, hop, hty, resolve, invoke, builtin, hs, hx, hrun, Result.andThen]
  exact hK' _ _ (hK v' w' r1 r2 r3)

/-- A row of ints of the call's own. -/
def OwnZ (w : World) (base : Nat) (v : Value) (l : List Int) : Prop := w.ownsRow base 3 1 v l.length (ints l)
theorem OwnZ.lt {w : World} {base : Nat} {v : Value} {l : List Int} (h : OwnZ w base v l) {k : Nat} (hk : v.ownBlock = some k) : base ≤ k ∧ k < w.heap.size := World.ownsRow.lt h k hk
/-- Two rows of the call's own, of different blocks. -/
structure Two (w wr : World) (u v : Value) (xs : List Int) (ys : List (Int × Int)) : Prop where
  z : OwnZ wr w.heap.size u xs
  i : OwnI wr w.heap.size v ys
  ap : Apart u v
  below : Below w.heap.size w wr
theorem Two.alloc {w wr : World} {u v : Value} {xs : List Int} {ys : List (Int × Int)} (h : Two w wr u v xs ys) (o : _root_.Go.Obj) : Two w (wr.alloc o) u v xs ys :=
  ⟨World.ownsRow.alloc h.z o, h.i.alloc o, h.ap, h.below.alloc h.below.size o⟩
theorem Two.left {w wr w1 : World} {u u' v : Value} {xs xs' : List Int} {ys : List (Int × Int)} {n : Nat} (h : Two w wr u v xs ys) (hrow : w1.ownsRow w.heap.size 3 1 u' n (ints xs')) (hn : n = xs'.length) (hg : wr.grownBy w1 u.ownBlock) (hv : u'.ownBlock = u.ownBlock ∨ u'.ownBlock = some wr.heap.size) : Two w w1 u' v xs' ys := by
  subst hn
  refine ⟨hrow, row_carry h.i (fun k hk => hg.block k (h.i.lt hk).2 (fun e => h.ap k e.symm hk)), fun k hk hv' => ?_, h.below.grown hg h.below.size (fun k hk => (h.z.lt hk).1)⟩
  rcases hv with e | e
  · exact h.ap k (e ▸ hk) hv'
  · rw [e] at hk; cases hk; exact Nat.lt_irrefl _ (h.i.lt hv').2
theorem Two.right {w wr w1 : World} {u v v' : Value} {xs : List Int} {ys ys' : List (Int × Int)} (h : Two w wr u v xs ys) (hrow : OwnI w1 w.heap.size v' ys') (hg : wr.grownBy w1 v.ownBlock) (hv : v'.ownBlock = v.ownBlock ∨ v'.ownBlock = some wr.heap.size) : Two w w1 u v' xs ys' := by
  refine ⟨row_carry h.z (fun k hk => hg.block k (h.z.lt hk).2 (fun e => h.ap k hk e.symm)), hrow, fun k hk hv' => ?_, h.below.grown hg h.below.size (fun k hk => (h.i.lt hk).1)⟩
  rcases hv with e | e
  · exact h.ap k hk (e ▸ hv')
  · rw [e] at hv'; cases hv'; exact Nat.lt_irrefl _ (h.z.lt hk).2

/-- The names of the old ones among the first k, and the others. -/
def oldN (m : Int) (l : List (Int × Int)) (k : Nat) : List Int := names ((l.take k).filter (old m))
def newI (m : Int) (l : List (Int × Int)) (k : Nat) : List (Int × Int) := (l.take k).filter (fun p => !old m p)
theorem old_yes {m : Int} {l : List (Int × Int)} {k : Nat} (h : k < l.length) (hx : (nth l k).2 < m) : oldN m l (k + 1) = oldN m l k ++ [(nth l k).1] ∧ newI m l (k + 1) = newI m l k := by
  unfold oldN newI
  rw [take_item h, List.filter_append, List.filter_append]
  simp [old, hx, names]
theorem old_no {m : Int} {l : List (Int × Int)} {k : Nat} (h : k < l.length) (hx : ¬ (nth l k).2 < m) : oldN m l (k + 1) = oldN m l k ∧ newI m l (k + 1) = newI m l k ++ [((nth l k).1, (nth l k).2)] := by
  unfold oldN newI
  rw [take_item h, List.filter_append, List.filter_append]
  have hx' : ¬ (nth l k).2 < m := hx
  simp [old, names]
  omega
theorem oldN_le (m : Int) (l : List (Int × Int)) (k : Nat) : (oldN m l k).length ≤ l.length ∧ (newI m l k).length ≤ l.length := by
  unfold oldN newI names
  have h1 := List.length_filter_le (old m) (l.take k)
  have h2 := List.length_filter_le (fun p => !old m p) (l.take k)
  simp at h1 h2 ⊢
  omega
theorem old_all {s : St} (hi : Inv s) : oldN s.least s.wt s.wt.length = s.freed ∧ newI s.least s.wt s.wt.length = s.free.wt := by
  unfold oldN newI
  rw [List.take_length]
  obtain ⟨e1, e2⟩ := filter_old (m := s.least) hi.order
  rw [e1, e2]
  exact ⟨rfl, rfl⟩

/-- The object after a new row has been stored for what waits. -/
theorem RObj.setW {w w' : World} {B : Nat} {s : St} {c c' : Nat} {vR vW v' : Value} {l' : List (Int × Int)}
    (hB : w.heap[B]? = some (.cells #[vR, vW, .int .i64 s.now] 40 (0, 0))) (hR : Seg w 62 2 vR s.rd.length (itemCells s.rd)) (hd : vR.ownBlock ≠ some B) (c1 : s.rd.length ≤ c) (c3 : s.now ≤ c + 1) (hcc : c ≤ c')
    (hb : Below w.heap.size w w') (hrow : OwnI w' w.heap.size v' l') (hl : l'.length ≤ c') (hi : Inv { s with wt := l' }) :
    RObj (w'.setCell ⟨B, 1, none⟩ v') B { s with wt := l' } (fun k => k = B ∨ vR.ownBlock = some k ∨ v'.ownBlock = some k) c' ∧ Moves (fun k => k = B ∨ vR.ownBlock = some k ∨ vW.ownBlock = some k) (fun k => k = B ∨ vR.ownBlock = some k ∨ v'.ownBlock = some k) w (w'.setCell ⟨B, 1, none⟩ v') := by
  have hBlt : B < w.heap.size := (Array.getElem?_eq_some_iff.1 hB).1
  have hB' := (hb.block B hBlt).trans hB
  have hv : v'.ownBlock ≠ some B := fun h => by have := (hrow.lt h).1; omega
  refine ⟨⟨vR, v', ?_, ?_, ?_, ⟨hd, hv⟩, by show s.rd.length ≤ _; omega, hl, by show s.now ≤ _; omega, hi, rfl⟩, ?_⟩
  · have := Joins.block_setCell hB' (i := 1) v'
    simpa using this
  · exact hR.carry (fun j hj => (Below.heap_setCell _ _ _ _ (fun e => hd (by rw [hj, e]))).trans (hb.block j (hR.lt hj)))
  · exact hrow.seg.carry (fun j hj => Below.heap_setCell _ _ _ _ (fun e => hv (by rw [hj, e])))
  · refine ⟨hb.os, hb.tape, hb.output, by simpa using hb.size, fun j hj hF => ?_, fun j hF => ?_⟩
    · rw [Below.heap_setCell _ _ _ _ (fun e => hF (Or.inl e))]; exact hb.block j hj
    · rcases hF with h | h | h
      · exact Or.inl (Or.inl h)
      · exact Or.inl (Or.inr (Or.inl h))
      · exact Or.inr ((hrow.lt h).1)

/-- What Free of the specification leaves. -/
def RFreed (w : World) (B : Nat) (s : St) (F : Nat → Prop) (c : Nat) (e : Ending) (w' : World) : Prop :=
  ∃ ro F', e = .returned ro ∧ w'.ownsRow w.heap.size 3 1 ro s.freed.length (ints s.freed) ∧ RObj w' B s.free F' c ∧ Moves F F' w w' ∧ ∀ k, ro.ownBlock = some k → ¬ F' k
theorem rfree_done {w w' : World} {B : Nat} {s : St} {c : Nat} {vR vW u v : Value}
    (hB : w.heap[B]? = some (.cells #[vR, vW, .int .i64 s.now] 40 (0, 0))) (hR : Seg w 62 2 vR s.rd.length (itemCells s.rd)) (hd : vR.ownBlock ≠ some B) (c1 : s.rd.length ≤ c) (c2 : s.wt.length ≤ c) (c3 : s.now ≤ c + 1) (hi : Inv s)
    (h : Two w w' u v (oldN s.least s.wt s.wt.length) (newI s.least s.wt s.wt.length)) : RFreed w B s (fun k => k = B ∨ vR.ownBlock = some k ∨ vW.ownBlock = some k) c (.returned u) (w'.setCell ⟨B, 1, none⟩ v) := by
  obtain ⟨e1, e2⟩ := old_all hi
  rw [e1, e2] at h
  have hBlt : B < w.heap.size := (Array.getElem?_eq_some_iff.1 hB).1
  have hfl : s.free.wt.length ≤ c := by rw [free_length]; omega
  obtain ⟨r1, r2⟩ := RObj.setW (vW := vW) (c' := c) (l' := s.free.wt) hB hR hd c1 c3 (Nat.le_refl _) h.below h.i hfl hi.free
  refine ⟨u, _, rfl, ?_, r1, r2, ?_⟩
  · exact row_carry h.z (fun k hk => Below.heap_setCell _ _ _ _ (fun e => by have := (h.z.lt hk).1; simp at e; omega))
  · rintro k hk (e | e | e)
    · have := (h.z.lt hk).1; omega
    · have h1 := (h.z.lt hk).1; have h2 := hR.lt e; omega
    · exact h.ap k hk e

set_option maxHeartbeats 2000000 in
set_option maxRecDepth 100000 in
theorem rfree_any (w : World) (B : Nat) (s : St) (F : Nat → Prop) (c : Nat) (h : RObj w B s F c) (hc : c < 1000000) :
    Calls Try.prog 28 #[.pointer (some ⟨B, 0, none⟩)] w (RFreed w B s F c) := by
  have HLS := Lib.hid (rleast_any w B s F c h (by omega))
  obtain ⟨vR, vW, hB, hR, hW, hd, c1, c2, c3, hi, rfl⟩ := h
  have k1 : w.cell? ⟨B, 1, none⟩ = some vW := by simp [World.cell?, hB]
  have hBlt : B < w.heap.size := (Array.getElem?_eq_some_iff.1 hB).1
  have HFIN := Lib.hid (fun w' u v => rfree_done (w' := w') (u := u) (v := v) (vW := vW) hB hR hd.1 c1 c2 c3 hi)
  have HB := Lib.hid hB
  have HSEG := Lib.hid hW
  have HLE := Lib.hid (oldN_le s.least s.wt)
  clear hB hR hd hi
  have HST := Lib.hid (show Two w w (.slice none 0 0) (.slice none 0 0) (oldN s.least s.wt 0) (newI s.least s.wt 0) from ⟨World.ownsRow_nil _ _ _ _, OwnI.nil _ _, Apart.nil _, Below.refl _ _⟩)
  obtain ⟨hx1, ⟨rfl, h0⟩ | ⟨g, off, cap, cur, rfl, hhh, hn, hcm, hsz, hx⟩⟩ := hW
  · have f2 : w.frozen? ⟨B, 1, none⟩ = false := Joins.unfrozen_of_block HB.out 1
    have hfin := HFIN.out w (.slice none 0 0) (.slice none 0 0) (by rw [h0]; exact HST.out)
    have HFI := Lib.hid hfin
    clear hfin hx1 h0
    go_enter Try.func28, Try.ntmps28
    go_wp2_with fail
    refine HLS.out.mono ?_
    rintro e w' ⟨rfl, hw'⟩
    subst hw'
    go_wp2
    refine wp_loop_rounds 1 ?_
    rw [rounds_succ]
    go_wp2
    go_ret
    exact HFI.out
  · have HC := Lib.hid (HSEG.out.pair rfl)
    have hg : g < w.heap.size := HSEG.out.lt rfl
    unfold maxLen at hcm
    clear hx1 hhh hsz hx HSEG
    go_enter Try.func28, Try.ntmps28
    go_wp2_with fail
    refine HLS.out.mono ?_
    rintro e w' ⟨rfl, hw'⟩
    subst hw'
    go_wp2
    go_loopw [3, 4, 6] (fun u v i wr => ∃ k : Nat, k ≤ s.wt.length ∧ i = .int .i64 k ∧ Two w wr u v (oldN s.least s.wt k) (newI s.least s.wt k)) (fun _ _ i _ => s.wt.length - (intOf i).toNat)
    case atStart => exact ⟨0, Nat.zero_le _, rfl, HST.out⟩
    case round =>
      obtain ⟨k, hk, rfl, T⟩ := hrel
      have j1 := (T.below.cell (p := ⟨B, 1, none⟩) hBlt).trans k1
      have hsz := T.below.size
      have hle := HLE.out k
      by_cases hlt : k < s.wt.length
      · obtain ⟨q1, q2⟩ := HC.out k hlt
        have d1 := (T.below.cell (p := ⟨g, off + k * 2, none⟩) hg).trans q1
        have d2 := (T.below.cell (p := ⟨g, off + k * 2 + 1, none⟩) hg).trans q2
        clear q1 q2
        by_cases hxk : (nth s.wt k).2 < s.least
        · have HS := Lib.hid (old_yes hlt hxk)
          have TA := T.alloc (.cells #[.int .i64 (nth s.wt k).1] 3)
          go_wp2_with (at_builtin; refine wpList_append_rd _ rfl _ _ rfl rfl w.heap.size _ _ (oldN s.least s.wt k) [(nth s.wt k).1] rfl rfl TA.z (rd_new1 wr _) ?c1 ?c2 ?_)
          case c1 => first | omega | (simp; omega)
          case c2 => first | omega | (simp; omega)
          intro v1 w1 hrow1 hg1 hv1
          have HN := Lib.hid (show Two w w1 v1 _ (oldN s.least s.wt (k + 1)) (newI s.least s.wt (k + 1)) from by rw [HS.out.1, HS.out.2]; exact TA.left hrow1 (by simp) hg1 (by simpa using hv1))
          clear hrow1 hg1 hv1 TA T HS j1 d1 d2 hxk
          go_wp2
          go_roundw
          case rel => exact ⟨k + 1, by omega, by go_num, HN.out⟩
          case measure => simp [intOf]; omega
        · have HS := Lib.hid (old_no hlt hxk)
          have TA := T.alloc (.cells #[.int .i64 (nth s.wt k).1, .int .i64 (nth s.wt k).2] 62)
          have hone := RdI.one wr (nth s.wt k).1 (nth s.wt k).2 wr.heap.size rfl
          have hTi := TA.i
          go_wp2_with (at_builtin; refine wpList_append_rdI_at _ rfl _ _ rfl rfl w.heap.size _ _ (newI s.least s.wt k) [((nth s.wt k).1, (nth s.wt k).2)] rfl rfl hTi hone ?d1 ?d2 ?_)
          case d1 => first | omega | (simp; omega)
          case d2 => first | omega | (simp; omega)
          intro v1 w1 hrow1 hg1 hv1
          have HN := Lib.hid (show Two w w1 _ v1 (oldN s.least s.wt (k + 1)) (newI s.least s.wt (k + 1)) from by rw [HS.out.1, HS.out.2]; exact TA.right hrow1 hg1 (by simpa using hv1))
          clear hrow1 hg1 hv1 TA T HS j1 d1 d2 hxk hone hTi
          go_wp2
          go_roundw
          case rel => exact ⟨k + 1, by omega, by go_num, HN.out⟩
          case measure => simp [intOf]; omega
      · obtain rfl : k = s.wt.length := by omega
        have hfin := HFIN.out wr u3 u4 T
        have f2 : wr.frozen? ⟨B, 1, none⟩ = false := Joins.unfrozen_of_block ((T.below.block B hBlt).trans HB.out) 1
        obtain ⟨a2, n2, c2', hsh2⟩ := T.i.form
        subst hsh2
        have HFI := Lib.hid hfin
        clear hfin T
        go_wp2
        go_ret
        exact HFI.out

end Go.Proofs.Ytphmfmfbneoljaa.Ep
