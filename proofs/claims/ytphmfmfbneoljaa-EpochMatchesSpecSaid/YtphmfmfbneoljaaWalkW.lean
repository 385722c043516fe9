/- Contract of Retire of the specification's object. -/
import Derived.Test.YtphmfmfbneoljaaWalkV
import Derived.Deep.RegionHeld3
import Derived.Deep.DrawnRows
namespace Go.Proofs.Ytphmfmfbneoljaa.Ep
open Go Go.RowKit Go.Maps

attribute [local go_sem ↓] Go.wp_at_zero Go.wp_at_succ

theorem step_append_rdI (w : World) {ops : Array Oper} {o : Oper} {a : Act} {K : Act → World → Prop} {Q : Exit → Act → World → Prop} {E : Prop}
    (hg : o.guard = none) (s x : Operand) (hop : o.op = Op.call { callee := Callee.builtin Builtin.append, args := #[s, x], argTypes := #[38, 38] }) (hty : o.type = 38)
    (base : Nat) (v u : Value) (xs ys : List (Int × Int)) (hs : a.eval s = v) (hx : a.eval x = u) (hown : OwnI w base v xs) (hu : RdI w u ys) (hl : xs.length + ys.length < 1000000000) (hbase : base ≤ w.heap.size)
    (h : ∀ v' w', OwnI w' base v' (xs ++ ys) → w.grownBy w' v.ownBlock → K (a.put o.dst v') w') :
    if Region.wanted o (yielded ops a.tmps) = true then Oper.wp Try.prog o a w K Q else E := by
  have hw : Region.wanted o (yielded ops a.tmps) = true := by simp [Region.wanted, hg]
  rw [if_pos hw]
  obtain ⟨v', w', hrun, r1, r2⟩ := run_append_rdI w base v u xs ys hown hu hl hbase
  unfold Oper.wp
  simp [execOp, hop, hty, resolve, invoke, builtin, hs, hx, hrun, Result.andThen]
  exact h v' w' r1 r2

/-- The object after a new row has been stored for what waits, and the next epoch. -/
theorem RObj.setWN {w w' : World} {B : Nat} {s : St} {c c' : Nat} {vR vW v' : Value} {l' : List (Int × Int)}
    (hB : w.heap[B]? = some (.cells #[vR, vW, .int .i64 s.now] 40 (0, 0))) (hR : Seg w 62 2 vR s.rd.length (itemCells s.rd)) (hd : vR.ownBlock ≠ some B) (c1 : s.rd.length ≤ c) (c3 : s.now ≤ c + 1) (hcc : c + 1 ≤ c')
    (hb : Below w.heap.size w w') (hrow : OwnI w' w.heap.size v' l') (hl : l'.length ≤ c') (hi : Inv { s with wt := l', now := s.now + 1 }) :
    ∃ F', RObj ((w'.setCell ⟨B, 1, none⟩ v').setCell ⟨B, 2, none⟩ (.int .i64 (s.now + 1))) B { s with wt := l', now := s.now + 1 } F' c' ∧ Moves (fun k => k = B ∨ vR.ownBlock = some k ∨ vW.ownBlock = some k) F' w ((w'.setCell ⟨B, 1, none⟩ v').setCell ⟨B, 2, none⟩ (.int .i64 (s.now + 1))) := by
  have hBlt : B < w.heap.size := (Array.getElem?_eq_some_iff.1 hB).1
  have hB' := (hb.block B hBlt).trans hB
  have hv : v'.ownBlock ≠ some B := fun h => by have := (hrow.lt h).1; omega
  have ho : ∀ k, k ≠ B → ((w'.setCell ⟨B, 1, none⟩ v').setCell ⟨B, 2, none⟩ (.int .i64 (s.now + 1))).heap[k]? = w'.heap[k]? := fun k hk => by
    rw [Below.heap_setCell _ _ _ _ hk, Below.heap_setCell _ _ _ _ hk]
  refine ⟨_, ⟨vR, v', ?_, ?_, ?_, ⟨hd, hv⟩, by show s.rd.length ≤ _; omega, hl, by show s.now + 1 ≤ _; omega, hi, rfl⟩, ?_⟩
  · have h1 := Joins.block_setCell hB' (i := 1) v'
    have h2 := Joins.block_setCell h1 (i := 2) (.int .i64 (s.now + 1))
    simpa using h2
  · exact hR.carry (fun j hj => (ho j (fun e => hd (by rw [hj, e]))).trans (hb.block j (hR.lt hj)))
  · exact hrow.seg.carry (fun j hj => ho j (fun e => hv (by rw [hj, e])))
  · refine ⟨hb.os, hb.tape, hb.output, by simpa using hb.size, fun j hj hF => ?_, fun j hF => ?_⟩
    · rw [ho j (fun e => hF (Or.inl e))]; exact hb.block j hj
    · rcases hF with h | h | h
      · exact Or.inl (Or.inl h)
      · exact Or.inl (Or.inr (Or.inl h))
      · exact Or.inr ((hrow.lt h).1)

theorem has_stamped (l : List (Int × Int)) (bs : List Int) (e : Int) (k : Nat) (x : Int) : has (l ++ stampd bs e k) x = ((names l).contains x || (bs.take k).contains x) := by
  rw [has_names, names_append, List.contains_append]
  unfold stampd
  rw [names_stamp]
theorem stampd_length (bs : List Int) (e : Int) (k : Nat) : (stampd bs e k).length ≤ bs.length := by
  unfold stampd; simp; omega

set_option maxHeartbeats 4000000 in
set_option maxRecDepth 100000 in
theorem rretire_any (w : World) (B : Nat) (s : St) (F : Nat → Prop) (c : Nat) (u : Value) (bs : List Int) (h : RObj w B s F c) (hu : Rd w u bs) (hc : c + bs.length < 1000000) :
    Calls Try.prog 27 #[.pointer (some ⟨B, 0, none⟩), u] w fun e w' => e = .returned (.int .i64 (s.retireErr bs)) ∧ ∃ F', RObj w' B (s.retire bs) F' (c + bs.length + 1) ∧ Moves F F' w w' := by
  have hO := h
  obtain ⟨vR, vW, hB, hR, hW, hd, c1, c2, c3, hi, rfl⟩ := h
  have k1 : w.cell? ⟨B, 1, none⟩ = some vW := by simp [World.cell?, hB]
  have k2 : w.cell? ⟨B, 2, none⟩ = some (.int .i64 s.now) := by simp [World.cell?, hB]
  have hBlt : B < w.heap.size := (Array.getElem?_eq_some_iff.1 hB).1
  have hn1 := hi.now1
  have hn2 : s.now ≤ 1000001 := by omega
  have HNO := Lib.hid (show fresh (names s.wt) bs = false → (s.retireErr bs = 6 ∧ s.retire bs = s) from fun hf => by simp [St.retireErr, St.retire, hf])
  have HOK := Lib.hid (show fresh (names s.wt) bs = true → ∀ w' v', Below w.heap.size w w' → OwnI w' w.heap.size v' (s.wt ++ stampd bs s.now bs.length) →
      s.retireErr bs = 0 ∧ ∃ F', RObj ((w'.setCell ⟨B, 1, none⟩ v').setCell ⟨B, 2, none⟩ (.int .i64 (s.now + 1))) B (s.retire bs) F' (c + bs.length + 1) ∧ Moves (fun k => k = B ∨ vR.ownBlock = some k ∨ vW.ownBlock = some k) F' w ((w'.setCell ⟨B, 1, none⟩ v').setCell ⟨B, 2, none⟩ (.int .i64 (s.now + 1))) from
    fun hf w' v' hb hrow => by
      have hie := hi.retire bs
      have hE : s.retire bs = { s with wt := s.wt ++ stampd bs s.now bs.length, now := s.now + 1 } := by rw [stampd_all]; simp [St.retire, hf]
      refine ⟨by simp [St.retireErr, hf], ?_⟩
      rw [hE] at hie ⊢
      exact RObj.setWN hB hR hd.1 c1 c3 (by omega) hb hrow (by rw [List.length_append]; have := stampd_length bs s.now bs.length; omega) hie)
  have HBEL := Lib.hid (show ∀ w', Below w.heap.size w w' → ∃ F', RObj w' B s F' (c + bs.length + 1) ∧ Moves (fun k => k = B ∨ vR.ownBlock = some k ∨ vW.ownBlock = some k) F' w w' from fun w' hb => ⟨_, (hO.below hb).mono (by omega), Moves.of_below hb⟩)
  have HB := Lib.hid hB
  have HRW := Lib.hid (RdI.of_seg hW)
  have HU := Lib.hid hu
  have hemp := OwnI.empty (w := w) (Nat.le_refl w.heap.size)
  obtain ⟨au, cu, hsu⟩ := hu.shape
  subst hsu
  obtain ⟨aw, nw, cw, hsw⟩ : ∃ aw nw cw, vW = .slice aw nw cw := by
    obtain ⟨_, ⟨h, _⟩ | ⟨g, off, cap, cur, h, _⟩⟩ := hW
    · exact ⟨_, _, _, h⟩
    · exact ⟨_, _, _, h⟩
  subst hsw
  have hba : Below w.heap.size w (w.alloc (.cells #[] 62)) := (Below.refl _ _).alloc (Nat.le_refl _) _
  have hrw := HRW.out.below hba
  clear hB hR hd hi hO hW hu
  go_enter Try.func27, Try.ntmps27
  go_wp2_with (at_builtin; refine wpList_append_rdI _ rfl _ _ rfl rfl w.heap.size _ _ [] s.wt rfl rfl hemp hrw ?c1 ?c2 ?_)
  case c1 => simp; omega
  case c2 => simp
  intro v1 w1 hrow1 hg1
  have b1 : Below w.heap.size w w1 := hba.grown hg1 (by simp) (fun j hj => by cases hj; exact Nat.le_refl _)
  have HST := Lib.hid (show OwnI w1 w.heap.size v1 (s.wt ++ stampd bs s.now 0) ∧ Below w.heap.size w w1 from ⟨by rw [stampd_zero, List.append_nil]; simpa using hrow1, b1⟩)
  clear hrow1 hg1 b1 hemp hba hrw
  go_wp2
  go_loopw [5, 6] (fun v i wr => ∃ k : Nat, k ≤ bs.length ∧ i = .int .i64 k ∧ Hid (fresh (names s.wt) (bs.take k) = true) ∧ OwnI wr w.heap.size v (s.wt ++ stampd bs s.now k) ∧ Below w.heap.size w wr) (fun _ i _ => bs.length - (intOf i).toNat)
  case atStart => exact ⟨0, Nat.zero_le _, rfl, rfl, HST.out.1, HST.out.2⟩
  case round =>
    obtain ⟨k, hk, rfl, hfk, hrow, hb⟩ := hrel
    have hsz := hb.size
    have hsl := stampd_length bs s.now k
    have m1 := (hb.cell (p := ⟨B, 1, none⟩) hBlt).trans k1
    have m2 := (hb.cell (p := ⟨B, 2, none⟩) hBlt).trans k2
    have f1 : wr.frozen? ⟨B, 1, none⟩ = false := Joins.unfrozen_of_block ((hb.block B hBlt).trans HB.out) 1
    have f2 : wr.frozen? ⟨B, 2, none⟩ = false := Joins.unfrozen_of_block ((hb.block B hBlt).trans HB.out) 2
    by_cases hlt : k < bs.length
    · obtain ⟨b, off, rfl, -, hcp, hcm, hbl, q1⟩ := HU.out.at hlt
      have d1 := (hb.cell (p := ⟨b, off + k, none⟩) hbl).trans q1
      unfold maxLen at hcm
      have hhas := rhas_any wr _ (s.wt ++ stampd bs s.now k) (nthI bs k) hrow.seg (by rw [List.length_append]; omega)
      have HQ1 := Lib.hid q1
      clear q1
      cases hx : has (s.wt ++ stampd bs s.now k) (nthI bs k)
      · rw [hx] at hhas
        have HHA := Lib.hid hhas
        rw [has_stamped] at hx
        have hfk1 : Hid (fresh (names s.wt) (bs.take (k + 1)) = true) := by
          show _ = true
          rw [take_snoc hlt, fresh_snoc, hfk.out, List.contains_append, hx]; rfl
        have HS := Lib.hid (stamp_succ hlt s.now)
        clear hx hhas
        go_wp2_with fail
        refine HHA.out.mono ?_
        rintro e w' ⟨rfl, hw'⟩
        subst hw'
        go_wp2
        have hrowA : OwnI (wr.alloc (.cells #[.int .i64 (nthI bs k), .int .i64 s.now] 62)).drew w.heap.size u5 (s.wt ++ stampd bs s.now k) := hrow.alloc _
        have honeA : RdI (wr.alloc (.cells #[.int .i64 (nthI bs k), .int .i64 s.now] 62)).drew (.slice (some ⟨wr.heap.size, 0, none⟩) 1 1) [(nthI bs k, s.now)] := RdI.one wr _ _ _ rfl
        have hl1 : (s.wt ++ stampd bs s.now k).length + [(nthI bs k, s.now)].length < 1000000000 := by rw [List.length_append]; simp; omega
        have hl2 : w.heap.size ≤ (wr.alloc (.cells #[.int .i64 (nthI bs k), .int .i64 s.now] 62)).drew.heap.size := by show w.heap.size ≤ (wr.alloc _).heap.size; simp; omega
        have HB2 := Lib.hid (show ∀ w2, (wr.alloc (.cells #[.int .i64 (nthI bs k), .int .i64 s.now] 62)).drew.grownBy w2 u5.ownBlock → Below w.heap.size w w2 from fun w2 hg2 => (hb.alloc hb.size _).drew.grown hg2 hl2 (fun j hj => (hrow.lt hj).1))
        have HA := Lib.hid hrowA
        have HO1 := Lib.hid honeA
        have HL1 := Lib.hid hl1
        have HL2 := Lib.hid hl2
        clear hrowA honeA hl1 hl2
        go_region_held3 (fun w' => w'.cell? ⟨b, off + k, none⟩ = some (.int .i64 (nthI bs k)) ∧ w'.cell? ⟨B, 2, none⟩ = some (.int .i64 s.now)) (first | go_keep | exact ⟨((HB2.out _ hg2).cell (p := ⟨b, off + k, none⟩) hbl).trans HQ1.out, ((HB2.out _ hg2).cell (p := ⟨B, 2, none⟩) hBlt).trans k2⟩) ((refine step_append_rdI _ (by rfl) _ _ (by rfl) (by rfl) w.heap.size _ _ (s.wt ++ stampd bs s.now k) [(nthI bs k, s.now)] (by rfl) (by rfl) HA.out HO1.out HL1.out HL2.out ?_; intro v2 w2 hrow2 hg2))
        have HN := Lib.hid (show OwnI w2 w.heap.size v2 (s.wt ++ stampd bs s.now (k + 1)) ∧ Below w.heap.size w w2 from ⟨by rw [HS.out, ← List.append_assoc]; simpa using hrow2, HB2.out _ hg2⟩)
        clear hrow2 hg2 hrow hb m1 m2 f1 f2 d1
        go_wp2
        go_roundw
        case rel => exact ⟨k + 1, by omega, by go_num, hfk1, HN.out.1, HN.out.2⟩
        case measure => simp [intOf]; omega
      · rw [hx] at hhas
        have HHA := Lib.hid hhas
        rw [has_stamped] at hx
        have E := Lib.hid (HNO.out (fresh_fails hlt hx))
        have HE := Lib.hid (HBEL.out wr hb)
        clear hx hhas hrow hb
        go_wp2_with fail
        refine HHA.out.mono ?_
        rintro e w' ⟨rfl, hw'⟩
        subst hw'
        go_wp2
        go_ret
        rw [E.out.1, E.out.2]
        exact ⟨rfl, HE.out⟩
    · obtain rfl : k = bs.length := by omega
      have hfr : fresh (names s.wt) bs = true := by have := hfk.out; rwa [List.take_length] at this
      have hfin := HOK.out hfr wr u5 hb hrow
      obtain ⟨a2, n2, c2', hsh2⟩ := hrow.form
      subst hsh2
      have HFI := Lib.hid hfin
      clear hfin hrow hb hfr hfk
      go_wp2
      go_ret
      rw [HFI.out.1]
      exact ⟨rfl, HFI.out.2⟩

end Go.Proofs.Ytphmfmfbneoljaa.Ep
