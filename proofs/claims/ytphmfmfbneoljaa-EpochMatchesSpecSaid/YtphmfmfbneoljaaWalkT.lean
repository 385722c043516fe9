/- Contract of Enter of the specification's object. -/
import Derived.Test.YtphmfmfbneoljaaItems
namespace Go.Proofs.Ytphmfmfbneoljaa.Ep
open Go Go.RowKit Go.Maps

theorem ins_split {l : List (Int × Int)} {x e : Int} {k : Nat} (hk : k ≤ l.length) (h1 : ∀ j, j < k → (nth l j).1 < x) (h2 : k = l.length ∨ x < (nth l k).1) : ins x e l = l.take k ++ (x, e) :: l.drop k := by
  induction l generalizing k with
  | nil => simp at hk; subst hk; rfl
  | cons y r ih =>
    cases k with
    | zero =>
      have : x < y.1 := by
        rcases h2 with h2 | h2
        · simp at h2
        · simpa [nth] using h2
      simp [ins, this]
    | succ k =>
      have h0 : y.1 < x := by have := h1 0 (by omega); simpa [nth] using this
      have := ih (k := k) (by simpa using hk) (fun j hj => by have := h1 (j + 1) (by omega); simpa [nth] using this) (by
        rcases h2 with h2 | h2
        · left; simpa using h2
        · right; simpa [nth] using h2)
      unfold ins
      rw [if_neg (by omega), this]
      rfl

theorem take_item {l : List (Int × Int)} {k : Nat} (h : k < l.length) : l.take (k + 1) = l.take k ++ [((nth l k).1, (nth l k).2)] := by
  rw [List.take_add_one, nth_getElem h]; rfl
/-- The object after a new row has been stored for its readers. -/
theorem RObj.setR {w w' : World} {B : Nat} {s : St} {c c' : Nat} {vR vW v' : Value} {l' : List (Int × Int)}
    (hB : w.heap[B]? = some (.cells #[vR, vW, .int .i64 s.now] 40 (0, 0))) (hW : Seg w 62 2 vW s.wt.length (itemCells s.wt)) (hd : vW.ownBlock ≠ some B) (c2 : s.wt.length ≤ c) (c3 : s.now ≤ c + 1) (hcc : c ≤ c')
    (hb : Below w.heap.size w w') (hrow : OwnI w' w.heap.size v' l') (hl : l'.length ≤ c') (hi : Inv { s with rd := l' }) :
    ∃ F', RObj (w'.setCell ⟨B, 0, none⟩ v') B { s with rd := l' } F' c' ∧ Moves (fun k => k = B ∨ vR.ownBlock = some k ∨ vW.ownBlock = some k) F' w (w'.setCell ⟨B, 0, none⟩ v') := by
  have hBlt : B < w.heap.size := (Array.getElem?_eq_some_iff.1 hB).1
  have hB' := (hb.block B hBlt).trans hB
  have hv : v'.ownBlock ≠ some B := fun h => by have := (hrow.lt h).1; omega
  refine ⟨_, ⟨v', vW, ?_, ?_, ?_, ⟨hv, hd⟩, hl, by show s.wt.length ≤ _; omega, by show s.now ≤ _; omega, hi, rfl⟩, ?_⟩
  · have := Joins.block_setCell hB' (i := 0) v'
    simpa using this
  · exact hrow.seg.carry (fun j hj => Below.heap_setCell _ _ _ _ (fun e => hv (by rw [hj, e])))
  · exact hW.carry (fun j hj => (Below.heap_setCell _ _ _ _ (fun e => hd (by rw [hj, e]))).trans (hb.block j (hW.lt hj)))
  · refine ⟨hb.os, hb.tape, hb.output, by simpa using hb.size, fun j hj hF => ?_, fun j hF => ?_⟩
    · rw [Below.heap_setCell _ _ _ _ (fun e => hF (Or.inl e))]; exact hb.block j hj
    · rcases hF with h | h | h
      · exact Or.inl (Or.inl h)
      · exact Or.inr ((hrow.lt h).1)
      · exact Or.inl (Or.inr (Or.inr h))

set_option maxHeartbeats 2000000 in
set_option maxRecDepth 100000 in
theorem renter_any (w : World) (B : Nat) (s : St) (F : Nat → Prop) (c : Nat) (x : Int) (h : RObj w B s F c) (hc : c < 1000000) :
    Calls Try.prog 25 #[.pointer (some ⟨B, 0, none⟩), .int .i64 x] w fun e w' => e = .returned (.int .i64 (s.enterErr x)) ∧ ∃ F', RObj w' B (s.enter x) F' (c + 1) ∧ Moves F F' w w' := by
  have hO := h
  obtain ⟨vR, vW, hB, hR, hW, hd, c1, c2, c3, hi, rfl⟩ := h
  have k0 : w.cell? ⟨B, 0, none⟩ = some vR := by simp [World.cell?, hB]
  have k2 : w.cell? ⟨B, 2, none⟩ = some (.int .i64 s.now) := by simp [World.cell?, hB]
  have hBlt : B < w.heap.size := (Array.getElem?_eq_some_iff.1 hB).1
  have HAS := Lib.hid (rhas_any w vR s.rd x hR (by omega))
  cases hh : has s.rd x
  · have hE : s.enter x = { s with rd := ins x s.now s.rd } := by simp [St.enter, hh]
    have hR0 : s.enterErr x = 0 := by simp [St.enterErr, hh]
    have hie := hi.enter x
    rw [hE] at hie
    rw [hE, hR0]
    rw [hh] at HAS
    have HNE := Lib.hid (has_false hh)
    have HFIN := Lib.hid (fun w' v' hb hrow => RObj.setR (w' := w') (v' := v') (c := c) (c' := c + 1) (l' := ins x s.now s.rd) hB hW hd.2 c2 c3 (by omega) hb hrow (by rw [ins_length]; omega) hie)
    obtain ⟨i0, hi0, hz0, hz1, hz2⟩ := info_parts Try.info62
    have HB := Lib.hid hB
    have HSEG := Lib.hid hR
    clear hE hR0 hie hh hB hW hd hO hi
    obtain ⟨hx1, ⟨rfl, h0⟩ | ⟨g, off, cap, cur, rfl, hhh, hn, hcm, hsz, hx⟩⟩ := hR
    · have hrd : s.rd = [] := List.length_eq_zero_iff.1 h0
      have hins : ins x s.now s.rd = [(x, s.now)] := by rw [hrd]; rfl
      have HIN := Lib.hid hins
      have hone := RdI.one w x s.now w.heap.size rfl
      have hnil := (OwnI.nil w w.heap.size).alloc (.cells #[.int .i64 x, .int .i64 s.now] 62)
      clear hrd hins hx1 h0 HSEG
      go_enter Try.func25, Try.ntmps25
      go_wp2_with fail
      refine HAS.out.mono ?_
      rintro e w' ⟨rfl, hw'⟩
      subst hw'
      go_wp2
      refine wp_loop_rounds 1 ?_
      rw [rounds_succ]
      go_wp2_with (at_builtin; refine wpList_append_rdI _ rfl _ _ rfl rfl w.heap.size _ _ [] [(x, s.now)] rfl rfl hnil hone ?n1 ?n2 ?_)
      case n1 => simp
      case n2 => simp
      intro v1 w1 hrow1 hg1
      have b1 : Below w.heap.size w w1 := ((Below.refl _ _).alloc (Nat.le_refl _) _).grown hg1 (by simp) (fun j hj => by cases hj)
      have m0 := (b1.cell (p := ⟨B, 0, none⟩) hBlt).trans k0
      have hsz1 := b1.size
      clear hnil hone
      go_wp2_with (at_builtin; refine wpList_append_rdI _ rfl _ _ rfl rfl w.heap.size _ _ [(x, s.now)] [] rfl rfl hrow1 ?n3 ?n4 ?n5 ?_)
      case n3 => exact RdI.zero rfl
      case n4 => simp
      case n5 => exact hsz1
      intro v2 w2 hrow2 hg2
      have b2 : Below w.heap.size w w2 := b1.grown hg2 hsz1 (fun j hj => (hrow1.lt hj).1)
      have m2 := (b2.cell (p := ⟨B, 0, none⟩) hBlt).trans k0
      have f2 : w2.frozen? ⟨B, 0, none⟩ = false := Joins.unfrozen_of_block ((b2.block B hBlt).trans HB.out) 0
      have hfin := HFIN.out w2 v2 b2 (by rw [HIN.out]; simpa using hrow2)
      obtain ⟨a2, n2, c2', hsh2⟩ := hrow2.form
      subst hsh2
      have HFI := Lib.hid hfin
      clear hrow2 hg2 hg1 hrow1 b1 b2 m0 hfin
      go_wp2
      go_ret
      exact ⟨rfl, HFI.out⟩
    · have HC := Lib.hid (HSEG.out.pair rfl)
      have hg : g < w.heap.size := HSEG.out.lt rfl
      have HRD := Lib.hid (RdI.of_seg HSEG.out)
      unfold maxLen at hcm
      clear hx1 hhh hsz hx
      go_enter Try.func25, Try.ntmps25
      go_wp2_with fail
      refine HAS.out.mono ?_
      rintro e w' ⟨rfl, hw'⟩
      subst hw'
      go_wp2
      go_loopw [6, 7] (fun u i wr => ∃ k : Nat, k ≤ s.rd.length ∧ i = .int .i64 k ∧ Hid ((∀ j, j < k → (nth s.rd j).1 < x) ∧ OwnI wr w.heap.size u (s.rd.take k) ∧ Below w.heap.size w wr)) (fun _ i _ => s.rd.length - (intOf i).toNat)
      case atStart => exact ⟨0, Nat.zero_le _, rfl, fun j hj => by omega, OwnI.nil _ _, Below.refl _ _⟩
      case round =>
        obtain ⟨k, hk, rfl, hP⟩ := hrel
        obtain ⟨p1, p2, p3⟩ := hP.out
        have HP1 := Lib.hid p1
        have j0 := (p3.cell (p := ⟨B, 0, none⟩) hBlt).trans k0
        have j2 := (p3.cell (p := ⟨B, 2, none⟩) hBlt).trans k2
        clear p1
        by_cases hlt : k < s.rd.length
        · obtain ⟨q1, q2⟩ := HC.out k hlt
          have d1 := (p3.cell (p := ⟨g, off + k * 2, none⟩) hg).trans q1
          have d2 := (p3.cell (p := ⟨g, off + k * 2 + 1, none⟩) hg).trans q2
          clear q1 q2
          by_cases hxk : (nth s.rd k).1 < x
          · have HS := Lib.hid (take_item hlt)
            have p2a := p2.alloc (.cells #[.int .i64 (nth s.rd k).1, .int .i64 (nth s.rd k).2] 62)
            have hone := RdI.one wr (nth s.rd k).1 (nth s.rd k).2 wr.heap.size rfl
            have hsz := p3.size
            go_wp2_with (at_builtin; refine wpList_append_rdI _ rfl _ _ rfl rfl w.heap.size _ _ (s.rd.take k) [((nth s.rd k).1, (nth s.rd k).2)] rfl rfl p2a hone ?c1 ?c2 ?_)
            case c1 => first | omega | (simp; omega)
            case c2 => first | omega | (simp; omega)
            intro v1 w1 hrow1 hg1
            have hN : Hid ((∀ j, j < k + 1 → (nth s.rd j).1 < x) ∧ OwnI w1 w.heap.size v1 (s.rd.take (k + 1)) ∧ Below w.heap.size w w1) :=
              ⟨fun j hj => by
                by_cases e : j = k
                · subst e; exact hxk
                · exact HP1.out j (by omega), by rw [HS.out]; exact hrow1, (p3.alloc p3.size _).grown hg1 (by simp; omega) (fun j hj => (p2.lt hj).1)⟩
            clear hrow1 hg1 p2 p2a hone p3 HS hxk
            go_wp2
            go_roundw
            case rel => exact ⟨k + 1, by omega, by go_num, hN⟩
            case measure => simp [intOf]; omega
          · have hins : ins x s.now s.rd = (s.rd.take k ++ [(x, s.now)]) ++ s.rd.drop k := by
              rw [ins_split hk HP1.out (Or.inr (by have := HNE.out _ (List.mem_of_getElem? (nth_getElem hlt)); omega))]
              simp
            have HIN := Lib.hid hins
            clear hins
            obtain ⟨au, cu, hsh⟩ := p2.shape
            rw [show (s.rd.take k).length = k by simp; omega] at hsh
            subst hsh
            have p2a := p2.alloc (.cells #[.int .i64 x, .int .i64 s.now] 62)
            have hone := RdI.one wr x s.now wr.heap.size rfl
            have hsz := p3.size
            go_wp2_with (at_builtin; refine wpList_append_rdI _ rfl _ _ rfl rfl w.heap.size _ _ (s.rd.take k) [(x, s.now)] rfl rfl p2a hone ?a1 ?a2 ?_)
            case a1 => first | omega | (simp; omega)
            case a2 => first | omega | (simp; omega)
            intro v1 w1 hrow1 hg1
            have b1 : Below w.heap.size w w1 := (p3.alloc p3.size _).grown hg1 (by simp; omega) (fun j hj => (p2.lt hj).1)
            have m0 := (b1.cell (p := ⟨B, 0, none⟩) hBlt).trans k0
            have hsz1 := b1.size
            clear p2 p2a hone p3 j0 j2 hsz
            go_wp2_with (at_builtin; refine wpList_append_rdI _ rfl _ _ rfl rfl w.heap.size _ _ (s.rd.take k ++ [(x, s.now)]) (s.rd.drop k) rfl rfl hrow1 ?a3 ?a4 ?a5 ?_)
            case a3 => exact (HRD.out.below b1).dropped hlt
            case a4 => first | omega | (simp; omega)
            case a5 => exact hsz1
            intro v2 w2 hrow2 hg2
            have b2 : Below w.heap.size w w2 := b1.grown hg2 hsz1 (fun j hj => (hrow1.lt hj).1)
            have m2 := (b2.cell (p := ⟨B, 0, none⟩) hBlt).trans k0
            have f2 : w2.frozen? ⟨B, 0, none⟩ = false := Joins.unfrozen_of_block ((b2.block B hBlt).trans HB.out) 0
            have hfin := HFIN.out w2 v2 b2 (by rw [HIN.out]; simpa using hrow2)
            obtain ⟨a2, n2, c2', hsh2⟩ := hrow2.form
            subst hsh2
            have HFI := Lib.hid hfin
            clear hrow2 hg2 hg1 hrow1 b1 b2 m0 hfin
            go_wp2
            go_ret
            exact ⟨rfl, HFI.out⟩
        · have hkl : k = s.rd.length := by omega
          have hins : ins x s.now s.rd = (s.rd.take k ++ [(x, s.now)]) ++ [] := by
            rw [ins_split hk HP1.out (Or.inl hkl), hkl]
            simp
          have HIN := Lib.hid hins
          have HKL := Lib.hid hkl
          clear hins hkl
          by_cases hcap : cap = k
          · replace hcap := hcap.symm
            subst hcap
            obtain ⟨au, cu, hsh⟩ := p2.shape
            rw [show (s.rd.take k).length = k by simp; omega] at hsh
            subst hsh
            have p2a := p2.alloc (.cells #[.int .i64 x, .int .i64 s.now] 62)
            have hone := RdI.one wr x s.now wr.heap.size rfl
            have hsz := p3.size
            go_wp2_with (at_builtin; refine wpList_append_rdI _ rfl _ _ rfl rfl w.heap.size _ _ (s.rd.take k) [(x, s.now)] rfl rfl p2a hone ?b1 ?b2 ?_)
            case b1 => first | omega | (simp; omega)
            case b2 => first | omega | (simp; omega)
            intro v1 w1 hrow1 hg1
            have b1 : Below w.heap.size w w1 := (p3.alloc p3.size _).grown hg1 (by simp; omega) (fun j hj => (p2.lt hj).1)
            have m0 := (b1.cell (p := ⟨B, 0, none⟩) hBlt).trans k0
            have hsz1 := b1.size
            clear p2 p2a hone p3 j0 j2 hsz
            go_wp2_with (at_builtin; refine wpList_append_rdI _ rfl _ _ rfl rfl w.heap.size _ _ (s.rd.take k ++ [(x, s.now)]) ([]) rfl rfl hrow1 ?b3 ?b4 ?b5 ?_)
            case b3 => exact RdI.zero (by have := HKL.out; omega)
            case b4 => first | omega | (simp; omega)
            case b5 => exact hsz1
            intro v2 w2 hrow2 hg2
            have b2 : Below w.heap.size w w2 := b1.grown hg2 hsz1 (fun j hj => (hrow1.lt hj).1)
            have m2 := (b2.cell (p := ⟨B, 0, none⟩) hBlt).trans k0
            have f2 : w2.frozen? ⟨B, 0, none⟩ = false := Joins.unfrozen_of_block ((b2.block B hBlt).trans HB.out) 0
            have hfin := HFIN.out w2 v2 b2 (by rw [HIN.out]; simpa using hrow2)
            obtain ⟨a2, n2, c2', hsh2⟩ := hrow2.form
            subst hsh2
            have HFI := Lib.hid hfin
            clear hrow2 hg2 hg1 hrow1 b1 b2 m0 hfin
            go_wp2
            go_ret
            exact ⟨rfl, HFI.out⟩
          · obtain ⟨au, cu, hsh⟩ := p2.shape
            rw [show (s.rd.take k).length = k by simp; omega] at hsh
            subst hsh
            have p2a := p2.alloc (.cells #[.int .i64 x, .int .i64 s.now] 62)
            have hone := RdI.one wr x s.now wr.heap.size rfl
            have hsz := p3.size
            go_wp2_with (at_builtin; refine wpList_append_rdI _ rfl _ _ rfl rfl w.heap.size _ _ (s.rd.take k) [(x, s.now)] rfl rfl p2a hone ?d1 ?d2 ?_)
            case d1 => first | omega | (simp; omega)
            case d2 => first | omega | (simp; omega)
            intro v1 w1 hrow1 hg1
            have b1 : Below w.heap.size w w1 := (p3.alloc p3.size _).grown hg1 (by simp; omega) (fun j hj => (p2.lt hj).1)
            have m0 := (b1.cell (p := ⟨B, 0, none⟩) hBlt).trans k0
            have hsz1 := b1.size
            clear p2 p2a hone p3 j0 j2 hsz
            go_wp2_with (at_builtin; refine wpList_append_rdI _ rfl _ _ rfl rfl w.heap.size _ _ (s.rd.take k ++ [(x, s.now)]) ([]) rfl rfl hrow1 ?d3 ?d4 ?d5 ?_)
            case d3 => exact RdI.zero (by have := HKL.out; omega)
            case d4 => first | omega | (simp; omega)
            case d5 => exact hsz1
            intro v2 w2 hrow2 hg2
            have b2 : Below w.heap.size w w2 := b1.grown hg2 hsz1 (fun j hj => (hrow1.lt hj).1)
            have m2 := (b2.cell (p := ⟨B, 0, none⟩) hBlt).trans k0
            have f2 : w2.frozen? ⟨B, 0, none⟩ = false := Joins.unfrozen_of_block ((b2.block B hBlt).trans HB.out) 0
            have hfin := HFIN.out w2 v2 b2 (by rw [HIN.out]; simpa using hrow2)
            obtain ⟨a2, n2, c2', hsh2⟩ := hrow2.form
            subst hsh2
            have HFI := Lib.hid hfin
            clear hrow2 hg2 hg1 hrow1 b1 b2 m0 hfin
            go_wp2
            go_ret
            exact ⟨rfl, HFI.out⟩
  · have hE : s.enter x = s := by simp [St.enter, hh]
    have hR0 : s.enterErr x = 6 := by simp [St.enterErr, hh]
    rw [hE, hR0]
    rw [hh] at HAS
    clear hE hR0 hh hB hW hd hi hR
    go_enter Try.func25, Try.ntmps25
    go_wp2_with fail
    refine HAS.out.mono ?_
    rintro e w' ⟨rfl, hw'⟩
    subst hw'
    go_wp2
    go_ret
    exact ⟨rfl, _, hO.mono (by omega), Moves.refl _ _⟩

end Go.Proofs.Ytphmfmfbneoljaa.Ep
