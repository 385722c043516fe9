/- Contract of Leave of the specification's object. -/
import Derived.Test.YtphmfmfbneoljaaWalkT
namespace Go.Proofs.Ytphmfmfbneoljaa.Ep
open Go Go.RowKit Go.Maps

theorem out_take_no {l : List (Int × Int)} {k : Nat} {x : Int} (h : k < l.length) (hx : (nth l k).1 = x) : out x (l.take (k + 1)) = out x (l.take k) := by
  rw [take_item h]; unfold out; rw [List.filter_append]; simp [hx]
theorem out_take_yes {l : List (Int × Int)} {k : Nat} {x : Int} (h : k < l.length) (hx : (nth l k).1 ≠ x) : out x (l.take (k + 1)) = out x (l.take k) ++ [((nth l k).1, (nth l k).2)] := by
  rw [take_item h]; unfold out; rw [List.filter_append]; simp [hx]
theorem out_length_le (x : Int) (l : List (Int × Int)) : (out x l).length ≤ l.length := List.length_filter_le _ _
theorem out_take_le (x : Int) (l : List (Int × Int)) (k : Nat) : (out x (l.take k)).length ≤ l.length := by
  have := out_length_le x (l.take k)
  simp at this
  omega

set_option maxHeartbeats 2000000 in
set_option maxRecDepth 100000 in
theorem rleave_any (w : World) (B : Nat) (s : St) (F : Nat → Prop) (c : Nat) (x : Int) (h : RObj w B s F c) (hc : c < 1000000) :
    Calls Try.prog 26 #[.pointer (some ⟨B, 0, none⟩), .int .i64 x] w fun e w' => e = .returned (.int .i64 (s.leaveErr x)) ∧ ∃ F', RObj w' B (s.leave x) F' c ∧ Moves F F' w w' := by
  have hO := h
  obtain ⟨vR, vW, hB, hR, hW, hd, c1, c2, c3, hi, rfl⟩ := h
  have k0 : w.cell? ⟨B, 0, none⟩ = some vR := by simp [World.cell?, hB]
  have hBlt : B < w.heap.size := (Array.getElem?_eq_some_iff.1 hB).1
  have HAS := Lib.hid (rhas_any w vR s.rd x hR (by omega))
  cases hh : has s.rd x
  · have hE : s.leave x = s := by simp [St.leave, hh]
    have hR0 : s.leaveErr x = 5 := by simp [St.leaveErr, hh]
    rw [hE, hR0]
    rw [hh] at HAS
    clear hE hR0 hh hB hW hd hi hR
    go_enter Try.func26, Try.ntmps26
    go_wp2_with fail
    refine HAS.out.mono ?_
    rintro e w' ⟨rfl, hw'⟩
    subst hw'
    go_wp2
    go_ret
    exact ⟨rfl, _, hO, Moves.refl _ _⟩
  · have hE : s.leave x = { s with rd := out x s.rd } := by simp [St.leave, hh]
    have hR0 : s.leaveErr x = 0 := by simp [St.leaveErr, hh]
    have hie := hi.leave x
    rw [hE] at hie
    rw [hE, hR0]
    rw [hh] at HAS
    have HFIN := Lib.hid (fun w' v' hb hrow => RObj.setR (w' := w') (v' := v') (c := c) (c' := c) (l' := out x s.rd) hB hW hd.2 c2 c3 (Nat.le_refl _) hb hrow (Nat.le_trans (out_length_le _ _) c1) hie)
    have hpos : s.rd ≠ [] := fun e => by rw [e] at hh; cases hh
    have HB := Lib.hid hB
    have HSEG := Lib.hid hR
    have HLE := Lib.hid (out_take_le x s.rd)
    clear hE hR0 hie hh hB hW hd hO hi
    obtain ⟨hx1, ⟨rfl, h0⟩ | ⟨g, off, cap, cur, rfl, hhh, hn, hcm, hsz, hx⟩⟩ := hR
    · exact absurd (List.length_eq_zero_iff.1 h0) hpos
    · have HC := Lib.hid (HSEG.out.pair rfl)
      have hg : g < w.heap.size := HSEG.out.lt rfl
      unfold maxLen at hcm
      clear hx1 hhh hsz hx hpos HSEG
      go_enter Try.func26, Try.ntmps26
      go_wp2_with fail
      refine HAS.out.mono ?_
      rintro e w' ⟨rfl, hw'⟩
      subst hw'
      go_wp2
      go_loopw [6, 7] (fun u i wr => ∃ k : Nat, k ≤ s.rd.length ∧ i = .int .i64 k ∧ OwnI wr w.heap.size u (out x (s.rd.take k)) ∧ Below w.heap.size w wr) (fun _ i _ => s.rd.length - (intOf i).toNat)
      case atStart => exact ⟨0, Nat.zero_le _, rfl, OwnI.nil _ _, Below.refl _ _⟩
      case round =>
        obtain ⟨k, hk, rfl, p2, p3⟩ := hrel
        have j0 := (p3.cell (p := ⟨B, 0, none⟩) hBlt).trans k0
        have hsz := p3.size
        have hle := HLE.out k
        by_cases hlt : k < s.rd.length
        · obtain ⟨q1, q2⟩ := HC.out k hlt
          have d1 := (p3.cell (p := ⟨g, off + k * 2, none⟩) hg).trans q1
          have d2 := (p3.cell (p := ⟨g, off + k * 2 + 1, none⟩) hg).trans q2
          clear q1 q2
          by_cases hxk : (nth s.rd k).1 = x
          · have hN : Hid (OwnI wr w.heap.size u6 (out x (s.rd.take (k + 1)))) := by rw [out_take_no hlt hxk]; exact p2
            have hq : ((nth s.rd k).1 != x) = false := by simp [hxk]
            clear hxk p2
            go_wp2
            go_roundw
            case rel => exact ⟨k + 1, by omega, by go_num, hN.out, p3⟩
            case measure => simp [intOf]; omega
          · have HS := Lib.hid (out_take_yes hlt hxk)
            have hq : ((nth s.rd k).1 != x) = true := by simpa using hxk
            have p2a := p2.alloc (.cells #[.int .i64 (nth s.rd k).1, .int .i64 (nth s.rd k).2] 62)
            have hone := RdI.one wr (nth s.rd k).1 (nth s.rd k).2 wr.heap.size rfl
            clear hxk
            go_wp2_with (at_builtin; refine wpList_append_rdI _ rfl _ _ rfl rfl w.heap.size _ _ (out x (s.rd.take k)) [((nth s.rd k).1, (nth s.rd k).2)] rfl rfl p2a hone ?c1 ?c2 ?_)
            case c1 => first | omega | (simp; omega)
            case c2 => first | omega | (simp; omega)
            intro v1 w1 hrow1 hg1
            have hN : Hid (OwnI w1 w.heap.size v1 (out x (s.rd.take (k + 1)))) := by rw [HS.out]; exact hrow1
            have b1 : Below w.heap.size w w1 := (p3.alloc p3.size _).grown hg1 (by simp; omega) (fun j hj => (p2.lt hj).1)
            clear hrow1 hg1 p2 p2a hone p3 HS j0 d1 d2
            go_wp2
            go_roundw
            case rel => exact ⟨k + 1, by omega, by go_num, hN.out, b1⟩
            case measure => simp [intOf]; omega
        · obtain rfl : k = s.rd.length := by omega
          have hrow : OwnI wr w.heap.size u6 (out x s.rd) := by rwa [List.take_length] at p2
          have hfin := HFIN.out wr u6 p3 hrow
          have f2 : wr.frozen? ⟨B, 0, none⟩ = false := Joins.unfrozen_of_block ((p3.block B hBlt).trans HB.out) 0
          obtain ⟨a2, n2, c2', hsh2⟩ := hrow.form
          subst hsh2
          have HFI := Lib.hid hfin
          clear hfin hrow p2 p3
          go_wp2
          go_ret
          exact ⟨rfl, HFI.out⟩

end Go.Proofs.Ytphmfmfbneoljaa.Ep
