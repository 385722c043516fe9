/- The example that the statements of layer 10 play first returns true; nothing that was there changes. -/
import Derived.Test.YtcngblnkfiggjaaDoorWalkM
import Derived.LaidEqlPtr
namespace Go.Proofs.YtcngblnkfiggjaaDoor.Rm
open Go Go.RowKit Go.Maps Go.Shelf

theorem eqPtr59 (w : World) (a : Addr) : (binOp .eql 59 (.pointer (some a)) (.pointer (some a))).run Tryd.prog w = .ok (.bool true) w :=
  run_eql_ptr_same w a (te := Tryd.prog.pointee 59) (j := (Tryd.prog.info? (Tryd.prog.pointee 59)).get (by kernel_rfl)) (by kernel_rfl) (by kernel_rfl)
theorem load_any (w0 w : World) (Bv Bm g cap : Nat) (es : List (Int × Int)) (x y : Int) (h : VO w0 w Bv Bm (.slice (some ⟨g, 0, none⟩) es.length cap) es) (hlen : es.length < 1000000) (hit : Hit es x y) :
    Calls Tryd.prog 48 #[.pointer (some ⟨Bv, 0, none⟩), .int .i64 x] w fun e W' => e = .returned (.tuple #[.int .i64 y, .int .i64 0]) ∧ Below w.heap.size w W' :=
  callsIn_wide.1 (load_in Fence.wide 5 trivial trivial trivial rfl (by omega) w0 w Bv Bm g cap es x y h hlen hit)
theorem VO.shape {w0 w : World} {Bv Bm : Nat} {v : Value} {es : List (Int × Int)} (h : VO w0 w Bv Bm v es) (hp : 0 < es.length) : ∃ g cap, v = .slice (some ⟨g, 0, none⟩) es.length cap := by
  obtain ⟨_, ⟨_, h2⟩ | ⟨g', cap', cur, h2, _⟩⟩ := h.own
  · omega
  · exact ⟨_, _, h2⟩
theorem rdI_new2 (w : World) (a b c d : Int) : RdI (w.alloc (.cells #[.int .i64 a, .int .i64 b, .int .i64 c, .int .i64 d] 55)) (.slice (some ⟨w.heap.size, 0, none⟩) 2 2) [(a, b), (c, d)] :=
  Or.inr ⟨w.heap.size, 0, 2, rfl, by simp, by simp, by unfold maxLen; omega, by simp, fun j hj => by
    simp at hj
    rcases (show j = 0 ∨ j = 1 by omega) with rfl | rfl
    · constructor <;> go_simp <;> rfl
    · constructor <;> go_simp <;> rfl⟩

theorem rdI_new3 (w : World) (a b c d e f : Int) : RdI (w.alloc (.cells #[.int .i64 a, .int .i64 b, .int .i64 c, .int .i64 d, .int .i64 e, .int .i64 f] 55)) (.slice (some ⟨w.heap.size, 0, none⟩) 3 3) [(a, b), (c, d), (e, f)] :=
  Or.inr ⟨w.heap.size, 0, 3, rfl, by simp, by simp, by unfold maxLen; omega, by simp, fun j hj => by
    simp at hj
    rcases (show j = 0 ∨ j = 1 ∨ j = 2 by omega) with rfl | rfl | rfl
    · constructor <;> go_simp <;> rfl
    · constructor <;> go_simp <;> rfl
    · constructor <;> go_simp <;> rfl⟩
/-- The records of the example. -/
def litRw (n : Nat) : List Rec := [⟨0, .slice (some ⟨n, 0, none⟩) 2 2, [(9, 5), (3, 1)]⟩, ⟨0, .slice (some ⟨n + 1, 0, none⟩) 1 1, [(9, 7)]⟩]
theorem recs_lit (w : World) : Recs (((w.alloc (.cells #[.int .i64 9, .int .i64 5, .int .i64 3, .int .i64 1] 55)).alloc (.cells #[.int .i64 9, .int .i64 7] 55)).alloc (.cells #[.int .i64 0, .slice (some ⟨w.heap.size, 0, none⟩) 2 2, .int .i64 0, .slice (some ⟨w.heap.size + 1, 0, none⟩) 1 1] 78)) (.slice (some ⟨w.heap.size + 1 + 1, 0, none⟩) 2 2) (litRw w.heap.size) ∧
    Below w.heap.size w (((w.alloc (.cells #[.int .i64 9, .int .i64 5, .int .i64 3, .int .i64 1] 55)).alloc (.cells #[.int .i64 9, .int .i64 7] 55)).alloc (.cells #[.int .i64 0, .slice (some ⟨w.heap.size, 0, none⟩) 2 2, .int .i64 0, .slice (some ⟨w.heap.size + 1, 0, none⟩) 1 1] 78)) := by
  refine ⟨?_, (((Below.refl _ w).alloc (Nat.le_refl _) _).alloc (by simp) _).alloc (by simp; omega) _⟩
  have a1 := ((rdI_new2 w 9 5 3 1).below ((Below.refl _ _).alloc (Nat.le_refl _) (.cells #[.int .i64 9, .int .i64 7] 55)))
  have a2 := RdI.one (w.alloc (.cells #[.int .i64 9, .int .i64 5, .int .i64 3, .int .i64 1] 55)) 9 7 (w.heap.size + 1) (by simp)
  have hb := (Below.refl ((w.alloc (.cells #[.int .i64 9, .int .i64 5, .int .i64 3, .int .i64 1] 55)).alloc (.cells #[.int .i64 9, .int .i64 7] 55)).heap.size _).alloc (Nat.le_refl _) (.cells #[.int .i64 0, .slice (some ⟨w.heap.size, 0, none⟩) 2 2, .int .i64 0, .slice (some ⟨w.heap.size + 1, 0, none⟩) 1 1] 78)
  have b1 := a1.below hb
  have b2 := a2.below hb
  refine Or.inr ⟨w.heap.size + 1 + 1, 0, 2, rfl, by simp [litRw], by simp [litRw], by unfold maxLen; omega, by simp, fun j hj => ?_⟩
  have hj2 : j < 2 := hj
  rcases (show j = 0 ∨ j = 1 by omega) with rfl | rfl
  · refine ⟨?_, ?_, b1, fun p hp => ?_⟩
    · go_simp; rfl
    · go_simp; rfl
    · have hp' : p ∈ [((9 : Int), (5 : Int)), (3, 1)] := hp
      simp at hp'; rcases hp' with rfl | rfl <;> decide
  · refine ⟨?_, ?_, b2, fun p hp => ?_⟩
    · go_simp; rfl
    · go_simp; rfl
    · have hp' : p ∈ [((9 : Int), (7 : Int))] := hp
      simp at hp'; rcases hp' with rfl; decide

set_option maxHeartbeats 4000000 in
set_option maxRecDepth 100000 in
theorem sanity_any (w : World) : Calls Tryd.prog 22 #[] w fun e w' => e = .returned (.bool true) ∧ Below w.heap.size w w' := by
  go_enter Tryd.func22, Tryd.ntmps22
  go_wp2_with fail
  refine (new2 w).mono ?_
  rintro e w1 ⟨Bm, Bl, rfl, hm, h1, h2, hb⟩
  go_wp2_with fail
  refine (over_any w w1 Bm Bl hm h1 h2 hb).mono ?_
  rintro e w2 ⟨Bv, rfl, X0⟩
  clear hm h1 h2 hb
  go_wp2_with fail
  refine (set_any w w2 Bv Bm _ _ 9 5 X0 (by omega) (by omega) (by omega) (by omega) (by simp)).mono ?_
  rintro e w3 ⟨rfl, v1, X1⟩
  clear X0
  go_wp2_with fail
  refine (set_any w w3 Bv Bm _ _ 3 1 X1 (by omega) (by omega) (by omega) (by omega) (by simp)).mono ?_
  rintro e w4 ⟨rfl, v2, X2⟩
  clear X1
  go_wp2_with fail
  refine (set_any w w4 Bv Bm _ _ 9 7 X2 (by omega) (by omega) (by omega) (by omega) (by simp)).mono ?_
  rintro e w5 ⟨rfl, v3, X3⟩
  clear X2
  obtain ⟨g, cap, rfl⟩ := X3.shape (by simp)
  go_wp2_with fail
  refine (load_any w w5 Bv Bm g cap _ 9 7 X3 (by simp) ⟨0, by simp, by decide, by decide, by omega⟩).mono ?_
  rintro e w6 ⟨rfl, hb6⟩
  have X4 := X3.by hb6
  clear X3 hb6
  go_wp2_with fail
  have HR := Lib.hid (rdI_new2 w6 3 1 9 7)
  have X5 := X4.by ((Below.refl w6.heap.size w6).alloc (Nat.le_refl _) (.cells #[.int .i64 3, .int .i64 1, .int .i64 9, .int .i64 7] 55))
  have hBv6 : Bv < w6.heap.size := (Array.getElem?_eq_some_iff.1 X4.blk).1
  have hlt6 : w6.heap.size < (w6.alloc (.cells #[.int .i64 3, .int .i64 1, .int .i64 9, .int .i64 7] 55)).heap.size := by simp
  clear X4
  refine (entries_any w _ Bv Bm _ _ X5 (by simp) (fun p hp => by simp at hp; rcases hp with rfl | rfl | rfl <;> decide)).mono ?_
  rintro e w7 ⟨r1, rfl, ho1, hb7⟩
  have X6 := X5.by hb7
  have R7 := HR.out.below hb7
  have hlt7 : w6.heap.size < w7.heap.size := Nat.lt_of_lt_of_le hlt6 hb7.size
  clear X5 hb7 HR hlt6
  go_wp2_with fail
  refine (same_any w7 _ _ _ [(3, 1), (9, 7)] ho1.rd R7 (by decide) (by simp)).mono ?_
  rintro e w8 ⟨rfl, hb8⟩
  rw [show sameE (mergeE ([] ++ [(9, 5)] ++ [(3, 1)] ++ [(9, 7)])) [(3, 1), (9, 7)] = true by decide]
  have X7 := X6.by hb8
  have R8 := R7.below hb8
  have hlt8 : w6.heap.size < w8.heap.size := Nat.lt_of_lt_of_le hlt7 hb8.size
  clear X6 hb8 R7 hlt7 ho1
  obtain ⟨c0, c1, f1⟩ := X7.cells
  have HX7 := Lib.hid X7
  have HR8 := Lib.hid R8
  clear X7 R8
  go_wp2_with fail
  refine (m_any w8 _ ⟨_, rfl⟩).mono ?_
  rintro e w9 ⟨rfl, hb9⟩
  have X8 := HX7.out.by hb9
  have R9 := HR8.out.below hb9
  have hlt9 : w6.heap.size < w9.heap.size := Nat.lt_of_lt_of_le hlt8 hb9.size
  clear HX7 HR8 c0 c1 f1 hb9 hlt8
  have hpq := eqPtr59
  go_wp2_with fail
  refine (back_any w w9 Bv Bm g cap _ X8 (by simp) (by simp)).mono ?_
  rintro e w10 ⟨rfl, X9, hw10⟩
  have R10 : RdI w10 (.slice (some ⟨w6.heap.size, 0, none⟩) 2 2) [(3, 1), (9, 7)] := by
    rcases R9 with ⟨_, _, h0, _⟩ | ⟨b, off, c, h0, q1, q2, q3, q4, q5⟩
    · cases h0
    · simp only [Value.slice.injEq, Option.some.injEq, Addr.mk.injEq, and_true] at h0
      obtain ⟨⟨rfl, rfl⟩, _, rfl⟩ := h0
      have hc : ∀ o, w10.cell? ⟨w6.heap.size, o, none⟩ = w9.cell? ⟨w6.heap.size, o, none⟩ := fun o => by
        rw [hw10]
        exact World.cell?_of_block (Below.heap_setCell _ _ _ _ (fun e => by have e' : w6.heap.size = Bv := e; omega))
      exact Or.inr ⟨_, 0, 2, rfl, q1, q2, q3, by rw [hw10]; simpa using hlt9, fun j hj => by rw [hc, hc]; exact q5 j hj⟩
  have hlt10 : w6.heap.size < w10.heap.size := by rw [hw10]; simpa using hlt9
  clear X8 R9 hw10 hlt9
  go_wp2_with fail
  refine (load_any w w10 Bv Bm g cap [(9, 5), (3, 1)] 9 5 X9 (by simp) ⟨1, by simp, by decide, by decide, fun j hj => by rw [show j = 0 by omega]; decide⟩).mono ?_
  rintro e w11 ⟨rfl, hb11⟩
  have X10 := X9.by hb11
  have R11 := R10.below hb11
  clear X9 R10 hb11 hlt10
  go_wp2_with fail
  refine (size_any w w11 Bv Bm _ _ X10).mono ?_
  rintro e w12 ⟨rfl, hw12⟩
  subst hw12
  go_wp2_with fail
  have hB11 := X10.below
  clear X10
  obtain ⟨hRec, hBel⟩ := recs_lit w11
  have hB12 := below_next hB11 hBel
  have R12 := R11.below hBel
  clear hB11 R11 hBel
  generalize ((w11.alloc (.cells #[.int .i64 9, .int .i64 5, .int .i64 3, .int .i64 1] 55)).alloc (.cells #[.int .i64 9, .int .i64 7] 55)).alloc (.cells #[.int .i64 0, .slice (some ⟨w11.heap.size, 0, none⟩) 2 2, .int .i64 0, .slice (some ⟨w11.heap.size + 1, 0, none⟩) 1 1] 78) = w12 at hRec hB12 R12 ⊢
  refine (merge_any w12 _ _ (litRw w11.heap.size) hRec (by simp [litRw, allE]) (fun p hp => by simp [litRw, allE] at hp; rcases hp with rfl | rfl | rfl <;> decide) (by simp [litRw])).mono ?_
  rintro e w13 ⟨r2, rfl, ho2, hb13⟩
  rw [show mergeE (allE (litRw w11.heap.size)) = [(3, 1), (9, 7)] by show mergeE [(9, 5), (3, 1), (9, 7)] = _; decide] at ho2
  have R13 := R12.below hb13
  have hB13 := below_next hB12 hb13
  have hr2 := ho2.rd
  clear hRec hB12 R12 hb13 ho2
  go_wp2_with fail
  have L13 := rdI_new3 w13 9 0 3 0 8 0
  have hb14 := (Below.refl w13.heap.size w13).alloc (Nat.le_refl _) (.cells #[.int .i64 9, .int .i64 0, .int .i64 3, .int .i64 0, .int .i64 8, .int .i64 0] 55)
  have R14 := R13.below hb14
  have Q14 := hr2.below hb14
  have hB14 := below_next hB13 hb14
  clear R13 hr2 hB13 hb14
  generalize w13.alloc (.cells #[.int .i64 9, .int .i64 0, .int .i64 3, .int .i64 0, .int .i64 8, .int .i64 0] 55) = w14 at L13 R14 Q14 hB14 ⊢
  refine (lines_any w14 _ _ [(9, 0), (3, 0), (8, 0)] L13 (by simp) (fun p hp => by simp at hp; rcases hp with rfl | rfl | rfl <;> decide) (fun p hp => by simp at hp; rcases hp with rfl | rfl | rfl <;> decide)).mono ?_
  rintro e w15 ⟨r3, rfl, ho3, hb15⟩
  rw [show linesE [(9, 0), (3, 0), (8, 0)] = [0, 1] by decide] at ho3
  have R15 := R14.below hb15
  have Q15 := Q14.below hb15
  have hB15 := below_next hB14 hb15
  clear R14 Q14 hB14 hb15 L13
  go_wp2_with fail
  refine (same_any w15 _ _ _ _ Q15 R15 (by simp) (by simp)).mono ?_
  rintro e w16 ⟨rfl, hb16⟩
  rw [show sameE [(3, 1), (9, 7)] [(3, 1), (9, 7)] = true by decide]
  have hB16 := below_next hB15 hb16
  have S16 := ho3.below hb16
  clear R15 Q15 hB15 hb16 ho3
  rcases S16 with ⟨_, _, _, h0⟩ | ⟨b, off, c, rfl, q1, q2, q3, q4, q5⟩
  · cases h0
  have p0 := q5 0 (by simp)
  have p1 := q5 1 (by simp)
  clear q5
  simp at p0 p1 q2
  have q3' : (c : Int) ≤ 9223372036854775807 := by unfold maxLen at q3; omega
  rw [show nthI [0, 1] 0 = 0 from rfl] at p0
  rw [show nthI [0, 1] 1 = 1 from rfl] at p1
  go_wp2
  go_ret
  exact ⟨rfl, hB16⟩

end Go.Proofs.YtcngblnkfiggjaaDoor.Rm
