/- The example that the statements of layer 16 play first returns true; nothing that was there changes. -/
import Derived.Test.YtcngblnkfiggjaaDoorChY2
namespace Go.Proofs.YtcngblnkfiggjaaDoor.Rm
open Go Go.RowKit Go.Maps Go.Shelf

set_option maxHeartbeats 8000000 in
set_option maxRecDepth 100000 in
theorem csanity_any (w : World) (T : Tabs w) : Calls Tryd.prog 7 #[] w fun e w' => e = .returned (.bool true) ∧ Below w.heap.size w w' := by
  have hp0 := SP.start w T
  unfold boxC at hp0
  dsimp only [oldC] at hp0
  have HP0 := Lib.hid hp0
  clear hp0
  go_enter Tryd.func7, Tryd.ntmps7
  go_wp2_with fail
  refine (exEnc1 _ HP0.out.tabs _ HP0.out.rd).mono ?_
  rintro e w1 ⟨⟨a1, c1, rfl, hr1⟩, hb1⟩
  have HP1 := Lib.hid (HP0.out.next hb1)
  have HA1 := Lib.hid hr1
  clear hr1 hb1 HP0
  go_wp2_with fail
  refine (exEnc2 _ HP1.out.tabs).mono ?_
  rintro e w2 ⟨⟨a2, c2, rfl, hr2⟩, hb2⟩
  have HP2 := Lib.hid (HP1.out.next hb2)
  have HA2 := Lib.hid (HA1.out.below hb2)
  have HD2 := Lib.hid hr2
  clear hr2 hb2 HP1 HA1
  go_wp2_with fail
  have hl6 := (Below.refl w2.heap.size w2).alloc (Nat.le_refl _) (.cells #[.int .i64 131075, .int .i64 7, .int .i64 2, .int .i64 0, .int .i64 9, .int .i64 8] 3)
  have HP3 := Lib.hid (HP2.out.next hl6)
  have HD3 := Lib.hid (HD2.out.below hl6)
  refine (exInts _ _ _ [131075, 7, 2, 0, 9, 8] (by decide) (HA2.out.below hl6) (rdn6 w2 131075 7 2 0 9 8)).mono ?_
  rintro e w3 ⟨rfl, hb3⟩
  have HP4 := Lib.hid (HP3.out.next hb3)
  have HD4 := Lib.hid (HD3.out.below hb3)
  clear hl6 hb3 HP3 HP2 HD3 HD2 HA2
  go_wp2_with fail
  have hl4 := (Below.refl w3.heap.size w3).alloc (Nat.le_refl _) (.cells #[.int .i64 259, .int .i64 7, .int .i64 5, .int .i64 0] 3)
  have HP5 := Lib.hid (HP4.out.next hl4)
  refine (exInts _ _ _ [259, 7, 5, 0] (by decide) (HD4.out.below hl4) (rdn4 w3 259 7 5 0)).mono ?_
  rintro e w4 ⟨rfl, hb4⟩
  have HP6 := Lib.hid (HP5.out.next hb4)
  clear hl4 hb4 HP5 HP4 HD4
  obtain ⟨o0, o1, o2, o3, o4, o5⟩ := boxC_cells HP6.out.box
  dsimp only [oldC] at o0 o1 o2 o3 o4
  go_wp2_with fail
  refine (size_any 3 7 2 0 false (some ⟨w.heap.size, 0, none⟩) 2 2 w4 (by omega)).mono ?_
  rintro e w5 ⟨rfl, hb5⟩
  have HP7 := Lib.hid (HP6.out.next hb5)
  clear hb5 HP6 o0 o1 o2 o3 o4 o5
  go_wp2_with fail
  refine (exNew w w5 HP7.out).mono ?_
  rintro e w6 ⟨Bm, F0, rfl, hm, hp, hF, hlt⟩
  clear HP7
  have HM := Lib.hid hm
  have HP8 := Lib.hid hp
  have HF := Lib.hid hF
  clear hm hp hF
  go_wp2_with fail
  refine (exOver w w6 Bm _ F0 0 HM.out HP8.out HF.out).mono ?_
  rintro e w7 ⟨Bv, rfl, hs⟩
  have HS0 := Lib.hid hs
  clear hs HM HP8 HF
  go_wp2_with fail
  refine (rpack_any _ _ _ _).mono ?_
  rintro e w8 ⟨rfl, rfl⟩
  rw [pack1]
  go_wp2_with fail
  refine (exStore HS0.out (by omega) 1 (by omega) 8 129 rfl (by decide)).mono ?_
  rintro e w8 ⟨rfl, F1, k1, hk1, hs⟩
  have HS1 := Lib.hid hs
  clear hs HS0
  go_wp2_with fail
  refine (rpack_any _ _ _ _).mono ?_
  rintro e w9 ⟨rfl, rfl⟩
  rw [pack2]
  go_wp2_with fail
  refine (exStore HS1.out (by omega) 2 (by omega) 16 513 rfl (by decide)).mono ?_
  rintro e w9 ⟨rfl, F2, k2, hk2, hs⟩
  have HS2 := Lib.hid (show SW w Bv Bm exM0 F2 k2 w9 from hs)
  clear hs HS1
  go_wp2_with fail
  refine (rmake_any _ _ _).mono ?_
  rintro e wx ⟨rfl, rfl⟩
  rw [make1]
  go_wp2_with fail
  refine (rmake_any _ _ _).mono ?_
  rintro e wx ⟨rfl, rfl⟩
  rw [make2]
  obtain ⟨o0, o1, o2, o3, o4, o5⟩ := boxC_cells HS2.out.sp.box
  dsimp only [oldC] at o0 o1 o2 o3 o4
  go_wp2_with fail
  refine (exW1 HS2.out (by omega)).mono ?_
  rintro e w10 ⟨rfl, F3, k3, hk3, hs⟩
  have HS3 := Lib.hid hs
  clear hs HS2 o0 o1 o2 o3 o4 o5
  go_wp2_with fail
  refine (exW2 HS3.out (by omega)).mono ?_
  rintro e w11 ⟨rfl, F4, k4, hk4, hs⟩
  have HS4 := Lib.hid hs
  clear hs HS3
  go_wp2_with fail
  refine (exAt4 HS4.out (by omega)).mono ?_
  rintro e w12 ⟨⟨ax, cx, rfl, hrx⟩, hs⟩
  have hlx := (Below.refl w12.heap.size w12).alloc (Nat.le_refl _) (.cells #[.int .i64 3, .int .i64 7, .int .i64 2, .bool false, .int .i64 0, .slice ax 2 cx] 24)
  have HS5 := Lib.hid (hs.next hlx)
  have HRX := Lib.hid (hrx.below hlx)
  have HBX := Lib.hid (show (w12.alloc (.cells #[.int .i64 3, .int .i64 7, .int .i64 2, .bool false, .int .i64 0, .slice ax 2 cx] 24)).heap[w12.heap.size]? = some (boxC oldC (.slice ax 2 cx)) from heap_alloc_new _ _)
  clear hs hrx hlx HS4
  go_wp2_with fail
  refine (exAt5 HS5.out (by omega)).mono ?_
  rintro e w13 ⟨⟨ay, cy, rfl⟩, hb13⟩
  have hly := (Below.refl w13.heap.size w13).alloc (Nat.le_refl _) (.cells #[.int .i64 3, .int .i64 7, .int .i64 5, .bool true, .int .i64 4097, .slice ay 0 cy] 24)
  have hl12 : w12.heap.size < w13.heap.size := by have := hb13.size; simp at this; omega
  have HS6 := Lib.hid ((HS5.out.next hb13).next hly)
  have HRX2 := Lib.hid ((HRX.out.below hb13).below hly)
  have HBX2 := Lib.hid ((hly.block _ (by omega)).trans ((hb13.block _ (by simp)).trans HBX.out))
  have HBY := Lib.hid (show (w13.alloc (.cells #[.int .i64 3, .int .i64 7, .int .i64 5, .bool true, .int .i64 4097, .slice ay 0 cy] 24)).heap[w13.heap.size]? = some (boxC newC (.slice ay 0 cy)) from heap_alloc_new _ _)
  clear hb13 hly HS5 HRX HBX
  go_wp2_with fail
  refine (exAt1 HS6.out (by omega)).mono ?_
  rintro e w14 ⟨⟨az, cz, rfl⟩, hb14⟩
  have hlz := (Below.refl w14.heap.size w14).alloc (Nat.le_refl _) (.cells #[.int .i64 0, .int .i64 0, .int .i64 0, .bool false, .int .i64 0, .slice az 0 cz] 24)
  have hl13 : w13.heap.size < w14.heap.size := by have := hb14.size; simp at this; omega
  have HS7 := Lib.hid ((HS6.out.next hb14).next hlz)
  have HRX3 := Lib.hid ((HRX2.out.below hb14).below hlz)
  have HBX3 := Lib.hid ((hlz.block _ (by omega)).trans ((hb14.block _ (by simp; omega)).trans HBX2.out))
  have HBY2 := Lib.hid ((hlz.block _ (by omega)).trans ((hb14.block _ (by simp)).trans HBY.out))
  clear hb14 hlz HS6 HRX2 HBX2 HBY
  obtain ⟨o0, o1, o2, o3, o4, o5⟩ := boxC_cells HS7.out.sp.box
  obtain ⟨x0, x1, x2, x3, x4, x5⟩ := boxC_cells HBX3.out
  obtain ⟨_, _, _, y3, _, _⟩ := boxC_cells HBY2.out
  dsimp only [oldC] at o0 o1 o2 o3 o4 x0 x1 x2 x3 x4
  dsimp only [newC] at y3
  go_wp2_with fail
  refine (exSame _ _ _ _ _ HRX3.out HS7.out.sp.rd).mono ?_
  rintro e w15 ⟨rfl, hb15⟩
  have HS8 := Lib.hid (HS7.out.next hb15)
  have y3' := (boxC_cells ((hb15.block _ (by simp; omega)).trans HBY2.out)).2.2.2.1
  dsimp only [newC] at y3'
  clear hb15 HS7 HRX3 HBX3 HBY2 o0 o1 o2 o3 o4 o5 x0 x1 x2 x3 x4 x5 y3
  go_wp2_with fail
  clear y3'
  refine (exT0 HS8.out (by omega)).mono ?_
  rintro e w16 ⟨⟨a16, c16, rfl, hr16⟩, hb16⟩
  have hl3 := (Below.refl w16.heap.size w16).alloc (Nat.le_refl _) (.cells #[.int .i64 3] 3)
  have HS9 := Lib.hid ((HS8.out.next hb16).next hl3)
  have HR9 := Lib.hid (hr16.below hl3)
  have HR3 := Lib.hid (rd_new1 w16 3)
  clear hr16 hb16 hl3 HS8
  go_wp2_with fail
  refine (exT1 HS9.out (by omega) _ _ HR3.out).mono ?_
  rintro e w17 ⟨⟨a17, c17, rfl⟩, hb17⟩
  have HS10 := Lib.hid (HS9.out.next hb17)
  have hl2 := (Below.refl w17.heap.size w17).alloc (Nat.le_refl _) (.cells #[.int .i64 16386, .int .i64 4097] 3)
  have HR10 := Lib.hid ((HR9.out.below hb17).below hl2)
  have HS11 := Lib.hid (HS10.out.next hl2)
  clear hb17 hl2 HS9 HR9 HR3 HS10
  go_wp2_with fail
  refine (exInts _ _ _ [16386, 4097] (by decide) HR10.out (rdn2 w17 16386 4097)).mono ?_
  rintro e w18 ⟨rfl, hb18⟩
  have HE := Lib.hid (HS11.out.next hb18).sp.below
  clear hb18 HS11 HR10
  go_wp2
  go_ret
  exact ⟨rfl, HE.out⟩

end Go.Proofs.YtcngblnkfiggjaaDoor.Rm
