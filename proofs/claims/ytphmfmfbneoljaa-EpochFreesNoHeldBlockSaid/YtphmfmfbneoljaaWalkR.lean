/- Walk of the statement 'no held block is freed': it returns true, and nothing that was there changes. -/
import Derived.Test.YtphmfmfbneoljaaArrs
namespace Go.Proofs.Ytphmfmfbneoljaa.Ep
open Go Go.RowKit Go.Maps

/-- What holds when k steps have been made. -/
def Stepped (w0 wr : World) (B A L W H : Nat) (k : Nat) : Prop := ∃ t F c act lnk wts hf, Mem w0 wr B A L W H t F c act lnk wts hf ∧ Kp t act lnk wts hf ∧ c ≤ 2 * k

set_option maxHeartbeats 8000000 in
set_option maxRecDepth 100000 in
theorem noheld_any (w : World) (ao : Option Addr) (cap : Nat) (l : List Stp) (hu : Steps w (.slice ao l.length cap) l) :
    Calls Try.prog 4 #[.slice ao l.length cap] w fun e w' => e = .returned (.bool true) ∧ Below w.heap.size w w' := by
  have HU := Lib.hid hu
  clear hu
  go_enter Try.func4, Try.ntmps4
  go_wp2_with fail
  refine (sanity_any w).mono ?_
  rintro e w1 ⟨rfl, hb1⟩
  by_cases hlen : 60 < l.length
  · go_wp2
    go_ret
    exact ⟨rfl, hb1⟩
  · have HU1 := Lib.hid (HU.out.below hb1)
    clear HU
    go_wp2_with fail
    refine (new_any _).mono ?_
    rintro e w2 ⟨B, F0, rfl, hO, hb, hF⟩
    have X0 : Own w1 w2 B St.new F0 0 := ⟨hO, hF, hb⟩
    have hz46 := zero46
    have HM0 := Lib.hid (show Stepped w1 _ B _ _ _ _ 0 from ⟨_, _, _, _, _, _, _, Mem.start X0, Kp.new, Nat.le_refl _⟩)
    clear hO hb hF X0
    go_wp2
    generalize w2.heap.size + 1 + 1 + 1 = H at *
    generalize w2.heap.size + 1 + 1 = W at *
    generalize w2.heap.size + 1 = L at *
    generalize w2.heap.size = A at *
    go_loopw [9] (fun i wr => ∃ k : Nat, k ≤ l.length ∧ i = .int .i64 k ∧ Stepped w1 wr B A L W H k) (fun i _ => l.length - (intOf i).toNat)
    case atStart => exact ⟨0, Nat.zero_le _, rfl, HM0.out⟩
    case round =>
      obtain ⟨k, hk, rfl, hP⟩ := hrel
      by_cases hlt : k < l.length
      · obtain ⟨b, off, rfl, hc1, hm1, hb, q1, q2, q3, hok⟩ := HU1.out.at hlt
        obtain ⟨t, F, c, act, lnk, wts, hf, M, K, hcc⟩ := hP
        have d1 := (M.own.below.cell (p := ⟨b, off + k * 3, none⟩) hb).trans q1
        have d2 := (M.own.below.cell (p := ⟨b, off + k * 3 + 1, none⟩) hb).trans q2
        have d3 := (M.own.below.cell (p := ⟨b, off + k * 3 + 2, none⟩) hb).trans q3
        obtain ⟨⟨k1, k2⟩, ⟨a1, a2⟩, ⟨b1, b2⟩⟩ := hok
        unfold maxLen at hm1
        clear q1 q2 q3
        generalize (nthS l k).kind = kd at *
        generalize (nthS l k).a = ra at *
        generalize (nthS l k).b = rb at *
        obtain ⟨r, hr, hr8⟩ : ∃ r : Nat, ra.tmod 8 = (r : Int) ∧ r < 8 := ⟨(ra.tmod 8).toNat, by rw [Int.tmod_eq_emod_of_nonneg a1]; omega, by rw [Int.tmod_eq_emod_of_nonneg a1]; omega⟩
        obtain ⟨q, hq, hq16⟩ : ∃ q : Nat, rb.tmod 16 = (q : Int) ∧ q < 16 := ⟨(rb.tmod 16).toNat, by rw [Int.tmod_eq_emod_of_nonneg b1]; omega, by rw [Int.tmod_eq_emod_of_nonneg b1]; omega⟩
        have hkd : kd.tmod 5 = 0 ∨ kd.tmod 5 = 1 ∨ kd.tmod 5 = 2 ∨ kd.tmod 5 = 3 ∨ kd.tmod 5 = 4 := by rw [Int.tmod_eq_emod_of_nonneg k1]; omega
        have hi := M.own.obj.inv
        have HI := Lib.hid hi
        clear hi
        rcases hkd with hkd | hkd | hkd | hkd | hkd
        · cases hact : act r
          · have HK := Lib.hid (K.enter hr8 hact)
            have hen := enter_any wr B t F c r M.own.obj (wf64 (by omega)) (by omega)
            rw [HK.out.1] at hen
            have HEN := Lib.hid hen
            clear hen
            go_wp2_with fail
            refine HEN.out.mono ?_
            rintro e w3 ⟨rfl, F3, hO3, hM3⟩
            have M3 := M.moves hO3 hM3
            have cA := M3.aA.cell hr8
            have fA : w3.frozen? ⟨A, r, none⟩ = false := M3.aA.free
            rw [hact] at cA
            have HN := Lib.hid (show Stepped w1 (w3.setCell ⟨A, r, none⟩ (.bool true)) B A L W H (k + 1) from ⟨_, _, _, _, _, _, _, M3.setA hr8 true, HK.out.2, by omega⟩)
            clear hO3 hM3 M3 M K d1 d2 d3
            go_wp2
            go_roundw
            case rel => exact ⟨k + 1, by omega, by go_num, HN.out⟩
            case measure => simp [intOf]; omega
          · have HK := Lib.hid (K.leave hr8 hact)
            have hen := enter_any wr B t F c r M.own.obj (wf64 (by omega)) (by omega)
            rw [HK.out.1, HK.out.2.1] at hen
            have HEN := Lib.hid hen
            clear hen
            go_wp2_with fail
            refine HEN.out.mono ?_
            rintro e w3 ⟨rfl, F3, hO3, hM3⟩
            have M3 := M.moves hO3 hM3
            have cA := M3.aA.cell hr8
            rw [hact] at cA
            have hlv := leave_any w3 B t F3 (c + 1) r M3.own.obj (wf64 (by omega))
            rw [HK.out.2.2.1] at hlv
            have HLV := Lib.hid hlv
            clear hO3 hM3 M K d1 d2 d3 hlv
            go_wp2_with fail
            refine HLV.out.mono ?_
            rintro e w4 ⟨rfl, F4, hO4, hM4⟩
            have M4 := M3.moves hO4 hM4
            clear hO4 hM4 M3 cA
            go_wp2_with (refine wpList_wipe rfl _ _ rfl r rfl rfl M4 hr8 ?_)
            intro w5 M5
            have cA := M5.aA.cell hr8
            have fA : w5.frozen? ⟨A, r, none⟩ = false := M5.aA.free
            rw [hact] at cA
            have HN := Lib.hid (show Stepped w1 (w5.setCell ⟨A, r, none⟩ (.bool false)) B A L W H (k + 1) from ⟨_, _, _, _, _, _, _, M5.setA hr8 false, HK.out.2.2.2, by omega⟩)
            clear M4 M5
            go_wp2
            go_roundw
            case rel => exact ⟨k + 1, by omega, by go_num, HN.out⟩
            case measure => simp [intOf]; omega
        · have HK := Lib.hid (K.link q)
          cases hl : lnk q
          · cases hw : wts q
            · have cL := M.aL.cell hq16
              have cW := M.aW.cell hq16
              have fL : wr.frozen? ⟨L, q, none⟩ = false := M.aL.free
              rw [hl] at cL HK
              rw [hw] at cW HK
              have HN := Lib.hid (show Stepped w1 (wr.setCell ⟨L, q, none⟩ (.bool true)) B A L W H (k + 1) from ⟨_, _, _, _, _, _, _, M.setL hq16 true, HK.out, by omega⟩)
              clear M K hl hw HK
              go_wp2
              go_roundw
              case rel => exact ⟨k + 1, by omega, by go_num, HN.out⟩
              case measure => simp [intOf]; omega
            · have cL := M.aL.cell hq16
              have cW := M.aW.cell hq16
              have fL : wr.frozen? ⟨L, q, none⟩ = false := M.aL.free
              rw [hl] at cL HK
              rw [hw] at cW HK
              have HN := Lib.hid (show Stepped w1 (wr.setCell ⟨L, q, none⟩ (.bool false)) B A L W H (k + 1) from ⟨_, _, _, _, _, _, _, M.setL hq16 false, HK.out, by omega⟩)
              clear M K hl hw HK
              go_wp2
              go_roundw
              case rel => exact ⟨k + 1, by omega, by go_num, HN.out⟩
              case measure => simp [intOf]; omega
          · have cL := M.aL.cell hq16
            have fL : wr.frozen? ⟨L, q, none⟩ = false := M.aL.free
            rw [hl] at cL HK
            have HN := Lib.hid (show Stepped w1 (wr.setCell ⟨L, q, none⟩ (.bool true)) B A L W H (k + 1) from ⟨_, _, _, _, _, _, _, M.setL hq16 true, HK.out, by omega⟩)
            clear M K hl HK
            go_wp2
            go_roundw
            case rel => exact ⟨k + 1, by omega, by go_num, HN.out⟩
            case measure => simp [intOf]; omega
        · cases hl : lnk q
          · have cL := M.aL.cell hq16
            rw [hl] at cL
            have HN := Lib.hid (show Stepped w1 wr B A L W H (k + 1) from ⟨_, _, _, _, _, _, _, M, K, by omega⟩)
            clear M K hl
            go_wp2
            go_roundw
            case rel => exact ⟨k + 1, by omega, by go_num, HN.out⟩
            case measure => simp [intOf]; omega
          · have HK := Lib.hid (K.retire HI.out hq16 hl)
            have cL := M.aL.cell hq16
            rw [hl] at cL
            have M2 := M.by ((Below.refl _ _).alloc (Nat.le_refl _) (.cells #[.int .i64 (q : Int)] 3))
            have hre := retire_any _ B _ _ _ _ [(q : Int)] M2.own.obj (rd_new1 wr q) (fun k hk _ hf => by cases hk; exact Nat.lt_irrefl _ (M.own.obj.lt _ hf)) (fun x hx => by rw [List.mem_singleton.1 hx]; exact wf64 (by omega)) (by simp; omega)
            rw [HK.out.1] at hre
            have HRE := Lib.hid hre
            clear hre M K hl
            go_wp2_with fail
            refine HRE.out.mono ?_
            rintro e w3 ⟨rfl, F3, hO3, hM3⟩
            have M3 := M2.moves hO3 hM3
            have fL : w3.frozen? ⟨L, q, none⟩ = false := M3.aL.free
            have cL3 := M3.aL.cell hq16
            have M4 := M3.setL hq16 false
            have fW : (w3.setCell ⟨L, q, none⟩ (.bool false)).frozen? ⟨W, q, none⟩ = false := M4.aW.free
            have cW4 := M4.aW.cell hq16
            have M5 := M4.setW hq16 true
            have HN := Lib.hid (show Stepped w1 _ B A L W H (k + 1) from ⟨_, _, _, _, _, _, _, M5, HK.out.2, by simp; omega⟩)
            clear hO3 hM3 M2 M3 M4 M5 cL
            go_wp2
            go_roundw
            case rel => exact ⟨k + 1, by omega, by go_num, HN.out⟩
            case measure => simp [intOf]; omega
        · have cA := M.aA.cell hr8
          have cL := M.aL.cell hq16
          have hrq : r * 16 + q < 128 := by omega
          have cH := M.aH.cell hrq
          have fH : wr.frozen? ⟨H, r * 16 + q, none⟩ = false := M.aH.free
          have HK := Lib.hid (K.hold hr8 hq16)
          cases hh : hf (r * 16 + q)
          · rw [hh] at cH HK
            cases ha : act r
            · rw [ha] at cA HK
              have HN := Lib.hid (show Stepped w1 (wr.setCell ⟨H, r * 16 + q, none⟩ (.bool false)).drew B A L W H (k + 1) from ⟨_, _, _, _, _, _, _, (M.setH hrq false).drew, HK.out, by omega⟩)
              clear M K HK hh ha
              go_wp2
              go_region
              all_goals go_wp2
              all_goals go_roundw
              case rel => exact ⟨k + 1, by omega, by go_num, HN.out⟩
              case measure => simp [intOf]; omega
            · rw [ha] at cA HK
              have HN := Lib.hid (show Stepped w1 (wr.setCell ⟨H, r * 16 + q, none⟩ (.bool (lnk q))).drew B A L W H (k + 1) from ⟨_, _, _, _, _, _, _, (M.setH hrq (lnk q)).drew, HK.out, by omega⟩)
              clear M K HK hh ha
              go_wp2
              go_region
              all_goals go_wp2
              all_goals go_roundw
              case rel => exact ⟨k + 1, by omega, by go_num, HN.out⟩
              case measure => simp [intOf]; omega
          · rw [hh] at cH HK
            have HN := Lib.hid (show Stepped w1 (wr.setCell ⟨H, r * 16 + q, none⟩ (.bool true)).drew B A L W H (k + 1) from ⟨_, _, _, _, _, _, _, (M.setH hrq true).drew, HK.out, by omega⟩)
            clear M K HK hh
            go_wp2
            go_region
            all_goals go_wp2
            all_goals go_roundw
            case rel => exact ⟨k + 1, by omega, by go_num, HN.out⟩
            case measure => simp [intOf]; omega
        · have hfl := freed_length t
          have hwb := M.own.obj.bounds.1
          have hob := olds_le t.least t.wt
          have HFR := Lib.hid (fun k hk => K.freed HI.out (k := k) hk)
          have HKF := Lib.hid (K.free HI.out)
          have hWlt := M.aW.lt
          clear K
          go_wp2_with fail
          clear d1 d2 d3
          refine (free_any _ B _ _ _ M.own.obj (by omega)).mono ?_
          rintro e w3 ⟨ro, rfl, hro, hO3, hM3⟩
          have M3 := M.moves hO3 hM3
          have hoW : ∀ k, ro.ownBlock = some k → k ≠ W := fun k hk e => by have := (hro.lt k hk).1; omega
          have rd3 : Rd w3 ro t.freed := Rd.of_owns hro
          obtain ⟨ar, cr, hsh⟩ := owns_shape hro
          subst hsh
          have HOW := Lib.hid hoW
          have HS3 := Lib.hid (show Mem w1 w3 B A L W H t.free F c act lnk (wtk wts t.freed 0) hf ∧ Rd w3 _ t.freed from ⟨by rw [wtk_zero]; exact M3, rd3⟩)
          clear hro hO3 hM3 M M3 rd3 hoW hfl hwb hob
          go_wp2
          go_loopw [15] (fun i wr => ∃ j : Nat, j ≤ t.freed.length ∧ i = .int .i64 j ∧ Mem w1 wr B A L W H t.free F c act lnk (wtk wts t.freed j) hf ∧ Rd wr (.slice ar t.freed.length cr) t.freed) (fun i _ => t.freed.length - (intOf i).toNat)
          case atStart => exact ⟨0, Nat.zero_le _, rfl, HS3.out⟩
          case round =>
            obtain ⟨j, hj, rfl, M, rd⟩ := hrel
            by_cases hlj : j < t.freed.length
            · obtain ⟨n, hn, hn16, hw, hh, hupd⟩ := HFR.out j hlj
              obtain ⟨b', off', rfl, -, hcp, hcm, hbl, q1⟩ := rd.at hlj
              rw [hn] at q1
              have cW := M.aW.cell hn16
              rw [hw] at cW
              have fW : wr.frozen? ⟨W, n, none⟩ = false := M.aW.free
              have HCH := Lib.hid (show ∀ m, m < 8 → wr.cell? ⟨H, m * 16 + n, none⟩ = some (.bool false) from fun m hm => by rw [M.aH.cell (by omega), hh m hm])
              have hn0 : (0 : Int) ≤ (n : Int) := by omega
              have hn15 : (n : Int) ≤ 15 := by omega
              have HN := Lib.hid (show Mem w1 (wr.setCell ⟨W, n, none⟩ (.bool false)) B A L W H t.free F c act lnk (wtk wts t.freed (j + 1)) hf ∧ Rd (wr.setCell ⟨W, n, none⟩ (.bool false)) (.slice (some ⟨b', off', none⟩) t.freed.length cr) t.freed from
                ⟨by rw [hupd]; exact M.setW hn16 false, rd.carry (by simp) (fun k hk _ => Below.heap_setCell _ _ _ _ (HOW.out k hk))⟩)
              unfold maxLen at hcm
              clear M rd hn hw hh hupd
              go_wp2
              go_loop [17] (fun x => ∃ m : Nat, m ≤ 8 ∧ x = .int .i64 m) (fun x => 8 - (intOf x).toNat)
              case atStart => exact ⟨0, Nat.zero_le _, rfl⟩
              case round =>
                obtain ⟨m, hm, rfl⟩ := hrel
                by_cases hm8 : m < 8
                · have cH := HCH.out m hm8
                  go_wp2
                  go_round
                  case rel => exact ⟨m + 1, by omega, by go_num⟩
                  case measure => simp [intOf]; omega
                · go_wp2
                  go_roundw
                  case rel => exact ⟨j + 1, by omega, by go_num, HN.out⟩
                  case measure => simp [intOf]; omega
            · obtain rfl : j = t.freed.length := by omega
              have HN := Lib.hid (show Stepped w1 wr B A L W H (k + 1) from ⟨_, _, _, _, _, _, _, M, HKF.out, by omega⟩)
              clear M rd
              go_wp2
              go_roundw
              case rel => exact ⟨k + 1, by omega, by go_num, HN.out⟩
              case measure => simp [intOf]; omega
      · obtain ⟨t, F, c, act, lnk, wts, hf, M, K, hcc⟩ := hP
        have hbel := M.own.below
        clear M K
        go_wp2
        go_ret
        exact ⟨rfl, hb1.trans (hbel.mono hb1.size)⟩

end Go.Proofs.Ytphmfmfbneoljaa.Ep
