/- Walk of the statement 'all is freed in the end': it returns true, and nothing that was there changes. -/
import Derived.Test.YtphmfmfbneoljaaPlayE
namespace Go.Proofs.Ytphmfmfbneoljaa.Ep
open Go Go.RowKit Go.Maps

set_option maxHeartbeats 4000000 in
set_option maxRecDepth 100000 in
theorem allfreed_any (w : World) (ao : Option Addr) (cap : Nat) (l : List Call) (hu : Script w (.slice ao l.length cap) l) :
    Calls Try.prog 5 #[.slice ao l.length cap] w fun e w' => e = .returned (.bool true) ∧ Below w.heap.size w w' := by
  have HU := Lib.hid hu
  clear hu
  go_enter Try.func5, Try.ntmps5
  go_wp2_with fail
  refine (sanity_any w).mono ?_
  rintro e w1 ⟨rfl, hb1⟩
  go_wp2_with fail
  refine (few_any _ _ l (HU.out.below hb1)).mono ?_
  rintro e w' ⟨rfl, hw'⟩
  subst hw'
  cases hf : fewB l
  · go_wp2
    go_ret
    exact ⟨rfl, hb1⟩
  · obtain ⟨f1, f2⟩ := fewB_t hf
    have HF1 := Lib.hid f1
    have HU1 := Lib.hid (HU.out.below hb1)
    have hlen : (l.length : Int) ≤ 40 := by omega
    clear f1 hf HU
    go_wp2_with fail
    refine (new_any _).mono ?_
    rintro e w2 ⟨B, F0, rfl, hO, hb, hF⟩
    have X0 : Own w1 w2 B St.new F0 0 := ⟨hO, hF, hb⟩
    have hP0 : Playing w1 w2 B (.slice none 0 0) (.slice none 0 0) 0 := ⟨_, _, _, [], [], X0, Row.nil _ _ _, Row.nil _ _ _, Apart.nil _, rfl, Nat.le_refl _, Nat.le_refl _⟩
    have HP0 := Lib.hid hP0
    clear hO hb hF X0 hP0
    go_wp2
    go_loopw [5, 6, 7] (fun r f i wr => ∃ k : Nat, k ≤ l.length ∧ i = .int .i64 k ∧ Playing w1 wr B r f k) (fun _ _ i _ => l.length - (intOf i).toNat)
    case atStart => exact ⟨0, Nat.zero_le _, rfl, HP0.out⟩
    case round =>
      obtain ⟨k, hk, rfl, hP⟩ := hrel
      by_cases hlt : k < l.length
      · obtain ⟨b, off, cp, he, hc1, hm1, hb, q1, q2, q3, hok⟩ := HU1.out.at hlt
        obtain ⟨s, F, c, R, D, X, r1, r2, hap, hRD, hcc, hRl⟩ := hP
        have hbs := HF1.out k hlt
        have hpl := play_len hRD (nthC l k).kind
        have HRD := Lib.hid hRD
        clear hRD
        have d1 := (X.below.cell (p := ⟨b, off + k * 3, none⟩) hb).trans q1
        have d2 := (X.below.cell (p := ⟨b, off + k * 3 + 1, none⟩) hb).trans q2
        have d3 := (X.below.cell (p := ⟨b, off + k * 3 + 2, none⟩) hb).trans q3
        obtain ⟨av, cv, hsh⟩ := hok.2.2.1.shape
        have hd := do_round (c := c) X hok (by omega)
        rw [hsh] at hd d3
        have HD := Lib.hid hd
        have HSH := Lib.hid hsh
        clear q1 q2 q3 hd hsh
        simp only [Value.slice.injEq, true_and] at he
        obtain ⟨rfl, rfl⟩ := he
        by_cases hK : (nthC l k).kind = 2
        · by_cases hE : s.stepErr (nthC l k).kind (nthC l k).a (nthC l k).bs = 0
          · have hq1 : ((nthC l k).kind == 2) = true := by simpa using hK
            have hq2 : (s.stepErr (nthC l k).kind (nthC l k).a (nthC l k).bs == 0) = true := by simpa using hE
            have hrt : retd s (nthC l k).kind (nthC l k).a (nthC l k).bs R = R ++ (nthC l k).bs := if_pos ⟨hK, hE⟩
            have HRT := Lib.hid hrt
            clear hK hE hrt
            go_wp2_with fail
            refine HD.out.mono ?_
            rintro e w3 ⟨ro, F', rfl, X3, ro3, hM, hro⟩
            have r13 := r1.moves hM
            have r23 := r2.moves hM
            have apo := Apart.new hro r1
            have d1' := (X3.below.cell (p := ⟨b, off + k * 3, none⟩) hb).trans ((X.below.cell hb).symm.trans d1)
            have d3' := (X3.below.cell (p := ⟨b, off + k * 3 + 2, none⟩) hb).trans ((X.below.cell hb).symm.trans d3)
            have hrd := hok.rd_at X3
            rw [HSH.out] at hrd
            have hsz3 := X3.below.size
            clear d1 d2 d3 HD hM hro r1 r2 X
            go_wp2_with (at_builtin; refine wpList_append_rd _ rfl _ _ rfl rfl w1.heap.size _ _ R (nthC l k).bs rfl rfl r13.row hrd ?c1 ?c2 ?_)
            case c1 => omega
            case c2 => exact hsz3
            intro r' w4 hrow4 hg4 hv4
            obtain ⟨X4, r14, r24, ap4⟩ := grow1 X3 r13 r23 hap hrow4 (by simp) hg4 hv4
            have ro4 := ro3.grown hg4 apo
            have hsz4 := X4.below.size
            clear hrow4 hg4 hv4 X3 r13 r23 ro3 apo hap
            go_wp2_with (at_builtin; refine wpList_append_rd _ rfl _ _ rfl rfl w1.heap.size _ _ D (s.stepOut (nthC l k).kind) rfl rfl r24.row ro4.rd ?e1 ?e2 ?_)
            case e1 => omega
            case e2 => exact hsz4
            intro f' w5 hrow5 hg5 hv5
            obtain ⟨X5, r25, r15, ap5⟩ := grow1 X4 r24 r14 ap4.symm hrow5 (by simp) hg5 hv5
            have HN := Lib.hid (Playing.next X5 (by rw [HRT.out]; exact r15) r25 ap5.symm HRD.out hcc hRl hbs)
            clear hrow5 hg5 hv5 X4 r14 r24 ro4 ap4 X5 r25 r15 ap5
            go_wp2
            go_roundw
            case rel => exact ⟨k + 1, by omega, by go_num, HN.out⟩
            case measure => simp [intOf]; omega
          · have hq1 : ((nthC l k).kind == 2) = true := by simpa using hK
            have hq2 : (s.stepErr (nthC l k).kind (nthC l k).a (nthC l k).bs == 0) = false := by simpa using hE
            have hrt : retd s (nthC l k).kind (nthC l k).a (nthC l k).bs R = R := if_neg (fun e => hE e.2)
            have HRT := Lib.hid hrt
            clear hK hE hrt
            go_wp2_with fail
            refine HD.out.mono ?_
            rintro e w3 ⟨ro, F', rfl, X3, ro3, hM, hro⟩
            have r13 := r1.moves hM
            have r23 := r2.moves hM
            have d1' := (X3.below.cell (p := ⟨b, off + k * 3, none⟩) hb).trans ((X.below.cell hb).symm.trans d1)
            have hsz3 := X3.below.size
            clear d1 d2 d3 HD hM hro r1 r2 X
            go_wp2_with (at_builtin; refine wpList_append_rd _ rfl _ _ rfl rfl w1.heap.size _ _ D (s.stepOut (nthC l k).kind) rfl rfl r23.row ro3.rd ?g1 ?g2 ?_)
            case g1 => omega
            case g2 => exact hsz3
            intro f' w5 hrow5 hg5 hv5
            obtain ⟨X5, r25, r15, ap5⟩ := grow1 X3 r23 r13 hap.symm hrow5 (by simp) hg5 hv5
            have HN := Lib.hid (Playing.next X5 (by rw [HRT.out]; exact r15) r25 ap5.symm HRD.out hcc hRl hbs)
            clear hrow5 hg5 hv5 X3 r13 r23 ro3 X5 r25 r15 ap5
            go_wp2
            go_roundw
            case rel => exact ⟨k + 1, by omega, by go_num, HN.out⟩
            case measure => simp [intOf]; omega
        · have hq1 : ((nthC l k).kind == 2) = false := by simpa using hK
          have hrt : retd s (nthC l k).kind (nthC l k).a (nthC l k).bs R = R := if_neg (fun e => hK e.1)
          have HRT := Lib.hid hrt
          clear hK hrt
          go_wp2_with fail
          refine HD.out.mono ?_
          rintro e w3 ⟨ro, F', rfl, X3, ro3, hM, hro⟩
          have r13 := r1.moves hM
          have r23 := r2.moves hM
          have d1' := (X3.below.cell (p := ⟨b, off + k * 3, none⟩) hb).trans ((X.below.cell hb).symm.trans d1)
          have hsz3 := X3.below.size
          clear d1 d2 d3 HD hM hro r1 r2 X
          go_wp2_with (at_builtin; refine wpList_append_rd _ rfl _ _ rfl rfl w1.heap.size _ _ D (s.stepOut (nthC l k).kind) rfl rfl r23.row ro3.rd ?j1 ?j2 ?_)
          case j1 => omega
          case j2 => exact hsz3
          intro f' w5 hrow5 hg5 hv5
          obtain ⟨X5, r25, r15, ap5⟩ := grow1 X3 r23 r13 hap.symm hrow5 (by simp) hg5 hv5
          have HN := Lib.hid (Playing.next X5 (by rw [HRT.out]; exact r15) r25 ap5.symm HRD.out hcc hRl hbs)
          clear hrow5 hg5 hv5 X3 r13 r23 ro3 X5 r25 r15 ap5
          go_wp2
          go_roundw
          case rel => exact ⟨k + 1, by omega, by go_num, HN.out⟩
          case measure => simp [intOf]; omega
      · obtain rfl : k = l.length := by omega
        obtain ⟨s, F, c, R, D, X, r1, r2, hap, hRD, hcc, hRl⟩ := hP
        have HRD := Lib.hid hRD
        have hpl := play_len hRD 3
        have hi := X.obj.inv
        have hrdl := X.obj.rd_le
        have hwtl := X.obj.bounds
        have HW := Lib.hid X.obj.rd_wf
        clear hRD
        go_wp2_with fail
        refine (readers_any _ B _ _ _ X.obj (by omega)).mono ?_
        rintro e w3 ⟨v, rfl, hrv, hb3⟩
        obtain ⟨av, cv, rfl⟩ := owns_shape hrv
        have rv := Row.handed (F' := F) (xs := names s.rd) X hrv (names_length _).symm (fun _ h => h)
        have HL0 := Lib.hid (show Leaving w1 w3 B s c u5 u6 _ R D 0 from ⟨F, by rw [sD_zero]; exact X.by hb3, r1.by hb3, r2.by hb3, rv.by (Below.refl _ _)⟩)
        clear r1 r2 hrv rv hb3 X
        go_wp2
        go_loopw [11] (fun i wr => ∃ j : Nat, j ≤ s.rd.length ∧ i = .int .i64 j ∧ Leaving w1 wr B s c u5 u6 (.slice av s.rd.length cv) R D j) (fun i _ => s.rd.length - (intOf i).toNat)
        case atStart => exact ⟨0, Nat.zero_le _, rfl, HL0.out⟩
        case round =>
          obtain ⟨j, hj, rfl, F, X, r1, r2, rv⟩ := hrel
          by_cases hlt : j < s.rd.length
          · have hjn : j < (names s.rd).length := by rw [names_length]; exact hlt
            obtain ⟨b, off, rfl, -, hcp, hcm, hbl, q1⟩ := rv.rd.at hjn
            have hlv := leave_any wr B (sD s j) F c (nthI (names s.rd) j) X.obj (HW.out _ (nthI_mem hjn))
            rw [(leave_drop hi hlt).1] at hlv
            have HLV := Lib.hid hlv
            have HST := Lib.hid (fun w4 F' => Leaving.step (w' := w4) (F' := F') hi hlt X r1 r2 rv)
            unfold maxLen at hcm
            clear hlv X r1 r2 rv hjn
            go_wp2_with fail
            refine HLV.out.mono ?_
            rintro e w4 ⟨rfl, F', hO4, hM4⟩
            have HN := Lib.hid (HST.out w4 F' hO4 hM4)
            clear hO4 hM4
            go_wp2
            go_roundw
            case rel => exact ⟨j + 1, by omega, by go_num, HN.out⟩
            case measure => simp [intOf]; omega
          · obtain rfl : j = s.rd.length := by omega
            obtain ⟨fa1, fa2, fa3⟩ := freed_all X.obj.inv (sD_all s)
            have ff := freed_all X.obj.inv.free (sD_all s)
            have hleast : (sD s s.rd.length).free.least = (sD s s.rd.length).free.now := ff.2.2
            have hre : D ++ (sD s s.rd.length).freed = R := by rw [fa1, HRD.out]; rfl
            have hfl : (sD s s.rd.length).freed.length = s.wt.length := by rw [fa1, names_length]; rfl
            have hw0 : (sD s s.rd.length).free.wt.length = 0 := by rw [fa2]; rfl
            have HLE := Lib.hid hleast
            have HRE := Lib.hid hre
            have HW0 := Lib.hid hw0
            have hsz := X.below.size
            have hDl : D.length + (sD s s.rd.length).freed.length ≤ R.length := by rw [← hre, List.length_append]; omega
            clear fa1 fa2 fa3 ff hleast hre hw0 hfl
            generalize sD s s.rd.length = sE at *
            go_wp2_with fail
            refine (free_any _ B _ _ _ X.obj (by omega)).mono ?_
            rintro e w5 ⟨ro, rfl, hro, hO5, hM5⟩
            have X5 := X.moves hO5 hM5
            have r15 := r1.moves hM5
            have r25 := r2.moves hM5
            have ro5 := Row.handed (F' := F) X hro rfl (fun _ h => h)
            have hsz5 := X5.below.size
            clear hro hO5 hM5 X r1 r2 rv
            go_wp2_with (at_builtin; refine wpList_append_rd _ rfl _ _ rfl rfl w1.heap.size _ _ D sE.freed rfl rfl r25.row ro5.rd ?m1 ?m2 ?_)
            case m1 => omega
            case m2 => exact hsz5
            intro f' w6 hrow6 hg6 hv6
            obtain ⟨X6, r26, r16, ap6⟩ := grow1 X5 r25 r15 hap.symm hrow6 (by simp) hg6 hv6
            rw [HRE.out] at r26
            clear hrow6 hg6 hv6 X5 r15 r25 ro5
            go_wp2_with fail
            refine (same_any _ _ _ R R r26.rd r16.rd (by omega) (by omega)).mono ?_
            rintro e w7 ⟨rfl, hb7⟩
            rw [sameB_self]
            have X7 := X6.by hb7
            clear X6 r26 r16 ap6 hb7
            go_wp2_with fail
            refine (waiting_any _ B _ _ _ X7.obj (by omega)).mono ?_
            rintro e w8 ⟨vw, rfl, hrw, hb8⟩
            rw [HW0.out] at hrw
            obtain ⟨aw, cw, rfl⟩ := owns_shape hrw
            have X8 := X7.by hb8
            clear X7 hrw hb8
            go_wp2_with fail
            refine (least_any _ B _ _ _ X8.obj).mono ?_
            rintro e w9 ⟨rfl, hb9⟩
            have X9 := X8.by hb9
            rw [HLE.out]
            clear X8 hb9
            go_wp2_with fail
            refine (now_any _ B _ _ _ X9.obj).mono ?_
            rintro e w10 ⟨rfl, hw10⟩
            subst hw10
            have hq : (sE.free.now == sE.free.now) = true := by simp
            go_wp2
            go_ret
            exact ⟨rfl, hb1.trans (X9.below.mono hb1.size)⟩

end Go.Proofs.Ytphmfmfbneoljaa.Ep
