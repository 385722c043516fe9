/- Walk of the statement 'the object matches the specification': it returns true, and nothing that was there changes. -/
import Derived.Test.YtphmfmfbneoljaaPair
namespace Go.Proofs.Ytphmfmfbneoljaa.Ep
open Go Go.RowKit Go.Maps
attribute [local go_sem ↓] Go.wp_at_zero Go.wp_at_succ

/-- What holds when k calls have been played on both. -/
def Matched (w0 wr : World) (B B2 : Nat) (k : Nat) : Prop := ∃ s F G c, Pair w0 wr B B2 s F G c ∧ c ≤ 11 * k

set_option maxHeartbeats 8000000 in
set_option maxRecDepth 100000 in
theorem matches_any (w : World) (ao : Option Addr) (cap : Nat) (l : List Call) (hu : Script w (.slice ao l.length cap) l) :
    Calls Try.prog 3 #[.slice ao l.length cap] w fun e w' => e = .returned (.bool true) ∧ Below w.heap.size w w' := by
  have HU := Lib.hid hu
  clear hu
  go_enter Try.func3, Try.ntmps3
  go_wp2_with fail
  refine (sanity_any w).mono ?_
  rintro e w1 ⟨rfl, hb1⟩
  go_wp2_with fail
  refine (few_any _ _ l (HU.out.below hb1)).mono ?_
  rintro e w' ⟨rfl, hw'⟩
  subst hw'
  cases hf : fewB l
  · go_wp2
    go_ret
    exact ⟨rfl, hb1⟩
  · obtain ⟨f1, f2⟩ := fewB_t hf
    have HF1 := Lib.hid f1
    have HU1 := Lib.hid (HU.out.below hb1)
    have hlen : (l.length : Int) ≤ 40 := by omega
    clear f1 hf HU
    go_wp2_with fail
    refine (new_any _).mono ?_
    rintro e w2 ⟨B, F0, rfl, hO, hb, hF⟩
    have X0 : Own w1 w2 B St.new F0 0 := ⟨hO, hF, hb⟩
    clear hO hF
    go_wp2_with fail
    refine (rnew_any _).mono ?_
    rintro e w3 ⟨B2, G0, rfl, hR, hb2, hG⟩
    have P0 : Pair w1 w3 B B2 St.new F0 G0 0 := ⟨X0.by hb2, hR, fun k hk => Nat.le_trans hb.size (hG k hk), fun k hk hg => by have h1 := X0.obj.lt k hk; have h2 := hG k hg; omega⟩
    have HP0 := Lib.hid (show Matched w1 w3 B B2 0 from ⟨_, _, _, _, P0, Nat.le_refl _⟩)
    clear hb hR hb2 hG X0 P0
    go_wp2
    go_loopw [6] (fun i wr => ∃ k : Nat, k ≤ l.length ∧ i = .int .i64 k ∧ Matched w1 wr B B2 k) (fun i _ => l.length - (intOf i).toNat)
    case atStart => exact ⟨0, Nat.zero_le _, rfl, HP0.out⟩
    case round =>
      obtain ⟨k, hk, rfl, hP⟩ := hrel
      by_cases hlt : k < l.length
      · obtain ⟨b, off, cp, he, hc1, hm1, hb, q1, q2, q3, hok⟩ := HU1.out.at hlt
        obtain ⟨s, F, G, c, P, hcc⟩ := hP
        have hbs := HF1.out k hlt
        obtain ⟨av, cv, hsh⟩ := hok.2.2.1.shape
        rw [hsh] at q3
        have HQ1 := Lib.hid q1
        have HQ2 := Lib.hid q2
        have HQ3 := Lib.hid q3
        have d1 := (P.own.below.cell (p := ⟨b, off + k * 3, none⟩) hb).trans q1
        have d2 := (P.own.below.cell (p := ⟨b, off + k * 3 + 1, none⟩) hb).trans q2
        have d3 := (P.own.below.cell (p := ⟨b, off + k * 3 + 2, none⟩) hb).trans q3
        have hd := pair_do (c := c) P hok (by omega)
        rw [hsh] at hd
        have HD := Lib.hid hd
        have HSH := Lib.hid hsh
        have hnew := P.new
        have HNEW := Lib.hid hnew
        have hsb := P.own.obj.bounds.1
        have hso := stepOut_le s (nthC l k).kind
        clear q1 q2 q3 hd hsh hnew P
        simp only [Value.slice.injEq, true_and] at he
        obtain ⟨rfl, rfl⟩ := he
        go_wp2_with fail
        refine HD.out.mono ?_
        rintro e w4 ⟨ro, F', rfl, X, hR, hdj, hrd, hro⟩
        have e1 := (X.below.cell (p := ⟨b, off + k * 3, none⟩) hb).trans HQ1.out
        have e2 := (X.below.cell (p := ⟨b, off + k * 3 + 1, none⟩) hb).trans HQ2.out
        have e3 := (X.below.cell (p := ⟨b, off + k * 3 + 2, none⟩) hb).trans HQ3.out
        have hd2 := pair_rdo (ro := ro) X hR HNEW.out hdj hrd hro hok (by omega) rfl rfl
        rw [HSH.out] at hd2
        have HD2 := Lib.hid hd2
        clear d1 d2 d3 HD X hR hdj hrd hro hd2
        go_wp2_with fail
        refine HD2.out.mono ?_
        rintro e w5 ⟨rb, G', rfl, P5, hrd5, hrb5⟩
        obtain ⟨vR, vW, ⟨aR, nR, kR, rfl⟩, ⟨aW, nW, kW, rfl⟩, hB2, g0, g1, g2, hnR, hnW, hlR, hlW⟩ := P5.cells (by omega)
        have CS := Lib.hid (later_same hrd5 hrb5 (by omega))
        have CN := Lib.hid (later_now P5)
        have CL := Lib.hid (later_least P5)
        have CRL := Lib.hid (later_rleast P5 (by omega))
        have CRD := Lib.hid (later_readers P5 (by omega))
        have CWT := Lib.hid (later_waiting P5 (by omega))
        have CNR := Lib.hid hnR
        have CNW := Lib.hid hnW
        have HP5 := Lib.hid P5
        clear hrd5 hrb5 hnR hnW P5 HD2 e1 e2 e3
        generalize s.step (nthC l k).kind (nthC l k).a (nthC l k).bs = s' at *
        generalize s.stepErr (nthC l k).kind (nthC l k).a (nthC l k).bs = er at *
        go_wp2
        have hb5 : Below w5.heap.size w5 w5.drew := (Below.refl _ _).drew
        go_region_held3 (fun w' => Below w5.heap.size w5 w' ∧ w'.cell? ⟨B2, 2, none⟩ = some (.int .i64 s'.now)) (first | exact ⟨hb5, g2⟩ | exact ⟨hbw, (hbw.cell (p := ⟨B2, 2, none⟩) hB2).trans g2⟩)
          (first
            | (go_at_call 13; refine (CS.out _ (And.left (by assumption))).mono ?_; rintro e w' ⟨rfl, hbw⟩)
            | (go_at_call 14; refine (CN.out _ (And.left (by assumption))).mono ?_; rintro e w' ⟨rfl, hbw⟩)
            | (go_at_call 15; refine (CL.out _ (And.left (by assumption))).mono ?_; rintro e w' ⟨rfl, hbw⟩)
            | (go_at_call 16; refine (CRL.out _ (And.left (by assumption))).mono ?_; rintro e w' ⟨rfl, hbw⟩))
        have hb9 := hbw
        clear CS CN CL CRL hb5
        have hlr : (names s'.rd).length < 1000000000 := by rw [names_length]; omega
        have hlw : (names s'.wt).length < 1000000000 := by rw [names_length]; omega
        have HLR := Lib.hid hlr
        have HLW := Lib.hid hlw
        clear hbw hlr hlw
        go_wp2
        have hb10 := hb9.drew
        go_region_held3 (fun w' => Below w5.heap.size w5 w' ∧ w'.cell? ⟨B2, 0, none⟩ = some (.slice aR nR kR) ∧ w'.cell? ⟨B2, 1, none⟩ = some (.slice aW nW kW)) (first | exact ⟨hb10, (hb10.cell (p := ⟨B2, 0, none⟩) hB2).trans g0, (hb10.cell (p := ⟨B2, 1, none⟩) hB2).trans g1⟩ | exact ⟨hbw, (hbw.cell (p := ⟨B2, 0, none⟩) hB2).trans g0, (hbw.cell (p := ⟨B2, 1, none⟩) hB2).trans g1⟩)
          (first
            | (go_at_call 19; refine (CWT.out _ (And.left (by assumption))).mono ?_; rintro e w' ⟨vC, rfl, hrC, hbw, hbW⟩)
            | (go_at_call 18; have hrC' := hrC; refine (CNW.out _ (And.left (by assumption))).mono ?_; rintro e w' ⟨vD, rfl, hrD, hbw, hbW⟩; replace hrC := hrC'.below hbW)
            | (go_at_call 13; have hrC' := hrC; refine (same_any _ vC vD (names s'.wt) (names s'.wt) hrC hrD HLW.out HLW.out).mono ?_; rintro e w' ⟨rfl, hbW⟩; rw [sameB_self]; have hbw := below_next (And.left (by assumption)) hbW)
            | (go_at_call 17; refine (CRD.out _ (And.left (by assumption))).mono ?_; rintro e w' ⟨vA, rfl, hrA, hbw, hbW⟩)
            | (go_at_call 18; refine (CNR.out _ (And.left (by assumption))).mono ?_; rintro e w' ⟨vB, rfl, hrB, hbw, hbW⟩; replace hrA := hrA.below hbW)
            | (go_at_call 13; refine (same_any _ vA vB (names s'.rd) (names s'.rd) hrA hrB HLR.out HLR.out).mono ?_; rintro e w' ⟨rfl, hbW⟩; rw [sameB_self]; have hbw := below_next (And.left (by assumption)) hbW))
        have HN := Lib.hid (show Matched w1 _ B B2 (k + 1) from ⟨_, _, _, _, HP5.out.by hbw, by omega⟩)
        clear hbw hb10 hb9 CRD CWT CNR CNW HP5
        go_wp2
        go_roundw
        case rel => exact ⟨k + 1, by omega, by go_num, HN.out⟩
        case measure => simp [intOf]; omega
      · obtain ⟨s, F, G, c, P, hcc⟩ := hP
        have hbel := P.own.below
        clear P
        go_wp2
        go_ret
        exact ⟨rfl, hb1.trans (hbel.mono hb1.size)⟩

end Go.Proofs.Ytphmfmfbneoljaa.Ep
