/- Walk of the statement 'a retired block waits for the readers': it returns true, and nothing that was there changes. -/
import Derived.Test.YtphmfmfbneoljaaPlainF
namespace Go.Proofs.Ytphmfmfbneoljaa.Ep
open Go Go.RowKit Go.Maps

/-- What holds when k calls have been played. -/
def Played (w0 wr : World) (B : Nat) (k : Nat) : Prop := ∃ s F c, Own w0 wr B s F c ∧ c ≤ 11 * k
/-- The object, a row of readers, and how the two stand to the block that waits. -/
def Wt6 (w0 wr : World) (B : Nat) (n0 block : Int) (rs : List Int) (v : Value) (C : Nat) : Prop :=
  ∃ t F c, Own w0 wr B t F c ∧ Row w0 wr F v rs ∧ Jd n0 block t rs ∧ c ≤ C
/-- The length of a slice value. -/
def lenV : Value → Nat
  | .slice _ n _ => n
  | _ => 0

set_option maxHeartbeats 8000000 in
set_option maxRecDepth 100000 in
theorem waits_any (w : World) (ao : Option Addr) (cap : Nat) (l : List Call) (block : Int) (ao2 : Option Addr) (cap2 : Nat) (os : List Int) (o : Int)
    (hu : Script w (.slice ao l.length cap) l) (hblk : (Lit.int .i64 block).wf = true) (hos : Rd w (.slice ao2 os.length cap2) os) (hosw : ∀ x ∈ os, (Lit.int .i64 x).wf = true) (ho : 0 ≤ o ∧ o ≤ 255) :
    Calls Try.prog 6 #[.slice ao l.length cap, .int .i64 block, .slice ao2 os.length cap2, .int .u8 o] w fun e w' => e = .returned (.bool true) ∧ Below w.heap.size w w' := by
  have HU := Lib.hid hu
  have HOS := Lib.hid hos
  have HOSW := Lib.hid hosw
  have HBLK := Lib.hid hblk
  clear hu hos hosw hblk
  go_enter Try.func6, Try.ntmps6
  go_wp2_with fail
  refine (sanity_any w).mono ?_
  rintro e w1 ⟨rfl, hb1⟩
  go_wp2_with fail
  refine (few_any _ _ l (HU.out.below hb1)).mono ?_
  rintro e w' ⟨rfl, hw'⟩
  subst hw'
  cases hf : fewB l
  · go_wp2
    go_ret
    exact ⟨rfl, hb1⟩
  · obtain ⟨f1, f2⟩ := fewB_t hf
    have HF1 := Lib.hid f1
    have HU1 := Lib.hid (HU.out.below hb1)
    have HOS1 := Lib.hid (HOS.out.below hb1)
    have hlen : (l.length : Int) ≤ 40 := by omega
    clear f1 hf HU HOS
    by_cases hol : 10 < os.length
    · go_wp2
      go_ret
      exact ⟨rfl, hb1⟩
    · go_wp2_with fail
      refine (new_any _).mono ?_
      rintro e w2 ⟨B, F0, rfl, hO, hb, hF⟩
      have X0 : Own w1 w2 B St.new F0 0 := ⟨hO, hF, hb⟩
      have HP0 := Lib.hid (show Played w1 w2 B 0 from ⟨_, _, _, X0, Nat.le_refl _⟩)
      clear hO hb hF X0
      go_wp2
      go_loopw [11] (fun i wr => ∃ k : Nat, k ≤ l.length ∧ i = .int .i64 k ∧ Played w1 wr B k) (fun i _ => l.length - (intOf i).toNat)
      case atStart => exact ⟨0, Nat.zero_le _, rfl, HP0.out⟩
      case round =>
        obtain ⟨k, hk, rfl, hP⟩ := hrel
        by_cases hlt : k < l.length
        · obtain ⟨b, off, cp, he, hc1, hm1, hb, q1, q2, q3, hok⟩ := HU1.out.at hlt
          obtain ⟨s, F, c, X, hcc⟩ := hP
          have hbs := HF1.out k hlt
          have d1 := (X.below.cell (p := ⟨b, off + k * 3, none⟩) hb).trans q1
          have d2 := (X.below.cell (p := ⟨b, off + k * 3 + 1, none⟩) hb).trans q2
          have d3 := (X.below.cell (p := ⟨b, off + k * 3 + 2, none⟩) hb).trans q3
          obtain ⟨av, cv, hsh⟩ := hok.2.2.1.shape
          have hd := do_round (c := c) X hok (by omega)
          rw [hsh] at hd d3
          have HD := Lib.hid hd
          clear q1 q2 q3 hd hsh
          simp only [Value.slice.injEq, true_and] at he
          obtain ⟨rfl, rfl⟩ := he
          go_wp2_with fail
          refine HD.out.mono ?_
          rintro e w3 ⟨ro, F', rfl, X3, ro3, hM, hro⟩
          have HN := Lib.hid (show Played w1 w3 B (k + 1) from ⟨_, _, _, X3, by omega⟩)
          clear d1 d2 d3 HD hM hro ro3 X X3
          go_wp2
          go_roundw
          case rel => exact ⟨k + 1, by omega, by go_num, HN.out⟩
          case measure => simp [intOf]; omega
        · obtain rfl : k = l.length := by omega
          obtain ⟨s, F, c, X, hcc⟩ := hP
          have hi := X.obj.inv
          have hrdl := X.obj.rd_le
          go_wp2_with fail
          refine (readers_any _ B _ _ _ X.obj (by omega)).mono ?_
          rintro e w3 ⟨v, rfl, hrv, hb3⟩
          have rv := Row.handed (F' := F) (xs := names s.rd) X hrv (names_length _).symm (fun _ h => h)
          have X3 := X.by hb3
          clear hrv hb3 X
          go_wp2_with fail
          refine (retire_any _ B _ _ _ _ [block] (X3.alloc _).obj (rd_new1 _ block) (fun k hk _ hf => by cases hk; exact Nat.lt_irrefl _ (X3.obj.lt _ hf)) (fun x hx => by rw [List.mem_singleton.1 hx]; exact HBLK.out) (by simp; omega)).mono ?_
          rintro e w4 ⟨rfl, F4, hO4, hM4⟩
          have X4 := (X3.alloc _).moves hO4 hM4
          have rv4 := (rv.by ((Below.refl _ _).alloc (Nat.le_refl _) (.cells #[.int .i64 block] 3))).moves hM4
          clear hO4 hM4 X3 rv
          by_cases hE : s.retireErr [block] = 0
          · have HJ := Lib.hid (Jd.start hi hE)
            rw [hE]
            have HW0 := Lib.hid (show Wt6 w1 w4 B s.now block (names s.rd) v (c + 2) from ⟨_, _, _, X4, rv4, HJ.out, by simp⟩)
            have hn0 := names_length s.rd
            have hrl : (names s.rd).length ≤ 440 := by omega
            clear X4 rv4 HJ hE hn0
            generalize names s.rd = rs0 at *
            generalize s.now = n0 at *
            clear hi hrdl
            go_wp2
            go_loopw [12] (fun v wr => ∃ rs : List Int, rs.length ≤ 440 ∧ Wt6 w1 wr B n0 block rs v (5000 - 10 * rs.length)) (fun v _ => lenV v)
            case atStart =>
              obtain ⟨t, F, c, X, rv, J, hc⟩ := HW0.out
              exact ⟨rs0, hrl, t, F, c, X, rv, J, by omega⟩
            case round =>
              obtain ⟨rs, hrs, t, F, c, X, rv, J, hcc⟩ := hrel
              obtain ⟨av, cv, hsh⟩ := owns_shape rv.row
              subst hsh
              have hwb := X.obj.bounds.1
              have hfb := freed_length t
              have hob := olds_le t.least t.wt
              by_cases hz : rs = []
              · subst hz
                have HJD := Lib.hid (J.done X.obj.inv)
                have hf2 := freed_length t.free
                have ho2 := olds_le t.free.least t.free.wt
                clear J
                go_wp2_with fail
                refine (free_any _ B _ _ _ X.obj (by omega)).mono ?_
                rintro e w5 ⟨r5, rfl, hr5, hO5, hM5⟩
                have X5 := X.moves hO5 hM5
                have hwb5 := X5.obj.bounds.1
                have rd5 : Rd w5 r5 t.freed := Rd.of_owns hr5
                clear hr5 hO5 hM5 X rv
                go_wp2_with fail
                refine (in_any _ _ _ _ rd5 (by omega)).mono ?_
                rintro e w6 ⟨rfl, hw6⟩
                subst hw6
                rw [HJD.out.1]
                clear rd5
                go_wp2_with fail
                refine (free_any _ B _ _ _ X5.obj (by omega)).mono ?_
                rintro e w6 ⟨r6, rfl, hr6, hO6, hM6⟩
                have X6 := X5.moves hO6 hM6
                have rd6 : Rd w6 r6 t.free.freed := Rd.of_owns hr6
                clear hr6 hO6 hM6 X5
                go_wp2_with fail
                refine (in_any _ _ _ _ rd6 (by omega)).mono ?_
                rintro e w7 ⟨rfl, hw7⟩
                subst hw7
                rw [HJD.out.2]
                clear rd6
                go_wp2
                go_ret
                exact ⟨rfl, hb1.trans (X6.below.mono hb1.size)⟩
              · have hzl : 0 < rs.length := List.length_pos_iff.2 hz
                have hE := J.free_not X.obj.inv hz
                have HE1 := Lib.hid hE.1
                have HE2 := Lib.hid hE.2
                have HZ := Lib.hid hz
                clear hE J hz
                go_wp2_with fail
                refine (free_any _ B _ _ _ X.obj (by omega)).mono ?_
                rintro e w5 ⟨r5, rfl, hr5, hO5, hM5⟩
                have X5 := X.moves hO5 hM5
                have rv5 := rv.moves hM5
                have rd5 : Rd w5 r5 t.freed := Rd.of_owns hr5
                clear hr5 hO5 hM5 X rv
                go_wp2_with fail
                refine (in_any _ _ _ _ rd5 (by omega)).mono ?_
                rintro e w6 ⟨rfl, hw6⟩
                subst hw6
                rw [HE1.out]
                have HW5 := Lib.hid (show Wt6 w1 w5 B n0 block rs _ (5000 - 10 * rs.length) from ⟨_, _, _, X5, rv5, HE2.out, hcc⟩)
                clear rd5 X5 rv5 HE1 HE2 hcc hwb hfb hob
                go_wp2
                go_loopw [14] (fun i wr => ∃ j : Nat, j ≤ os.length ∧ i = .int .i64 j ∧ Wt6 w1 wr B n0 block rs (.slice av rs.length cv) (5000 - 10 * rs.length + j)) (fun i _ => os.length - (intOf i).toNat)
                case atStart => exact ⟨0, Nat.zero_le _, rfl, HW5.out⟩
                case round =>
                  obtain ⟨j, hj, rfl, t, F, c, X, rv, J, hcc⟩ := hrel
                  by_cases hlt : j < os.length
                  · obtain ⟨b, off, rfl, -, hcp, hcm, hbl, q1⟩ := HOS1.out.at hlt
                    have d1 := (X.below.cell (p := ⟨b, off + j, none⟩) hbl).trans q1
                    have hin := in_any wr _ rs (nthI os j) rv.rd (by omega)
                    unfold maxLen at hcm
                    clear q1
                    cases hx : inB rs (nthI os j)
                    · rw [hx] at hin
                      have HIN := Lib.hid hin
                      have HEN := Lib.hid (enter_any wr B t F c (nthI os j) X.obj (HOSW.out _ (nthI_mem hlt)) (by omega))
                      have HST := Lib.hid (show ∀ w6 F', Obj w6 B (t.enter (nthI os j)) F' (c + 1) → Moves F F' wr w6 → Wt6 w1 w6 B n0 block rs (.slice av rs.length cv) (5000 - 10 * rs.length + (j + 1)) from fun w6 F' hO hM => ⟨_, _, _, X.moves hO hM, rv.moves hM, J.enter, by omega⟩)
                      clear hin hx X rv J
                      go_wp2_with fail
                      refine HIN.out.mono ?_
                      rintro e w6 ⟨rfl, hw6⟩
                      subst hw6
                      go_wp2_with fail
                      refine HEN.out.mono ?_
                      rintro e w6 ⟨rfl, F6, hO6, hM6⟩
                      have HN := Lib.hid (HST.out w6 F6 hO6 hM6)
                      clear hO6 hM6
                      go_wp2
                      go_roundw
                      case rel => exact ⟨j + 1, by omega, by go_num, HN.out⟩
                      case measure => simp [intOf]; omega
                    · rw [hx] at hin
                      have HIN := Lib.hid hin
                      have HST := Lib.hid (show Wt6 w1 wr B n0 block rs (.slice av rs.length cv) (5000 - 10 * rs.length + (j + 1)) from ⟨_, _, _, X, rv, J, by omega⟩)
                      clear hin hx X rv J
                      go_wp2_with fail
                      refine HIN.out.mono ?_
                      rintro e w6 ⟨rfl, hw6⟩
                      subst hw6
                      go_wp2
                      go_roundw
                      case rel => exact ⟨j + 1, by omega, by go_num, HST.out⟩
                      case measure => simp [intOf]; omega
                  · have hwb := X.obj.bounds.1
                    have hfb := freed_length t
                    have hob := olds_le t.least t.wt
                    have hE := J.free_not X.obj.inv HZ.out
                    have HE1 := Lib.hid hE.1
                    have HE2 := Lib.hid hE.2
                    clear hE J
                    go_wp2_with fail
                    refine (free_any _ B _ _ _ X.obj (by omega)).mono ?_
                    rintro e w5 ⟨r5, rfl, hr5, hO5, hM5⟩
                    have X5 := X.moves hO5 hM5
                    have rv5 := rv.moves hM5
                    have rd5 : Rd w5 r5 t.freed := Rd.of_owns hr5
                    clear hr5 hO5 hM5 X rv
                    go_wp2_with fail
                    refine (in_any _ _ _ _ rd5 (by omega)).mono ?_
                    rintro e w6 ⟨rfl, hw6⟩
                    subst hw6
                    rw [HE1.out]
                    have HW6 := Lib.hid (show Wt6 w1 w5 B n0 block rs (.slice av rs.length cv) (5000 - 10 * rs.length + 10) from ⟨_, _, _, X5, rv5, HE2.out, by omega⟩)
                    clear rd5 X5 rv5 HE1 HE2 hcc hwb hfb hob
                    go_wp2
                    go_loopw [16] (fun i wr => ∃ j : Nat, j ≤ os.length + 1 ∧ i = .int .i64 j ∧ Wt6 w1 wr B n0 block rs (.slice av rs.length cv) (5000 - 10 * rs.length + 10)) (fun i _ => os.length + 2 - (intOf i).toNat)
                    case atStart => exact ⟨0, Nat.zero_le _, rfl, HW6.out⟩
                    case round =>
                      obtain ⟨j, hj, rfl, t, F, c, X, rv, J, hcc⟩ := hrel
                      by_cases hlt : j < os.length
                      · obtain ⟨b, off, rfl, -, hcp, hcm, hbl, q1⟩ := HOS1.out.at hlt
                        have d1 := (X.below.cell (p := ⟨b, off + j, none⟩) hbl).trans q1
                        have hin := in_any wr _ rs (nthI os j) rv.rd (by omega)
                        unfold maxLen at hcm
                        clear q1
                        cases hx : inB rs (nthI os j)
                        · rw [hx] at hin
                          have HIN := Lib.hid hin
                          have HEN := Lib.hid (leave_any wr B t F c (nthI os j) X.obj (HOSW.out _ (nthI_mem hlt)))
                          have HST := Lib.hid (show ∀ w6 F', Obj w6 B (t.leave (nthI os j)) F' c → Moves F F' wr w6 → Wt6 w1 w6 B n0 block rs (.slice av rs.length cv) (5000 - 10 * rs.length + 10) from fun w6 F' hO hM => ⟨_, _, _, X.moves hO hM, rv.moves hM, J.leave (inB_false.1 hx), hcc⟩)
                          clear hin hx X rv J
                          go_wp2_with fail
                          refine HIN.out.mono ?_
                          rintro e w6 ⟨rfl, hw6⟩
                          subst hw6
                          go_wp2_with fail
                          refine HEN.out.mono ?_
                          rintro e w6 ⟨rfl, F6, hO6, hM6⟩
                          have HN := Lib.hid (HST.out w6 F6 hO6 hM6)
                          clear hO6 hM6
                          go_wp2
                          go_roundw
                          case rel => exact ⟨j + 2, by omega, by go_num, HN.out⟩
                          case measure => simp [intOf]; omega
                        · rw [hx] at hin
                          have HIN := Lib.hid hin
                          have HST := Lib.hid (show Wt6 w1 wr B n0 block rs (.slice av rs.length cv) (5000 - 10 * rs.length + 10) from ⟨_, _, _, X, rv, J, hcc⟩)
                          clear hin hx X rv J
                          go_wp2_with fail
                          refine HIN.out.mono ?_
                          rintro e w6 ⟨rfl, hw6⟩
                          subst hw6
                          go_wp2
                          go_roundw
                          case rel => exact ⟨j + 2, by omega, by go_num, HST.out⟩
                          case measure => simp [intOf]; omega
                      · obtain ⟨o1, o2⟩ := ho
                        obtain ⟨kk, hkk, hklt⟩ : ∃ kk : Nat, o.tmod (rs.length : Int) = (kk : Int) ∧ kk < rs.length := by
                          refine ⟨o.toNat % rs.length, ?_, Nat.mod_lt _ hzl⟩
                          rw [Int.tmod_eq_emod_of_nonneg o1, Int.natCast_emod, Int.toNat_of_nonneg o1]
                        obtain ⟨bv, ofv, rfl, -, hcvp, hcvm, hbvl, q1⟩ := rv.rd.at hklt
                        have hlv := leave_any wr B t F c (nthI rs kk) X.obj (by
                          obtain ⟨e, he, _⟩ := J.held _ (nthI_mem hklt)
                          exact X.obj.rd_wf _ (names_mem.2 ⟨e, he⟩))
                        obtain ⟨jl1, jl2⟩ := J.leave_at hklt
                        rw [jl1] at hlv
                        have HLV := Lib.hid hlv
                        have HJ := Lib.hid jl2
                        unfold maxLen at hcvm
                        clear jl1 jl2 hlv J
                        go_wp2_with fail
                        refine HLV.out.mono ?_
                        rintro e w6 ⟨rfl, F6, hO6, hM6⟩
                        have X6 := X.moves hO6 hM6
                        have rv6 := rv.moves hM6
                        clear hO6 hM6 X rv q1 HLV
                        have X7 := X6.alloc (.cells #[] 3)
                        have rv7 := rv6.by ((Below.refl _ _).alloc (Nat.le_refl _) (.cells #[] 3))
                        have re7 := Row.empty X6
                        have ap7 := Apart.empty rv6
                        have rt7 := rv7.rd.taken hklt
                        have hsz7 := X7.below.size
                        clear X6 rv6
                        go_wp2_with (at_builtin; refine wpList_append_rd _ rfl _ _ rfl rfl w1.heap.size _ _ [] (rs.take kk) rfl rfl re7.row rt7 ?a3 ?a4 ?_)
                        case a3 => simp; omega
                        case a4 => exact hsz7
                        intro v8 w8 hrow8 hg8 hv8
                        have hv8' : v8.ownBlock = (Value.slice (some ⟨w6.heap.size, 0, none⟩) 0 0).ownBlock ∨ v8.ownBlock = some (w6.alloc (.cells #[] 3)).heap.size := by simpa using hv8
                        obtain ⟨X8, rl8, rv8, ap8⟩ := grow1 X7 re7 rv7 ap7 hrow8 (by simp) hg8 hv8'
                        have hsz8 := X8.below.size
                        have hLl : (rs.take kk).length = kk := by simp; omega
                        have hDl : (rs.drop (kk + 1)).length = rs.length - (kk + 1) := by simp
                        have HLl := Lib.hid hLl
                        have HDl := Lib.hid hDl
                        clear X7 rv7 re7 ap7 rt7 hrow8 hg8 hv8 hv8' hsz7 hLl hDl
                        by_cases hend : kk + 1 < rs.length
                        · have rd8 := rv8.rd.dropped hend
                          go_wp2_with (at_builtin; refine wpList_append_rd _ rfl _ _ rfl rfl w1.heap.size _ _ (rs.take kk) (rs.drop (kk + 1)) rfl rfl rl8.row rd8 ?b3 ?b4 ?_)
                          case b3 => rw [HLl.out, HDl.out]; omega
                          case b4 => exact hsz8
                          intro v9 w9 hrow9 hg9 hv9
                          obtain ⟨X9, rl9, -, -⟩ := grow1 X8 rl8 rv8 ap8 hrow9 (by simp) hg9 hv9
                          have hlen9 : (rs.take kk ++ rs.drop (kk + 1)).length = rs.length - 1 := by rw [List.length_append, HLl.out, HDl.out]; omega
                          obtain ⟨a9, c9, hsh9⟩ := owns_shape rl9.row
                          rw [hlen9] at hsh9
                          have HN := Lib.hid (show Wt6 w1 w9 B n0 block (rs.take kk ++ rs.drop (kk + 1)) v9 (5000 - 10 * (rs.take kk ++ rs.drop (kk + 1)).length) from ⟨_, _, _, X9, rl9, HJ.out, by rw [hlen9]; omega⟩)
                          have HL9 := Lib.hid hlen9
                          subst hsh9
                          clear hrow9 hg9 hv9 X9 rl9 X8 rl8 rv8 ap8 rd8 hlen9
                          go_wp2
                          go_roundw
                          case rel => exact ⟨_, by rw [HL9.out]; omega, HN.out⟩
                          case measure => simp [lenV]; omega
                        · have hnn : rs.length = kk + 1 := by omega
                          have HNN := Lib.hid hnn
                          clear hnn
                          by_cases hcv : cv = kk + 1
                          · subst hcv
                            go_wp2_with (at_builtin; refine wpList_append_rd _ rfl _ _ rfl rfl w1.heap.size _ _ (rs.take kk) [] rfl rfl rl8.row ?e2a ?e3a ?e4a ?_)
                            case e2a => exact Rd.zero (by have := HNN.out; omega)
                            case e3a => rw [HLl.out]; simp; omega
                            case e4a => exact hsz8
                            intro v9 w9 hrow9 hg9 hv9
                            have hd0 : rs.drop (kk + 1) = [] := List.eq_nil_of_length_eq_zero (by rw [HDl.out]; omega)
                            obtain ⟨X9, rl9, -, -⟩ := grow1 (R' := rs.take kk) X8 rl8 rv8 ap8 hrow9 (by simp) hg9 hv9
                            have hlen9 : (rs.take kk).length = rs.length - 1 := by rw [HLl.out]; have := HNN.out; omega
                            obtain ⟨a9, c9, hsh9⟩ := owns_shape rl9.row
                            rw [hlen9] at hsh9
                            have HN := Lib.hid (show Wt6 w1 w9 B n0 block (rs.take kk) v9 (5000 - 10 * (rs.take kk).length) from ⟨_, _, _, X9, rl9, by have := HJ.out; rwa [hd0, List.append_nil] at this, by rw [hlen9]; omega⟩)
                            have HL9 := Lib.hid hlen9
                            subst hsh9
                            clear hrow9 hg9 hv9 X9 rl9 X8 rl8 rv8 ap8 hlen9 hd0
                            go_wp2
                            go_roundw
                            case rel => exact ⟨_, by rw [HL9.out]; omega, HN.out⟩
                            case measure => simp [lenV]; omega
                          · go_wp2_with (at_builtin; refine wpList_append_rd _ rfl _ _ rfl rfl w1.heap.size _ _ (rs.take kk) [] rfl rfl rl8.row ?e2b ?e3b ?e4b ?_)
                            case e2b => exact Rd.zero (by have := HNN.out; omega)
                            case e3b => rw [HLl.out]; simp; omega
                            case e4b => exact hsz8
                            intro v9 w9 hrow9 hg9 hv9
                            have hd0 : rs.drop (kk + 1) = [] := List.eq_nil_of_length_eq_zero (by rw [HDl.out]; omega)
                            obtain ⟨X9, rl9, -, -⟩ := grow1 (R' := rs.take kk) X8 rl8 rv8 ap8 hrow9 (by simp) hg9 hv9
                            have hlen9 : (rs.take kk).length = rs.length - 1 := by rw [HLl.out]; have := HNN.out; omega
                            obtain ⟨a9, c9, hsh9⟩ := owns_shape rl9.row
                            rw [hlen9] at hsh9
                            have HN := Lib.hid (show Wt6 w1 w9 B n0 block (rs.take kk) v9 (5000 - 10 * (rs.take kk).length) from ⟨_, _, _, X9, rl9, by have := HJ.out; rwa [hd0, List.append_nil] at this, by rw [hlen9]; omega⟩)
                            have HL9 := Lib.hid hlen9
                            subst hsh9
                            clear hrow9 hg9 hv9 X9 rl9 X8 rl8 rv8 ap8 hlen9 hd0
                            go_wp2
                            go_roundw
                            case rel => exact ⟨_, by rw [HL9.out]; omega, HN.out⟩
                            case measure => simp [lenV]; omega
          · have hq : (s.retireErr [block] != 0) = true := by simpa using hE
            have HI := Lib.hid (retire_no hE)
            clear hE
            go_wp2_with fail
            refine (waiting_any _ B _ _ _ X4.obj (by simp; omega)).mono ?_
            rintro e w5 ⟨vw, rfl, hrw, hb5⟩
            have X5 := X4.by hb5
            have rd5 : Rd w5 vw (names (s.retire [block]).wt) := Rd.of_owns (by rw [names_length]; exact hrw)
            have hwl := X4.obj.bounds.1
            have hwn := names_length (s.retire [block]).wt
            clear hrw hb5 X4 rv4
            go_wp2_with fail
            refine (in_any _ _ _ _ rd5 (by simp at hwl; omega)).mono ?_
            rintro e w6 ⟨rfl, hw6⟩
            subst hw6
            rw [HI.out]
            go_wp2
            go_ret
            exact ⟨rfl, hb1.trans (X5.below.mono hb1.size)⟩

end Go.Proofs.Ytphmfmfbneoljaa.Ep
