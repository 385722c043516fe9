/- Contract of with of the specification's package of layer 10. -/
import Derived.Test.YtcngblnkfiggjaaDoorWalkB
namespace Go.Proofs.YtcngblnkfiggjaaDoor.Rm
open Go Go.RowKit Go.Maps

/-- The state of the loop behind k rounds. -/
def stW (x : Int × Int) (l : List (Int × Int)) (k : Nat) : List (Int × Int) × Bool := (l.take k).foldl (stepW x) ([], false)
theorem stW_succ {x : Int × Int} {l : List (Int × Int)} {k : Nat} (h : k < l.length) : stW x l (k + 1) = stepW x (stW x l k) (nth l k) := by
  unfold stW
  rw [List.take_add_one, nth_getElem h, List.foldl_append]
  rfl
theorem stepW_len (x : Int × Int) (st : List (Int × Int) × Bool) (y : Int × Int) : (stepW x st y).1.length ≤ st.1.length + 2 := by
  unfold stepW
  simp only
  split <;> split <;> simp
theorem stW_len (x : Int × Int) (l : List (Int × Int)) (k : Nat) : (stW x l k).1.length ≤ 2 * k := by
  induction k with
  | zero => simp [stW]
  | succ k ih =>
    by_cases h : k < l.length
    · rw [stW_succ h]
      have := stepW_len x (stW x l k) (nth l k)
      omega
    · have : stW x l (k + 1) = stW x l k := by unfold stW; rw [List.take_of_length_le (by omega), List.take_of_length_le (by omega)]
      rw [this]; omega
/-- What a round has, and what it leaves. -/
def InW (w wr : World) (x : Int × Int) (l : List (Int × Int)) (u d : Value) (k : Nat) : Prop :=
  OwnI wr (w.heap.size + 1) u (stW x l k).1 ∧ d = .bool (stW x l k).2 ∧ Below (w.heap.size + 1) (w.alloc (.cells #[.int .i64 x.1, .int .i64 x.2] 55)) wr

set_option maxHeartbeats 4000000 in
set_option maxRecDepth 100000 in
theorem with_any (w : World) (ao : Option Addr) (cap : Nat) (l : List (Int × Int)) (x y : Int) (hu : RdI w (.slice ao l.length cap) l) (hl : l.length < 100000000) :
    Calls Tryd.prog 84 #[.slice ao l.length cap, .agg #[.int .i64 x, .int .i64 y]] w fun e w' => ∃ r, e = .returned r ∧ OwnI w' w.heap.size r (withE l (x, y)) ∧ Below w.heap.size w w' := by
  have HU := Lib.hid hu
  clear hu
  have k1 : (w.alloc (.cells #[.int .i64 x, .int .i64 y] 55)).cell? ⟨w.heap.size, 0, none⟩ = some (.int .i64 x) := by go_simp
  have k2 : (w.alloc (.cells #[.int .i64 x, .int .i64 y] 55)).cell? ⟨w.heap.size, 1, none⟩ = some (.int .i64 y) := by go_simp
  have hba : Below w.heap.size w (w.alloc (.cells #[.int .i64 x, .int .i64 y] 55)) := (Below.refl _ _).alloc (Nat.le_refl _) _
  have HK1 := Lib.hid k1
  have HK2 := Lib.hid k2
  have HBA := Lib.hid hba
  clear k1 k2 hba
  go_enter Tryd.func84, Tryd.ntmps84
  go_wp2
  go_loopw [5, 6, 7] (fun u d i wr => ∃ k : Nat, k ≤ l.length ∧ i = .int .i64 k ∧ InW w wr (x, y) l u d k) (fun _ _ i _ => l.length - (RowKit.intOf i).toNat)
  case atStart => exact ⟨0, Nat.zero_le _, rfl, OwnI.nil _ _, rfl, Below.refl _ _⟩
  case round =>
    obtain ⟨k, hk, rfl, p2, rfl, p3⟩ := hrel
    have hsl := stW_len (x, y) l k
    have e1 := (p3.cell (p := ⟨w.heap.size, 0, none⟩) (by simp)).trans HK1.out
    have e2 := (p3.cell (p := ⟨w.heap.size, 1, none⟩) (by simp)).trans HK2.out
    have hsz := p3.size
    by_cases hlt : k < l.length
    · obtain ⟨b, off, rfl, hc1, hm1, hb, q1, q2⟩ := HU.out.at hlt
      have q1' := (HBA.out.cell (p := ⟨b, off + k * 2, none⟩) hb).trans q1
      have q2' := (HBA.out.cell (p := ⟨b, off + k * 2 + 1, none⟩) hb).trans q2
      have d1 := (p3.cell (p := ⟨b, off + k * 2, none⟩) (by simp; omega)).trans q1'
      have d2 := (p3.cell (p := ⟨b, off + k * 2 + 1, none⟩) (by simp; omega)).trans q2'
      have HQ1 := Lib.hid q1'
      have HQ2 := Lib.hid q2'
      unfold maxLen at hm1
      clear q1 q2 q1' q2'
      generalize hst : stW (x, y) l k = st at *
      obtain ⟨so, sd⟩ := st
      have hS := stW_succ (x := (x, y)) hlt
      rw [hst] at hS
      have hsl' : so.length ≤ 2 * k := hsl
      clear hst hsl
      cases sd
      · by_cases hle : x ≤ (nth l k).1
        · by_cases heq : (nth l k).1 = x
          · have HS : Hid (stW (x, y) l (k + 1) = (so ++ [(x, y)], true)) := by show _ = _; rw [hS]; simp [stepW, hle, heq]
            have hq : ((nth l k).1 != x) = false := by simp [heq]
            clear hS heq
            go_wp2
            go_quiet (fail)
            have ca1p := p2.carry (below_drewN (Below.refl _ _) nq)
            have ca1q := below_drewN p3 nq
            generalize wr.drewN nq = ca1w at ca1p ca1q ⊢
            clear p2 p3 e1 e2 d1 d2 hsz
            have e1 := (ca1q.cell (p := ⟨w.heap.size, 0, none⟩) (by simp)).trans HK1.out
            have e2 := (ca1q.cell (p := ⟨w.heap.size, 1, none⟩) (by simp)).trans HK2.out
            have d1 := (ca1q.cell (p := ⟨b, off + k * 2, none⟩) (by simp; omega)).trans HQ1.out
            have d2 := (ca1q.cell (p := ⟨b, off + k * 2 + 1, none⟩) (by simp; omega)).trans HQ2.out
            have hsz := ca1q.size
            have ca2a := ca1p.alloc (.cells #[.int .i64 x, .int .i64 y] 55)
            have ca2o := RdI.one ca1w x y ca1w.heap.size rfl
            go_wp2_with (at_builtin; refine wpList_append_rdI _ rfl _ _ rfl rfl (w.heap.size + 1) _ _ so [(x, y)] rfl rfl ca2a ca2o ?ca2x ?ca2y ?_)
            case ca2x => first | omega | (simp; omega)
            case ca2y => first | (simp at hsz ⊢; omega) | omega
            intro ca2v ca2w ca2p ca2g
            have ca2q : Below (w.heap.size + 1) (w.alloc (.cells #[.int .i64 x, .int .i64 y] 55)) ca2w := (ca1q.alloc (by simp at hsz; omega) (.cells #[.int .i64 x, .int .i64 y] 55)).grown ca2g (by simp at hsz ⊢; omega) (fun j hj => (ca1p.lt hj).1)
            clear ca2a ca2o ca2g ca1p ca1q e1 e2 d1 d2 hsz
            have e1 := (ca2q.cell (p := ⟨w.heap.size, 0, none⟩) (by simp)).trans HK1.out
            have e2 := (ca2q.cell (p := ⟨w.heap.size, 1, none⟩) (by simp)).trans HK2.out
            have d1 := (ca2q.cell (p := ⟨b, off + k * 2, none⟩) (by simp; omega)).trans HQ1.out
            have d2 := (ca2q.cell (p := ⟨b, off + k * 2 + 1, none⟩) (by simp; omega)).trans HQ2.out
            have hsz := ca2q.size
            go_wp2
            go_quiet (fail)
            have ca3p := ca2p.carry (below_drewN (Below.refl _ _) nq)
            have ca3q := below_drewN ca2q nq
            generalize ca2w.drewN nq = ca3w at ca3p ca3q ⊢
            clear ca2p ca2q e1 e2 d1 d2 hsz
            have e1 := (ca3q.cell (p := ⟨w.heap.size, 0, none⟩) (by simp)).trans HK1.out
            have e2 := (ca3q.cell (p := ⟨w.heap.size, 1, none⟩) (by simp)).trans HK2.out
            have d1 := (ca3q.cell (p := ⟨b, off + k * 2, none⟩) (by simp; omega)).trans HQ1.out
            have d2 := (ca3q.cell (p := ⟨b, off + k * 2 + 1, none⟩) (by simp; omega)).trans HQ2.out
            have hsz := ca3q.size
            have HN := Lib.hid (show InW w ca3w (x, y) l _ _ (k + 1) from ⟨by rw [HS.out]; simpa using ca3p, by rw [HS.out], ca3q⟩)
            clear ca3p ca3q e1 e2 d1 d2 hsz
            go_wp2
            go_roundw
            case rel => exact ⟨k + 1, by omega, by go_num, HN.out⟩
            case measure => simp [RowKit.intOf]; omega
          · have HS : Hid (stW (x, y) l (k + 1) = (so ++ [(x, y)] ++ [((nth l k).1, (nth l k).2)], true)) := by show _ = _; rw [hS]; simp [stepW, hle, heq]
            have hq : ((nth l k).1 != x) = true := by simpa using heq
            clear hS heq
            go_wp2
            go_quiet (fail)
            have cb1p := p2.carry (below_drewN (Below.refl _ _) nq)
            have cb1q := below_drewN p3 nq
            generalize wr.drewN nq = cb1w at cb1p cb1q ⊢
            clear p2 p3 e1 e2 d1 d2 hsz
            have e1 := (cb1q.cell (p := ⟨w.heap.size, 0, none⟩) (by simp)).trans HK1.out
            have e2 := (cb1q.cell (p := ⟨w.heap.size, 1, none⟩) (by simp)).trans HK2.out
            have d1 := (cb1q.cell (p := ⟨b, off + k * 2, none⟩) (by simp; omega)).trans HQ1.out
            have d2 := (cb1q.cell (p := ⟨b, off + k * 2 + 1, none⟩) (by simp; omega)).trans HQ2.out
            have hsz := cb1q.size
            have cb2a := cb1p.alloc (.cells #[.int .i64 x, .int .i64 y] 55)
            have cb2o := RdI.one cb1w x y cb1w.heap.size rfl
            go_wp2_with (at_builtin; refine wpList_append_rdI _ rfl _ _ rfl rfl (w.heap.size + 1) _ _ so [(x, y)] rfl rfl cb2a cb2o ?cb2x ?cb2y ?_)
            case cb2x => first | omega | (simp; omega)
            case cb2y => first | (simp at hsz ⊢; omega) | omega
            intro cb2v cb2w cb2p cb2g
            have cb2q : Below (w.heap.size + 1) (w.alloc (.cells #[.int .i64 x, .int .i64 y] 55)) cb2w := (cb1q.alloc (by simp at hsz; omega) (.cells #[.int .i64 x, .int .i64 y] 55)).grown cb2g (by simp at hsz ⊢; omega) (fun j hj => (cb1p.lt hj).1)
            clear cb2a cb2o cb2g cb1p cb1q e1 e2 d1 d2 hsz
            have e1 := (cb2q.cell (p := ⟨w.heap.size, 0, none⟩) (by simp)).trans HK1.out
            have e2 := (cb2q.cell (p := ⟨w.heap.size, 1, none⟩) (by simp)).trans HK2.out
            have d1 := (cb2q.cell (p := ⟨b, off + k * 2, none⟩) (by simp; omega)).trans HQ1.out
            have d2 := (cb2q.cell (p := ⟨b, off + k * 2 + 1, none⟩) (by simp; omega)).trans HQ2.out
            have hsz := cb2q.size
            go_wp2
            go_quiet (fail)
            have cb3p := cb2p.carry (below_drewN (Below.refl _ _) nq)
            have cb3q := below_drewN cb2q nq
            generalize cb2w.drewN nq = cb3w at cb3p cb3q ⊢
            clear cb2p cb2q e1 e2 d1 d2 hsz
            have e1 := (cb3q.cell (p := ⟨w.heap.size, 0, none⟩) (by simp)).trans HK1.out
            have e2 := (cb3q.cell (p := ⟨w.heap.size, 1, none⟩) (by simp)).trans HK2.out
            have d1 := (cb3q.cell (p := ⟨b, off + k * 2, none⟩) (by simp; omega)).trans HQ1.out
            have d2 := (cb3q.cell (p := ⟨b, off + k * 2 + 1, none⟩) (by simp; omega)).trans HQ2.out
            have hsz := cb3q.size
            have cb4a := cb3p.alloc (.cells #[.int .i64 (nth l k).1, .int .i64 (nth l k).2] 55)
            have cb4o := RdI.one cb3w (nth l k).1 (nth l k).2 cb3w.heap.size rfl
            go_wp2_with (at_builtin; refine wpList_append_rdI _ rfl _ _ rfl rfl (w.heap.size + 1) _ _ (so ++ [(x, y)]) [((nth l k).1, (nth l k).2)] rfl rfl cb4a cb4o ?cb4x ?cb4y ?_)
            case cb4x => first | omega | (simp; omega)
            case cb4y => first | (simp at hsz ⊢; omega) | omega
            intro cb4v cb4w cb4p cb4g
            have cb4q : Below (w.heap.size + 1) (w.alloc (.cells #[.int .i64 x, .int .i64 y] 55)) cb4w := (cb3q.alloc (by simp at hsz; omega) (.cells #[.int .i64 (nth l k).1, .int .i64 (nth l k).2] 55)).grown cb4g (by simp at hsz ⊢; omega) (fun j hj => (cb3p.lt hj).1)
            clear cb4a cb4o cb4g cb3p cb3q e1 e2 d1 d2 hsz
            have e1 := (cb4q.cell (p := ⟨w.heap.size, 0, none⟩) (by simp)).trans HK1.out
            have e2 := (cb4q.cell (p := ⟨w.heap.size, 1, none⟩) (by simp)).trans HK2.out
            have d1 := (cb4q.cell (p := ⟨b, off + k * 2, none⟩) (by simp; omega)).trans HQ1.out
            have d2 := (cb4q.cell (p := ⟨b, off + k * 2 + 1, none⟩) (by simp; omega)).trans HQ2.out
            have hsz := cb4q.size
            have HN := Lib.hid (show InW w cb4w (x, y) l _ _ (k + 1) from ⟨by rw [HS.out]; simpa using cb4p, by rw [HS.out], cb4q⟩)
            clear cb4p cb4q e1 e2 d1 d2 hsz
            go_wp2
            go_roundw
            case rel => exact ⟨k + 1, by omega, by go_num, HN.out⟩
            case measure => simp [RowKit.intOf]; omega
        · have heq : (nth l k).1 ≠ x := by omega
          have HS : Hid (stW (x, y) l (k + 1) = (so ++ [((nth l k).1, (nth l k).2)], false)) := by show _ = _; rw [hS]; simp [stepW, hle, heq]
          have hq : ((nth l k).1 != x) = true := by simpa using heq
          clear hS heq
          go_wp2
          go_quiet (fail)
          have cc1p := p2.carry (below_drewN (Below.refl _ _) nq)
          have cc1q := below_drewN p3 nq
          generalize wr.drewN nq = cc1w at cc1p cc1q ⊢
          clear p2 p3 e1 e2 d1 d2 hsz
          have e1 := (cc1q.cell (p := ⟨w.heap.size, 0, none⟩) (by simp)).trans HK1.out
          have e2 := (cc1q.cell (p := ⟨w.heap.size, 1, none⟩) (by simp)).trans HK2.out
          have d1 := (cc1q.cell (p := ⟨b, off + k * 2, none⟩) (by simp; omega)).trans HQ1.out
          have d2 := (cc1q.cell (p := ⟨b, off + k * 2 + 1, none⟩) (by simp; omega)).trans HQ2.out
          have hsz := cc1q.size
          go_wp2
          go_quiet (fail)
          have cc2p := cc1p.carry (below_drewN (Below.refl _ _) nq)
          have cc2q := below_drewN cc1q nq
          generalize cc1w.drewN nq = cc2w at cc2p cc2q ⊢
          clear cc1p cc1q e1 e2 d1 d2 hsz
          have e1 := (cc2q.cell (p := ⟨w.heap.size, 0, none⟩) (by simp)).trans HK1.out
          have e2 := (cc2q.cell (p := ⟨w.heap.size, 1, none⟩) (by simp)).trans HK2.out
          have d1 := (cc2q.cell (p := ⟨b, off + k * 2, none⟩) (by simp; omega)).trans HQ1.out
          have d2 := (cc2q.cell (p := ⟨b, off + k * 2 + 1, none⟩) (by simp; omega)).trans HQ2.out
          have hsz := cc2q.size
          have cc3a := cc2p.alloc (.cells #[.int .i64 (nth l k).1, .int .i64 (nth l k).2] 55)
          have cc3o := RdI.one cc2w (nth l k).1 (nth l k).2 cc2w.heap.size rfl
          go_wp2_with (at_builtin; refine wpList_append_rdI _ rfl _ _ rfl rfl (w.heap.size + 1) _ _ so [((nth l k).1, (nth l k).2)] rfl rfl cc3a cc3o ?cc3x ?cc3y ?_)
          case cc3x => first | omega | (simp; omega)
          case cc3y => first | (simp at hsz ⊢; omega) | omega
          intro cc3v cc3w cc3p cc3g
          have cc3q : Below (w.heap.size + 1) (w.alloc (.cells #[.int .i64 x, .int .i64 y] 55)) cc3w := (cc2q.alloc (by simp at hsz; omega) (.cells #[.int .i64 (nth l k).1, .int .i64 (nth l k).2] 55)).grown cc3g (by simp at hsz ⊢; omega) (fun j hj => (cc2p.lt hj).1)
          clear cc3a cc3o cc3g cc2p cc2q e1 e2 d1 d2 hsz
          have e1 := (cc3q.cell (p := ⟨w.heap.size, 0, none⟩) (by simp)).trans HK1.out
          have e2 := (cc3q.cell (p := ⟨w.heap.size, 1, none⟩) (by simp)).trans HK2.out
          have d1 := (cc3q.cell (p := ⟨b, off + k * 2, none⟩) (by simp; omega)).trans HQ1.out
          have d2 := (cc3q.cell (p := ⟨b, off + k * 2 + 1, none⟩) (by simp; omega)).trans HQ2.out
          have hsz := cc3q.size
          have HN := Lib.hid (show InW w cc3w (x, y) l _ _ (k + 1) from ⟨by rw [HS.out]; simpa using cc3p, by rw [HS.out], cc3q⟩)
          clear cc3p cc3q e1 e2 d1 d2 hsz
          go_wp2
          go_roundw
          case rel => exact ⟨k + 1, by omega, by go_num, HN.out⟩
          case measure => simp [RowKit.intOf]; omega
      · by_cases heq : (nth l k).1 = x
        · have HS : Hid (stW (x, y) l (k + 1) = (so, true)) := by show _ = _; rw [hS]; simp [stepW, heq]
          have hq : ((nth l k).1 != x) = false := by simp [heq]
          clear hS heq
          go_wp2
          go_quiet (fail)
          have cd1p := p2.carry (below_drewN (Below.refl _ _) nq)
          have cd1q := below_drewN p3 nq
          generalize wr.drewN nq = cd1w at cd1p cd1q ⊢
          clear p2 p3 e1 e2 d1 d2 hsz
          have e1 := (cd1q.cell (p := ⟨w.heap.size, 0, none⟩) (by simp)).trans HK1.out
          have e2 := (cd1q.cell (p := ⟨w.heap.size, 1, none⟩) (by simp)).trans HK2.out
          have d1 := (cd1q.cell (p := ⟨b, off + k * 2, none⟩) (by simp; omega)).trans HQ1.out
          have d2 := (cd1q.cell (p := ⟨b, off + k * 2 + 1, none⟩) (by simp; omega)).trans HQ2.out
          have hsz := cd1q.size
          go_wp2
          go_quiet (fail)
          have cd2p := cd1p.carry (below_drewN (Below.refl _ _) nq)
          have cd2q := below_drewN cd1q nq
          generalize cd1w.drewN nq = cd2w at cd2p cd2q ⊢
          clear cd1p cd1q e1 e2 d1 d2 hsz
          have e1 := (cd2q.cell (p := ⟨w.heap.size, 0, none⟩) (by simp)).trans HK1.out
          have e2 := (cd2q.cell (p := ⟨w.heap.size, 1, none⟩) (by simp)).trans HK2.out
          have d1 := (cd2q.cell (p := ⟨b, off + k * 2, none⟩) (by simp; omega)).trans HQ1.out
          have d2 := (cd2q.cell (p := ⟨b, off + k * 2 + 1, none⟩) (by simp; omega)).trans HQ2.out
          have hsz := cd2q.size
          have HN := Lib.hid (show InW w cd2w (x, y) l _ _ (k + 1) from ⟨by rw [HS.out]; simpa using cd2p, by rw [HS.out], cd2q⟩)
          clear cd2p cd2q e1 e2 d1 d2 hsz
          go_wp2
          go_roundw
          case rel => exact ⟨k + 1, by omega, by go_num, HN.out⟩
          case measure => simp [RowKit.intOf]; omega
        · have HS : Hid (stW (x, y) l (k + 1) = (so ++ [((nth l k).1, (nth l k).2)], true)) := by show _ = _; rw [hS]; simp [stepW, heq]
          have hq : ((nth l k).1 != x) = true := by simpa using heq
          clear hS heq
          go_wp2
          go_quiet (fail)
          have ce1p := p2.carry (below_drewN (Below.refl _ _) nq)
          have ce1q := below_drewN p3 nq
          generalize wr.drewN nq = ce1w at ce1p ce1q ⊢
          clear p2 p3 e1 e2 d1 d2 hsz
          have e1 := (ce1q.cell (p := ⟨w.heap.size, 0, none⟩) (by simp)).trans HK1.out
          have e2 := (ce1q.cell (p := ⟨w.heap.size, 1, none⟩) (by simp)).trans HK2.out
          have d1 := (ce1q.cell (p := ⟨b, off + k * 2, none⟩) (by simp; omega)).trans HQ1.out
          have d2 := (ce1q.cell (p := ⟨b, off + k * 2 + 1, none⟩) (by simp; omega)).trans HQ2.out
          have hsz := ce1q.size
          go_wp2
          go_quiet (fail)
          have ce2p := ce1p.carry (below_drewN (Below.refl _ _) nq)
          have ce2q := below_drewN ce1q nq
          generalize ce1w.drewN nq = ce2w at ce2p ce2q ⊢
          clear ce1p ce1q e1 e2 d1 d2 hsz
          have e1 := (ce2q.cell (p := ⟨w.heap.size, 0, none⟩) (by simp)).trans HK1.out
          have e2 := (ce2q.cell (p := ⟨w.heap.size, 1, none⟩) (by simp)).trans HK2.out
          have d1 := (ce2q.cell (p := ⟨b, off + k * 2, none⟩) (by simp; omega)).trans HQ1.out
          have d2 := (ce2q.cell (p := ⟨b, off + k * 2 + 1, none⟩) (by simp; omega)).trans HQ2.out
          have hsz := ce2q.size
          have ce3a := ce2p.alloc (.cells #[.int .i64 (nth l k).1, .int .i64 (nth l k).2] 55)
          have ce3o := RdI.one ce2w (nth l k).1 (nth l k).2 ce2w.heap.size rfl
          go_wp2_with (at_builtin; refine wpList_append_rdI _ rfl _ _ rfl rfl (w.heap.size + 1) _ _ so [((nth l k).1, (nth l k).2)] rfl rfl ce3a ce3o ?ce3x ?ce3y ?_)
          case ce3x => first | omega | (simp; omega)
          case ce3y => first | (simp at hsz ⊢; omega) | omega
          intro ce3v ce3w ce3p ce3g
          have ce3q : Below (w.heap.size + 1) (w.alloc (.cells #[.int .i64 x, .int .i64 y] 55)) ce3w := (ce2q.alloc (by simp at hsz; omega) (.cells #[.int .i64 (nth l k).1, .int .i64 (nth l k).2] 55)).grown ce3g (by simp at hsz ⊢; omega) (fun j hj => (ce2p.lt hj).1)
          clear ce3a ce3o ce3g ce2p ce2q e1 e2 d1 d2 hsz
          have e1 := (ce3q.cell (p := ⟨w.heap.size, 0, none⟩) (by simp)).trans HK1.out
          have e2 := (ce3q.cell (p := ⟨w.heap.size, 1, none⟩) (by simp)).trans HK2.out
          have d1 := (ce3q.cell (p := ⟨b, off + k * 2, none⟩) (by simp; omega)).trans HQ1.out
          have d2 := (ce3q.cell (p := ⟨b, off + k * 2 + 1, none⟩) (by simp; omega)).trans HQ2.out
          have hsz := ce3q.size
          have HN := Lib.hid (show InW w ce3w (x, y) l _ _ (k + 1) from ⟨by rw [HS.out]; simpa using ce3p, by rw [HS.out], ce3q⟩)
          clear ce3p ce3q e1 e2 d1 d2 hsz
          go_wp2
          go_roundw
          case rel => exact ⟨k + 1, by omega, by go_num, HN.out⟩
          case measure => simp [RowKit.intOf]; omega
    · obtain rfl : k = l.length := by omega
      have hw : withE l (x, y) = if (stW (x, y) l l.length).2 then (stW (x, y) l l.length).1 else (stW (x, y) l l.length).1 ++ [(x, y)] := by unfold stW; rw [List.take_length]; rfl
      generalize stW (x, y) l l.length = st at *
      obtain ⟨so, sd⟩ := st
      have hsl' : so.length ≤ 2 * l.length := hsl
      have hbel : Below w.heap.size w wr := HBA.out.trans (p3.mono (by omega))
      cases sd
      · have HW : Hid (withE l (x, y) = so ++ [(x, y)]) := hw
        clear hw hsl
        have p2a := p2.alloc (.cells #[.int .i64 x, .int .i64 y] 55)
        have hone := RdI.one wr x y wr.heap.size rfl
        go_wp2_with (at_builtin; refine wpList_append_rdI _ rfl _ _ rfl rfl (w.heap.size + 1) _ _ so [(x, y)] rfl rfl p2a hone ?c1 ?c2 ?_)
        case c1 => first | omega | (simp; omega)
        case c2 => first | (simp at hsz ⊢; omega) | omega
        intro v1 w1 hrow1 hg1
        have b1 : Below w.heap.size w w1 := (hbel.alloc hbel.size _).grown hg1 (by simp; have := hbel.size; omega) (fun j hj => by have := (p2.lt hj).1; omega)
        have hr : OwnI w1 w.heap.size v1 (withE l (x, y)) := by rw [HW.out]; exact Joins.ownsRow_le hrow1 (by omega)
        have HR := Lib.hid hr
        clear hrow1 hg1 p2 p2a hone p3 e1 e2 hr
        go_wp2
        go_ret
        exact ⟨_, rfl, HR.out, b1⟩
      · have hr : OwnI wr w.heap.size u5 (withE l (x, y)) := by rw [hw]; exact Joins.ownsRow_le p2 (by omega)
        have HR := Lib.hid hr
        clear hw hsl p2 p3 e1 e2 hr
        go_wp2
        go_ret
        exact ⟨_, rfl, HR.out, hbel⟩

end Go.Proofs.YtcngblnkfiggjaaDoor.Rm
