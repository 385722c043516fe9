/- Contracts of New, Now, Enter and Leave of package epoch: what each returns, and what the object holds afterwards. -/
import Derived.Test.YtphmfmfbneoljaaObj
import Derived.RegionTactic
import Derived.ChangeAlike
import Derived.BigRegion
import Derived.Deep.QuietTactic
import Derived.BigQuiet
import Derived.Handy
namespace Go.Proofs.Ytphmfmfbneoljaa.Ep
open Go Go.RowKit Go.Maps

theorem wf64 {n : Int} (h : -9223372036854775808 ≤ n ∧ n ≤ 9223372036854775807) : (Lit.int .i64 n).wf = true := by
  simp [Lit.wf, IntKind.min, IntKind.max, IntKind.bits, IntKind.signed]; omega
theorem grown_drew {w w' : World} {row : Option Nat} (h : w.drew.grownBy w' row) : w.grownBy w' row := ⟨h.os, h.tape, h.output, h.size, h.block⟩

set_option maxHeartbeats 400000 in
theorem new_any (w : World) :
    Calls Try.prog 9 #[] w fun e w' => ∃ (B : Nat) (F : Nat → Prop), e = .returned (.pointer (some ⟨B, 0, none⟩)) ∧ Obj w' B St.new F 0 ∧ Below w.heap.size w w' ∧ ∀ k, F k → w.heap.size ≤ k := by
  have hmm := @run_makeMap Try.prog
  go_enter Try.func9, Try.ntmps9
  go_wp2
  go_ret
  refine ⟨w.heap.size + 2, _, rfl, ⟨w.heap.size, w.heap.size + 1, .slice none 0 0, 0, 0, .map [], ?_, ?_, ?_, ?_, ?_, ?_, Nat.le_refl _, Nat.le_refl _, ?_, ?_, Inv.new, rfl⟩, ?_, ?_⟩
  · have e : w.heap.size + 2 = ((w.alloc (.map #[] 0)).alloc (.map #[] 0)).heap.size := by simp
    rw [e]
    exact heap_alloc_new _ _
  · exact ((World.ownsMap_made _ _ _ _).alloc _).alloc _
  · have := (World.ownsMap_made (H := Unit) (w.alloc (.map #[] 0)) Try.prog 3 (plainElem Try.prog 4)).alloc (.cells #[.map (some w.heap.size), .map (some (w.heap.size + 1)), .slice none 0 0, .int .i64 1] 60)
    simpa using this
  · intro k; rfl
  · exact ⟨rfl, Or.inl ⟨rfl, rfl⟩⟩
  · refine ⟨by omega, by omega, by omega, by simp [Value.ownBlock], by simp [Value.ownBlock], by simp [Value.ownBlock]⟩
  · exact Nat.le_refl _
  · exact Int.le_refl _
  · go_grown
  · rintro k (rfl | rfl | rfl | hk)
    · omega
    · omega
    · omega
    · cases hk

theorem Obj.cells {w : World} {B : Nat} {s : St} {F : Nat → Prop} {c : Nat} {m1 m2 : Nat} {v : Value} (hB : w.heap[B]? = some (.cells #[.map (some m1), .map (some m2), v, .int .i64 s.now] 60 (0, 0))) :
    w.cell? ⟨B, 0, none⟩ = some (.map (some m1)) ∧ w.cell? ⟨B, 1, none⟩ = some (.map (some m2)) ∧ w.cell? ⟨B, 2, none⟩ = some v ∧ w.cell? ⟨B, 3, none⟩ = some (.int .i64 s.now) := by
  simp [World.cell?, hB]

set_option maxHeartbeats 400000 in
theorem now_any (w : World) (B : Nat) (s : St) (F : Nat → Prop) (c : Nat) (h : Obj w B s F c) :
    Calls Try.prog 14 #[.pointer (some ⟨B, 0, none⟩)] w fun e w' => e = .returned (.int .i64 s.now) ∧ w = w' := by
  obtain ⟨m1, m2, v, n1, n2, D2, hB, hm1, hm2, hD, hs, hd, c1, c2, c3, c4, hi, rfl⟩ := h
  obtain ⟨k0, k1, k2, k3⟩ := Obj.cells (F := fun _ => True) (c := 0) hB
  clear hD hs hB
  go_enter Try.func14, Try.ntmps14
  go_wp2
  go_ret
  exact ⟨rfl, rfl⟩

theorem Obj.self_lt {w : World} {B : Nat} {s : St} {F : Nat → Prop} {c : Nat} (h : Obj w B s F c) : B < w.heap.size := h.lt B h.self

theorem has_mapD (rd : List (Int × Int)) (k : Int) : Maps.has (mapD rd) (.int .i64 k) = has rd k := by
  unfold mapD has
  rw [Maps.has_eq, List.any_map]
  congr 1
  funext p
  rw [Bool.eq_iff_iff]
  simp [Lit.sameKey]
theorem put_mapD {rd : List (Int × Int)} {k e : Int} (h : has rd k = false) : (mapD rd).put (.int .i64 k) (.lit (.int .i64 e)) = mapD (ins k e rd) := by
  have hk := has_false h
  unfold mapD DataW.put
  simp only
  congr 1
  rw [List.filter_eq_self.2]
  · clear h hk
    induction rd with
    | nil => rfl
    | cons y r ih =>
      simp only [List.map_cons, DataW.insert, ins, Lit.before]
      by_cases hlt : k < y.1
      · simp [hlt]
      · simp [hlt, ih]
  · intro p hp
    obtain ⟨q, hq, rfl⟩ := List.mem_map.1 hp
    have := hk q hq
    simp [Lit.sameKey, this]
theorem del_mapD (rd : List (Int × Int)) (k : Int) : (mapD rd).del (.int .i64 k) = mapD (out k rd) := by
  unfold mapD DataW.del out
  simp only
  congr 1
  rw [List.filter_map]
  congr 2
  funext p
  rw [Bool.eq_iff_iff]
  simp [Lit.sameKey]

set_option maxHeartbeats 1000000 in
theorem enter_any (w : World) (B : Nat) (s : St) (F : Nat → Prop) (c : Nat) (k : Int) (h : Obj w B s F c) (hk : (Lit.int .i64 k).wf = true) (hc : c < 1000000000) :
    Calls Try.prog 20 #[.pointer (some ⟨B, 0, none⟩), .int .i64 k] w fun e w' => e = .returned (.int .i64 (s.enterErr k)) ∧ ∃ F', Obj w' B (s.enter k) F' (c + 1) ∧ Moves F F' w w' := by
  have hO := h
  obtain ⟨m1, m2, v, n1, n2, D2, hB, hm1, hm2, hD, hs, hd, c1, c2, c3, c4, hi, rfl⟩ := h
  obtain ⟨k0, k1, k2, k3⟩ := Obj.cells (F := fun _ => True) (c := 0) hB
  cases hh : has s.rd k
  · have hx : (Lit.int .i64 s.now).wf = true := by
      have := hi.now1
      exact wf64 (by omega)
    obtain ⟨w1, hrun, hm1', ht⟩ := hm1.drew.store law3 Try.underlying54 (by unfold maxLen; omega) (keyOf_int_mk Try.underlying3 hk) (plainElem_int Try.underlying3 hx)
    rw [put_mapD hh] at hm1'
    have hE : s.enter k = { s with rd := ins k s.now s.rd } := by simp [St.enter, hh]
    have hR : s.enterErr k = 0 := by simp [St.enterErr, hh]
    have hmh := has_mapD s.rd k
    rw [hh] at hmh
    have HM := Lib.hid hmh
    have hg := ht.grown
    have hO1 : Obj w1 B (s.enter k) (fun k => k = B ∨ k = m1 ∨ k = m2 ∨ v.ownBlock = some k) (c + 1) := by
      rw [hE]
      have hne : ∀ j, j < w.heap.size → j ≠ m1 → w1.heap[j]? = w.heap[j]? := fun j hj hj1 => hg.block j hj (fun e => hj1 (Option.some.inj e))
      refine ⟨m1, m2, v, n1 + 1, n2, D2, (hne B hO.self_lt (by omega)).trans hB, hm1', owns_carry hm2 (hne m2 hm2.lt (by omega)), hD, hs.carry (fun j hj => hne j (hs.lt hj) (fun e => hd.2.2.2.2.1 (e ▸ hj))), hd, by omega, by omega, by show s.wt.length ≤ _; omega, by show s.now ≤ _; omega, ?_, rfl⟩
      have := hi.enter k
      rwa [hE] at this
    have hMv : Moves (fun k => k = B ∨ k = m1 ∨ k = m2 ∨ v.ownBlock = some k) (fun k => k = B ∨ k = m1 ∨ k = m2 ∨ v.ownBlock = some k) w w1 :=
      Moves.of_grown (grown_drew hg) (fun k e => Or.inr (Or.inl (Option.some.inj e).symm)) (fun _ h => Or.inl h)
    rw [hR]
    have HO := Lib.hid hO1
    have HV := Lib.hid hMv
    clear hE hR hmh hO1 hMv hD hs hB hO hh hm1' ht hg hd
    go_enter Try.func20, Try.ntmps20
    go_wp2_with (at_lookup; refine wpList_lookup_own_ok_int _ rfl _ _ 54 rfl 3 3 .i64 law3 Try.underlying54 Try.underlying3 (zero3 _) m1 n1 _ rfl hm1 _ _ rfl (keyOf_int_mk Try.underlying3 hk) ?_; intro q hq hwq; rw [HM.out])
    go_region
    go_wp2
    go_ret
    exact ⟨rfl, _, HO.out, HV.out⟩
  · have hE : s.enter k = s := by simp [St.enter, hh]
    have hR : s.enterErr k = 6 := by simp [St.enterErr, hh]
    rw [hE, hR]
    have hmh := has_mapD s.rd k
    rw [hh] at hmh
    have HM := Lib.hid hmh
    clear hmh hE hR hD hs hB
    go_enter Try.func20, Try.ntmps20
    go_wp2_with (at_lookup; refine wpList_lookup_own_ok_int _ rfl _ _ 54 rfl 3 3 .i64 law3 Try.underlying54 Try.underlying3 (zero3 _) m1 n1 _ rfl hm1 _ _ rfl (keyOf_int_mk Try.underlying3 hk) ?_; intro q hq hwq; rw [HM.out])
    go_ret
    exact ⟨rfl, _, hO.mono (by omega), Moves.refl _ _⟩

set_option maxHeartbeats 1000000 in
theorem leave_any (w : World) (B : Nat) (s : St) (F : Nat → Prop) (c : Nat) (k : Int) (h : Obj w B s F c) (hk : (Lit.int .i64 k).wf = true) :
    Calls Try.prog 21 #[.pointer (some ⟨B, 0, none⟩), .int .i64 k] w fun e w' => e = .returned (.int .i64 (s.leaveErr k)) ∧ ∃ F', Obj w' B (s.leave k) F' c ∧ Moves F F' w w' := by
  have hO := h
  obtain ⟨m1, m2, v, n1, n2, D2, hB, hm1, hm2, hD, hs, hd, c1, c2, c3, c4, hi, rfl⟩ := h
  obtain ⟨k0, k1, k2, k3⟩ := Obj.cells (F := fun _ => True) (c := 0) hB
  cases hh : has s.rd k
  · have hE : s.leave k = s := by simp [St.leave, hh]
    have hR : s.leaveErr k = 5 := by simp [St.leaveErr, hh]
    rw [hE, hR]
    have hmh := has_mapD s.rd k
    rw [hh] at hmh
    have HM := Lib.hid hmh
    clear hmh hE hR hD hs hB
    go_enter Try.func21, Try.ntmps21
    go_wp2_with (at_lookup; refine wpList_lookup_own_ok_int _ rfl _ _ 54 rfl 3 3 .i64 law3 Try.underlying54 Try.underlying3 (zero3 _) m1 n1 _ rfl hm1 _ _ rfl (keyOf_int_mk Try.underlying3 hk) ?_; intro q hq hwq; rw [HM.out])
    go_ret
    exact ⟨rfl, _, hO, Moves.refl _ _⟩
  · have hE : s.leave k = { s with rd := out k s.rd } := by simp [St.leave, hh]
    have hR : s.leaveErr k = 0 := by simp [St.leaveErr, hh]
    have hmh := has_mapD s.rd k
    rw [hh] at hmh
    have HM := Lib.hid hmh
    have hfin : ∀ w1 : World, w1.ownsMap Try.prog 3 (plainElem Try.prog 3) m1 n1 ((mapD s.rd).del (.int .i64 k)) → w.mapTurned w1 m1 →
        Obj w1 B (s.leave k) (fun k => k = B ∨ k = m1 ∨ k = m2 ∨ v.ownBlock = some k) c ∧ Moves (fun k => k = B ∨ k = m1 ∨ k = m2 ∨ v.ownBlock = some k) (fun k => k = B ∨ k = m1 ∨ k = m2 ∨ v.ownBlock = some k) w w1 := by
      intro w1 hm1' ht
      have hg := ht.grown
      rw [del_mapD] at hm1'
      refine ⟨?_, Moves.of_grown hg (fun k e => Or.inr (Or.inl (Option.some.inj e).symm)) (fun _ h => Or.inl h)⟩
      rw [hE]
      have hne : ∀ j, j < w.heap.size → j ≠ m1 → w1.heap[j]? = w.heap[j]? := fun j hj hj1 => hg.block j hj (fun e => hj1 (Option.some.inj e))
      refine ⟨m1, m2, v, n1, n2, D2, (hne B hO.self_lt (by omega)).trans hB, hm1', owns_carry hm2 (hne m2 hm2.lt (by omega)), hD, hs.carry (fun j hj => hne j (hs.lt hj) (fun e => hd.2.2.2.2.1 (e ▸ hj))), hd, by omega, by omega, by show s.wt.length ≤ _; omega, by show s.now ≤ _; omega, ?_, rfl⟩
      have := hi.leave k
      rwa [hE] at this
    rw [hR]
    have HF := Lib.hid hfin
    clear hE hR hmh hfin hD hs hB hO hh hd
    go_enter Try.func21, Try.ntmps21
    go_wp2_with (first
      | (at_lookup; refine wpList_lookup_own_ok_int _ rfl _ _ 54 rfl 3 3 .i64 law3 Try.underlying54 Try.underlying3 (zero3 _) m1 n1 _ rfl hm1 _ _ rfl (keyOf_int_mk Try.underlying3 hk) ?_; intro q hq hwq; rw [HM.out])
      | (at_delete; refine wpList_delete_own _ rfl _ _ 54 3 rfl 3 law3 Try.underlying54 _ m1 n1 _ rfl hm1 _ _ rfl (keyOf_int_mk Try.underlying3 hk) ?_; intro w1 hm1' ht))
    go_ret
    exact ⟨rfl, _, HF.out w1 hm1' ht⟩

end Go.Proofs.Ytphmfmfbneoljaa.Ep
