/- Contract of Free of package epoch: it returns the waiting blocks that no reader can hold, in order, and they wait no longer. -/
import Derived.Test.YtphmfmfbneoljaaWalkJ
namespace Go.Proofs.Ytphmfmfbneoljaa.Ep
open Go Go.RowKit Go.Maps

/-- What Free leaves. -/
def Freed (w : World) (B : Nat) (s : St) (F : Nat → Prop) (c : Nat) (e : Ending) (w' : World) : Prop :=
  ∃ ro, e = .returned ro ∧ w'.ownsRow w.heap.size 3 1 ro s.freed.length (ints s.freed) ∧ Obj w' B s.free F c ∧ Moves F F w w'

theorem below_drew0 {w w1 : World} (h : Below w.drew.heap.size w.drew w1) : Below w.heap.size w w1 := ⟨h.os, h.tape, h.output, h.size, h.block⟩

theorem free_done {w w1 w2 wr : World} {B m1 m2 n1 n2 c : Nat} {v v' ro : Value} {D2 : DataW Unit} {s : St}
    (hB : w.heap[B]? = some (.cells #[.map (some m1), .map (some m2), v, .int .i64 s.now] 60 (0, 0)))
    (hm1 : w.ownsMap Try.prog 3 (plainElem Try.prog 3) m1 n1 (mapD s.rd)) (hm2 : w.ownsMap Try.prog 3 (plainElem Try.prog 4) m2 n2 D2)
    (hs : Seg w 68 2 v s.wt.length (itemCells s.wt))
    (hd : B ≠ m1 ∧ B ≠ m2 ∧ m1 ≠ m2 ∧ v.ownBlock ≠ some B ∧ v.ownBlock ≠ some m1 ∧ v.ownBlock ≠ some m2)
    (c1 : n1 ≤ c) (c2 : n2 ≤ c) (c3 : s.wt.length ≤ c) (c4 : s.now ≤ c + 1) (hi : Inv s)
    (hb1 : Below w.heap.size w w1) (hB2 : w2.heap[B]? = some (.cells #[.map (some m1), .map (some m2), v', .int .i64 s.now] 60 (0, 0)))
    (hs2 : Seg w2 68 2 v' (s.wt.length - olds s.least s.wt) (itemCells (s.wt.drop (olds s.least s.wt)))) (hv2 : v'.ownBlock = v.ownBlock) (hg2 : w1.grownBy w2 (some B))
    (hrow : w2.ownsRow w1.heap.size 3 1 ro (olds s.least s.wt) (ints (names (s.wt.take (olds s.least s.wt)))))
    (hS : Struck w2 m2 n2 (names s.wt) s.freed s.freed.length wr) :
    Freed w B s (fun k => k = B ∨ k = m1 ∨ k = m2 ∨ v.ownBlock = some k) c (.returned ro) wr := by
  obtain ⟨D, ho, hD, hg⟩ := hS
  obtain ⟨d1, d2, d3, d4, d5, d6⟩ := hd
  have hBlt : B < w.heap.size := (Array.getElem?_eq_some_iff.1 hB).1
  have k1 : m1 < w.heap.size := hm1.lt
  have k2 : m2 < w.heap.size := hm2.lt
  have s1 := hb1.size
  have s2 := hg2.size
  have s3 := hg.size
  refine ⟨ro, rfl, ?_, ⟨m1, m2, v', n1, n2, D, ?_, ?_, ho, ?_, ?_, ?_, c1, c2, ?_, c4, hi.free, by rw [hv2]⟩, ?_⟩
  · rw [freed_length]
    have : ints (names (s.wt.take (olds s.least s.wt))) = ints s.freed := by rw [take_olds]; rfl
    rw [this] at hrow
    have h1 := Joins.ownsRow_le hrow s1
    have hlt := hrow.lt
    obtain ⟨q1, q2⟩ := h1
    refine ⟨q1, ?_⟩
    rcases q2 with q2 | ⟨g, cap, cur, rfl, hg', hh, r⟩
    · exact Or.inl q2
    · refine Or.inr ⟨g, cap, cur, rfl, hg', ?_, r⟩
      have := (hlt g rfl).1
      rw [hg.block g (hlt g rfl).2 (fun e => by have := Option.some.inj e; omega)]
      exact hh
  · exact (hg.block B (by omega) (fun e => d2 (Option.some.inj e))).trans hB2
  · refine owns_carry hm1 ?_
    rw [hg.block m1 (by omega) (fun e => d3 (Option.some.inj e)), hg2.block m1 (by omega) (fun e => d1 (Option.some.inj e).symm), hb1.block m1 k1]
  · intro j
    rw [hD j, List.take_length, rest_contains hi]
  · rw [free_length]
    have e : itemCells s.free.wt = itemCells (s.wt.drop (olds s.least s.wt)) := by rw [drop_olds]; rfl
    rw [e]
    exact hs2.carry (fun j hj => hg.block j (hs2.lt hj) (fun e => d6 (by rw [← hv2, hj, e])))
  · exact ⟨d1, d2, d3, by rw [hv2]; exact d4, by rw [hv2]; exact d5, by rw [hv2]; exact d6⟩
  · rw [free_length]; omega
  · refine ⟨?_, ?_, ?_, by omega, ?_, fun _ h => Or.inl h⟩
    · exact hg.os.trans (hg2.os.trans hb1.os)
    · exact hg.tape.trans (hg2.tape.trans hb1.tape)
    · exact hg.output.trans (hg2.output.trans hb1.output)
    · intro j hj hF
      rw [hg.block j (by omega) (fun e => hF (Or.inr (Or.inr (Or.inl (Option.some.inj e))))), hg2.block j (by omega) (fun e => hF (Or.inl (Option.some.inj e))), hb1.block j hj]

set_option maxHeartbeats 2000000 in
set_option maxRecDepth 100000 in
theorem free_any (w : World) (B : Nat) (s : St) (F : Nat → Prop) (c : Nat) (h : Obj w B s F c) (hc : c < 1000000) :
    Calls Try.prog 23 #[.pointer (some ⟨B, 0, none⟩)] w (Freed w B s F c) := by
  have hO := h
  obtain ⟨m1, m2, v, n1, n2, D2, hB, hm1, hm2, hD, hs, hd, c1, c2, c3, c4, hi, rfl⟩ := h
  have hBlt := hO.self_lt
  have hleast := least_any w.drew B s _ c hO
  have hcut : ∀ w1, Below w.heap.size w w1 → Calls Try.prog 33 #[.pointer (some ⟨B, 2, none⟩), .int .i64 s.least] w1 (Cut w1 B (.map (some m1)) (.map (some m2)) v (.int .i64 s.now) s.wt s.least) := fun w1 hb =>
    cut_any w1 B _ _ v _ s.wt s.least ((hb.block B hBlt).trans hB) (hs.carry (fun j hj => hb.block j (hs.lt hj))) hd.2.2.2.1 (by omega)
  have hdone := fun w1 w2 wr v' ro => free_done (w1 := w1) (w2 := w2) (wr := wr) (v' := v') (ro := ro) hB hm1 hm2 hs hd c1 c2 c3 c4 hi
  have hstart : ∀ w1 w2, Below w.heap.size w w1 → w1.grownBy w2 (some B) → Struck w2 m2 n2 (names s.wt) s.freed 0 w2 := fun w1 w2 hb hg =>
    ⟨D2, owns_carry hm2 ((hg.block m2 (Nat.lt_of_lt_of_le hm2.lt hb.size) (fun e => hd.2.1 (Option.some.inj e).symm)).trans (hb.block m2 hm2.lt)), fun j => by rw [hD j]; simp, ⟨rfl, rfl, rfl, Nat.le_refl _, fun _ _ _ => rfl⟩⟩
  have hwf : ∀ x ∈ s.freed, (Lit.int .i64 x).wf = true := fun x hx => key_wf hm2 (by rw [hD x]; rw [freed_split]; simp [hx])
  have HL := Lib.hid hleast
  have HCU := Lib.hid hcut
  have HDO := Lib.hid hdone
  have HST := Lib.hid hstart
  have HW := Lib.hid hwf
  have hfl := freed_length s
  have HFL := Lib.hid hfl
  have holen := olds_le s.least s.wt
  obtain ⟨d1, d2, d3, d4, d5, d6⟩ := hd
  clear hleast hcut hdone hstart hwf hD hs hB hm1 hm2 hfl
  go_enter Try.func23, Try.ntmps23
  go_wp2
  go_region_with (first
    | (go_at_call 15; refine HL.out.mono ?_; rintro e w1 ⟨rfl, hb1⟩)
    | (go_at_call 33; refine (HCU.out w1 (below_drew0 hb1)).mono ?_; rintro e w2 ⟨ro, v', rfl, hrow, hB2, hs2, hv2, hg2⟩))
  have hbb := below_drew0 hb1
  have hst0 := HST.out w1 w2 hbb hg2
  have HS0 := Lib.hid hst0
  have HDN := Lib.hid (fun wr hS => HDO.out w1 w2 wr v' ro hbb hB2 hs2 hv2 hg2 hrow hS)
  have hsz1 := hbb.size
  have hsz2 := hg2.size
  have q0 : w2.cell? ⟨B, 1, none⟩ = some (.map (some m2)) := by simp [World.cell?, hB2]
  have hrow' := hrow
  have hcells : Rd w2 ro s.freed := Rd.of_owns (base := w1.heap.size) (by
    rw [HFL.out]
    have e : ints s.freed = ints (names (s.wt.take (olds s.least s.wt))) := by rw [take_olds]; rfl
    rw [e]; exact hrow)
  have hrb := hrow.lt
  clear hst0 hs2 hv2 hg2 hrow hb1 hbb
  obtain ⟨_, ⟨rfl, hz⟩ | ⟨gr, capr, curr, rfl, hgr, hhr, hnr, hmr, _⟩⟩ := hrow'
  · have hf0 : s.freed = [] := List.eq_nil_of_length_eq_zero (by rw [HFL.out]; exact hz)
    have HF0 := Lib.hid hf0
    clear hf0 hB2 hcells hrb
    go_wp2
    refine wp_loop_rounds 1 ?_
    rw [rounds_succ]
    go_wp2
    go_ret
    exact HDN.out w2 (by rw [HF0.out] at HS0 ⊢; exact HS0.out)
  · have hT : s.freed.length ≤ olds s.least s.wt ∧ olds s.least s.wt ≤ s.freed.length := by rw [HFL.out]; exact ⟨Nat.le_refl _, Nat.le_refl _⟩
    have hgr1 := (hrb gr rfl).1
    have hgr2 := (hrb gr rfl).2
    have hk2 : m2 < w.heap.size := hO.lt m2 (Or.inr (Or.inr (Or.inl rfl)))
    have hel : ∀ k, k < s.freed.length → w2.cell? ⟨gr, 0 + k, none⟩ = some (.int .i64 (nthI s.freed k)) := by
      intro k hk
      rcases hcells with ⟨_, _, _, h0⟩ | ⟨b', off', cap', he, _, _, _, _, hc'⟩
      · rw [h0] at hk; simp at hk
      · simp only [Value.slice.injEq, Option.some.injEq, Addr.mk.injEq, and_true] at he
        obtain ⟨⟨rfl, rfl⟩, _, _⟩ := he
        exact hc' k hk
    have HEL := Lib.hid hel
    have HB2 := Lib.hid hB2
    unfold maxLen at hmr
    clear hel hcells hB2 hrb hhr HFL
    generalize olds s.least s.wt = T at *
    go_wp2
    go_loopw [14] (fun i wr => ∃ k : Nat, k ≤ T ∧ i = .int .i64 k ∧ Struck w2 m2 n2 (names s.wt) s.freed k wr) (fun i _ => T - (intOf i).toNat)
    case atStart => exact ⟨0, Nat.zero_le _, rfl, HS0.out⟩
    case round =>
      obtain ⟨k, hk, rfl, hSk⟩ := hrel
      have hg := hSk
      obtain ⟨D, ho, hDk, hg⟩ := hg
      by_cases hlt : k < T
      · have hlt' : k < s.freed.length := by omega
        have q1 := (World.cell?_of_block (w := w2) (a := ⟨gr, 0 + k, none⟩) (hg.block gr hgr2 (fun e => by have := Option.some.inj e; omega))).trans (HEL.out k hlt')
        rw [Nat.zero_add] at q1
        have q2 : wr.cell? ⟨B, 1, none⟩ = some (.map (some m2)) := (World.cell?_of_block (w := w2) (a := ⟨B, 1, none⟩) (hg.block B (by omega) (fun e => d2 (Option.some.inj e)))).trans q0
        have hkw := HW.out _ (nthI_mem hlt')
        have HSP := Lib.hid (fun w3 ho3 (ht3 : wr.mapTurned w3 m2) => Struck.step (w1 := w3) (n2 := n2) hlt' hDk hg ho3 ht3.grown)
        clear hDk hg hSk
        go_wp2_with (at_delete; refine wpList_delete_own _ rfl _ _ 55 3 rfl 4 law3 Try.underlying55 _ m2 n2 _ rfl ho _ _ rfl (keyOf_int_mk Try.underlying3 hkw) ?_; intro w3 ho3 ht3)
        have hS3 := HSP.out w3 ho3 ht3
        have HS3 := Lib.hid hS3
        clear hS3 ho3 ht3
        go_wp2
        go_roundw
        case rel => exact ⟨k + 1, by omega, by go_num, HS3.out⟩
        case measure => simp [intOf]; omega
      · have hkk : k = s.freed.length := by omega
        have HFI := Lib.hid (HDN.out wr (hkk ▸ hSk))
        clear hSk ho hDk hg hkk
        go_wp2
        go_ret
        exact HFI.out

end Go.Proofs.Ytphmfmfbneoljaa.Ep
