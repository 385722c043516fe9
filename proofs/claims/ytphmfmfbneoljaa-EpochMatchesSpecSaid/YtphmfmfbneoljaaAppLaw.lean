/- A law for the walk: append of a slice of ints that is read (an empty one, a nil one too) onto a row of the call's own. -/
import Derived.Test.YtphmfmfbneoljaaWalkO
import Derived.Maps.AppendAt
namespace Go.Proofs.Ytphmfmfbneoljaa.Ep
open Go Go.RowKit Go.Maps

theorem run_append_nothing (w : World) (base : Nat) (v : Value) (n : Nat) (xs : List Value) (ao : Option Addr) (c : Nat) (hown : w.ownsRow base 3 1 v n xs) :
    (Builtin.append_ #[29, 29] 29 #[v, .slice ao 0 c]).run Try.prog w = .ok v w := by
  obtain ⟨i0, hi0, hz0, hz1, hz2⟩ := info_parts Try.info3
  obtain ⟨_, ⟨rfl, rfl⟩ | ⟨g, cap, cur, rfl, _, hh, hn, hm, _⟩⟩ := hown
  · cases ao <;> simp [Builtin.append_, run_underlying Try.underlying29, sizeOf, typeInfo, hi0, Builtin.lenOf, Builtin.firstCells, loadCells, loadCellsFrom]
  · have hn' : n + 0 ≤ cap := by omega
    cases ao <;> simp [Builtin.append_, run_underlying Try.underlying29, sizeOf, typeInfo, hi0, Builtin.lenOf, hn, Builtin.firstCells, loadCells, loadCellsFrom, storeCells]

theorem run_append_rd (w : World) (base : Nat) (v u : Value) (xs bs : List Int) (hown : w.ownsRow base 3 1 v xs.length (ints xs)) (hu : Rd w u bs) (hl : xs.length + bs.length < 1000000000) (hbase : base ≤ w.heap.size) :
    ∃ v' w', (Builtin.append_ #[29, 29] 29 #[v, u]).run Try.prog w = .ok v' w' ∧ w'.ownsRow base 3 1 v' (xs ++ bs).length (ints (xs ++ bs)) ∧ w.grownBy w' v.ownBlock ∧ (v'.ownBlock = v.ownBlock ∨ v'.ownBlock = some w.heap.size) := by
  rcases hu with ⟨ao, cap, rfl, rfl⟩ | ⟨b, off, cap, rfl, hp, hc1, hm1, hb1, he1⟩
  · exact ⟨v, w, run_append_nothing w base v _ _ ao cap hown, by simpa using hown, ⟨rfl, rfl, rfl, Nat.le_refl _, fun _ _ _ => rfl⟩, Or.inl rfl⟩
  · obtain ⟨i0, hi0, hz0, hz1, hz2⟩ := info_parts Try.info3
    obtain ⟨v', w', hr, r1, r2, _, r3⟩ := run_append_own_at (P := Try.prog) w base 29 29 3 i0 (.int .i64 0) 1 8 Try.underlying29 hi0 hz0 hz1 hz2 rfl (by decide) v xs.length (ints xs) hown ⟨b, off, none⟩ bs.length cap (ints bs) (by simp [ints])
      (fun j x hj => by
        have hjl : j < bs.length := by have := (List.getElem?_eq_some_iff.1 hj).1; simpa [ints] using this
        rw [ints, List.getElem?_map, nthI_getElem hjl] at hj
        rw [Addr.add_lit, he1 j hjl]
        exact hj)
      (by intro x hx; obtain ⟨y, _, rfl⟩ := List.mem_map.1 hx; rfl) (by unfold maxLen; omega) (by omega) hbase
    refine ⟨v', w', hr, ?_, r2, r3⟩
    rw [List.length_append]
    simpa [ints] using r1

theorem wpList_append_rd (w : World) {ops : Array Oper} {rest : List Oper} {o : Oper} {a : Act} {Q : Exit → Act → World → Prop}
    (hg : o.guard = none) (s x : Operand) (hop : o.op = Op.call { callee := Callee.builtin Builtin.append, args := #[s, x], argTypes := #[29, 29] }) (hty : o.type = 29)
    (base : Nat) (v u : Value) (xs bs : List Int) (hs : a.eval s = v) (hx : a.eval x = u) (hown : w.ownsRow base 3 1 v xs.length (ints xs)) (hu : Rd w u bs) (hl : xs.length + bs.length < 1000000000) (hbase : base ≤ w.heap.size)
    (hK : ∀ v' w', w'.ownsRow base 3 1 v' (xs ++ bs).length (ints (xs ++ bs)) → w.grownBy w' v.ownBlock → (v'.ownBlock = v.ownBlock ∨ v'.ownBlock = some w.heap.size) → wpList Try.prog ops Q rest (a.put o.dst v') w') :
    wpList Try.prog ops Q (o :: rest) a w := by
  refine wpList_plain hg fun K hK' => ?_
  obtain ⟨v', w', hrun, r1, r2, r3⟩ := run_append_rd w base v u xs bs hown hu hl hbase
  unfold Oper.wp
  simp [execOp, hop, hty, resolve, invoke, builtin, hs, hx, hrun, Result.andThen]
  exact hK' _ _ (hK v' w' r1 r2 r3)

end Go.Proofs.Ytphmfmfbneoljaa.Ep
