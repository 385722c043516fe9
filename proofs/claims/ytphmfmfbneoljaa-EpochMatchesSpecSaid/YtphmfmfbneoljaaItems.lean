/- A slice of items that is read; laws for the walk: append of such a slice onto a row of the call's own. -/
import Derived.Test.YtphmfmfbneoljaaWalkS
namespace Go.Proofs.Ytphmfmfbneoljaa.Ep
open Go Go.RowKit Go.Maps

/-- A slice of items that is read (whatever its address, where there is none). -/
def RdI (w : World) (v : Value) (l : List (Int × Int)) : Prop :=
  (∃ ao cap, v = .slice ao 0 cap ∧ l = []) ∨
  ∃ b off cap, v = .slice (some ⟨b, off, none⟩) l.length cap ∧ 0 < l.length ∧ l.length ≤ cap ∧ cap ≤ maxLen ∧ b < w.heap.size ∧ ∀ j, j < l.length → w.cell? ⟨b, off + j * 2, none⟩ = some (.int .i64 (nth l j).1) ∧ w.cell? ⟨b, off + j * 2 + 1, none⟩ = some (.int .i64 (nth l j).2)
theorem RdI.of_seg {w : World} {v : Value} {l : List (Int × Int)} (h : Seg w 62 2 v l.length (itemCells l)) : RdI w v l := by
  have h0 := h
  obtain ⟨hx1, ⟨rfl, hl0⟩ | ⟨g, off, cap, cur, rfl, hh, hn, hcm, hsz, hx⟩⟩ := h
  · exact Or.inl ⟨_, _, rfl, List.length_eq_zero_iff.1 hl0⟩
  · by_cases hz : l.length = 0
    · exact Or.inl ⟨some ⟨g, off, none⟩, cap, by rw [hz], List.eq_nil_of_length_eq_zero hz⟩
    · exact Or.inr ⟨g, off, cap, rfl, by omega, hn, hcm, h0.lt rfl, h0.pair rfl⟩
theorem RdI.zero {w : World} {ao : Option Addr} {n cap : Nat} (h : n = 0) : RdI w (.slice ao n cap) [] := Or.inl ⟨ao, cap, by rw [h], rfl⟩
theorem RdI.below {w w' : World} {v : Value} {l : List (Int × Int)} (h : RdI w v l) (hb : Below w.heap.size w w') : RdI w' v l := by
  rcases h with h | ⟨b, off, cap, rfl, h0, hc, hm, h1, h2⟩
  · exact Or.inl h
  · exact Or.inr ⟨b, off, cap, rfl, h0, hc, hm, Nat.lt_of_lt_of_le h1 hb.size, fun j hj => ⟨(hb.cell h1).trans (h2 j hj).1, (hb.cell h1).trans (h2 j hj).2⟩⟩
theorem RdI.dropped {w : World} {b off n cap : Nat} {l : List (Int × Int)} (h : RdI w (.slice (some ⟨b, off, none⟩) n cap) l) {k : Nat} (hk : k < l.length) : RdI w (.slice (some ⟨b, off + k * 2, none⟩) (n - k) (cap - k)) (l.drop k) := by
  rcases h with ⟨a, c, h1, rfl⟩ | ⟨b', off', c, h1, h2, h3, h4, h5, h6⟩
  · simp at hk
  · simp only [Value.slice.injEq, Option.some.injEq, Addr.mk.injEq, and_true] at h1
    obtain ⟨⟨rfl, rfl⟩, rfl, rfl⟩ := h1
    have hl : (l.drop k).length = l.length - k := by simp
    refine Or.inr ⟨b, off + k * 2, cap - k, by rw [hl], by omega, by omega, by omega, h5, fun j hj => ?_⟩
    have := h6 (k + j) (by omega)
    have e : nth (l.drop k) j = nth l (k + j) := by unfold nth; rw [List.getD_eq_getElem?_getD, List.getD_eq_getElem?_getD, List.getElem?_drop]
    rw [e, show off + k * 2 + j * 2 = off + (k + j) * 2 by omega]
    exact this

theorem itemCells_get {l : List (Int × Int)} {j : Nat} {x : Value} (h : (itemCells l)[j]? = some x) : ∃ k, k < l.length ∧ ((j = k * 2 ∧ x = .int .i64 (nth l k).1) ∨ (j = k * 2 + 1 ∧ x = .int .i64 (nth l k).2)) := by
  have hl : j < l.length * 2 := by rw [← itemCells_length]; exact (List.getElem?_eq_some_iff.1 h).1
  refine ⟨j / 2, by omega, ?_⟩
  obtain ⟨e1, e2⟩ := itemCells_at (l := l) (j := j / 2) (by omega)
  rcases Nat.mod_two_eq_zero_or_one j with h2 | h2
  · left
    have : 2 * (j / 2) = j := by omega
    rw [this, h] at e1
    exact ⟨by omega, Option.some.inj e1⟩
  · right
    have : 2 * (j / 2) + 1 = j := by omega
    rw [this, h] at e2
    exact ⟨by omega, Option.some.inj e2⟩
theorem itemCells_one {l : List (Int × Int)} : ∀ u ∈ itemCells l, u.oneCell' = true := by
  intro u hu
  unfold itemCells at hu
  obtain ⟨p, _, hp⟩ := List.mem_flatMap.1 hu
  simp at hp
  rcases hp with rfl | rfl <;> rfl

theorem run_append_nothingI (w : World) (base : Nat) (v : Value) (n : Nat) (xs : List Value) (ao : Option Addr) (c : Nat) (hown : w.ownsRow base 62 2 v n xs) :
    (Builtin.append_ #[38, 38] 38 #[v, .slice ao 0 c]).run Try.prog w = .ok v w := by
  obtain ⟨i0, hi0, hz0, hz1, hz2⟩ := info_parts Try.info62
  obtain ⟨_, ⟨rfl, rfl⟩ | ⟨g, cap, cur, rfl, _, hh, hn, hm, _⟩⟩ := hown
  · cases ao <;> simp [Builtin.append_, run_underlying Try.underlying38, sizeOf, typeInfo, hi0, Builtin.lenOf, Builtin.firstCells, loadCells, loadCellsFrom]
  · have hn' : n + 0 ≤ cap := by omega
    cases ao <;> simp [Builtin.append_, run_underlying Try.underlying38, sizeOf, typeInfo, hi0, Builtin.lenOf, hn, Builtin.firstCells, loadCells, loadCellsFrom, storeCells]

theorem run_append_rdI (w : World) (base : Nat) (v u : Value) (xs ys : List (Int × Int)) (hown : w.ownsRow base 62 2 v xs.length (itemCells xs)) (hu : RdI w u ys) (hl : xs.length + ys.length < 1000000000) (hbase : base ≤ w.heap.size) :
    ∃ v' w', (Builtin.append_ #[38, 38] 38 #[v, u]).run Try.prog w = .ok v' w' ∧ w'.ownsRow base 62 2 v' (xs ++ ys).length (itemCells (xs ++ ys)) ∧ w.grownBy w' v.ownBlock := by
  rcases hu with ⟨ao, cap, rfl, rfl⟩ | ⟨b, off, cap, rfl, hp, hc1, hm1, hb1, he1⟩
  · exact ⟨v, w, run_append_nothingI w base v _ _ ao cap hown, by simpa using hown, ⟨rfl, rfl, rfl, Nat.le_refl _, fun _ _ _ => rfl⟩⟩
  · obtain ⟨i0, hi0, hz0, hz1, hz2⟩ := info_parts Try.info62
    obtain ⟨v', w', hr, r1, r2, _⟩ := run_append_own (P := Try.prog) w base 38 38 62 i0 (.agg #[.int .i64 0, .int .i64 0]) 2 16 Try.underlying38 hi0 hz0 hz1 hz2 rfl (by decide) v xs.length (itemCells xs) hown ⟨b, off, none⟩ ys.length cap (itemCells ys) (itemCells_length _)
      (fun j x hj => by
        obtain ⟨k, hk, ⟨rfl, rfl⟩ | ⟨rfl, rfl⟩⟩ := itemCells_get hj
        · rw [Addr.add_lit]; exact (he1 k hk).1
        · rw [Addr.add_lit, ← Nat.add_assoc]; exact (he1 k hk).2)
      itemCells_one (by unfold maxLen; omega) (by omega) hbase
    refine ⟨v', w', hr, ?_, r2⟩
    rw [List.length_append, itemCells_append]
    exact r1

/-- A row of items of the call's own. -/
def OwnI (w : World) (base : Nat) (v : Value) (l : List (Int × Int)) : Prop := w.ownsRow base 62 2 v l.length (itemCells l)
theorem OwnI.alloc {w : World} {base : Nat} {v : Value} {l : List (Int × Int)} (h : OwnI w base v l) (o : _root_.Go.Obj) : OwnI (w.alloc o) base v l := World.ownsRow.alloc h o
theorem OwnI.lt {w : World} {base : Nat} {v : Value} {l : List (Int × Int)} (h : OwnI w base v l) {k : Nat} (hk : v.ownBlock = some k) : base ≤ k ∧ k < w.heap.size := World.ownsRow.lt h k hk
theorem OwnI.shape {w : World} {base : Nat} {v : Value} {l : List (Int × Int)} (h : OwnI w base v l) : ∃ ao cap, v = .slice ao l.length cap := owns_shape h
theorem OwnI.form {w : World} {base : Nat} {v : Value} {l : List (Int × Int)} (h : OwnI w base v l) : ∃ ao n cap, v = .slice ao n cap := by
  obtain ⟨ao, cap, h⟩ := OwnI.shape h
  exact ⟨ao, _, cap, h⟩
theorem OwnI.nil (w : World) (base : Nat) : OwnI w base (.slice none 0 0) [] := World.ownsRow_nil _ _ _ _
theorem OwnI.seg {w : World} {base : Nat} {v : Value} {l : List (Int × Int)} (h : OwnI w base v l) : Seg w 62 2 v l.length (itemCells l) := Seg.of_owns h
theorem OwnI.empty {w : World} {base : Nat} (h : base ≤ w.heap.size) : OwnI (w.alloc (.cells #[] 62)) base (.slice (some ⟨w.heap.size, 0, none⟩) 0 0) [] :=
  ⟨rfl, Or.inr ⟨w.heap.size, 0, #[], rfl, h, heap_alloc_new _ _, Nat.le_refl _, by unfold maxLen; omega, by simp, rfl⟩⟩
theorem OwnI.carry {w w' : World} {base : Nat} {v : Value} {l : List (Int × Int)} (h : OwnI w base v l) (hb : Below w.heap.size w w') : OwnI w' base v l := row_carry h (fun k hk => hb.block k (OwnI.lt h hk).2)
theorem wpList_append_rdI (w : World) {ops : Array Oper} {rest : List Oper} {o : Oper} {a : Act} {Q : Exit → Act → World → Prop}
    (hg : o.guard = none) (s x : Operand) (hop : o.op = Op.call { callee := Callee.builtin Builtin.append, args := #[s, x], argTypes := #[38, 38] }) (hty : o.type = 38)
    (base : Nat) (v u : Value) (xs ys : List (Int × Int)) (hs : a.eval s = v) (hx : a.eval x = u) (hown : OwnI w base v xs) (hu : RdI w u ys) (hl : xs.length + ys.length < 1000000000) (hbase : base ≤ w.heap.size)
    (hK : ∀ v' w', OwnI w' base v' (xs ++ ys) → w.grownBy w' v.ownBlock → wpList Try.prog ops Q rest (a.put o.dst v') w') :
    wpList Try.prog ops Q (o :: rest) a w := by
  refine wpList_plain hg fun K hK' => ?_
  obtain ⟨v', w', hrun, r1, r2⟩ := run_append_rdI w base v u xs ys hown hu hl hbase
  unfold Oper.wp
  simp [execOp, hop, hty, resolve, invoke, builtin, hs, hx, hrun, Result.andThen]
  exact hK' _ _ (hK v' w' r1 r2)

/-- A slice of one new item. -/
theorem RdI.one (w : World) (x e : Int) (b : Nat) (hb : b = w.heap.size) : RdI (w.alloc (.cells #[.int .i64 x, .int .i64 e] 62)) (.slice (some ⟨b, 0, none⟩) 1 1) [(x, e)] := by
  subst hb
  refine Or.inr ⟨w.heap.size, 0, 1, rfl, by simp, by simp, by unfold maxLen; omega, by simp, fun j hj => ?_⟩
  simp at hj
  subst hj
  constructor
  · go_simp; rfl
  · go_simp; rfl

end Go.Proofs.Ytphmfmfbneoljaa.Ep
