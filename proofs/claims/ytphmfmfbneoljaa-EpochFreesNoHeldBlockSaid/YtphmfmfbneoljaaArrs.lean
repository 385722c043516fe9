/- Arrays of bools that the call itself has made, beside the object; a law for the walk: a whole row of such an array is stored. A list of steps that came in, as a walk reads it. -/
import Derived.Test.YtphmfmfbneoljaaPlainG
import Derived.Laws.CopyRow
namespace Go.Proofs.Ytphmfmfbneoljaa.Ep
open Go Go.RowKit Go.Maps Go.ChangeShapes Go.WideShapes Go.ChangeAt

theorem run_storeAt_row {P : Program} (w : World) (ty : TypeId) (g off : Nat) (cs cur : Array Value) (e : TypeId) (hb : w.heap[g]? = some (.cells cur e (0, 0))) (hsz : (P.info? ty).map (·.size) = some cs.size) (hfit : off + cs.size ≤ cur.size) (h1 : ∀ v ∈ cs.toList, v.oneCell' = true) :
    (Instr.storeAt ty (.pointer (some ⟨g, off, none⟩)) (.agg cs)).run P w = .ok () (w.setRow g (cur.toList.take off ++ cs.toList ++ cur.toList.drop (off + cs.size)).toArray) := by
  have h := run_storeCells_at P g off e cs.toList 0 cur w hb (by simpa using hfit) h1
  simp only [Nat.add_zero, Array.length_toList] at h
  cases hq : P.info? ty with
  | none => simp [hq] at hsz
  | some i =>
    have hs : i.size = cs.size := by simpa [hq] using hsz
    simp [Instr.storeAt, Instr.sureAddr, storeVar, Sem.run_bind, sizeOf, typeInfo, hq, hs, Value.cells, h]

theorem wpList_store_row {P : Program} (w : World) {ops : Array Oper} {rest : List Oper} {o : Oper} {a : Act} {Q : Exit → Act → World → Prop}
    (hg : o.guard = none) (ty : TypeId) (x y : Operand) (hop : o.op = Op.store ty x y) (g off : Nat) (cs cur : Array Value) (hx : a.eval x = .pointer (some ⟨g, off, none⟩)) (hy : a.eval y = .agg cs)
    (e : TypeId) (hb : w.heap[g]? = some (.cells cur e (0, 0))) (hsz : (P.info? ty).map (·.size) = some cs.size) (hfit : off + cs.size ≤ cur.size) (h1 : ∀ v ∈ cs.toList, v.oneCell' = true)
    (hK : wpList P ops Q rest (a.put o.dst undef) (w.setRow g (cur.toList.take off ++ (cs.toList ++ cur.toList.drop (off + cs.size))).toArray)) : wpList P ops Q (o :: rest) a w := by
  refine wpList_plain hg fun K hK' => ?_
  have h := run_storeAt_row (P := P) w ty g off cs cur e hb hsz hfit h1
  unfold Oper.wp
  simp [execOp, hop, hx, hy, h, Result.andThen]
  exact hK' _ _ hK

/-- An array of n bools at block b. -/
def Arr (w : World) (b : Nat) (t : TypeId) (n : Nat) (f : Nat → Bool) : Prop := w.heap[b]? = some (.cells ((List.range n).map fun i => Value.bool (f i)).toArray t (0, 0))
section
variable {w w' : World} {b n i : Nat} {t : TypeId} {f : Nat → Bool}
theorem Arr.lt (h : Arr w b t n f) : b < w.heap.size := (Array.getElem?_eq_some_iff.1 h).1
theorem Arr.cell (h : Arr w b t n f) (hi : i < n) : w.cell? ⟨b, i, none⟩ = some (.bool (f i)) := by
  rw [cell_of_row w b i _ t (0, 0) h]
  simp [hi]
theorem Arr.free (h : Arr w b t n f) : w.frozen? ⟨b, i, none⟩ = false := frozen_of_row w b i _ t h
theorem Arr.carry (h : Arr w b t n f) (hb : w'.heap[b]? = w.heap[b]?) : Arr w' b t n f := hb.trans h
theorem Arr.set (h : Arr w b t n f) (hi : i < n) (v : Bool) : Arr (w.setCell ⟨b, i, none⟩ (.bool v)) b t n (upd f i v) := by
  unfold Arr
  rw [Joins.block_setCell h]
  congr 2
  rw [List.setIfInBounds_toArray]
  congr 1
  apply List.ext_getElem?
  intro j
  rw [List.getElem?_set]
  by_cases hj : j < n
  · by_cases e : i = j
    · subst e; simp [hi, upd]
    · have e' : j ≠ i := fun h => e h.symm
      simp [e, hj, upd, e']
  · have e : i ≠ j := by omega
    simp [e, hj]
theorem Arr.other {a : Addr} {v : Value} (h : Arr w b t n f) (ha : a.block ≠ b) : Arr (w.setCell a v) b t n f := h.carry (Below.heap_setCell _ _ _ _ (fun e => ha e.symm))
theorem arr_get (f : Nat → Bool) (n j : Nat) : ((List.range n).map fun i => Value.bool (f i))[j]? = if j < n then some (.bool (f j)) else none := by
  split
  · rename_i h; simp [h]
  · rename_i h; simp; omega
theorem Arr.wipe {r : Nat} (h : Arr w b t 128 f) (hr : r < 8) : Arr (w.setRow b ((((List.range 128).map fun i => Value.bool (f i)).toArray.toList.take (r * 16)) ++ ((Array.replicate 16 (Value.bool false)).toList ++ (((List.range 128).map fun i => Value.bool (f i)).toArray.toList.drop (r * 16 + (Array.replicate 16 (Value.bool false)).size)))).toArray) b t 128 (wipe f r) := by
  unfold Arr
  rw [setRow_heap w b _ _ t (0, 0) h]
  congr 2
  congr 1
  apply List.ext_getElem?
  intro j
  simp only [List.toList_toArray, Array.toList_replicate, Array.size_replicate]
  rw [List.getElem?_append]
  simp only [List.length_take, List.length_map, List.length_range]
  split
  · rename_i hj
    rw [List.getElem?_take_of_lt (by omega)]
    have hw : Ep.wipe f r j = f j := if_neg (by omega)
    rw [arr_get, arr_get, hw]
  · rename_i hj
    rw [List.getElem?_append]
    simp only [List.length_replicate]
    split
    · rename_i hj2
      have hw : Ep.wipe f r j = false := if_pos (by omega)
      rw [List.getElem?_replicate, if_pos hj2, arr_get, if_pos (by omega), hw]
    · rename_i hj2
      rw [List.getElem?_drop]
      have hw : Ep.wipe f r j = f j := if_neg (by omega)
      have e : r * 16 + 16 + (j - min (r * 16) 128 - 16) = j := by omega
      rw [e, arr_get, arr_get, hw]
end

/-- The object, and beside it the four arrays. -/
structure Mem (w0 w : World) (B A L W H : Nat) (t : St) (F : Nat → Prop) (c : Nat) (act lnk wts hf : Nat → Bool) : Prop where
  own : Own w0 w B t F c
  aA : Arr w A 44 8 act
  aL : Arr w L 45 16 lnk
  aW : Arr w W 45 16 wts
  aH : Arr w H 46 128 hf
  off : ∀ k, F k → k ≠ A ∧ k ≠ L ∧ k ≠ W ∧ k ≠ H
  dj : w0.heap.size ≤ A ∧ A < L ∧ L < W ∧ W < H
section
variable {w0 w w' : World} {B A L W H : Nat} {t t' : St} {F F' : Nat → Prop} {c c' : Nat} {act lnk wts hf : Nat → Bool}
theorem Mem.moves (h : Mem w0 w B A L W H t F c act lnk wts hf) (ho : Obj w' B t' F' c') (hm : Moves F F' w w') : Mem w0 w' B A L W H t' F' c' act lnk wts hf := by
  have l1 := h.aA.lt
  have l2 := h.aL.lt
  have l3 := h.aW.lt
  have l4 := h.aH.lt
  have hb : ∀ k, k < w.heap.size → (k = A ∨ k = L ∨ k = W ∨ k = H) → w'.heap[k]? = w.heap[k]? := fun k h1 h2 => hm.block k h1 (fun hF => by have := h.off k hF; omega)
  refine ⟨h.own.moves ho hm, h.aA.carry (hb _ l1 (by omega)), h.aL.carry (hb _ l2 (by omega)), h.aW.carry (hb _ l3 (by omega)), h.aH.carry (hb _ l4 (by omega)), fun k hF => ?_, h.dj⟩
  rcases hm.sub k hF with h1 | h1
  · exact h.off k h1
  · omega
theorem Mem.by (h : Mem w0 w B A L W H t F c act lnk wts hf) (hb : Below w.heap.size w w') : Mem w0 w' B A L W H t F c act lnk wts hf :=
  ⟨h.own.by hb, h.aA.carry (hb.block _ h.aA.lt), h.aL.carry (hb.block _ h.aL.lt), h.aW.carry (hb.block _ h.aW.lt), h.aH.carry (hb.block _ h.aH.lt), h.off, h.dj⟩
theorem Own.setCell {a : Addr} {v : Value} (h : Own w0 w B t F c) (ha : ¬ F a.block) (hg : w0.heap.size ≤ a.block) : Own w0 (w.setCell a v) B t F c :=
  ⟨h.obj.carry (fun k hk => Below.heap_setCell _ _ _ _ (fun e => ha (e ▸ hk))), h.new, h.below.setCell hg _⟩
theorem Mem.off' (h : Mem w0 w B A L W H t F c act lnk wts hf) {k : Nat} (h1 : k = A ∨ k = L ∨ k = W ∨ k = H) : ¬ F k := fun hF => by have := h.off k hF; omega
theorem Mem.setA (h : Mem w0 w B A L W H t F c act lnk wts hf) {i : Nat} (hi : i < 8) (v : Bool) : Mem w0 (w.setCell ⟨A, i, none⟩ (.bool v)) B A L W H t F c (upd act i v) lnk wts hf := by
  obtain ⟨d1, d2, d3, d4⟩ := h.dj
  exact ⟨h.own.setCell (h.off' (by simp)) (by simp; omega), h.aA.set hi v, h.aL.other (by simp; omega), h.aW.other (by simp; omega), h.aH.other (by simp; omega), h.off, h.dj⟩
theorem Mem.setL (h : Mem w0 w B A L W H t F c act lnk wts hf) {i : Nat} (hi : i < 16) (v : Bool) : Mem w0 (w.setCell ⟨L, i, none⟩ (.bool v)) B A L W H t F c act (upd lnk i v) wts hf := by
  obtain ⟨d1, d2, d3, d4⟩ := h.dj
  exact ⟨h.own.setCell (h.off' (by simp)) (by simp; omega), h.aA.other (by simp; omega), h.aL.set hi v, h.aW.other (by simp; omega), h.aH.other (by simp; omega), h.off, h.dj⟩
theorem Mem.setW (h : Mem w0 w B A L W H t F c act lnk wts hf) {i : Nat} (hi : i < 16) (v : Bool) : Mem w0 (w.setCell ⟨W, i, none⟩ (.bool v)) B A L W H t F c act lnk (upd wts i v) hf := by
  obtain ⟨d1, d2, d3, d4⟩ := h.dj
  exact ⟨h.own.setCell (h.off' (by simp)) (by simp; omega), h.aA.other (by simp; omega), h.aL.other (by simp; omega), h.aW.set hi v, h.aH.other (by simp; omega), h.off, h.dj⟩
theorem Mem.setH (h : Mem w0 w B A L W H t F c act lnk wts hf) {i : Nat} (hi : i < 128) (v : Bool) : Mem w0 (w.setCell ⟨H, i, none⟩ (.bool v)) B A L W H t F c act lnk wts (upd hf i v) := by
  obtain ⟨d1, d2, d3, d4⟩ := h.dj
  exact ⟨h.own.setCell (h.off' (by simp)) (by simp; omega), h.aA.other (by simp; omega), h.aL.other (by simp; omega), h.aW.other (by simp; omega), h.aH.set hi v, h.off, h.dj⟩
theorem Mem.drew (h : Mem w0 w B A L W H t F c act lnk wts hf) : Mem w0 w.drew B A L W H t F c act lnk wts hf := h.by ⟨rfl, rfl, rfl, Nat.le_refl _, fun _ _ => rfl⟩
theorem Mem.wipe {hf' : Nat → Bool} (h : Mem w0 w B A L W H t F c act lnk wts hf) {cs : Array Value} (hA : Arr (w.setRow H cs) H 46 128 hf') : Mem w0 (w.setRow H cs) B A L W H t F c act lnk wts hf' := by
  have ho : ∀ k, k ≠ H → (w.setRow H cs).heap[k]? = w.heap[k]? := fun k hk => setRow_other w _ _ _ hk
  obtain ⟨d1, d2, d3, d4⟩ := h.dj
  refine ⟨⟨h.own.obj.carry (fun k hk => ho k (fun e => h.off' (k := k) (by omega) hk)), h.own.new, ⟨h.own.below.os, h.own.below.tape, h.own.below.output, by simpa using h.own.below.size, fun k hk => ?_⟩⟩, h.aA.carry (ho _ (by omega)), h.aL.carry (ho _ (by omega)), h.aW.carry (ho _ (by omega)), hA, h.off, h.dj⟩
  rw [ho k (by omega)]
  exact h.own.below.block k hk
end
def zeros (n : Nat) : Array Value := ((List.range n).map fun _ => Value.bool false).toArray
theorem zero46 (w : World) : (zeroValue 46).run Try.prog w = .ok (.agg (zeros 128)) w := by kernel_rfl
theorem Mem.start {w0 w : World} {B : Nat} {F : Nat → Prop} (h : Own w0 w B St.new F 0) :
    Mem w0 ((((w.alloc (.cells (zeros 8) 44)).alloc (.cells (zeros 16) 45)).alloc (.cells (zeros 16) 45)).alloc (.cells (zeros 128) 46)) B w.heap.size (w.heap.size + 1) (w.heap.size + 1 + 1) (w.heap.size + 1 + 1 + 1) St.new F 0 (fun _ => false) (fun _ => false) (fun _ => false) (fun _ => false) := by
  refine ⟨(((h.alloc _).alloc _).alloc _).alloc _, ?_, ?_, ?_, ?_, fun k hk => ?_, h.below.size, by omega, by omega, by omega⟩
  · unfold Arr
    rw [Below.heap_alloc _ _ _ (by simp; omega), Below.heap_alloc _ _ _ (by simp; omega), Below.heap_alloc _ _ _ (by simp)]
    exact heap_alloc_new _ _
  · unfold Arr
    rw [Below.heap_alloc _ _ _ (by simp), Below.heap_alloc _ _ _ (by simp)]
    exact new_at (by simp)
  · unfold Arr
    rw [Below.heap_alloc _ _ _ (by simp)]
    exact new_at (by simp)
  · unfold Arr
    exact new_at (by simp)
  · have := h.obj.lt k hk
    omega

theorem info45 : (Try.prog.info? 45).map (·.size) = some (zeros 16).size := by kernel_rfl
/-- A whole row of the held blocks is wiped. -/
theorem wpList_wipe {w0 w : World} {B A L W H : Nat} {t : St} {F : Nat → Prop} {c : Nat} {act lnk wts hf : Nat → Bool} {ops : Array Oper} {rest : List Oper} {o : Oper} {a : Act} {Q : Exit → Act → World → Prop}
    (hg : o.guard = none) (x y : Operand) (hop : o.op = Op.store 45 x y) (r : Nat) (hx : a.eval x = .pointer (some ⟨H, r * 16, none⟩)) (hy : a.eval y = .agg (zeros 16)) (M : Mem w0 w B A L W H t F c act lnk wts hf) (hr : r < 8)
    (hK : ∀ w', Mem w0 w' B A L W H t F c act lnk wts (wipe hf r) → wpList Try.prog ops Q rest (a.put o.dst undef) w') : wpList Try.prog ops Q (o :: rest) a w := by
  refine wpList_store_row w hg 45 x y hop H (r * 16) (zeros 16) _ hx hy 46 M.aH info45 ?_ ?_ (hK _ (M.wipe (M.aH.wipe hr)))
  · show r * 16 + 16 ≤ 128; omega
  · intro v hv
    simp only [zeros, List.toList_toArray, List.mem_map] at hv
    obtain ⟨_, _, rfl⟩ := hv
    rfl

/-- A step that came in. -/
structure Stp where
  kind : Int
  a : Int
  b : Int
def Stp.ok (s : Stp) : Prop := (0 ≤ s.kind ∧ s.kind ≤ 255) ∧ (0 ≤ s.a ∧ s.a ≤ 255) ∧ (0 ≤ s.b ∧ s.b ≤ 255)
def nthS (l : List Stp) (j : Nat) : Stp := l.getD j ⟨0, 0, 0⟩
/-- A list of steps that is read. -/
def Steps (w : World) (u : Value) (l : List Stp) : Prop :=
  (∃ ao cap, u = .slice ao 0 cap ∧ l = []) ∨
  ∃ b off cap, u = .slice (some ⟨b, off, none⟩) l.length cap ∧ 0 < l.length ∧ l.length ≤ cap ∧ cap ≤ maxLen ∧ b < w.heap.size ∧
    ∀ j, j < l.length → w.cell? ⟨b, off + j * 3, none⟩ = some (.int .u8 (nthS l j).kind) ∧ w.cell? ⟨b, off + j * 3 + 1, none⟩ = some (.int .u8 (nthS l j).a) ∧ w.cell? ⟨b, off + j * 3 + 2, none⟩ = some (.int .u8 (nthS l j).b) ∧ (nthS l j).ok
theorem Steps.shape {w : World} {u : Value} {l : List Stp} (h : Steps w u l) : ∃ ao cap, u = .slice ao l.length cap := by
  rcases h with ⟨ao, cap, rfl, rfl⟩ | ⟨b, off, cap, rfl, _⟩
  · exact ⟨_, _, rfl⟩
  · exact ⟨_, _, rfl⟩
theorem Steps.at {w : World} {ao : Option Addr} {n cap : Nat} {l : List Stp} (h : Steps w (.slice ao n cap) l) {k : Nat} (hk : k < l.length) : ∃ b off, ao = some ⟨b, off, none⟩ ∧ n ≤ cap ∧ cap ≤ maxLen ∧ b < w.heap.size ∧
    w.cell? ⟨b, off + k * 3, none⟩ = some (.int .u8 (nthS l k).kind) ∧ w.cell? ⟨b, off + k * 3 + 1, none⟩ = some (.int .u8 (nthS l k).a) ∧ w.cell? ⟨b, off + k * 3 + 2, none⟩ = some (.int .u8 (nthS l k).b) ∧ (nthS l k).ok := by
  rcases h with ⟨ao, cap, h1, rfl⟩ | ⟨b, off, c, h1, hp, hc, hm, hb, hj⟩
  · simp at hk
  · simp only [Value.slice.injEq] at h1
    obtain ⟨rfl, rfl, rfl⟩ := h1
    exact ⟨b, off, rfl, hc, hm, hb, hj k hk⟩
theorem Steps.below {w w' : World} {u : Value} {l : List Stp} (h : Steps w u l) (hb : Below w.heap.size w w') : Steps w' u l := by
  rcases h with h | ⟨b, off, cap, rfl, hp, hc, hm, hlt, hj⟩
  · exact Or.inl h
  · refine Or.inr ⟨b, off, cap, rfl, hp, hc, hm, Nat.lt_of_lt_of_le hlt hb.size, fun j hj' => ?_⟩
    obtain ⟨a1, a2, a3, a4⟩ := hj j hj'
    exact ⟨(hb.cell hlt).trans a1, (hb.cell hlt).trans a2, (hb.cell hlt).trans a3, a4⟩

theorem cells5 : Try.prog.cellsOf 5 = 1 := by kernel_rfl
theorem cells48 : Try.prog.cellsOf 48 = 3 := by kernel_rfl
set_option maxRecDepth 100000 in
theorem steps_of_trod {H : Type} {enc : TypeId × Value → H} {w : World} {base : Nat} {sp : Nat → Bool} {held : Bool} {fuel : Nat} {u : Value} {x : DataW H × List MemPlace} (h : DataW.trod enc Try.prog w base sp held fuel 43 [u] = some x) :
    ∃ l : List Stp, Steps w u l := by
  rcases Deep.open_slice Try.underlying43 h with ⟨h1, _⟩ | ⟨a, len, cap, m, n, D, Pl, h1, hb, hl, hm, hmm, _, hi⟩
  · cases h1
    exact ⟨[], Or.inl ⟨_, _, rfl, rfl⟩⟩
  · cases h1
    have hlm : len ≤ m := by rw [hmm]; split <;> omega
    by_cases h0 : len = 0
    · subst h0
      exact ⟨[], Or.inl ⟨_, _, rfl, rfl⟩⟩
    · have hel : ∀ i, i < len → ∃ c : Stp, w.cell? (a.add (i * 3)) = some (.int .u8 c.kind) ∧ w.cell? ((a.add (i * 3)).add 1) = some (.int .u8 c.a) ∧ w.cell? ((a.add (i * 3)).add 2) = some (.int .u8 c.b) ∧ c.ok := by
        intro i hi'
        obtain ⟨cs', hc, ht⟩ := hi i (by omega)
        rw [cells48] at hc
        obtain ⟨_, hcl, hat⟩ := World.cells?_some hc
        obtain ⟨ys, n', _, _, _, hyl, hf⟩ := DataW.trod_struct Try.underlying48 ht
        match cs', hcl with
        | [c0, c1, c2], _ =>
          match ys, hyl with
          | [y0, y1, y2], _ =>
            have f0 := hf 0 _ rfl
            have f1 := hf 1 _ rfl
            have f2 := hf 2 _ rfl
            obtain ⟨z0, e0, _, w0⟩ := DataW.trod_int Try.underlying5 (by simpa using f0)
            obtain ⟨z1, e1, _, w1⟩ := DataW.trod_int Try.underlying5 (by simpa using f1)
            obtain ⟨z2, e2, _, w2⟩ := DataW.trod_int Try.underlying5 (by simpa using f2)
            have s0 : c0 = .int .u8 z0 := by simpa [cells5] using e0
            have s1 : c1 = .int .u8 z1 := by simpa [cells5] using e1
            have s2 : c2 = .int .u8 z2 := by simpa [cells5] using e2
            have a0 := hat 0 (by omega)
            have a1 := hat 1 (by omega)
            have a2 := hat 2 (by omega)
            refine ⟨⟨z0, z1, z2⟩, ?_, ?_, ?_, bounds_u8 w0, bounds_u8 w1, bounds_u8 w2⟩
            · rw [← s0]; simpa [Addr.add] using a0
            · rw [← s1]; simpa using a1
            · rw [← s2]; simpa using a2
      have hex : ∃ f : Nat → Stp, ∀ i, i < len → w.cell? (a.add (i * 3)) = some (.int .u8 (f i).kind) ∧ w.cell? ((a.add (i * 3)).add 1) = some (.int .u8 (f i).a) ∧ w.cell? ((a.add (i * 3)).add 2) = some (.int .u8 (f i).b) ∧ (f i).ok := by
        refine ⟨fun i => if hi' : i < len then Classical.choose (hel i hi') else ⟨0, 0, 0⟩, fun i hi' => ?_⟩
        simp only [dif_pos hi']
        exact Classical.choose_spec (hel i hi')
      obtain ⟨f, hf⟩ := hex
      obtain ⟨b, off, spot⟩ := a
      have hspot : spot = none := by
        have := World.cell?_spot (hf 0 (by omega)).1
        simpa [Addr.add] using this
      subst hspot
      have hb' : b < w.heap.size := by have := World.block_lt_of_cell? w _ (hf 0 (by omega)).1; simpa [Addr.add] using this
      refine ⟨(List.range len).map f, Or.inr ⟨b, off, cap, by simp, by simp; omega, by simpa using hl, hm, hb', fun j hj => ?_⟩⟩
      simp at hj
      have hn : nthS ((List.range len).map f) j = f j := by unfold nthS; rw [List.getD_eq_getElem?_getD]; simp [hj]
      rw [hn]
      have := hf j hj
      simpa [Addr.add_lit] using this

end Go.Proofs.Ytphmfmfbneoljaa.Ep
