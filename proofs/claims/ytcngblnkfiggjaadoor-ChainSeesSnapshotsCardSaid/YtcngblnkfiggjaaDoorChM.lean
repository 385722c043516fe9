/- The object of package memory: which blocks it owns, what it shows; how it is carried; an append law for one new element; contracts of has and note. -/
import Derived.Test.YtcngblnkfiggjaaDoorPtrC
import Derived.Deep.RegionHeld3
import Derived.Deep.DrawnRows
namespace Go.Proofs.YtcngblnkfiggjaaDoor.Rm
open Go Go.RowKit Go.Maps
attribute [local go_sem ↓] Go.wp_at_zero Go.wp_at_succ

/-- What a call may change: of what was there, the blocks of F alone; what the object owns afterwards it owned before, or it is new. -/
structure Moves (F F' : Nat → Prop) (w w' : World) : Prop where
  os : w'.os = w.os
  tape : w'.tape = w.tape
  output : w'.output = w.output
  size : w.heap.size ≤ w'.heap.size
  block : ∀ k, k < w.heap.size → ¬ F k → w'.heap[k]? = w.heap[k]?
  sub : ∀ k, F' k → F k ∨ w.heap.size ≤ k
theorem Moves.refl (F : Nat → Prop) (w : World) : Moves F F w w := ⟨rfl, rfl, rfl, Nat.le_refl _, fun _ _ _ => rfl, fun _ h => Or.inl h⟩
theorem Moves.trans {F F' F'' : Nat → Prop} {w w' w'' : World} (h : Moves F F' w w') (k : Moves F' F'' w' w'') : Moves F F'' w w'' :=
  ⟨k.os.trans h.os, k.tape.trans h.tape, k.output.trans h.output, Nat.le_trans h.size k.size,
    fun i hi hF => (k.block i (Nat.lt_of_lt_of_le hi h.size) (fun hF' => by rcases h.sub i hF' with h1 | h1; exact hF h1; omega)).trans (h.block i hi hF),
    fun i hF => by
      rcases k.sub i hF with h1 | h1
      · exact h.sub i h1
      · exact Or.inr (Nat.le_trans h.size h1)⟩
theorem Moves.of_below {F : Nat → Prop} {w w' : World} (h : Below w.heap.size w w') : Moves F F w w' :=
  ⟨h.os, h.tape, h.output, h.size, fun k hk _ => h.block k hk, fun _ h => Or.inl h⟩
/-- Where all of it lies above B, what lies below is as it was. -/
theorem Moves.below {F F' : Nat → Prop} {w w' : World} (h : Moves F F' w w') {B : Nat} (hF : ∀ k, F k → B ≤ k) (hB : B ≤ w.heap.size) : Below B w w' :=
  ⟨h.os, h.tape, h.output, h.size, fun k hk => h.block k (Nat.lt_of_lt_of_le hk hB) (fun hk' => by have := hF k hk'; omega)⟩
theorem Moves.cell {F F' : Nat → Prop} {w w' : World} (h : Moves F F' w w') {p : Addr} (hp : p.block < w.heap.size) (hF : ¬ F p.block) : w'.cell? p = w.cell? p :=
  World.cell?_of_block (h.block _ hp hF)

/-- What pending stores show over zeros. -/
def shown (l : List (Int × Int)) : Int → Int := l.foldl (fun (f : Int → Int) p => fun i => if i = p.1 then p.2 else f i) (fun _ => 0)
theorem shown_nil (j : Int) : shown [] j = 0 := rfl
theorem shown_snoc (l : List (Int × Int)) (a b : Int) (j : Int) : shown (l ++ [(a, b)]) j = if j = a then b else shown l j := by simp [shown]
/-- A memory with another word. -/
def upd (M : Int → Int) (a b : Int) : Int → Int := fun i => if i = a then b else M i

structure MOx (w : World) (Bm n : Nat) (M : Int → Int) (F : Nat → Prop) (c : Nat) (Bl Bb : Nat) (ve : Value) (nE : Nat) (xe : List Value) (vs : Nat → Value) (P : Nat → List (Int × Int)) (L : Array Value) (D : DataW Unit) (tag : Nat → Nat) : Prop where
  top : w.heap[Bm]? = some (.cells #[.slice (some ⟨Bl, 0, none⟩) n n, .map (some Bb), .int .i64 0, ve] 102 (0, 0))
  lns : w.heap[Bl]? = some (.cells L 98 (0, 0))
  zer : ∀ i, i < n → ∀ j, j < 9 → L[i * 11 + j]? = some (.int .i64 0)
  pnd : ∀ i, i < n → L[i * 11 + 9]? = some (vs i)
  mrk : ∀ i, i < n → ∃ m, L[i * 11 + 10]? = some (.int .i64 m)
  own : ∀ i, i < n → w.ownsRow 0 141 2 (vs i) (P i).length (itemCells (P i))
  evs : w.ownsRow 0 143 12 ve nE xe
  bsy : w.ownsMap Tryd.prog 3 (plainElem Tryd.prog 4) Bb c D
  tg0 : tag Bm = 0
  tg1 : tag Bl = 1
  tg2 : tag Bb = 2
  tg3 : ∀ k, ve.ownBlock = some k → tag k = 3
  tg4 : ∀ i, i < n → ∀ k, (vs i).ownBlock = some k → tag k = 4 + i
  len : nE ≤ c
  lep : ∀ i, i < n → (P i).length ≤ c
  cnt : 1 ≤ n ∧ n ≤ 1000
  wrd : ∀ i, i < n → ∀ p ∈ P i, 0 ≤ p.1 ∧ p.1 < 8
  mem : ∀ i : Nat, i < n → ∀ j : Int, 0 ≤ j → j < 8 → shown (P i) j = M (8 * i + j)
  fF : F = fun k => k = Bm ∨ k = Bl ∨ k = Bb ∨ ve.ownBlock = some k ∨ ∃ i, i < n ∧ (vs i).ownBlock = some k
/-- The object at block Bm: it has n lines, shows the words M, owns the blocks F; c counts what has been put into it. -/
def MO (w : World) (Bm n : Nat) (M : Int → Int) (F : Nat → Prop) (c : Nat) : Prop := ∃ Bl Bb ve nE xe vs P L D tag, MOx w Bm n M F c Bl Bb ve nE xe vs P L D tag

theorem map_lt {w : World} {b n : Nat} {D : DataW Unit} {e : TypeId} (h : w.ownsMap Tryd.prog 3 (plainElem Tryd.prog e) b n D) : b < w.heap.size := by
  obtain ⟨es, clock, h1, _⟩ := h
  exact (Array.getElem?_eq_some_iff.1 h1).1
theorem map_carry {w w' : World} {b n n' : Nat} {D : DataW Unit} {e : TypeId} (h : w.ownsMap Tryd.prog 3 (plainElem Tryd.prog e) b n D) (hb : w'.heap[b]? = w.heap[b]?) (hn : n ≤ n') : w'.ownsMap Tryd.prog 3 (plainElem Tryd.prog e) b n' D := by
  obtain ⟨es, clock, h1, h2, h3, h4⟩ := h
  exact ⟨es, clock, hb.trans h1, h2, Nat.le_trans h3 hn, h4⟩
theorem MO.lt {w : World} {Bm n : Nat} {M : Int → Int} {F : Nat → Prop} {c : Nat} (h : MO w Bm n M F c) {k : Nat} (hk : F k) : k < w.heap.size := by
  obtain ⟨Bl, Bb, ve, nE, xe, vs, P, L, D, tag, h⟩ := h
  rw [h.fF] at hk
  rcases hk with rfl | rfl | rfl | hk | ⟨i, hi, hk⟩
  · exact (Array.getElem?_eq_some_iff.1 h.top).1
  · exact (Array.getElem?_eq_some_iff.1 h.lns).1
  · exact map_lt h.bsy
  · exact (World.ownsRow.lt h.evs k hk).2
  · exact (World.ownsRow.lt (h.own i hi) k hk).2
theorem MO.carry {w w' : World} {Bm n : Nat} {M : Int → Int} {F : Nat → Prop} {c : Nat} (h : MO w Bm n M F c) (hb : ∀ k, F k → w'.heap[k]? = w.heap[k]?) : MO w' Bm n M F c := by
  obtain ⟨Bl, Bb, ve, nE, xe, vs, P, L, D, tag, h⟩ := h
  have e := h.fF
  subst e
  exact ⟨Bl, Bb, ve, nE, xe, vs, P, L, D, tag, (hb _ (Or.inl rfl)).trans h.top, (hb _ (Or.inr (Or.inl rfl))).trans h.lns, h.zer, h.pnd, h.mrk,
    fun i hi => row_carry (h.own i hi) (fun k hk => hb k (Or.inr (Or.inr (Or.inr (Or.inr ⟨i, hi, hk⟩))))),
    row_carry h.evs (fun k hk => hb k (Or.inr (Or.inr (Or.inr (Or.inl hk))))),
    map_carry h.bsy (hb _ (Or.inr (Or.inr (Or.inl rfl)))) (Nat.le_refl _), h.tg0, h.tg1, h.tg2, h.tg3, h.tg4, h.len, h.lep, h.cnt, h.wrd, h.mem, rfl⟩
theorem MO.below {w w' : World} {Bm n : Nat} {M : Int → Int} {F : Nat → Prop} {c : Nat} (h : MO w Bm n M F c) (hb : Below w.heap.size w w') : MO w' Bm n M F c :=
  h.carry (fun k hk => hb.block k (h.lt hk))
/-- What the walks read of it. -/
theorem MOx.line {w : World} {Bm n : Nat} {M : Int → Int} {F : Nat → Prop} {c Bl Bb : Nat} {ve : Value} {nE : Nat} {xe : List Value} {vs : Nat → Value} {P : Nat → List (Int × Int)} {L : Array Value} {D : DataW Unit} {tag : Nat → Nat} (h : MOx w Bm n M F c Bl Bb ve nE xe vs P L D tag) {j : Nat} {u : Value} (hj : L[j]? = some u) : w.cell? ⟨Bl, j, none⟩ = some u := by
  simp [World.cell?, h.lns, hj]
theorem MO.top {w : World} {Bm n : Nat} {M : Int → Int} {F : Nat → Prop} {c : Nat} (h : MO w Bm n M F c) : ∃ Bl, w.cell? ⟨Bm, 0, none⟩ = some (.slice (some ⟨Bl, 0, none⟩) n n) ∧ Bm < w.heap.size ∧ F Bm := by
  obtain ⟨Bl, Bb, ve, nE, xe, vs, P, L, D, tag, h⟩ := h
  refine ⟨Bl, by simp [World.cell?, h.top], (Array.getElem?_eq_some_iff.1 h.top).1, ?_⟩
  rw [h.fF]; exact Or.inl rfl

/-- Append of one element that lies in a block of its own onto a row that the caller owns. -/
theorem run_append_one (w : World) (sl el sz bytes : Nat) (z : Value) (hu : Tryd.prog.underlying sl = some (.slice el)) (hi : (Tryd.prog.info? el).map (fun i => (i.zero, i.size, i.bytes)) = some (some z, sz, bytes)) (hzs : z.cells.size = sz) (hsz : 0 < sz) (hby : bytes ≤ 1000)
    (base : Nat) (v : Value) (n : Nat) (xs news : List Value) (b : Nat) (hown : w.ownsRow base el sz v n xs) (hblk : w.heap[b]? = some (.cells news.toArray el (0, 0))) (hlen : news.length = sz) (h1 : ∀ u ∈ news, u.oneCell' = true) (hl : n < 1000000) (hbase : base ≤ w.heap.size) :
    ∃ v' w', (Builtin.append_ #[sl, sl] sl #[v, .slice (some ⟨b, 0, none⟩) 1 1]).run Tryd.prog w = .ok v' w' ∧ w'.ownsRow base el sz v' (n + 1) (xs ++ news) ∧ w.grownBy w' v.ownBlock ∧ (v'.ownBlock = v.ownBlock ∨ v'.ownBlock = some w.heap.size) := by
  obtain ⟨i0, hi0, hz0, hz1, hz2⟩ := info_parts hi
  obtain ⟨v', w', hr, r1, r2, _, r3⟩ := run_append_own_at (P := Tryd.prog) w base sl sl el i0 z sz bytes hu hi0 hz0 hz1 hz2 hzs hsz v n xs hown ⟨b, 0, none⟩ 1 1 news (by simpa using hlen)
    (fun j x hj => by
      rw [Addr.add_lit]
      simp only [World.cell?, hblk, Nat.zero_add]
      simpa using hj) h1 (by unfold maxLen; omega) (by
        have : (n + 1) * bytes ≤ 1000000 * 1000 := Nat.mul_le_mul (by omega) hby
        omega) hbase
  exact ⟨v', w', hr, r1, r2, r3⟩
theorem step_append_one (w : World) {ops : Array Oper} {o : Oper} {a : Act} {K : Act → World → Prop} {Q : Exit → Act → World → Prop} {E : Prop}
    (hg : o.guard = none) (s x : Operand) (sl el sz bytes : Nat) (z : Value) (hop : o.op = Op.call { callee := Callee.builtin Builtin.append, args := #[s, x], argTypes := #[sl, sl] }) (hty : o.type = sl)
    (hu : Tryd.prog.underlying sl = some (.slice el)) (hi : (Tryd.prog.info? el).map (fun i => (i.zero, i.size, i.bytes)) = some (some z, sz, bytes)) (hzs : z.cells.size = sz) (hsz : 0 < sz) (hby : bytes ≤ 1000)
    (base : Nat) (v : Value) (n : Nat) (xs news : List Value) (b : Nat) (hs : a.eval s = v) (hx : a.eval x = .slice (some ⟨b, 0, none⟩) 1 1) (hown : w.ownsRow base el sz v n xs) (hblk : w.heap[b]? = some (.cells news.toArray el (0, 0))) (hlen : news.length = sz) (h1 : ∀ u ∈ news, u.oneCell' = true) (hl : n < 1000000) (hbase : base ≤ w.heap.size)
    (h : ∀ v' w', w'.ownsRow base el sz v' (n + 1) (xs ++ news) → w.grownBy w' v.ownBlock → (v'.ownBlock = v.ownBlock ∨ v'.ownBlock = some w.heap.size) → K (a.put o.dst v') w') :
    if Region.wanted o (yielded ops a.tmps) = true then Oper.wp Tryd.prog o a w K Q else E := by
  have hw : Region.wanted o (yielded ops a.tmps) = true := by simp [Region.wanted, hg]
  rw [if_pos hw]
  obtain ⟨v', w', hrun, r1, r2, r3⟩ := run_append_one w sl el sz bytes z hu hi hzs hsz hby base v n xs news b hown hblk hlen h1 hl hbase
  unfold Oper.wp
  simp [execOp, hop, hty, resolve, invoke, builtin, hs, hx, hrun, Result.andThen]
  exact h v' w' r1 r2 r3
theorem info141 : (Tryd.prog.info? 141).map (fun i => (i.zero, i.size, i.bytes)) = some (some (.agg #[.int .i64 0, .int .i64 0]), 2, 16) := by kernel_rfl
theorem info143 : (Tryd.prog.info? 143).map (fun i => (i.zero, i.size, i.bytes)) = some (some (.agg #[.int .i64 0, .int .i64 0, .int .i64 0, .int .i64 0, .int .i64 0, .int .i64 0, .int .i64 0, .int .i64 0, .int .i64 0, .int .i64 0, .int .i64 0, .int .i64 0]), 12, 96) := by kernel_rfl

set_option maxHeartbeats 400000 in
theorem mhas_any (w : World) (Bm Bl n : Nat) (x : Int) (hm : w.cell? ⟨Bm, 0, none⟩ = some (.slice (some ⟨Bl, 0, none⟩) n n)) (h0 : 0 ≤ x) (h1 : x < n) :
    Calls Tryd.prog 90 #[.pointer (some ⟨Bm, 0, none⟩), .int .i64 x] w fun e w' => e = .returned (.bool true) ∧ w = w' := by
  have hd : decide (x < (n : Int)) = true := decide_eq_true h1
  go_enter Tryd.func90, Tryd.ntmps90
  go_wp2
  go_ret
  exact ⟨rfl, rfl⟩

/-- The object after one event more. -/
theorem MO.noted {w w1 : World} {Bm n : Nat} {M : Int → Int} {F : Nat → Prop} {c Bl Bb : Nat} {ve v' : Value} {nE : Nat} {xe xe' : List Value} {vs : Nat → Value} {P : Nat → List (Int × Int)} {L : Array Value} {D : DataW Unit} {tag : Nat → Nat} (h : MOx w Bm n M F c Bl Bb ve nE xe vs P L D tag)
    (wa : World) (hba : Below w.heap.size w wa) (hrow : w1.ownsRow 0 143 12 v' (nE + 1) xe') (hg : wa.grownBy w1 ve.ownBlock) (hv : v'.ownBlock = ve.ownBlock ∨ v'.ownBlock = some wa.heap.size) :
    ∃ F', MO (w1.setCell ⟨Bm, 3, none⟩ v') Bm n M F' (c + 1) ∧ Moves F F' w (w1.setCell ⟨Bm, 3, none⟩ v') := by
  have hm : MO w Bm n M F c := ⟨_, _, _, _, _, _, _, _, _, _, h⟩
  have hBm := (Array.getElem?_eq_some_iff.1 h.top).1
  have hsz := hba.size
  have hlow : ∀ k, F k → k < w.heap.size := fun k hk => hm.lt hk
  have hve : ∀ k, ve.ownBlock = some k → F k := fun k hk => by rw [h.fF]; exact Or.inr (Or.inr (Or.inr (Or.inl hk)))
  have hkeep : ∀ k, k < w.heap.size → ve.ownBlock ≠ some k → w1.heap[k]? = w.heap[k]? := fun k hk hne => (hg.block k (by omega) (fun e => hne e.symm)).trans (hba.block k hk)
  have hkeep2 : ∀ k, k < w.heap.size → ve.ownBlock ≠ some k → k ≠ Bm → (w1.setCell ⟨Bm, 3, none⟩ v').heap[k]? = w.heap[k]? := fun k hk hne hkb => by
    rw [Below.heap_setCell _ _ _ _ hkb]; exact hkeep k hk hne
  have tve : ∀ k, ve.ownBlock = some k → tag k = 3 := h.tg3
  have neBm : ve.ownBlock ≠ some Bm := fun e => by have := tve _ e; rw [h.tg0] at this; omega
  have neBl : ve.ownBlock ≠ some Bl := fun e => by have := tve _ e; rw [h.tg1] at this; omega
  have neBb : ve.ownBlock ≠ some Bb := fun e => by have := tve _ e; rw [h.tg2] at this; omega
  have lBl : Bl ≠ Bm := fun e => by have a := h.tg0; have b := h.tg1; rw [e] at b; omega
  have lBb : Bb ≠ Bm := fun e => by have a := h.tg0; have b := h.tg2; rw [e] at b; omega
  have hv' : ∀ k, v'.ownBlock = some k → ve.ownBlock = some k ∨ k = wa.heap.size := fun k hk => by
    rcases hv with e | e
    · exact Or.inl (e ▸ hk)
    · rw [e] at hk; cases hk; exact Or.inr rfl
  have hlt : ∀ k, v'.ownBlock = some k → k < w1.heap.size := fun k hk => (World.ownsRow.lt hrow k hk).2
  refine ⟨_, ⟨Bl, Bb, v', nE + 1, xe', vs, P, L, D, (fun k => if k = wa.heap.size then 3 else tag k), ?_, ?_, h.zer, h.pnd, h.mrk, ?_, ?_, ?_, ?_, ?_, ?_, ?_, ?_, ?_, ?_, h.cnt, h.wrd, h.mem, rfl⟩, ?_⟩
  · have := Joins.block_setCell ((hkeep Bm hBm neBm).trans h.top) (i := 3) v'
    simpa using this
  · exact (hkeep2 Bl (hlow Bl (by rw [h.fF]; exact Or.inr (Or.inl rfl))) neBl lBl).trans h.lns
  · intro i hi
    refine row_carry (h.own i hi) (fun k hk => ?_)
    have ht := h.tg4 i hi k hk
    exact hkeep2 k (World.ownsRow.lt (h.own i hi) k hk).2 (fun e => by have := tve _ e; omega) (fun e => by rw [e, h.tg0] at ht; omega)
  · exact row_carry hrow (fun k hk => Below.heap_setCell _ _ _ _ (fun e => by
      have e' : k = Bm := e
      subst e'
      rcases hv' _ hk with h1 | h1
      · exact neBm h1
      · omega))
  · exact map_carry h.bsy (hkeep2 Bb (map_lt h.bsy) neBb lBb) (by omega)
  · show (if Bm = wa.heap.size then 3 else tag Bm) = 0
    rw [if_neg (by omega)]; exact h.tg0
  · have : Bl < w.heap.size := (Array.getElem?_eq_some_iff.1 h.lns).1
    show (if Bl = wa.heap.size then 3 else tag Bl) = 1
    rw [if_neg (by omega)]; exact h.tg1
  · have := map_lt h.bsy
    show (if Bb = wa.heap.size then 3 else tag Bb) = 2
    rw [if_neg (by omega)]; exact h.tg2
  · intro k hk
    show (if k = wa.heap.size then 3 else tag k) = 3
    rcases hv' k hk with h1 | h1
    · split
      · rfl
      · exact tve k h1
    · rw [if_pos h1]
  · intro i hi k hk
    have := (World.ownsRow.lt (h.own i hi) k hk).2
    show (if k = wa.heap.size then 3 else tag k) = 4 + i
    rw [if_neg (by omega)]; exact h.tg4 i hi k hk
  · have := h.len; omega
  · intro i hi; have := h.lep i hi; omega
  · refine ⟨hg.os.trans hba.os, hg.tape.trans hba.tape, hg.output.trans hba.output, by have := hg.size; simp; omega, ?_, ?_⟩
    · intro k hk hF
      exact hkeep2 k hk (fun e => hF (hve k e)) (fun e => hF (by rw [h.fF]; exact Or.inl e))
    · intro k hk
      rw [h.fF]
      rcases hk with h1 | h1 | h1 | h1 | h1
      · exact Or.inl (Or.inl h1)
      · exact Or.inl (Or.inr (Or.inl h1))
      · exact Or.inl (Or.inr (Or.inr (Or.inl h1)))
      · rcases hv' k h1 with h2 | h2
        · exact Or.inl (Or.inr (Or.inr (Or.inr (Or.inl h2))))
        · right; omega
      · exact Or.inl (Or.inr (Or.inr (Or.inr (Or.inr h1))))

end Go.Proofs.YtcngblnkfiggjaaDoor.Rm
