/- An object of package epoch in memory: which blocks it owns, and that it holds a state of the plain model; how it is carried over what other calls do. -/
import Derived.Test.YtphmfmfbneoljaaRows
import Derived.Test.YtphmfmfbneoljaaModel
import Derived.WalkKit
import Derived.WalkSpells
import Derived.WalkLawsBesides
import Derived.WalkSmall
import Derived.Maps.OwnOps
import Derived.Maps.OwnSet
import Derived.Maps.RangeWalk
import Derived.Lib.Hide
import Derived.ArgAppend
namespace Go.Proofs.Ytphmfmfbneoljaa.Ep
open Go Go.RowKit Go.Maps

theorem ret_int {k : IntKind} {a b : Int} (h : a = b) : Ending.returned (.int k a) = .returned (.int k b) := by rw [h]
theorem ret_bool {a b : Bool} (h : a = b) : Ending.returned (.bool a) = .returned (.bool b) := by rw [h]
theorem below_next {w w1 w2 : World} (h : Below w.heap.size w w1) (k : Below w1.heap.size w1 w2) : Below w.heap.size w w2 := h.trans (k.mono h.size)

theorem law3 : Keyed Try.prog 3 := int_keyed Try.underlying3
theorem zero3 (w : World) : (zeroValue 3).run Try.prog w = .ok (.int .i64 0) w := by kernel_rfl
theorem zero4 (w : World) : (zeroValue 4).run Try.prog w = .ok (.bool false) w := by kernel_rfl

/-- The readers as a map's datum. -/
def mapD (rd : List (Int × Int)) : DataW Unit := .map (rd.map fun p => (.int .i64 p.1, .lit (.int .i64 p.2)))
def itemCells (l : List (Int × Int)) : List Value := l.flatMap (fun p => [.int .i64 p.1, .int .i64 p.2])

/-- A slice (of elements of sz cells, of type e) that may begin inside its block: it holds just these cells. -/
def Seg (w : World) (e : TypeId) (sz : Nat) (v : Value) (n : Nat) (xs : List Value) : Prop :=
  xs.length = n * sz ∧ ((v = .slice none 0 0 ∧ n = 0) ∨
    ∃ g off cap cur, v = .slice (some ⟨g, off, none⟩) n cap ∧ w.heap[g]? = some (.cells cur e (0, 0)) ∧ n ≤ cap ∧ cap ≤ maxLen ∧ off + cap * sz ≤ cur.size ∧ (cur.toList.drop off).take (n * sz) = xs)

theorem Seg.of_owns {w : World} {base : Nat} {e : TypeId} {sz : Nat} {v : Value} {n : Nat} {xs : List Value} (h : w.ownsRow base e sz v n xs) : Seg w e sz v n xs := by
  obtain ⟨h1, h2⟩ := h
  refine ⟨h1, ?_⟩
  rcases h2 with h2 | ⟨g, cap, cur, hv, _, hh, hn, hm, hs, hx⟩
  · exact Or.inl h2
  · exact Or.inr ⟨g, 0, cap, cur, hv, hh, hn, hm, by omega, by simpa using hx⟩
theorem Seg.lt {w : World} {e : TypeId} {sz : Nat} {v : Value} {n : Nat} {xs : List Value} (h : Seg w e sz v n xs) {k : Nat} (hk : v.ownBlock = some k) : k < w.heap.size := by
  obtain ⟨_, h2⟩ := h
  rcases h2 with ⟨rfl, _⟩ | ⟨g, off, cap, cur, rfl, hh, _⟩
  · cases hk
  · simp only [Value.ownBlock, Option.some.injEq] at hk
    subst hk
    exact (Array.getElem?_eq_some_iff.1 hh).1
theorem Seg.carry {w w' : World} {e : TypeId} {sz : Nat} {v : Value} {n : Nat} {xs : List Value} (h : Seg w e sz v n xs) (hb : ∀ k, v.ownBlock = some k → w'.heap[k]? = w.heap[k]?) : Seg w' e sz v n xs := by
  obtain ⟨h1, h2⟩ := h
  refine ⟨h1, ?_⟩
  rcases h2 with h2 | ⟨g, off, cap, cur, rfl, hh, r⟩
  · exact Or.inl h2
  · exact Or.inr ⟨g, off, cap, cur, rfl, (hb g rfl).trans hh, r⟩
/-- What a walk reads of it. -/
theorem Seg.cell {w : World} {e : TypeId} {sz : Nat} {v : Value} {n : Nat} {xs : List Value} (h : Seg w e sz v n xs) {g off cap m : Nat} (hv : v = .slice (some ⟨g, off, none⟩) m cap) {j : Nat} {u : Value} (hj : xs[j]? = some u) : w.cell? ⟨g, off + j, none⟩ = some u := by
  obtain ⟨h1, h2⟩ := h
  rcases h2 with ⟨rfl, _⟩ | ⟨g', off', cap', cur, rfl, hh, _, _, _, hx⟩
  · cases hv
  · cases hv
    rw [← hx] at hj
    have hj2 : cur[off + j]? = some u := by
      rw [List.getElem?_take] at hj
      split at hj
      · rw [List.getElem?_drop, Array.getElem?_toList] at hj; exact hj
      · cases hj
    simp only [World.cell?, hh]
    exact hj2

/-- What a call may change: of what was there, the blocks of F alone; what the object owns afterwards it owned before, or it is new. -/
structure Moves (F F' : Nat → Prop) (w w' : World) : Prop where
  os : w'.os = w.os
  tape : w'.tape = w.tape
  output : w'.output = w.output
  size : w.heap.size ≤ w'.heap.size
  block : ∀ k, k < w.heap.size → ¬ F k → w'.heap[k]? = w.heap[k]?
  sub : ∀ k, F' k → F k ∨ w.heap.size ≤ k

theorem Moves.refl (F : Nat → Prop) (w : World) : Moves F F w w := ⟨rfl, rfl, rfl, Nat.le_refl _, fun _ _ _ => rfl, fun _ h => Or.inl h⟩
theorem Moves.trans {F F' F'' : Nat → Prop} {w w' w'' : World} (h : Moves F F' w w') (k : Moves F' F'' w' w'') : Moves F F'' w w'' :=
  ⟨k.os.trans h.os, k.tape.trans h.tape, k.output.trans h.output, Nat.le_trans h.size k.size,
    fun i hi hF => (k.block i (Nat.lt_of_lt_of_le hi h.size) (fun hF' => by rcases h.sub i hF' with h1 | h1; exact hF h1; omega)).trans (h.block i hi hF),
    fun i hF => by
      rcases k.sub i hF with h1 | h1
      · exact h.sub i h1
      · exact Or.inr (Nat.le_trans h.size h1)⟩
theorem Moves.of_below {F : Nat → Prop} {w w' : World} (h : Below w.heap.size w w') : Moves F F w w' :=
  ⟨h.os, h.tape, h.output, h.size, fun k hk _ => h.block k hk, fun _ h => Or.inl h⟩
theorem Moves.of_grown {F F' : Nat → Prop} {w w' : World} {row : Option Nat} (h : w.grownBy w' row) (hr : ∀ k, row = some k → F k) (hs : ∀ k, F' k → F k ∨ w.heap.size ≤ k) : Moves F F' w w' :=
  ⟨h.os, h.tape, h.output, h.size, fun k hk hF => h.block k hk (fun e => hF (hr k e.symm)), hs⟩
/-- Where all of it lies above B, what lies below is as it was. -/
theorem Moves.below {F F' : Nat → Prop} {w w' : World} (h : Moves F F' w w') {B : Nat} (hF : ∀ k, F k → B ≤ k) (hB : B ≤ w.heap.size) : Below B w w' :=
  ⟨h.os, h.tape, h.output, h.size, fun k hk => h.block k (Nat.lt_of_lt_of_le hk hB) (fun hk' => by have := hF k hk'; omega)⟩

/-- The object of package epoch at block B: it holds the state s; F says which blocks it owns; c counts what has been put into it. -/
def Obj (w : World) (B : Nat) (s : St) (F : Nat → Prop) (c : Nat) : Prop :=
  ∃ (m1 m2 : Nat) (v : Value) (n1 n2 : Nat) (D2 : DataW Unit),
    w.heap[B]? = some (.cells #[.map (some m1), .map (some m2), v, .int .i64 s.now] 60 (0, 0)) ∧
    w.ownsMap Try.prog 3 (plainElem Try.prog 3) m1 n1 (mapD s.rd) ∧
    w.ownsMap Try.prog 3 (plainElem Try.prog 4) m2 n2 D2 ∧
    (∀ k : Int, D2.atKey (.int .i64 k) (.lit (.bool false)) = .lit (.bool ((names s.wt).contains k))) ∧
    Seg w 68 2 v s.wt.length (itemCells s.wt) ∧
    (B ≠ m1 ∧ B ≠ m2 ∧ m1 ≠ m2 ∧ v.ownBlock ≠ some B ∧ v.ownBlock ≠ some m1 ∧ v.ownBlock ≠ some m2) ∧
    n1 ≤ c ∧ n2 ≤ c ∧ s.wt.length ≤ c ∧ s.now ≤ c + 1 ∧ Inv s ∧
    F = fun k => k = B ∨ k = m1 ∨ k = m2 ∨ v.ownBlock = some k

theorem Obj.inv {w : World} {B : Nat} {s : St} {F : Nat → Prop} {c : Nat} (h : Obj w B s F c) : Inv s := by
  obtain ⟨m1, m2, v, n1, n2, D2, hB, hm1, hm2, hD, hs, hd, c1, c2, c3, c4, hi, rfl⟩ := h
  exact hi
theorem Obj.rd_le {w : World} {B : Nat} {s : St} {F : Nat → Prop} {c : Nat} (h : Obj w B s F c) : s.rd.length ≤ c := by
  obtain ⟨m1, m2, v, n1, n2, D2, hB, hm1, hm2, hD, hs, hd, c1, c2, c3, c4, hi, rfl⟩ := h
  have := hm1.size_le
  simp only [mapD, Maps.size_eq, List.length_map] at this
  omega
theorem Obj.bounds {w : World} {B : Nat} {s : St} {F : Nat → Prop} {c : Nat} (h : Obj w B s F c) : s.wt.length ≤ c ∧ 1 ≤ s.now ∧ s.now ≤ c + 1 := by
  obtain ⟨m1, m2, v, n1, n2, D2, hB, hm1, hm2, hD, hs, hd, c1, c2, c3, c4, hi, rfl⟩ := h
  exact ⟨c3, hi.now1, c4⟩
theorem Obj.mono {w : World} {B : Nat} {s : St} {F : Nat → Prop} {c c' : Nat} (h : Obj w B s F c) (hc : c ≤ c') : Obj w B s F c' := by
  obtain ⟨m1, m2, v, n1, n2, D2, hB, hm1, hm2, hD, hs, hd, c1, c2, c3, c4, hi, rfl⟩ := h
  exact ⟨m1, m2, v, n1, n2, D2, hB, hm1, hm2, hD, hs, hd, by omega, by omega, by omega, by omega, hi, rfl⟩
theorem Obj.lt {w : World} {B : Nat} {s : St} {F : Nat → Prop} {c : Nat} (h : Obj w B s F c) : ∀ k, F k → k < w.heap.size := by
  obtain ⟨m1, m2, v, n1, n2, D2, hB, hm1, hm2, hD, hs, hd, c1, c2, c3, c4, hi, rfl⟩ := h
  rintro k (rfl | rfl | rfl | hk)
  · exact (Array.getElem?_eq_some_iff.1 hB).1
  · exact hm1.lt
  · exact hm2.lt
  · exact hs.lt hk
theorem Obj.self {w : World} {B : Nat} {s : St} {F : Nat → Prop} {c : Nat} (h : Obj w B s F c) : F B := by
  obtain ⟨m1, m2, v, n1, n2, D2, hB, hm1, hm2, hD, hs, hd, c1, c2, c3, c4, hi, rfl⟩ := h
  exact Or.inl rfl
theorem owns_carry {w w' : World} {k : TypeId} {R : Value → Option (DataW Unit × List MemPlace)} {b n : Nat} {D : DataW Unit} (h : w.ownsMap Try.prog k R b n D) (hb : w'.heap[b]? = w.heap[b]?) : w'.ownsMap Try.prog k R b n D := by
  obtain ⟨es, clock, h1, h2, h3, h4⟩ := h
  exact ⟨es, clock, hb.trans h1, h2, h3, h4⟩
/-- What changes none of its blocks leaves it as it is. -/
theorem Obj.carry {w w' : World} {B : Nat} {s : St} {F : Nat → Prop} {c : Nat} (h : Obj w B s F c) (hb : ∀ k, F k → w'.heap[k]? = w.heap[k]?) : Obj w' B s F c := by
  obtain ⟨m1, m2, v, n1, n2, D2, hB, hm1, hm2, hD, hs, hd, c1, c2, c3, c4, hi, rfl⟩ := h
  exact ⟨m1, m2, v, n1, n2, D2, (hb B (Or.inl rfl)).trans hB, owns_carry hm1 (hb m1 (Or.inr (Or.inl rfl))), owns_carry hm2 (hb m2 (Or.inr (Or.inr (Or.inl rfl)))), hD, hs.carry (fun k hk => hb k (Or.inr (Or.inr (Or.inr hk)))), hd, c1, c2, c3, c4, hi, rfl⟩
theorem Obj.below {w w' : World} {B : Nat} {s : St} {F : Nat → Prop} {c : Nat} (h : Obj w B s F c) (hb : Below w.heap.size w w') : Obj w' B s F c :=
  h.carry (fun k hk => hb.block k (h.lt k hk))
/-- A call on another object leaves it as it is. -/
theorem Obj.apart {w w' : World} {B : Nat} {s : St} {F G G' : Nat → Prop} {c : Nat} (h : Obj w B s F c) (hm : Moves G G' w w') (hd : ∀ k, F k → ¬ G k) : Obj w' B s F c :=
  h.carry (fun k hk => hm.block k (h.lt k hk) (hd k hk))

end Go.Proofs.Ytphmfmfbneoljaa.Ep
