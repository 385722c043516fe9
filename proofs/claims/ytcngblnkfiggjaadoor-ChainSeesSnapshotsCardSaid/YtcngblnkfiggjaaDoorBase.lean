/- Slices of ints and of entries, as a walk reads and makes them; laws for append. Turned by program (gen_base.py) out of the epoch seat's texts. -/
import Derived.Test.YtcngblnkfiggjaaDoorRows
import Derived.WalkKit
import Derived.WalkSpells
import Derived.WalkLawsBesides
import Derived.WalkSmall
import Derived.Maps.OwnOps
import Derived.Maps.OwnSet
import Derived.Maps.RangeWalk
import Derived.Maps.AppendAt
import Derived.Lib.Hide
import Derived.Lib.SmallJoins
import Derived.ArgAppend
import Derived.RegionTactic
import Derived.ChangeAlike
import Derived.BigRegion
import Derived.Deep.QuietTactic
import Derived.BigQuiet
import Derived.Handy
import Derived.Deep.AppendLies
import Derived.Shelf.SlIterI.Nil
namespace Go.Proofs.YtcngblnkfiggjaaDoor.Rm
open Go Go.RowKit Go.Maps Go.Shelf

def names (l : List (Int × Int)) : List Int := l.map (·.1)
def has (l : List (Int × Int)) (k : Int) : Bool := l.any (fun p => p.1 == k)
def ins (k e : Int) : List (Int × Int) → List (Int × Int)
  | [] => [(k, e)]
  | y :: r => if k < y.1 then (k, e) :: y :: r else y :: ins k e r
def out (k : Int) (l : List (Int × Int)) : List (Int × Int) := l.filter (fun p => !(p.1 == k))
theorem mem_ins {k e : Int} {l : List (Int × Int)} {p : Int × Int} : p ∈ ins k e l ↔ p = (k, e) ∨ p ∈ l := by
  induction l with
  | nil => simp [ins]
  | cons y r ih =>
    unfold ins
    split
    · simp
    · simp only [List.mem_cons, ih]; exact or_left_comm
theorem ins_length (k e : Int) (l : List (Int × Int)) : (ins k e l).length = l.length + 1 := by
  induction l with
  | nil => rfl
  | cons y r ih =>
    unfold ins
    split
    · simp
    · simp [ih]
theorem has_iff {l : List (Int × Int)} {k : Int} : has l k = true ↔ ∃ e, (k, e) ∈ l := by
  unfold has
  simp only [List.any_eq_true, beq_iff_eq]
  constructor
  · rintro ⟨⟨a, b⟩, h, rfl⟩; exact ⟨b, h⟩
  · rintro ⟨e, h⟩; exact ⟨_, h, rfl⟩
theorem has_false {l : List (Int × Int)} {k : Int} (h : has l k = false) : ∀ p ∈ l, p.1 ≠ k := by
  intro p hp e
  have : has l k = true := has_iff.2 ⟨p.2, by rw [← e]; exact hp⟩
  rw [this] at h; cases h
theorem has_names {l : List (Int × Int)} {k : Int} : has l k = (names l).contains k := by
  rw [Bool.eq_iff_iff, List.contains_iff_mem]
  unfold names
  rw [has_iff]
  simp
theorem ins_sorted {k e : Int} {l : List (Int × Int)} (h : l.Pairwise (fun a b => a.1 < b.1)) (hk : ∀ p ∈ l, p.1 ≠ k) : (ins k e l).Pairwise (fun a b => a.1 < b.1) := by
  induction l with
  | nil => simp [ins]
  | cons y r ih =>
    rw [List.pairwise_cons] at h
    unfold ins
    split
    · rename_i hlt
      rw [List.pairwise_cons]
      refine ⟨?_, List.pairwise_cons.2 h⟩
      intro p hp
      rcases List.mem_cons.1 hp with rfl | hp
      · exact hlt
      · have := h.1 p hp; show k < p.1; omega
    · rename_i hlt
      rw [List.pairwise_cons]
      refine ⟨?_, ih h.2 (fun p hp => hk p (List.mem_cons_of_mem _ hp))⟩
      intro p hp
      rcases mem_ins.1 hp with rfl | hp
      · have := hk y (List.mem_cons_self); show y.1 < k; omega
      · exact h.1 p hp
theorem ret_int {k : IntKind} {a b : Int} (h : a = b) : Ending.returned (.int k a) = .returned (.int k b) := by rw [h]
theorem ret_bool {a b : Bool} (h : a = b) : Ending.returned (.bool a) = .returned (.bool b) := by rw [h]
theorem below_next {w w1 w2 : World} (h : Below w.heap.size w w1) (k : Below w1.heap.size w1 w2) : Below w.heap.size w w2 := h.trans (k.mono h.size)
theorem law3 : Keyed Tryd.prog 3 := int_keyed Tryd.underlying3
theorem zero3 (w : World) : (zeroValue 3).run Tryd.prog w = .ok (.int .i64 0) w := by kernel_rfl
/-- The readers as a map's datum. -/
def mapD (rd : List (Int × Int)) : DataW Unit := .map (rd.map fun p => (.int .i64 p.1, .lit (.int .i64 p.2)))
def itemCells (l : List (Int × Int)) : List Value := l.flatMap (fun p => [.int .i64 p.1, .int .i64 p.2])
/-- A slice (of elements of sz cells, of type e) that may begin inside its block: it holds just these cells. -/
def Seg (w : World) (e : TypeId) (sz : Nat) (v : Value) (n : Nat) (xs : List Value) : Prop :=
  xs.length = n * sz ∧ ((v = .slice none 0 0 ∧ n = 0) ∨
    ∃ g off cap cur, v = .slice (some ⟨g, off, none⟩) n cap ∧ w.heap[g]? = some (.cells cur e (0, 0)) ∧ n ≤ cap ∧ cap ≤ maxLen ∧ off + cap * sz ≤ cur.size ∧ (cur.toList.drop off).take (n * sz) = xs)
theorem Seg.of_owns {w : World} {base : Nat} {e : TypeId} {sz : Nat} {v : Value} {n : Nat} {xs : List Value} (h : w.ownsRow base e sz v n xs) : Seg w e sz v n xs := by
  obtain ⟨h1, h2⟩ := h
  refine ⟨h1, ?_⟩
  rcases h2 with h2 | ⟨g, cap, cur, hv, _, hh, hn, hm, hs, hx⟩
  · exact Or.inl h2
  · exact Or.inr ⟨g, 0, cap, cur, hv, hh, hn, hm, by omega, by simpa using hx⟩
theorem Seg.lt {w : World} {e : TypeId} {sz : Nat} {v : Value} {n : Nat} {xs : List Value} (h : Seg w e sz v n xs) {k : Nat} (hk : v.ownBlock = some k) : k < w.heap.size := by
  obtain ⟨_, h2⟩ := h
  rcases h2 with ⟨rfl, _⟩ | ⟨g, off, cap, cur, rfl, hh, _⟩
  · cases hk
  · simp only [Value.ownBlock, Option.some.injEq] at hk
    subst hk
    exact (Array.getElem?_eq_some_iff.1 hh).1
theorem Seg.carry {w w' : World} {e : TypeId} {sz : Nat} {v : Value} {n : Nat} {xs : List Value} (h : Seg w e sz v n xs) (hb : ∀ k, v.ownBlock = some k → w'.heap[k]? = w.heap[k]?) : Seg w' e sz v n xs := by
  obtain ⟨h1, h2⟩ := h
  refine ⟨h1, ?_⟩
  rcases h2 with h2 | ⟨g, off, cap, cur, rfl, hh, r⟩
  · exact Or.inl h2
  · exact Or.inr ⟨g, off, cap, cur, rfl, (hb g rfl).trans hh, r⟩
/-- What a walk reads of it. -/
theorem Seg.cell {w : World} {e : TypeId} {sz : Nat} {v : Value} {n : Nat} {xs : List Value} (h : Seg w e sz v n xs) {g off cap m : Nat} (hv : v = .slice (some ⟨g, off, none⟩) m cap) {j : Nat} {u : Value} (hj : xs[j]? = some u) : w.cell? ⟨g, off + j, none⟩ = some u := by
  obtain ⟨h1, h2⟩ := h
  rcases h2 with ⟨rfl, _⟩ | ⟨g', off', cap', cur, rfl, hh, _, _, _, hx⟩
  · cases hv
  · cases hv
    rw [← hx] at hj
    have hj2 : cur[off + j]? = some u := by
      rw [List.getElem?_take] at hj
      split at hj
      · rw [List.getElem?_drop, Array.getElem?_toList] at hj; exact hj
      · cases hj
    simp only [World.cell?, hh]
    exact hj2
theorem wf64 {n : Int} (h : -9223372036854775808 ≤ n ∧ n ≤ 9223372036854775807) : (Lit.int .i64 n).wf = true := by
  simp [Lit.wf, IntKind.min, IntKind.max, IntKind.bits, IntKind.signed]; omega
theorem grown_drew {w w' : World} {row : Option Nat} (h : w.drew.grownBy w' row) : w.grownBy w' row := ⟨h.os, h.tape, h.output, h.size, h.block⟩
theorem has_mapD (rd : List (Int × Int)) (k : Int) : Maps.has (mapD rd) (.int .i64 k) = has rd k := by
  unfold mapD has
  rw [Maps.has_eq, List.any_map]
  congr 1
  funext p
  rw [Bool.eq_iff_iff]
  simp [Lit.sameKey]
theorem del_mapD (rd : List (Int × Int)) (k : Int) : (mapD rd).del (.int .i64 k) = mapD (out k rd) := by
  unfold mapD DataW.del out
  simp only
  congr 1
  rw [List.filter_map]
  congr 2
  funext p
  rw [Bool.eq_iff_iff]
  simp [Lit.sameKey]
theorem mem_of_at {rd : List (Int × Int)} {x c : Int} (h : ∀ zd, (mapD rd).atKey (.int .i64 x) zd = .lit (.int .i64 c)) : (x, c) ∈ rd := by
  have h0 := h .nil
  unfold mapD DataW.atKey at h0
  simp only at h0
  split at h0
  · rename_i p hp
    obtain ⟨h1, h2⟩ := List.find?_eq_some_iff_append.1 hp
    have hm : p ∈ rd.map fun p => ((.int .i64 p.1, .lit (.int .i64 p.2)) : Lit × DataW Unit) := List.mem_of_find?_eq_some hp
    obtain ⟨q, hq, rfl⟩ := List.mem_map.1 hm
    simp [Lit.sameKey] at h1
    simp at h0
    rw [← h1, ← h0]
    exact hq
  · cases h0
theorem sorted_inj {rd : List (Int × Int)} (h : rd.Pairwise (fun a b => a.1 < b.1)) {p q : Int × Int} (hp : p ∈ rd) (hq : q ∈ rd) (e : p.1 = q.1) : p = q := by
  induction rd with
  | nil => cases hp
  | cons y r ih =>
    rw [List.pairwise_cons] at h
    rcases List.mem_cons.1 hp with hp' | hp'
    · rcases List.mem_cons.1 hq with hq' | hq'
      · rw [hp', hq']
      · have := h.1 q hq'; rw [hp'] at e; omega
    · rcases List.mem_cons.1 hq with hq' | hq'
      · have := h.1 p hp'; rw [hq'] at e; omega
      · exact ih h.2 hp' hq'
theorem intKeys_mapD (rd : List (Int × Int)) : intKeys (mapD rd) = names rd := by
  unfold mapD names
  simp only [intKeys, List.map_map]
  rfl
theorem names_sorted {rd : List (Int × Int)} (h : rd.Pairwise (fun a b => a.1 < b.1)) : (names rd).Pairwise (fun a b => a < b) := by
  unfold names; rw [List.pairwise_map]; exact h
theorem sorted_unique {a b : List Int} (h : a.Perm b) (ha : a.Pairwise (fun x y => x ≤ y)) (hb : b.Pairwise (fun x y => x ≤ y)) : a = b := by
  induction a generalizing b with
  | nil => exact h.nil_eq
  | cons x r ih =>
    cases b with
    | nil => exact absurd h.length_eq (by simp)
    | cons y t =>
      rw [List.pairwise_cons] at ha hb
      have e : x = y := by
        have h1 : x ∈ y :: t := h.mem_iff.1 List.mem_cons_self
        have h2 : y ∈ x :: r := h.mem_iff.2 List.mem_cons_self
        rcases List.mem_cons.1 h1 with h1 | h1
        · exact h1
        · rcases List.mem_cons.1 h2 with h2 | h2
          · exact h2.symm
          · have := hb.1 x h1; have := ha.1 y h2; omega
      subst e
      rw [ih h.cons_inv ha.2 hb.2]
theorem sorted_names {rd : List (Int × Int)} {ss : List Int} (h : rd.Pairwise (fun a b => a.1 < b.1)) (hp : ss.Perm (names rd)) : ss.mergeSort (fun x y => decide (x ≤ y)) = names rd := by
  apply sorted_unique ((List.mergeSort_perm _ _).trans hp)
  · have := List.pairwise_mergeSort (le := fun x y : Int => decide (x ≤ y)) (by intro a b c; simp; omega) (by intro a b; simp; omega) ss
    exact this.imp (by intro a b; simp)
  · exact (names_sorted h).imp (by intro a b; omega)
theorem Tryd.info3 : (Tryd.prog.info? 3).map (fun i => (i.zero, i.size, i.bytes)) = some (some (.int .i64 0), 1, 8) := by kernel_rfl
/-- A list of ints as cells. -/
def ints (l : List Int) : List Value := l.map (Value.int .i64)
/-- A pair of a list of pairs, with a default. -/
def nth (l : List (Int × Int)) (j : Nat) : Int × Int := l.getD j (0, 0)
theorem nth_getElem {l : List (Int × Int)} {j : Nat} (h : j < l.length) : l[j]? = some (nth l j) := by
  unfold nth; rw [List.getD_eq_getElem?_getD]; simp [h]
theorem itemCells_at {l : List (Int × Int)} {j : Nat} (h : j < l.length) : (itemCells l)[2 * j]? = some (.int .i64 (nth l j).1) ∧ (itemCells l)[2 * j + 1]? = some (.int .i64 (nth l j).2) := by
  induction l generalizing j with
  | nil => simp at h
  | cons y r ih =>
    cases j with
    | zero => simp [itemCells, nth]
    | succ j =>
      have := ih (j := j) (by simpa using h)
      have e1 : 2 * (j + 1) = (2 * j) + 2 := by omega
      have e2 : 2 * (j + 1) + 1 = (2 * j + 1) + 2 := by omega
      rw [e2, e1]
      unfold itemCells at *
      simp only [List.flatMap_cons, List.cons_append, List.nil_append, List.getElem?_cons_succ]
      simpa [nth] using this
theorem itemCells_length (l : List (Int × Int)) : (itemCells l).length = l.length * 2 := by
  induction l with
  | nil => rfl
  | cons y r ih => unfold itemCells at *; simp only [List.flatMap_cons, List.length_append, ih, List.length_cons, List.length_nil]; omega
/-- The pairs that such a slice holds, as a walk spells their addresses. -/
theorem Seg.pair {w : World} {e : TypeId} {v : Value} {n : Nat} {l : List (Int × Int)} (h : Seg w e 2 v n (itemCells l)) {g off cap m : Nat} (hv : v = .slice (some ⟨g, off, none⟩) m cap) :
    ∀ j, j < l.length → w.cell? ⟨g, off + j * 2, none⟩ = some (.int .i64 (nth l j).1) ∧ w.cell? ⟨g, off + j * 2 + 1, none⟩ = some (.int .i64 (nth l j).2) := by
  intro j hj
  have q1 := h.cell hv (itemCells_at hj).1
  have q2 := h.cell hv (itemCells_at hj).2
  rw [show off + j * 2 = off + 2 * j by omega, show off + 2 * j + 1 = off + (2 * j + 1) by omega]
  exact ⟨q1, q2⟩
theorem new_at {w : World} {o : _root_.Go.Obj} {b : Nat} (h : b = w.heap.size) : (w.alloc o).heap[b]? = some o := by rw [h]; exact heap_alloc_new _ _
/-- An element of a list, with a default. -/
def nthI (l : List Int) (j : Nat) : Int := l.getD j 0
theorem nthI_getElem {l : List Int} {j : Nat} (h : j < l.length) : l[j]? = some (nthI l j) := by
  unfold nthI; rw [List.getD_eq_getElem?_getD]; simp [h]
/-- A slice of ints that is read: these are its elements (whatever its address, where there is none). -/
def Rd (w : World) (v : Value) (bs : List Int) : Prop :=
  (∃ ao cap, v = .slice ao 0 cap ∧ bs = []) ∨
  ∃ b off cap, v = .slice (some ⟨b, off, none⟩) bs.length cap ∧ 0 < bs.length ∧ bs.length ≤ cap ∧ cap ≤ maxLen ∧ b < w.heap.size ∧ ∀ j, j < bs.length → w.cell? ⟨b, off + j, none⟩ = some (.int .i64 (nthI bs j))
theorem Rd.carry {w w' : World} {v : Value} {bs : List Int} (h : Rd w v bs) (hs : w.heap.size ≤ w'.heap.size) (hb : ∀ k, v.ownBlock = some k → k < w.heap.size → w'.heap[k]? = w.heap[k]?) : Rd w' v bs := by
  rcases h with h | ⟨b, off, cap, rfl, h0, hc, hm, h1, h2⟩
  · exact Or.inl h
  · exact Or.inr ⟨b, off, cap, rfl, h0, hc, hm, by omega, fun j hj => (World.cell?_of_block (w := w) (hb b rfl h1)).trans (h2 j hj)⟩
theorem Rd.of_owns {w : World} {base : Nat} {v : Value} {bs : List Int} (h : w.ownsRow base 3 1 v bs.length (ints bs)) : Rd w v bs := by
  have h0 := h
  obtain ⟨h1, ⟨rfl, h2⟩ | ⟨g, cap, cur, rfl, _, hh, hn, hm, _⟩⟩ := h
  · exact Or.inl ⟨none, 0, rfl, List.eq_nil_of_length_eq_zero h2⟩
  · by_cases hz : bs.length = 0
    · exact Or.inl ⟨some ⟨g, 0, none⟩, cap, by rw [hz], List.eq_nil_of_length_eq_zero hz⟩
    · refine Or.inr ⟨g, 0, cap, rfl, by omega, hn, hm, (Array.getElem?_eq_some_iff.1 hh).1, fun j hj => ?_⟩
      have := h0.cells (g := g) rfl j (.int .i64 (nthI bs j)) (by rw [ints, List.getElem?_map, nthI_getElem hj]; rfl)
      rwa [Addr.add_lit] at this
theorem itemCells_append (a b : List (Int × Int)) : itemCells (a ++ b) = itemCells a ++ itemCells b := by unfold itemCells; exact List.flatMap_append
theorem take_snoc {bs : List Int} {k : Nat} (h : k < bs.length) : bs.take (k + 1) = bs.take k ++ [nthI bs k] := by
  rw [List.take_add_one, nthI_getElem h]; rfl
theorem Rd.below {w w' : World} {v : Value} {bs : List Int} (h : Rd w v bs) (hb : Below w.heap.size w w') : Rd w' v bs := h.carry hb.size (fun k _ hk => hb.block k hk)
theorem nthI_ext {a b : List Int} (hl : a.length = b.length) (h : ∀ j, j < a.length → nthI a j = nthI b j) : a = b := by
  apply List.ext_getElem?
  intro j
  by_cases hj : j < a.length
  · rw [nthI_getElem hj, nthI_getElem (hl ▸ hj), h j hj]
  · rw [List.getElem?_eq_none (by omega), List.getElem?_eq_none (by omega)]
/-- Whether a list has a number. -/
def inB (xs : List Int) (x : Int) : Bool := xs.contains x
/-- Whether two lists are equal. -/
def sameB (a b : List Int) : Bool := decide (a = b)
theorem sameB_len {a b : List Int} (h : a.length ≠ b.length) : sameB a b = false := decide_eq_false (fun e => h (by rw [e]))
theorem sameB_at {a b : List Int} {k : Nat} (h : nthI a k ≠ nthI b k) : sameB a b = false := decide_eq_false (fun e => h (by rw [e]))
theorem sameB_all {a b : List Int} (hl : a.length = b.length) (h : ∀ j, j < a.length → nthI a j = nthI b j) : sameB a b = true := decide_eq_true (nthI_ext hl h)
theorem owns_shape {w : World} {base : Nat} {e : TypeId} {sz : Nat} {v : Value} {n : Nat} {xs : List Value} (h : w.ownsRow base e sz v n xs) : ∃ ao cap, v = .slice ao n cap := by
  obtain ⟨_, ⟨rfl, rfl⟩ | ⟨g, cap, cur, rfl, _⟩⟩ := h
  · exact ⟨_, _, rfl⟩
  · exact ⟨_, _, rfl⟩
theorem rd_new1 (w : World) (x : Int) : Rd (w.alloc (.cells #[.int .i64 x] 3)) (.slice (some ⟨w.heap.size, 0, none⟩) 1 1) [x] :=
  Or.inr ⟨w.heap.size, 0, 1, rfl, by simp, by simp, by unfold maxLen; omega, by simp, fun j hj => by
    simp at hj; subst hj; go_simp; rfl⟩
theorem rd_new2 (w : World) (x y : Int) : Rd (w.alloc (.cells #[.int .i64 x, .int .i64 y] 3)) (.slice (some ⟨w.heap.size, 0, none⟩) 2 2) [x, y] :=
  Or.inr ⟨w.heap.size, 0, 2, rfl, by simp, by simp, by unfold maxLen; omega, by simp, fun j hj => by
    simp at hj
    rcases (show j = 0 ∨ j = 1 by omega) with rfl | rfl
    · go_simp; rfl
    · go_simp; rfl⟩
theorem Rd.shape {w : World} {v : Value} {bs : List Int} (h : Rd w v bs) : ∃ ao cap, v = .slice ao bs.length cap := by
  rcases h with ⟨ao, cap, rfl, rfl⟩ | ⟨b, off, cap, rfl, _⟩
  · exact ⟨_, _, rfl⟩
  · exact ⟨_, _, rfl⟩
theorem run_append_nothing (w : World) (base : Nat) (v : Value) (n : Nat) (xs : List Value) (ao : Option Addr) (c : Nat) (hown : w.ownsRow base 3 1 v n xs) :
    (Builtin.append_ #[22, 22] 22 #[v, .slice ao 0 c]).run Tryd.prog w = .ok v w := by
  obtain ⟨i0, hi0, hz0, hz1, hz2⟩ := info_parts Tryd.info3
  obtain ⟨_, ⟨rfl, rfl⟩ | ⟨g, cap, cur, rfl, _, hh, hn, hm, _⟩⟩ := hown
  · cases ao <;> simp [Builtin.append_, run_underlying Tryd.underlying22, sizeOf, typeInfo, hi0, Builtin.lenOf, Builtin.firstCells, loadCells, loadCellsFrom]
  · have hn' : n + 0 ≤ cap := by omega
    cases ao <;> simp [Builtin.append_, run_underlying Tryd.underlying22, sizeOf, typeInfo, hi0, Builtin.lenOf, hn, Builtin.firstCells, loadCells, loadCellsFrom, storeCells]
theorem run_append_rd (w : World) (base : Nat) (v u : Value) (xs bs : List Int) (hown : w.ownsRow base 3 1 v xs.length (ints xs)) (hu : Rd w u bs) (hl : xs.length + bs.length < 1000000000) (hbase : base ≤ w.heap.size) :
    ∃ v' w', (Builtin.append_ #[22, 22] 22 #[v, u]).run Tryd.prog w = .ok v' w' ∧ w'.ownsRow base 3 1 v' (xs ++ bs).length (ints (xs ++ bs)) ∧ w.grownBy w' v.ownBlock ∧ (v'.ownBlock = v.ownBlock ∨ v'.ownBlock = some w.heap.size) := by
  rcases hu with ⟨ao, cap, rfl, rfl⟩ | ⟨b, off, cap, rfl, hp, hc1, hm1, hb1, he1⟩
  · exact ⟨v, w, run_append_nothing w base v _ _ ao cap hown, by simpa using hown, ⟨rfl, rfl, rfl, Nat.le_refl _, fun _ _ _ => rfl⟩, Or.inl rfl⟩
  · obtain ⟨i0, hi0, hz0, hz1, hz2⟩ := info_parts Tryd.info3
    obtain ⟨v', w', hr, r1, r2, _, r3⟩ := run_append_own_at (P := Tryd.prog) w base 22 22 3 i0 (.int .i64 0) 1 8 Tryd.underlying22 hi0 hz0 hz1 hz2 rfl (by decide) v xs.length (ints xs) hown ⟨b, off, none⟩ bs.length cap (ints bs) (by simp [ints])
      (fun j x hj => by
        have hjl : j < bs.length := by have := (List.getElem?_eq_some_iff.1 hj).1; simpa [ints] using this
        rw [ints, List.getElem?_map, nthI_getElem hjl] at hj
        rw [Addr.add_lit, he1 j hjl]
        exact hj)
      (by intro x hx; obtain ⟨y, _, rfl⟩ := List.mem_map.1 hx; rfl) (by unfold maxLen; omega) (by omega) hbase
    refine ⟨v', w', hr, ?_, r2, r3⟩
    rw [List.length_append]
    simpa [ints] using r1
theorem wpList_append_rd (w : World) {ops : Array Oper} {rest : List Oper} {o : Oper} {a : Act} {Q : Exit → Act → World → Prop}
    (hg : o.guard = none) (s x : Operand) (hop : o.op = Op.call { callee := Callee.builtin Builtin.append, args := #[s, x], argTypes := #[22, 22] }) (hty : o.type = 22)
    (base : Nat) (v u : Value) (xs bs : List Int) (hs : a.eval s = v) (hx : a.eval x = u) (hown : w.ownsRow base 3 1 v xs.length (ints xs)) (hu : Rd w u bs) (hl : xs.length + bs.length < 1000000000) (hbase : base ≤ w.heap.size)
    (hK : ∀ v' w', w'.ownsRow base 3 1 v' (xs ++ bs).length (ints (xs ++ bs)) → w.grownBy w' v.ownBlock → (v'.ownBlock = v.ownBlock ∨ v'.ownBlock = some w.heap.size) → wpList Tryd.prog ops Q rest (a.put o.dst v') w') :
    wpList Tryd.prog ops Q (o :: rest) a w := by
  refine wpList_plain hg fun K hK' => ?_
  obtain ⟨v', w', hrun, r1, r2, r3⟩ := run_append_rd w base v u xs bs hown hu hl hbase
  unfold Oper.wp
  simp [execOp, hop, hty, resolve, invoke, builtin, hs, hx, hrun, Result.andThen]
  exact hK' _ _ (hK v' w' r1 r2 r3)
theorem row_carry {w w' : World} {base : Nat} {e : TypeId} {sz : Nat} {v : Value} {n : Nat} {xs : List Value} (h : w.ownsRow base e sz v n xs) (hb : ∀ k, v.ownBlock = some k → w'.heap[k]? = w.heap[k]?) : w'.ownsRow base e sz v n xs := by
  obtain ⟨h1, h2⟩ := h
  refine ⟨h1, ?_⟩
  rcases h2 with h2 | ⟨g, cap, cur, rfl, hg, hh, r⟩
  · exact Or.inl h2
  · exact Or.inr ⟨g, cap, cur, rfl, hg, (hb g rfl).trans hh, r⟩
/-- What a round reads of a slice of ints. -/
theorem Rd.at {w : World} {ao : Option Addr} {n cap : Nat} {bs : List Int} (h : Rd w (.slice ao n cap) bs) {j : Nat} (hj : j < bs.length) : ∃ b off, ao = some ⟨b, off, none⟩ ∧ n = bs.length ∧ n ≤ cap ∧ cap ≤ maxLen ∧ b < w.heap.size ∧ w.cell? ⟨b, off + j, none⟩ = some (.int .i64 (nthI bs j)) := by
  rcases h with ⟨a, c, h1, rfl⟩ | ⟨b, off, c, h1, h2, h3, h4, h5, h6⟩
  · simp at hj
  · simp only [Value.slice.injEq] at h1
    obtain ⟨rfl, rfl, rfl⟩ := h1
    exact ⟨b, off, rfl, rfl, h3, h4, h5, h6 j hj⟩
theorem names_length (l : List (Int × Int)) : (names l).length = l.length := by unfold names; simp
theorem sameB_self (l : List Int) : sameB l l = true := decide_eq_true rfl
/-- The first k of a slice, and what follows them. -/
theorem Rd.taken {w : World} {b off n cap : Nat} {bs : List Int} (h : Rd w (.slice (some ⟨b, off, none⟩) n cap) bs) {k : Nat} (hk : k < bs.length) : Rd w (.slice (some ⟨b, off, none⟩) k cap) (bs.take k) := by
  rcases h with ⟨a, c, h1, rfl⟩ | ⟨b', off', c, h1, h2, h3, h4, h5, h6⟩
  · simp at hk
  · simp only [Value.slice.injEq, Option.some.injEq, Addr.mk.injEq, and_true] at h1
    obtain ⟨⟨rfl, rfl⟩, rfl, rfl⟩ := h1
    by_cases h0 : k = 0
    · subst h0; exact Or.inl ⟨_, _, rfl, rfl⟩
    · have hl : (bs.take k).length = k := by simp; omega
      refine Or.inr ⟨b, off, cap, by rw [hl], by omega, by omega, h4, h5, fun j hj => ?_⟩
      rw [h6 j (by omega)]
      unfold nthI
      rw [List.getD_eq_getElem?_getD, List.getD_eq_getElem?_getD, List.getElem?_take_of_lt (by omega)]
theorem Rd.dropped {w : World} {b off n cap : Nat} {bs : List Int} (h : Rd w (.slice (some ⟨b, off, none⟩) n cap) bs) {k : Nat} (hk : k < bs.length) : Rd w (.slice (some ⟨b, off + k, none⟩) (n - k) (cap - k)) (bs.drop k) := by
  rcases h with ⟨a, c, h1, rfl⟩ | ⟨b', off', c, h1, h2, h3, h4, h5, h6⟩
  · simp at hk
  · simp only [Value.slice.injEq, Option.some.injEq, Addr.mk.injEq, and_true] at h1
    obtain ⟨⟨rfl, rfl⟩, rfl, rfl⟩ := h1
    have hl : (bs.drop k).length = bs.length - k := by simp
    refine Or.inr ⟨b, off + k, cap - k, by rw [hl], by omega, by omega, by omega, h5, fun j hj => ?_⟩
    rw [Nat.add_assoc, h6 (k + j) (by omega)]
    unfold nthI
    rw [List.getD_eq_getElem?_getD, List.getD_eq_getElem?_getD, List.getElem?_drop]
theorem Rd.zero {w : World} {ao : Option Addr} {n cap : Nat} (h : n = 0) : Rd w (.slice ao n cap) [] := Or.inl ⟨ao, cap, by rw [h], rfl⟩
theorem Tryd.info55 : (Tryd.prog.info? 55).map (fun i => (i.zero, i.size, i.bytes)) = some (some (.agg #[.int .i64 0, .int .i64 0]), 2, 16) := by kernel_rfl
theorem take_item {l : List (Int × Int)} {k : Nat} (h : k < l.length) : l.take (k + 1) = l.take k ++ [((nth l k).1, (nth l k).2)] := by
  rw [List.take_add_one, nth_getElem h]; rfl
/-- A slice of items that is read (whatever its address, where there is none). -/
def RdI (w : World) (v : Value) (l : List (Int × Int)) : Prop :=
  (∃ ao cap, v = .slice ao 0 cap ∧ l = []) ∨
  ∃ b off cap, v = .slice (some ⟨b, off, none⟩) l.length cap ∧ 0 < l.length ∧ l.length ≤ cap ∧ cap ≤ maxLen ∧ b < w.heap.size ∧ ∀ j, j < l.length → w.cell? ⟨b, off + j * 2, none⟩ = some (.int .i64 (nth l j).1) ∧ w.cell? ⟨b, off + j * 2 + 1, none⟩ = some (.int .i64 (nth l j).2)
theorem RdI.of_seg {w : World} {v : Value} {l : List (Int × Int)} (h : Seg w 55 2 v l.length (itemCells l)) : RdI w v l := by
  have h0 := h
  obtain ⟨hx1, ⟨rfl, hl0⟩ | ⟨g, off, cap, cur, rfl, hh, hn, hcm, hsz, hx⟩⟩ := h
  · exact Or.inl ⟨_, _, rfl, List.length_eq_zero_iff.1 hl0⟩
  · by_cases hz : l.length = 0
    · exact Or.inl ⟨some ⟨g, off, none⟩, cap, by rw [hz], List.eq_nil_of_length_eq_zero hz⟩
    · exact Or.inr ⟨g, off, cap, rfl, by omega, hn, hcm, h0.lt rfl, h0.pair rfl⟩
theorem RdI.zero {w : World} {ao : Option Addr} {n cap : Nat} (h : n = 0) : RdI w (.slice ao n cap) [] := Or.inl ⟨ao, cap, by rw [h], rfl⟩
theorem RdI.below {w w' : World} {v : Value} {l : List (Int × Int)} (h : RdI w v l) (hb : Below w.heap.size w w') : RdI w' v l := by
  rcases h with h | ⟨b, off, cap, rfl, h0, hc, hm, h1, h2⟩
  · exact Or.inl h
  · exact Or.inr ⟨b, off, cap, rfl, h0, hc, hm, Nat.lt_of_lt_of_le h1 hb.size, fun j hj => ⟨(hb.cell h1).trans (h2 j hj).1, (hb.cell h1).trans (h2 j hj).2⟩⟩
theorem RdI.dropped {w : World} {b off n cap : Nat} {l : List (Int × Int)} (h : RdI w (.slice (some ⟨b, off, none⟩) n cap) l) {k : Nat} (hk : k < l.length) : RdI w (.slice (some ⟨b, off + k * 2, none⟩) (n - k) (cap - k)) (l.drop k) := by
  rcases h with ⟨a, c, h1, rfl⟩ | ⟨b', off', c, h1, h2, h3, h4, h5, h6⟩
  · simp at hk
  · simp only [Value.slice.injEq, Option.some.injEq, Addr.mk.injEq, and_true] at h1
    obtain ⟨⟨rfl, rfl⟩, rfl, rfl⟩ := h1
    have hl : (l.drop k).length = l.length - k := by simp
    refine Or.inr ⟨b, off + k * 2, cap - k, by rw [hl], by omega, by omega, by omega, h5, fun j hj => ?_⟩
    have := h6 (k + j) (by omega)
    have e : nth (l.drop k) j = nth l (k + j) := by unfold nth; rw [List.getD_eq_getElem?_getD, List.getD_eq_getElem?_getD, List.getElem?_drop]
    rw [e, show off + k * 2 + j * 2 = off + (k + j) * 2 by omega]
    exact this
theorem itemCells_get {l : List (Int × Int)} {j : Nat} {x : Value} (h : (itemCells l)[j]? = some x) : ∃ k, k < l.length ∧ ((j = k * 2 ∧ x = .int .i64 (nth l k).1) ∨ (j = k * 2 + 1 ∧ x = .int .i64 (nth l k).2)) := by
  have hl : j < l.length * 2 := by rw [← itemCells_length]; exact (List.getElem?_eq_some_iff.1 h).1
  refine ⟨j / 2, by omega, ?_⟩
  obtain ⟨e1, e2⟩ := itemCells_at (l := l) (j := j / 2) (by omega)
  rcases Nat.mod_two_eq_zero_or_one j with h2 | h2
  · left
    have : 2 * (j / 2) = j := by omega
    rw [this, h] at e1
    exact ⟨by omega, Option.some.inj e1⟩
  · right
    have : 2 * (j / 2) + 1 = j := by omega
    rw [this, h] at e2
    exact ⟨by omega, Option.some.inj e2⟩
theorem itemCells_one {l : List (Int × Int)} : ∀ u ∈ itemCells l, u.oneCell' = true := by
  intro u hu
  unfold itemCells at hu
  obtain ⟨p, _, hp⟩ := List.mem_flatMap.1 hu
  simp at hp
  rcases hp with rfl | rfl <;> rfl
theorem run_append_nothingI (w : World) (base : Nat) (v : Value) (n : Nat) (xs : List Value) (ao : Option Addr) (c : Nat) (hown : w.ownsRow base 55 2 v n xs) :
    (Builtin.append_ #[51, 51] 51 #[v, .slice ao 0 c]).run Tryd.prog w = .ok v w := by
  obtain ⟨i0, hi0, hz0, hz1, hz2⟩ := info_parts Tryd.info55
  obtain ⟨_, ⟨rfl, rfl⟩ | ⟨g, cap, cur, rfl, _, hh, hn, hm, _⟩⟩ := hown
  · cases ao <;> simp [Builtin.append_, run_underlying Tryd.underlying51, sizeOf, typeInfo, hi0, Builtin.lenOf, Builtin.firstCells, loadCells, loadCellsFrom]
  · have hn' : n + 0 ≤ cap := by omega
    cases ao <;> simp [Builtin.append_, run_underlying Tryd.underlying51, sizeOf, typeInfo, hi0, Builtin.lenOf, hn, Builtin.firstCells, loadCells, loadCellsFrom, storeCells]
/-- A row of items of the call's own. -/
def OwnI (w : World) (base : Nat) (v : Value) (l : List (Int × Int)) : Prop := w.ownsRow base 55 2 v l.length (itemCells l)
theorem OwnI.alloc {w : World} {base : Nat} {v : Value} {l : List (Int × Int)} (h : OwnI w base v l) (o : _root_.Go.Obj) : OwnI (w.alloc o) base v l := World.ownsRow.alloc h o
theorem OwnI.lt {w : World} {base : Nat} {v : Value} {l : List (Int × Int)} (h : OwnI w base v l) {k : Nat} (hk : v.ownBlock = some k) : base ≤ k ∧ k < w.heap.size := World.ownsRow.lt h k hk
theorem OwnI.shape {w : World} {base : Nat} {v : Value} {l : List (Int × Int)} (h : OwnI w base v l) : ∃ ao cap, v = .slice ao l.length cap := owns_shape h
theorem OwnI.form {w : World} {base : Nat} {v : Value} {l : List (Int × Int)} (h : OwnI w base v l) : ∃ ao n cap, v = .slice ao n cap := by
  obtain ⟨ao, cap, h⟩ := OwnI.shape h
  exact ⟨ao, _, cap, h⟩
theorem OwnI.nil (w : World) (base : Nat) : OwnI w base (.slice none 0 0) [] := World.ownsRow_nil _ _ _ _
theorem OwnI.seg {w : World} {base : Nat} {v : Value} {l : List (Int × Int)} (h : OwnI w base v l) : Seg w 55 2 v l.length (itemCells l) := Seg.of_owns h
theorem OwnI.empty {w : World} {base : Nat} (h : base ≤ w.heap.size) : OwnI (w.alloc (.cells #[] 55)) base (.slice (some ⟨w.heap.size, 0, none⟩) 0 0) [] :=
  ⟨rfl, Or.inr ⟨w.heap.size, 0, #[], rfl, h, heap_alloc_new _ _, Nat.le_refl _, by unfold maxLen; omega, by simp, rfl⟩⟩
theorem OwnI.carry {w w' : World} {base : Nat} {v : Value} {l : List (Int × Int)} (h : OwnI w base v l) (hb : Below w.heap.size w w') : OwnI w' base v l := row_carry h (fun k hk => hb.block k (OwnI.lt h hk).2)
theorem run_append_rdI (w : World) (base : Nat) (v u : Value) (xs ys : List (Int × Int)) (hown : w.ownsRow base 55 2 v xs.length (itemCells xs)) (hu : RdI w u ys) (hl : xs.length + ys.length < 1000000000) (hbase : base ≤ w.heap.size) :
    ∃ v' w', (Builtin.append_ #[51, 51] 51 #[v, u]).run Tryd.prog w = .ok v' w' ∧ w'.ownsRow base 55 2 v' (xs ++ ys).length (itemCells (xs ++ ys)) ∧ w.grownBy w' v.ownBlock := by
  rcases hu with ⟨ao, cap, rfl, rfl⟩ | ⟨b, off, cap, rfl, hp, hc1, hm1, hb1, he1⟩
  · exact ⟨v, w, run_append_nothingI w base v _ _ ao cap hown, by simpa using hown, ⟨rfl, rfl, rfl, Nat.le_refl _, fun _ _ _ => rfl⟩⟩
  · obtain ⟨i0, hi0, hz0, hz1, hz2⟩ := info_parts Tryd.info55
    obtain ⟨v', w', hr, r1, r2, _⟩ := run_append_own (P := Tryd.prog) w base 51 51 55 i0 (.agg #[.int .i64 0, .int .i64 0]) 2 16 Tryd.underlying51 hi0 hz0 hz1 hz2 rfl (by decide) v xs.length (itemCells xs) hown ⟨b, off, none⟩ ys.length cap (itemCells ys) (itemCells_length _)
      (fun j x hj => by
        obtain ⟨k, hk, ⟨rfl, rfl⟩ | ⟨rfl, rfl⟩⟩ := itemCells_get hj
        · rw [Addr.add_lit]; exact (he1 k hk).1
        · rw [Addr.add_lit, ← Nat.add_assoc]; exact (he1 k hk).2)
      itemCells_one (by unfold maxLen; omega) (by omega) hbase
    refine ⟨v', w', hr, ?_, r2⟩
    rw [List.length_append, itemCells_append]
    exact r1
theorem wpList_append_rdI (w : World) {ops : Array Oper} {rest : List Oper} {o : Oper} {a : Act} {Q : Exit → Act → World → Prop}
    (hg : o.guard = none) (s x : Operand) (hop : o.op = Op.call { callee := Callee.builtin Builtin.append, args := #[s, x], argTypes := #[51, 51] }) (hty : o.type = 51)
    (base : Nat) (v u : Value) (xs ys : List (Int × Int)) (hs : a.eval s = v) (hx : a.eval x = u) (hown : OwnI w base v xs) (hu : RdI w u ys) (hl : xs.length + ys.length < 1000000000) (hbase : base ≤ w.heap.size)
    (hK : ∀ v' w', OwnI w' base v' (xs ++ ys) → w.grownBy w' v.ownBlock → wpList Tryd.prog ops Q rest (a.put o.dst v') w') :
    wpList Tryd.prog ops Q (o :: rest) a w := by
  refine wpList_plain hg fun K hK' => ?_
  obtain ⟨v', w', hrun, r1, r2⟩ := run_append_rdI w base v u xs ys hown hu hl hbase
  unfold Oper.wp
  simp [execOp, hop, hty, resolve, invoke, builtin, hs, hx, hrun, Result.andThen]
  exact hK' _ _ (hK v' w' r1 r2)
/-- A slice of one new item. -/
theorem RdI.one (w : World) (x e : Int) (b : Nat) (hb : b = w.heap.size) : RdI (w.alloc (.cells #[.int .i64 x, .int .i64 e] 55)) (.slice (some ⟨b, 0, none⟩) 1 1) [(x, e)] := by
  subst hb
  refine Or.inr ⟨w.heap.size, 0, 1, rfl, by simp, by simp, by unfold maxLen; omega, by simp, fun j hj => ?_⟩
  simp at hj
  subst hj
  constructor
  · go_simp; rfl
  · go_simp; rfl
theorem run_append_rdI_at (w : World) (base : Nat) (v u : Value) (xs ys : List (Int × Int)) (hown : OwnI w base v xs) (hu : RdI w u ys) (hl : xs.length + ys.length < 1000000000) (hbase : base ≤ w.heap.size) :
    ∃ v' w', (Builtin.append_ #[51, 51] 51 #[v, u]).run Tryd.prog w = .ok v' w' ∧ OwnI w' base v' (xs ++ ys) ∧ w.grownBy w' v.ownBlock ∧ (v'.ownBlock = v.ownBlock ∨ v'.ownBlock = some w.heap.size) := by
  rcases hu with ⟨ao, cap, rfl, rfl⟩ | ⟨b, off, cap, rfl, hp, hc1, hm1, hb1, he1⟩
  · exact ⟨v, w, run_append_nothingI w base v _ _ ao cap hown, by simpa using hown, ⟨rfl, rfl, rfl, Nat.le_refl _, fun _ _ _ => rfl⟩, Or.inl rfl⟩
  · obtain ⟨i0, hi0, hz0, hz1, hz2⟩ := info_parts Tryd.info55
    obtain ⟨v', w', hr, r1, r2, _, r3⟩ := run_append_own_at (P := Tryd.prog) w base 51 51 55 i0 (.agg #[.int .i64 0, .int .i64 0]) 2 16 Tryd.underlying51 hi0 hz0 hz1 hz2 rfl (by decide) v xs.length (itemCells xs) hown ⟨b, off, none⟩ ys.length cap (itemCells ys) (itemCells_length _)
      (fun j x hj => by
        obtain ⟨k, hk, ⟨rfl, rfl⟩ | ⟨rfl, rfl⟩⟩ := itemCells_get hj
        · rw [Addr.add_lit]; exact (he1 k hk).1
        · rw [Addr.add_lit, ← Nat.add_assoc]; exact (he1 k hk).2)
      itemCells_one (by unfold maxLen; omega) (by omega) hbase
    refine ⟨v', w', hr, ?_, r2, r3⟩
    unfold OwnI
    rw [List.length_append, itemCells_append]
    exact r1
theorem wpList_append_rdI_at (w : World) {ops : Array Oper} {rest : List Oper} {o : Oper} {a : Act} {Q : Exit → Act → World → Prop}
    (hg : o.guard = none) (s x : Operand) (hop : o.op = Op.call { callee := Callee.builtin Builtin.append, args := #[s, x], argTypes := #[51, 51] }) (hty : o.type = 51)
    (base : Nat) (v u : Value) (xs ys : List (Int × Int)) (hs : a.eval s = v) (hx : a.eval x = u) (hown : OwnI w base v xs) (hu : RdI w u ys) (hl : xs.length + ys.length < 1000000000) (hbase : base ≤ w.heap.size)
    (hK : ∀ v' w', OwnI w' base v' (xs ++ ys) → w.grownBy w' v.ownBlock → (v'.ownBlock = v.ownBlock ∨ v'.ownBlock = some w.heap.size) → wpList Tryd.prog ops Q rest (a.put o.dst v') w') :
    wpList Tryd.prog ops Q (o :: rest) a w := by
  refine wpList_plain hg fun K hK' => ?_
  obtain ⟨v', w', hrun, r1, r2, r3⟩ := run_append_rdI_at w base v u xs ys hown hu hl hbase
  unfold Oper.wp
  simp [execOp, hop, hty, resolve, invoke, builtin, hs, hx, hrun, Result.andThen]
  exact hK' _ _ (hK v' w' r1 r2 r3)
/-- A row of ints of the call's own. -/
def OwnZ (w : World) (base : Nat) (v : Value) (l : List Int) : Prop := w.ownsRow base 3 1 v l.length (ints l)
theorem OwnZ.lt {w : World} {base : Nat} {v : Value} {l : List Int} (h : OwnZ w base v l) {k : Nat} (hk : v.ownBlock = some k) : base ≤ k ∧ k < w.heap.size := World.ownsRow.lt h k hk

end Go.Proofs.YtcngblnkfiggjaaDoor.Rm
