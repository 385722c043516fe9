/- Contracts of Least and Waiting of package epoch: what each returns; nothing that was there changes. -/
import Derived.Test.YtphmfmfbneoljaaWalkA
namespace Go.Proofs.Ytphmfmfbneoljaa.Ep
open Go Go.RowKit Go.Maps

theorem mem_of_at {rd : List (Int × Int)} {x c : Int} (h : ∀ zd, (mapD rd).atKey (.int .i64 x) zd = .lit (.int .i64 c)) : (x, c) ∈ rd := by
  have h0 := h .nil
  unfold mapD DataW.atKey at h0
  simp only at h0
  split at h0
  · rename_i p hp
    obtain ⟨h1, h2⟩ := List.find?_eq_some_iff_append.1 hp
    have hm : p ∈ rd.map fun p => ((.int .i64 p.1, .lit (.int .i64 p.2)) : Lit × DataW Unit) := List.mem_of_find?_eq_some hp
    obtain ⟨q, hq, rfl⟩ := List.mem_map.1 hm
    simp [Lit.sameKey] at h1
    simp at h0
    rw [← h1, ← h0]
    exact hq
  · cases h0
theorem sorted_inj {rd : List (Int × Int)} (h : rd.Pairwise (fun a b => a.1 < b.1)) {p q : Int × Int} (hp : p ∈ rd) (hq : q ∈ rd) (e : p.1 = q.1) : p = q := by
  induction rd with
  | nil => cases hp
  | cons y r ih =>
    rw [List.pairwise_cons] at h
    rcases List.mem_cons.1 hp with hp' | hp'
    · rcases List.mem_cons.1 hq with hq' | hq'
      · rw [hp', hq']
      · have := h.1 q hq'; rw [hp'] at e; omega
    · rcases List.mem_cons.1 hq with hq' | hq'
      · have := h.1 p hp'; rw [hq'] at e; omega
      · exact ih h.2 hp' hq' 

theorem min_spell (q m : Int) : Value.int .i64 (if q < m then q else m) = .int .i64 (min m q) := by
  congr 1
  split <;> omega

/-- How far the least epoch has been found, when the readers for which left says so are still to come. -/
def Found (s : St) (left : Lit → Bool) (m : Int) : Prop := leastOf s.now s.rd ≤ m ∧ m ≤ s.now ∧ 1 ≤ m ∧ ∀ p ∈ s.rd, left (.int .i64 p.1) = false → m ≤ p.2
theorem Found.start (s : St) (hi : Inv s) : Found s (Maps.has (mapD s.rd)) s.now := by
  refine ⟨leastOf_le _ _, Int.le_refl _, hi.now1, ?_⟩
  intro p hp hf
  rw [has_mapD] at hf
  exact absurd rfl (has_false hf p hp)
theorem Found.step {s : St} {left : Lit → Bool} {m x c : Int} (h : Found s left m) (hi : Inv s) (hat : ∀ zd, (mapD s.rd).atKey (.int .i64 x) zd = .lit (.int .i64 c)) : Found s (fun z => left z && !z.sameKey (.int .i64 x)) (min m c) := by
  have hm := mem_of_at hat
  obtain ⟨h1, h2, h3, h4⟩ := h
  have hl := leastOf_mem (now := s.now) hm
  have hr := hi.rdle _ hm
  simp only at hl hr
  refine ⟨by omega, by omega, by omega, ?_⟩
  intro p hp hf
  simp only [Bool.and_eq_false_iff, Bool.not_eq_false'] at hf
  rcases hf with hf | hf
  · have := h4 p hp hf; omega
  · simp [Lit.sameKey] at hf
    have := sorted_inj hi.sorted hp hm hf
    subst this
    show min m c ≤ c
    omega
theorem Found.done {s : St} {left : Lit → Bool} {m : Int} (h : Found s left m) (hl : ∀ z, left z = false) : m = s.least := by
  obtain ⟨h1, h2, h3, h4⟩ := h
  have := leastOf_ge h2 (fun p hp => h4 p hp (hl _))
  unfold St.least
  omega

set_option maxHeartbeats 1000000 in
theorem least_any (w : World) (B : Nat) (s : St) (F : Nat → Prop) (c : Nat) (h : Obj w B s F c) :
    Calls Try.prog 15 #[.pointer (some ⟨B, 0, none⟩)] w fun e w' => e = .returned (.int .i64 s.least) ∧ Below w.heap.size w w' := by
  obtain ⟨m1, m2, v, n1, n2, D2, hB, hm1, hm2, hD, hs, hd, c1, c2, c3, c4, hi, rfl⟩ := h
  obtain ⟨k0, k1, k2, k3⟩ := Obj.cells (F := fun _ => True) (c := 0) hB
  have hst := Found.start s hi
  have hlt := hm1.lt
  clear hD hs hB hm2 hd
  go_enter Try.func15, Try.ntmps15
  go_wp2_with (first
    | (at_range; refine wpList_range_own _ rfl _ 54 rfl 3 3 law3 Try.underlying54 _ m1 n1 _ rfl hm1 ?_; intro w0 hrg0 hg0 hs0))
  go_frame
  go_loopw [3] (fun u wr => ∃ (left : Lit → Bool) (cnt : Nat) (m : Int), wr.ranges Try.prog 3 (plainElem Try.prog 3) m1 w.heap.size n1 (mapD s.rd) left cnt ∧ Found s left m ∧ u = .int .i64 m ∧ Below w.heap.size w wr)
    (fun _ wr => wr.rangeLeft m1 w.heap.size)
  case atStart =>
    exact ⟨_, _, _, hrg0, hst, rfl, (Below.refl _ _).grown hg0 (Nat.le_refl _) (fun j hj => by cases hj)⟩
  case round =>
    obtain ⟨left, cnt, m, hrg, hF, rfl, hnx⟩ := hrel
    have hF' := hF
    obtain ⟨f1, f2, f3, f4⟩ := hF
    clear f4 f1
    go_wp2_with (first
      | (at_next; refine wpList_next_ranges_ii _ rfl _ rfl 3 3 .i64 .i64 law3 Try.underlying3 Try.underlying3 m1 w.heap.size n1 _ _ _ rfl hrg ?_ ?_))
    · intro hc0 hl0
      go_wp2
      go_ret
      exact ⟨ret_int (hF'.done hl0), hnx⟩
    · intro x q w1 cnt1 hwx hwc hlx hat hrg1 hlt' hg1 hs1 hen
      have hF1 := hF'.step hi hat
      go_wp2
      exact ⟨⟨_, cnt1, _, hrg1, hF1, min_spell q m, hnx.grown hg1 hnx.size (fun j hj => by cases hj; exact Nat.le_refl _)⟩, by rw [hrg1.left_eq, hrg.left_eq]; exact hlt'⟩

end Go.Proofs.Ytphmfmfbneoljaa.Ep
