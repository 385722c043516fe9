/- Contracts of the function that cut hands to slices.IndexFunc, and of slices.IndexFunc with it: the first waiting block whose epoch is not before the given one. -/
import Derived.Test.YtphmfmfbneoljaaWalkG
namespace Go.Proofs.Ytphmfmfbneoljaa.Ep
open Go Go.RowKit Go.Maps

set_option maxHeartbeats 400000 in
theorem clos_any (a : Addr) (x e m : Int) (w : World) (hc : w.cell? a = some (.int .i64 m)) (ha : a.block < w.heap.size) :
    Calls Try.prog 40 #[.agg #[.int .i64 x, .int .i64 e], .pointer (some a)] w fun r w' => r = .returned (.bool (decide (m ≤ e))) ∧ Below w.heap.size w w' := by
  go_enter Try.func40, Try.ntmps40
  go_wp2
  go_ret
  exact ⟨rfl, (Below.refl _ _).alloc (Nat.le_refl _) _⟩

/-- How many of the first are old. -/
def olds (m : Int) (l : List (Int × Int)) : Nat := (l.takeWhile (old m)).length
theorem olds_le (m : Int) (l : List (Int × Int)) : olds m l ≤ l.length := by
  unfold olds
  have := (List.takeWhile_sublist (p := old m) (l := l)).length_le
  exact this
theorem olds_all {m : Int} {l : List (Int × Int)} (h : ∀ j, j < l.length → (nth l j).2 < m) : olds m l = l.length := by
  induction l with
  | nil => rfl
  | cons y r ih =>
    have h0 : old m y = true := by have := h 0 (by simp); simpa [old, nth] using this
    have := ih (fun j hj => by have := h (j + 1) (by simpa using hj); simpa [nth] using this)
    unfold olds at this ⊢
    rw [List.takeWhile_cons_of_pos h0, List.length_cons, this, List.length_cons]
theorem olds_at {m : Int} {l : List (Int × Int)} {k : Nat} (hk : k < l.length) (h : ∀ j, j < k → (nth l j).2 < m) (hs : ¬ (nth l k).2 < m) : olds m l = k := by
  induction l generalizing k with
  | nil => simp at hk
  | cons y r ih =>
    cases k with
    | zero =>
      have hy : old m y = false := by simpa [old, nth] using hs
      unfold olds
      rw [List.takeWhile_cons_of_neg (by rw [hy]; decide)]
      rfl
    | succ k =>
      have h0 : old m y = true := by have := h 0 (by omega); simpa [old, nth] using this
      have := ih (k := k) (by simpa using hk) (fun j hj => by have := h (j + 1) (by omega); simpa [nth] using this) (by simpa [nth] using hs)
      unfold olds at this ⊢
      rw [List.takeWhile_cons_of_pos h0, List.length_cons, this]
def idxS (m : Int) (l : List (Int × Int)) : Int := if olds m l < l.length then olds m l else -1

set_option maxHeartbeats 1000000 in
set_option maxRecDepth 100000 in
theorem indexf_any (w : World) (v : Value) (l : List (Int × Int)) (a : Addr) (m : Int) (hseg : Seg w 68 2 v l.length (itemCells l)) (hc : w.cell? a = some (.int .i64 m)) (ha : a.block < w.heap.size) (hl : l.length < 1000000000) :
    Calls Try.prog 39 #[v, .func (.func 40) #[] #[.pointer (some a)]] w fun r w' => r = .returned (.int .i64 (idxS m l)) ∧ Below w.heap.size w w' := by
  have hs := hseg
  obtain ⟨hx1, ⟨rfl, h0⟩ | ⟨g, off, cap, cur, rfl, hh, hn, hcm, hsz, hx⟩⟩ := hs
  · have hl0 : l = [] := List.length_eq_zero_iff.1 h0
    subst hl0
    clear hseg hx1 h0
    go_enter Try.func39, Try.ntmps39
    go_wp2
    refine wp_loop_rounds 1 ?_
    rw [rounds_succ]
    go_wp2
    go_ret
    exact ⟨rfl, Below.refl _ _⟩
  · have hg : g < w.heap.size := hseg.lt rfl
    have HC := Lib.hid (hseg.pair rfl)
    clear hseg hx hx1 hh hsz
    go_enter Try.func39, Try.ntmps39
    go_wp2
    go_loopw [8] (fun i wr => ∃ k : Nat, k ≤ l.length ∧ i = .int .i64 k ∧ Hid (∀ j, j < k → (nth l j).2 < m) ∧ Below w.heap.size w wr) (fun i _ => l.length - (intOf i).toNat)
    case atStart => exact ⟨0, Nat.zero_le _, rfl, fun j hj => by omega, Below.refl _ _⟩
    case round =>
      obtain ⟨k, hk, rfl, hP, hnx⟩ := hrel
      by_cases hlt : k < l.length
      · obtain ⟨q1, q2⟩ := HC.out k hlt
        have d1 := (hnx.cell (p := ⟨g, off + k * 2, none⟩) hg).trans q1
        have d2 := (hnx.cell (p := ⟨g, off + k * 2 + 1, none⟩) hg).trans q2
        have da := (hnx.cell ha).trans hc
        have hsz := hnx.size
        clear q1 q2
        by_cases ht : m ≤ (nth l k).2
        · have hfin : idxS m l = k := by
            have := olds_at hlt hP.out (by omega)
            unfold idxS; rw [this, if_pos hlt]
          have HF := Lib.hid hfin
          clear hfin
          go_wp2_with (go_at_call 40; refine (clos_any _ _ _ _ _ da (by omega)).mono ?_; rintro e w1 ⟨rfl, hb⟩)
          go_ret
          exact ⟨ret_int HF.out.symm, hnx.trans (hb.mono hnx.size)⟩
        · have hP1 : Hid (∀ j, j < k + 1 → (nth l j).2 < m) := fun j hj => by
            by_cases e : j = k
            · subst e; omega
            · exact hP.out j (by omega)
          go_wp2_with (go_at_call 40; refine (clos_any _ _ _ _ _ da (by omega)).mono ?_; rintro e w1 ⟨rfl, hb⟩)
          go_roundw
          case rel => exact ⟨k + 1, by omega, by go_num, hP1, hnx.trans (hb.mono hnx.size)⟩
          case measure => simp [intOf]; omega
      · obtain rfl : k = l.length := by omega
        have hfin : idxS m l = -1 := by
          have := olds_all hP.out
          unfold idxS; rw [this, if_neg (by omega)]
        have HF := Lib.hid hfin
        clear hfin
        go_wp2
        go_ret
        exact ⟨ret_int HF.out.symm, hnx⟩

end Go.Proofs.Ytphmfmfbneoljaa.Ep
