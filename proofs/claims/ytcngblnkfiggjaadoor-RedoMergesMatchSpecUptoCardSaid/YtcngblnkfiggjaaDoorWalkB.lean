/- Contracts of Same, with, Merged and Merge of the specification's package of layer 10. -/
import Derived.Test.YtcngblnkfiggjaaDoorWalkA
import Derived.Laws.StructEq
namespace Go.Proofs.YtcngblnkfiggjaaDoor.Rm
open Go Go.RowKit Go.Maps

theorem isAgg3 (w : World) : (isAgg 3).run Tryd.prog w = .ok false w := by kernel_rfl
theorem sizeOf3 (w : World) : (sizeOf 3).run Tryd.prog w = .ok 1 w := by kernel_rfl
theorem guard55 : Tryd.prog.eqGuardType Tryd.prog.depth 55 = false := by kernel_rfl
theorem neq55 (a b c d : Int) (w : World) : (binOp .neq 55 (.agg #[.int .i64 a, .int .i64 b]) (.agg #[.int .i64 c, .int .i64 d])).run Tryd.prog w = .ok (.bool (!(a == c && b == d))) w := by
  have u3 := Tryd.underlying3
  have a3 := isAgg3
  have z3 := sizeOf3
  have hS : Tryd.prog.underlying 55 = some (.struct (Tryd.prog.fieldsOf 55)) := by kernel_rfl
  have hp : Tryd.prog.stoodInHeld 55 = false := by kernel_rfl
  rw [run_neq_struct, show (10000 : Nat) = 9999 + 1 from rfl, run_equalIn_agg w 9999 55 _ _ hS hp]
  simp only [Program.fieldsOf, Tryd.underlying55]
  go_simp
  by_cases h1 : a = c <;> by_cases h2 : b = d <;> simp [h1, h2]

/-- Whether two lists of entries are equal. -/
def sameE (a b : List (Int × Int)) : Bool := decide (a = b)
theorem nth_ext {a b : List (Int × Int)} (hl : a.length = b.length) (h : ∀ j, j < a.length → nth a j = nth b j) : a = b := by
  apply List.ext_getElem?
  intro j
  by_cases hj : j < a.length
  · rw [nth_getElem hj, nth_getElem (hl ▸ hj), h j hj]
  · rw [List.getElem?_eq_none (by omega), List.getElem?_eq_none (by omega)]
theorem sameE_len {a b : List (Int × Int)} (h : a.length ≠ b.length) : sameE a b = false := decide_eq_false (fun e => h (by rw [e]))
theorem sameE_at {a b : List (Int × Int)} {k : Nat} (h : nth a k ≠ nth b k) : sameE a b = false := decide_eq_false (fun e => h (by rw [e]))
theorem sameE_all {a b : List (Int × Int)} (hl : a.length = b.length) (h : ∀ j, j < a.length → nth a j = nth b j) : sameE a b = true := decide_eq_true (nth_ext hl h)
theorem sameE_self (a : List (Int × Int)) : sameE a a = true := decide_eq_true rfl

set_option maxHeartbeats 1000000 in
set_option maxRecDepth 100000 in
theorem same_any (w : World) (u v : Value) (xs ys : List (Int × Int)) (hu : RdI w u xs) (hv : RdI w v ys) (ha : xs.length < 1000000000) (hb : ys.length < 1000000000) :
    Calls Tryd.prog 23 #[u, v] w fun e w' => e = .returned (.bool (sameE xs ys)) ∧ Below w.heap.size w w' := by
  have hgd := @run_eqGuard_agg Tryd.prog
  have hg55 := guard55
  have hneq := neq55
  obtain ⟨au, cu, hsu⟩ := hu.shape
  obtain ⟨av, cv, hsv⟩ := hv.shape
  subst hsu hsv
  by_cases hl : xs.length = ys.length
  · have HU := Lib.hid hu
    have HV := Lib.hid hv
    have HL := Lib.hid hl
    have hle1 : xs.length ≤ ys.length := by omega
    have hle2 : ys.length ≤ xs.length := by omega
    have hbq : ((xs.length : Int) != (ys.length : Int)) = false := by simp [hl]
    clear hu hv hl
    go_enter Tryd.func23, Tryd.ntmps23
    go_wp2
    go_loopw [5] (fun i wr => ∃ k : Nat, k ≤ xs.length ∧ i = .int .i64 k ∧ Hid (∀ j, j < k → nth xs j = nth ys j) ∧ ∃ n, Hid (wr = w.drewN n)) (fun i _ => xs.length - (RowKit.intOf i).toNat)
    case atStart => exact ⟨0, Nat.zero_le _, rfl, fun j hj => by omega, 0, rfl⟩
    case round =>
      obtain ⟨k, hk, rfl, hP, n, hwr⟩ := hrel
      obtain rfl : wr = w.drewN n := hwr
      by_cases hlt : k < xs.length
      · obtain ⟨b, off, rfl, hc1, hm1, hb1, q1, q2⟩ := HU.out.at hlt
        obtain ⟨b', off', rfl, hc2, hm2, hb2, q3, q4⟩ := HV.out.at (j := k) (by have := HL.out; omega)
        have i1 : (k : Int) < xs.length := by omega
        have i2 : (k : Int) < ys.length := by omega
        unfold maxLen at hm1 hm2
        by_cases heq : nth xs k = nth ys k
        · have hne : (!((nth xs k).1 == (nth ys k).1 && (nth xs k).2 == (nth ys k).2)) = false := by simp [heq]
          have hP1 : Hid (∀ j, j < k + 1 → nth xs j = nth ys j) := fun j hj => by
            by_cases e : j = k
            · subst e; exact heq
            · exact hP.out j (by omega)
          clear heq
          go_wp2
          go_quiet (fail)
          go_wp2
          exact ⟨⟨k + 1, by omega, by go_num, hP1, _, rfl⟩, by simp [RowKit.intOf]; omega⟩
        · have hne : (!((nth xs k).1 == (nth ys k).1 && (nth xs k).2 == (nth ys k).2)) = true := by
            have : ¬ ((nth xs k).1 = (nth ys k).1 ∧ (nth xs k).2 = (nth ys k).2) := fun h => heq (Prod.ext h.1 h.2)
            simp only [Bool.not_eq_true', Bool.and_eq_false_iff, beq_eq_false_iff_ne, ne_eq]
            by_cases h1 : (nth xs k).1 = (nth ys k).1
            · exact Or.inr (fun h2 => this ⟨h1, h2⟩)
            · exact Or.inl h1
          have HF := Lib.hid (sameE_at heq)
          clear heq
          go_wp2
          go_quiet (fail)
          go_wp2
          go_ret
          exact ⟨ret_bool HF.out.symm, below_drewN (below_drewN (Below.refl _ _) _) _⟩
      · obtain rfl : k = xs.length := by omega
        have HF := Lib.hid (sameE_all HL.out hP.out)
        go_wp2
        go_ret
        exact ⟨ret_bool HF.out.symm, below_drewN (Below.refl _ _) _⟩
  · have hbq : ((xs.length : Int) != (ys.length : Int)) = true := by rw [bne_iff_ne]; omega
    have HF := Lib.hid (sameE_len hl)
    clear hu hv hl
    go_enter Tryd.func23, Tryd.ntmps23
    go_wp2
    go_ret
    exact ⟨ret_bool HF.out.symm, Below.refl _ _⟩

end Go.Proofs.YtcngblnkfiggjaaDoor.Rm
