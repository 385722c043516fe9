/- Contracts of Mapped (the specification's) and of Chunk (the program's and the specification's), for every layout; of Chunk, where the heap and the chunks of the layout are from 0 to 4096. -/
import Derived.Test.YtbmhgekeabodcaaDoorWalkF
import Derived.Test.YtbmhgekeabodcaaDoorPlainB
namespace Go.Proofs.YtbmhgekeabodcaaDoor.Ptr
open Go Go.RowKit

def mappedB (l0 l1 l2 l3 l4 l5 l6 l7 : Int) : Bool := decide (0 ≤ l0 ∧ l0 ≤ 4096 ∧ 0 ≤ l1 ∧ l1 ≤ 4096 ∧ 0 ≤ l2 ∧ l2 ≤ 4096 ∧ 0 ≤ l3 ∧ l3 ≤ 4096 ∧ 0 ≤ l4 ∧ l4 ≤ 4096 ∧ 0 ≤ l5 ∧ l5 ≤ 4096 ∧ 0 ≤ l6 ∧ l6 ≤ 4096 ∧ 0 ≤ l7 ∧ l7 ≤ 4096)
def withinB (heap chunks p c : Int) : Bool := decide (0 < linesS c ∧ 0 < lineS p ∧ 0 ≤ chunkS heap chunks (lineS p) ∧ (lineS p - heap) % linesS c = 0)

set_option maxHeartbeats 4000000 in
set_option maxRecDepth 100000 in
theorem mapped_no (l0 l1 l2 l3 l4 l5 l6 l7 : Int) (w : World) (h : l0 < 0 ∨ 4096 < l0 ∨ l1 < 0 ∨ 4096 < l1 ∨ l2 < 0 ∨ 4096 < l2 ∨ l3 < 0 ∨ 4096 < l3 ∨ l4 < 0 ∨ 4096 < l4 ∨ l5 < 0 ∨ 4096 < l5 ∨ l6 < 0 ∨ 4096 < l6 ∨ l7 < 0 ∨ 4096 < l7) :
    Calls Tryd.prog 38 #[.agg #[.int .i64 l0, .int .i64 l1, .int .i64 l2, .int .i64 l3, .int .i64 l4, .int .i64 l5, .int .i64 l6, .int .i64 l7]] w fun e w' => e = .returned (.bool false) ∧ Below w.heap.size w w' := by
  by_cases t0 : l0 < 0
  · clear h
    go_enter Tryd.func38, Tryd.ntmps38
    go_wp2
    go_rounds 1
    go_ret
    exact ⟨rfl, by go_grown⟩
  by_cases t1 : 4096 < l0
  · clear h
    go_enter Tryd.func38, Tryd.ntmps38
    go_wp2
    go_rounds 1
    go_ret
    exact ⟨rfl, by go_grown⟩
  by_cases t2 : l1 < 0
  · clear h
    go_enter Tryd.func38, Tryd.ntmps38
    go_wp2
    go_rounds 2
    go_ret
    exact ⟨rfl, by go_grown⟩
  by_cases t3 : 4096 < l1
  · clear h
    go_enter Tryd.func38, Tryd.ntmps38
    go_wp2
    go_rounds 2
    go_ret
    exact ⟨rfl, by go_grown⟩
  by_cases t4 : l2 < 0
  · clear h
    go_enter Tryd.func38, Tryd.ntmps38
    go_wp2
    go_rounds 3
    go_ret
    exact ⟨rfl, by go_grown⟩
  by_cases t5 : 4096 < l2
  · clear h
    go_enter Tryd.func38, Tryd.ntmps38
    go_wp2
    go_rounds 3
    go_ret
    exact ⟨rfl, by go_grown⟩
  by_cases t6 : l3 < 0
  · clear h
    go_enter Tryd.func38, Tryd.ntmps38
    go_wp2
    go_rounds 4
    go_ret
    exact ⟨rfl, by go_grown⟩
  by_cases t7 : 4096 < l3
  · clear h
    go_enter Tryd.func38, Tryd.ntmps38
    go_wp2
    go_rounds 4
    go_ret
    exact ⟨rfl, by go_grown⟩
  by_cases t8 : l4 < 0
  · clear h
    go_enter Tryd.func38, Tryd.ntmps38
    go_wp2
    go_rounds 5
    go_ret
    exact ⟨rfl, by go_grown⟩
  by_cases t9 : 4096 < l4
  · clear h
    go_enter Tryd.func38, Tryd.ntmps38
    go_wp2
    go_rounds 5
    go_ret
    exact ⟨rfl, by go_grown⟩
  by_cases t10 : l5 < 0
  · clear h
    go_enter Tryd.func38, Tryd.ntmps38
    go_wp2
    go_rounds 6
    go_ret
    exact ⟨rfl, by go_grown⟩
  by_cases t11 : 4096 < l5
  · clear h
    go_enter Tryd.func38, Tryd.ntmps38
    go_wp2
    go_rounds 6
    go_ret
    exact ⟨rfl, by go_grown⟩
  by_cases t12 : l6 < 0
  · clear h
    go_enter Tryd.func38, Tryd.ntmps38
    go_wp2
    go_rounds 7
    go_ret
    exact ⟨rfl, by go_grown⟩
  by_cases t13 : 4096 < l6
  · clear h
    go_enter Tryd.func38, Tryd.ntmps38
    go_wp2
    go_rounds 7
    go_ret
    exact ⟨rfl, by go_grown⟩
  by_cases t14 : l7 < 0
  · clear h
    go_enter Tryd.func38, Tryd.ntmps38
    go_wp2
    go_rounds 8
    go_ret
    exact ⟨rfl, by go_grown⟩
  by_cases t15 : 4096 < l7
  · clear h
    go_enter Tryd.func38, Tryd.ntmps38
    go_wp2
    go_rounds 8
    go_ret
    exact ⟨rfl, by go_grown⟩
  exfalso; omega

set_option maxHeartbeats 4000000 in
set_option maxRecDepth 100000 in
theorem mapped_yes (l0 l1 l2 l3 l4 l5 l6 l7 : Int) (w : World) (hl0 : 0 ≤ l0) (kl0 : l0 ≤ 4096) (hl1 : 0 ≤ l1) (kl1 : l1 ≤ 4096) (hl2 : 0 ≤ l2) (kl2 : l2 ≤ 4096) (hl3 : 0 ≤ l3) (kl3 : l3 ≤ 4096) (hl4 : 0 ≤ l4) (kl4 : l4 ≤ 4096) (hl5 : 0 ≤ l5) (kl5 : l5 ≤ 4096) (hl6 : 0 ≤ l6) (kl6 : l6 ≤ 4096) (hl7 : 0 ≤ l7) (kl7 : l7 ≤ 4096) :
    Calls Tryd.prog 38 #[.agg #[.int .i64 l0, .int .i64 l1, .int .i64 l2, .int .i64 l3, .int .i64 l4, .int .i64 l5, .int .i64 l6, .int .i64 l7]] w fun e w' => e = .returned (.bool true) ∧ Below w.heap.size w w' := by
  go_enter Tryd.func38, Tryd.ntmps38
  go_wp2
  go_rounds 9
  go_ret
  exact ⟨rfl, by go_grown⟩

set_option maxHeartbeats 1000000 in
theorem chunk_any (l0 l1 l2 l3 l4 l5 l6 l7 n : Int) (w : World) (h0 : 0 ≤ l6) (h1 : l6 ≤ 4096) (h2 : 0 ≤ l7) (h3 : l7 ≤ 4096) (n0 : -9223372036854775808 ≤ n) (n1 : n ≤ 9223372036854775807) :
    Calls Tryd.prog 39 #[.agg #[.int .i64 l0, .int .i64 l1, .int .i64 l2, .int .i64 l3, .int .i64 l4, .int .i64 l5, .int .i64 l6, .int .i64 l7], .int .i64 n] w fun e w' => e = .returned (.int .i64 (chunkS l6 l7 n)) ∧ Below w.heap.size w w' := by
  by_cases t0 : n < l6
  · go_enter Tryd.func39, Tryd.ntmps39
    go_wp2
    go_ret
    exact ⟨ret_int (by unfold chunkS; rw [if_pos (by omega)]), (Below.refl _ _).alloc (Nat.le_refl _) _⟩
  by_cases t1 : l6 + 16 * l7 ≤ n
  · go_enter Tryd.func39, Tryd.ntmps39
    go_wp2
    go_ret
    exact ⟨ret_int (by unfold chunkS; rw [if_pos (by omega)]), (Below.refl _ _).alloc (Nat.le_refl _) _⟩
  go_enter Tryd.func39, Tryd.ntmps39
  go_wp2
  go_ret
  exact ⟨ret_int (by unfold chunkS; rw [if_neg (by omega)]), (Below.refl _ _).alloc (Nat.le_refl _) _⟩

set_option maxHeartbeats 1000000 in
theorem rchunk_any (l0 l1 l2 l3 l4 l5 l6 l7 n : Int) (w : World) (h0 : 0 ≤ l6) (h1 : l6 ≤ 4096) (h2 : 0 ≤ l7) (h3 : l7 ≤ 4096) (n0 : -9223372036854775808 ≤ n) (n1 : n ≤ 9223372036854775807) :
    Calls Tryd.prog 40 #[.agg #[.int .i64 l0, .int .i64 l1, .int .i64 l2, .int .i64 l3, .int .i64 l4, .int .i64 l5, .int .i64 l6, .int .i64 l7], .int .i64 n] w fun e w' => e = .returned (.int .i64 (chunkS l6 l7 n)) ∧ Below w.heap.size w w' := by
  by_cases t0 : n < l6
  · go_enter Tryd.func40, Tryd.ntmps40
    go_wp2
    go_ret
    exact ⟨ret_int (by unfold chunkS; rw [if_pos (by omega)]), (Below.refl _ _).alloc (Nat.le_refl _) _⟩
  by_cases t1 : l6 + 16 * l7 ≤ n
  · go_enter Tryd.func40, Tryd.ntmps40
    go_wp2
    go_ret
    exact ⟨ret_int (by unfold chunkS; rw [if_pos (by omega)]), (Below.refl _ _).alloc (Nat.le_refl _) _⟩
  go_enter Tryd.func40, Tryd.ntmps40
  go_wp2
  go_ret
  exact ⟨ret_int (by unfold chunkS; rw [if_neg (by omega)]), (Below.refl _ _).alloc (Nat.le_refl _) _⟩

end Go.Proofs.YtbmhgekeabodcaaDoor.Ptr
