/- Contract of few of the statements' package: whether a script has at most forty calls, with at most ten blocks each. -/
import Derived.Test.YtphmfmfbneoljaaScript
namespace Go.Proofs.Ytphmfmfbneoljaa.Ep
open Go Go.RowKit Go.Maps

theorem Rd.shape {w : World} {v : Value} {bs : List Int} (h : Rd w v bs) : ∃ ao cap, v = .slice ao bs.length cap := by
  rcases h with ⟨ao, cap, rfl, rfl⟩ | ⟨b, off, cap, rfl, _⟩
  · exact ⟨_, _, rfl⟩
  · exact ⟨_, _, rfl⟩
theorem nthC_getElem {l : List Call} {j : Nat} (h : j < l.length) : l[j]? = some (nthC l j) := by
  unfold nthC; rw [List.getD_eq_getElem?_getD]; simp [h]
theorem mem_nthC {l : List Call} {c : Call} (h : c ∈ l) : ∃ j, j < l.length ∧ c = nthC l j := by
  obtain ⟨j, hj, e⟩ := List.mem_iff_getElem.1 h
  refine ⟨j, hj, ?_⟩
  have := nthC_getElem hj
  rw [List.getElem?_eq_getElem hj, e] at this
  exact Option.some.inj this
def fewB (l : List Call) : Bool := decide ((∀ j, j < l.length → (nthC l j).bs.length ≤ 10) ∧ l.length ≤ 40)
theorem fewB_t {l : List Call} (h : fewB l = true) : (∀ j, j < l.length → (nthC l j).bs.length ≤ 10) ∧ l.length ≤ 40 := of_decide_eq_true h
theorem fewB_at {l : List Call} {k : Nat} (hk : k < l.length) (h : 10 < (nthC l k).bs.length) : fewB l = false := decide_eq_false (fun e => by have := e.1 k hk; omega)
theorem fewB_all {l : List Call} (h : ∀ j, j < l.length → (nthC l j).bs.length ≤ 10) : fewB l = decide (l.length ≤ 40) := by
  unfold fewB; rw [decide_eq_decide]; exact ⟨fun e => e.2, fun e => ⟨h, e⟩⟩

set_option maxHeartbeats 1000000 in
set_option maxRecDepth 100000 in
theorem few_any (w : World) (u : Value) (l : List Call) (hu : Script w u l) :
    Calls Try.prog 8 #[u] w fun e w' => e = .returned (.bool (fewB l)) ∧ w = w' := by
  rcases hu with ⟨ao, cap, rfl, rfl⟩ | ⟨b, off, cap, rfl, hp, hc1, hm1, hb1, he1⟩
  · go_enter Try.func8, Try.ntmps8
    go_wp2
    refine wp_loop_rounds 1 ?_
    rw [rounds_succ]
    go_wp2
    go_ret
    exact ⟨rfl, rfl⟩
  · have H1 := Lib.hid he1
    unfold maxLen at hm1
    clear he1
    go_enter Try.func8, Try.ntmps8
    go_wp2
    go_loop [3] (fun i => ∃ k : Nat, k ≤ l.length ∧ i = .int .i64 k ∧ Hid (∀ j, j < k → (nthC l j).bs.length ≤ 10)) (fun i => l.length - (intOf i).toNat)
    case atStart => exact ⟨0, Nat.zero_le _, rfl, fun j hj => by omega⟩
    case round =>
      obtain ⟨k, hk, rfl, hP⟩ := hrel
      by_cases hlt : k < l.length
      · obtain ⟨_, _, q3, hok⟩ := H1.out k hlt
        obtain ⟨ao, cp, hsh⟩ := hok.2.2.1.shape
        rw [hsh] at q3
        clear hok hsh
        by_cases ht : 10 < (nthC l k).bs.length
        · have HF := Lib.hid (fewB_at hlt ht)
          go_wp2
          go_ret
          exact ⟨ret_bool HF.out.symm, rfl⟩
        · have hP1 : Hid (∀ j, j < k + 1 → (nthC l j).bs.length ≤ 10) := fun j hj => by
            by_cases e : j = k
            · subst e; omega
            · exact hP.out j (by omega)
          go_wp2
          go_round
          case rel => exact ⟨k + 1, by omega, by go_num, hP1⟩
          case measure => simp [intOf]; omega
      · obtain rfl : k = l.length := by omega
        have HF := Lib.hid (fewB_all hP.out)
        go_wp2
        go_ret
        exact ⟨ret_bool (by rw [HF.out, decide_eq_decide]; omega), rfl⟩

end Go.Proofs.Ytphmfmfbneoljaa.Ep
