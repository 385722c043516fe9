/- Contract of Retire of package epoch: the blocks wait from now on, or nothing changes. -/
import Derived.Test.YtphmfmfbneoljaaWalkD
import Derived.Test.YtphmfmfbneoljaaWalkE
import Derived.Deep.RegionWith
namespace Go.Proofs.Ytphmfmfbneoljaa.Ep
open Go Go.RowKit Go.Maps

theorem plainElem_bool_inv {v : Value} {z : DataW Unit × List MemPlace} (h : plainElem Try.prog 4 v = some z) : ∃ b, v = .bool b ∧ z = (.lit (.bool b), []) := by
  unfold plainElem at h
  rw [Try.underlying4] at h
  cases v <;> simp at h
  exact ⟨_, rfl, h.symm⟩
theorem lookup_bool {w : World} {b n : Nat} {D : DataW Unit} (h : w.ownsMap Try.prog 3 (plainElem Try.prog 4) b n D) {k : Int} (hk : (Lit.int .i64 k).wf = true) {q : Bool} (hq : D.atKey (.int .i64 k) (.lit (.bool false)) = .lit (.bool q)) :
    (Instr.lookup 55 (.map (some b)) (.int .i64 k) false).run Try.prog w = .ok (.bool q) w := by
  obtain ⟨v, ps, hrun, hv⟩ := h.lookup law3 Try.underlying55 (zero4 w) (plainElem_bool Try.underlying4 false) (keyOf_int_mk Try.underlying3 hk)
  obtain ⟨b', rfl, hb⟩ := plainElem_bool_inv hv
  rw [hq] at hb
  cases hb
  exact hrun

theorem fresh_snoc (wt l : List Int) (b : Int) : fresh wt (l ++ [b]) = (fresh wt l && !(wt ++ l).contains b) := by
  rw [Bool.eq_iff_iff]
  simp only [Bool.and_eq_true, Bool.not_eq_true', fresh_iff]
  rw [← Bool.not_eq_true, List.contains_iff_mem, List.nodup_append]
  simp only [List.mem_append, List.mem_singleton, not_or]
  constructor
  · rintro ⟨⟨h1, h2, h3⟩, h4⟩
    exact ⟨⟨h1, fun c hc => h4 c (Or.inl hc)⟩, h4 b (Or.inr rfl), fun hb => h3 b hb b rfl rfl⟩
  · rintro ⟨⟨h1, h2⟩, h3, h4⟩
    refine ⟨⟨h1, by simp, fun a ha c hc e => h4 (by rw [← hc, ← e]; exact ha)⟩, fun c hc => ?_⟩
    rcases hc with hc | rfl
    · exact h2 c hc
    · exact h3
theorem fresh_left {wt a b : List Int} (h : fresh wt (a ++ b) = true) : fresh wt a = true := by
  obtain ⟨h1, h2⟩ := fresh_iff.1 h
  exact fresh_iff.2 ⟨(List.nodup_append.1 h1).1, fun c hc => h2 c (List.mem_append_left _ hc)⟩
theorem take_snoc {bs : List Int} {k : Nat} (h : k < bs.length) : bs.take (k + 1) = bs.take k ++ [nthI bs k] := by
  rw [List.take_add_one, nthI_getElem h]; rfl
theorem fresh_fails {wt bs : List Int} {k : Nat} (h : k < bs.length) (ht : (wt.contains (nthI bs k) || (bs.take k).contains (nthI bs k)) = true) : fresh wt bs = false := by
  cases hf : fresh wt bs with
  | false => rfl
  | true =>
    have h1 : fresh wt (bs.take (k + 1)) = true := fresh_left (b := bs.drop (k + 1)) (by rw [List.take_append_drop]; exact hf)
    rw [take_snoc h, fresh_snoc] at h1
    simp only [Bool.and_eq_true, Bool.not_eq_true', List.contains_append] at h1
    rw [ht] at h1
    exact absurd h1.2 (by decide)
theorem nthI_mem {bs : List Int} {k : Nat} (h : k < bs.length) : nthI bs k ∈ bs := List.mem_of_getElem? (nthI_getElem h)

/-- The map of the waiting blocks, when k of the new ones have been put in. -/
def Marked (w : World) (m2 n2 : Nat) (wt bs : List Int) (k : Nat) (wr : World) : Prop :=
  ∃ D : DataW Unit, wr.ownsMap Try.prog 3 (plainElem Try.prog 4) m2 (n2 + k) D ∧ (∀ j : Int, D.atKey (.int .i64 j) (.lit (.bool false)) = .lit (.bool ((wt ++ bs.take k).contains j))) ∧ w.grownBy wr (some m2)

theorem Marked.step {w wr w1 : World} {m2 n2 : Nat} {wt bs : List Int} {k : Nat} {D : DataW Unit} (hk : k < bs.length) (ho : wr.ownsMap Try.prog 3 (plainElem Try.prog 4) m2 (n2 + k) D) (hD : ∀ j : Int, D.atKey (.int .i64 j) (.lit (.bool false)) = .lit (.bool ((wt ++ bs.take k).contains j)))
    (hg : w.grownBy wr (some m2)) (ho1 : w1.ownsMap Try.prog 3 (plainElem Try.prog 4) m2 (n2 + k + 1) (D.put (.int .i64 (nthI bs k)) (.lit (.bool true)))) (hg1 : wr.grownBy w1 (some m2)) : Marked w m2 n2 wt bs (k + 1) w1 := by
  refine ⟨_, ho1, fun j => ?_, hg.andThen hg1 (fun j e => Or.inr e)⟩
  rw [take_snoc hk, ← List.append_assoc, List.contains_append]
  by_cases hj : j = nthI bs k
  · subst hj
    rw [Maps.atKey_put_same ho.isMap (k := .int .i64 (nthI bs k)) trivial]
    simp
  · rw [Maps.atKey_put_other (by simpa using hj), hD]
    simp [hj]

end Go.Proofs.Ytphmfmfbneoljaa.Ep
