/- Contract of Free of package epoch: it returns the waiting blocks that no reader can hold, in order, and they wait no longer. -/
import Derived.Test.YtphmfmfbneoljaaWalkI
namespace Go.Proofs.Ytphmfmfbneoljaa.Ep
open Go Go.RowKit Go.Maps

theorem key_wf {w : World} {R : Value → Option (DataW Unit × List MemPlace)} {b n : Nat} {D : DataW Unit} (h : w.ownsMap Try.prog 3 R b n D) {j : Int} (hat : D.atKey (.int .i64 j) (.lit (.bool false)) = .lit (.bool true)) : (Lit.int .i64 j).wf = true := by
  have hw := intKeys_wf h Try.underlying3
  obtain ⟨es, rfl, _⟩ := h.entries law3
  unfold DataW.atKey at hat
  simp only at hat
  split at hat
  · rename_i p hp
    have hm := List.mem_of_find?_eq_some hp
    have hk := List.find?_some hp
    obtain ⟨a, d⟩ := p
    cases a <;> simp [Lit.sameKey] at hk
    obtain ⟨rfl, rfl⟩ := hk
    exact hw _ (List.mem_map.2 ⟨_, hm, rfl⟩)
  · cases hat

theorem take_olds (m : Int) (l : List (Int × Int)) : l.take (olds m l) = l.takeWhile (old m) := by
  unfold olds
  have h : l.takeWhile (old m) ++ l.dropWhile (old m) = l := List.takeWhile_append_dropWhile
  conv => lhs; arg 2; rw [← h]
  rw [List.take_left]
theorem drop_olds (m : Int) (l : List (Int × Int)) : l.drop (olds m l) = l.dropWhile (old m) := by
  unfold olds
  have h : l.takeWhile (old m) ++ l.dropWhile (old m) = l := List.takeWhile_append_dropWhile
  conv => lhs; arg 2; rw [← h]
  rw [List.drop_left]
theorem freed_length (s : St) : s.freed.length = olds s.least s.wt := by unfold St.freed names olds; simp
theorem free_length (s : St) : s.free.wt.length = s.wt.length - olds s.least s.wt := by
  show (s.wt.dropWhile (old s.least)).length = _
  rw [← drop_olds]; simp
theorem freed_split (s : St) : names s.wt = s.freed ++ names s.free.wt := by
  unfold St.freed St.free
  rw [← names_append, List.takeWhile_append_dropWhile]
theorem rest_contains {s : St} (hi : Inv s) (j : Int) : ((names s.wt).contains j && !s.freed.contains j) = (names s.free.wt).contains j := by
  have hn := hi.nodup
  rw [freed_split, List.nodup_append] at hn
  rw [freed_split, List.contains_append, Bool.eq_iff_iff]
  simp only [Bool.and_eq_true, Bool.or_eq_true, Bool.not_eq_true', List.contains_iff_mem]
  rw [← Bool.not_eq_true, List.contains_iff_mem]
  constructor
  · rintro ⟨h1 | h1, h2⟩
    · exact absurd h1 h2
    · exact h1
  · intro h1
    exact ⟨Or.inr h1, fun h2 => hn.2.2 j h2 j h1 rfl⟩

/-- The map of the waiting blocks, when k of the freed ones have been taken out. -/
def Struck (w : World) (m2 n2 : Nat) (wt fr : List Int) (k : Nat) (wr : World) : Prop :=
  ∃ D : DataW Unit, wr.ownsMap Try.prog 3 (plainElem Try.prog 4) m2 n2 D ∧ (∀ j : Int, D.atKey (.int .i64 j) (.lit (.bool false)) = .lit (.bool (wt.contains j && !(fr.take k).contains j))) ∧ w.grownBy wr (some m2)
theorem Struck.step {w wr w1 : World} {m2 n2 : Nat} {wt fr : List Int} {k : Nat} {D : DataW Unit} (hk : k < fr.length) (hD : ∀ j : Int, D.atKey (.int .i64 j) (.lit (.bool false)) = .lit (.bool (wt.contains j && !(fr.take k).contains j)))
    (hg : w.grownBy wr (some m2)) (ho1 : w1.ownsMap Try.prog 3 (plainElem Try.prog 4) m2 n2 (D.del (.int .i64 (nthI fr k)))) (hg1 : wr.grownBy w1 (some m2)) : Struck w m2 n2 wt fr (k + 1) w1 := by
  refine ⟨_, ho1, fun j => ?_, hg.andThen hg1 (fun j e => Or.inr e)⟩
  rw [take_snoc hk, List.contains_append]
  by_cases hj : j = nthI fr k
  · subst hj
    rw [Maps.atKey_del_same]
    simp
  · rw [Maps.atKey_del_other (by simpa using hj), hD]
    simp [hj]

end Go.Proofs.Ytphmfmfbneoljaa.Ep
