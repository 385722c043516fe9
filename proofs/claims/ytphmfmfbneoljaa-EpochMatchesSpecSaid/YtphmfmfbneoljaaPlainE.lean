/- Plain facts for the law that every retired block is freed in the end: what is freed and what waits are together what was retired. No program in sight. -/
import Derived.Test.YtphmfmfbneoljaaAppLaw
namespace Go.Proofs.Ytphmfmfbneoljaa.Ep
open Go

/-- What has been retired after a call. -/
def retd (s : St) (kind a : Int) (bs R : List Int) : List Int := if kind = 2 ∧ s.stepErr kind a bs = 0 then R ++ bs else R
theorem step_keeps {s : St} {kind a : Int} {bs R D : List Int} (h : R = D ++ names s.wt) : retd s kind a bs R = (D ++ s.stepOut kind) ++ names (s.step kind a bs).wt := by
  unfold retd
  by_cases k2 : kind = 2
  · subst k2
    have e1 : s.stepErr 2 a bs = s.retireErr bs := by simp [St.stepErr]
    have e2 : s.step 2 a bs = s.retire bs := by simp [St.step]
    have e3 : s.stepOut 2 = [] := by simp [St.stepOut]
    rw [e1, e2, e3, List.append_nil]
    cases hf : fresh (names s.wt) bs
    · have r1 : s.retireErr bs = 6 := by simp [St.retireErr, hf]
      have r2 : s.retire bs = s := by simp [St.retire, hf]
      rw [r1, r2, if_neg (by omega), h]
    · have r1 : s.retireErr bs = 0 := by simp [St.retireErr, hf]
      have r2 : (s.retire bs).wt = s.wt ++ bs.map (fun b => (b, s.now)) := by simp [St.retire, hf]
      rw [r1, r2, if_pos ⟨rfl, rfl⟩, h, names_append, names_stamp, List.append_assoc]
  · rw [if_neg (fun e => k2 e.1)]
    by_cases k3 : kind = 3
    · subst k3
      have e2 : s.step 3 a bs = s.free := by simp [St.step]
      have e3 : s.stepOut 3 = s.freed := by simp [St.stepOut]
      rw [e2, e3, h, freed_split, List.append_assoc]
    · have e3 : s.stepOut kind = [] := by simp [St.stepOut, k3]
      have e2 : (s.step kind a bs).wt = s.wt := by
        unfold St.step
        split
        · unfold St.enter; split <;> rfl
        · split
          · unfold St.leave; split <;> rfl
          · rfl
      rw [e2, e3, List.append_nil, h]
theorem retd_length {s : St} {kind a : Int} {bs R : List Int} : (retd s kind a bs R).length ≤ R.length + bs.length := by
  unfold retd; split
  · simp
  · omega
theorem dropWhile_all {p : Int × Int → Bool} {l : List (Int × Int)} (h : ∀ x ∈ l, p x = true) : l.dropWhile p = [] := by
  induction l with
  | nil => rfl
  | cons y r ih => rw [List.dropWhile_cons_of_pos (h y List.mem_cons_self)]; exact ih (fun x hx => h x (List.mem_cons_of_mem _ hx))
/-- With no reader all waiting blocks are freed. -/
theorem freed_all {s : St} (hi : Inv s) (h : s.rd = []) : s.freed = names s.wt ∧ s.free.wt = [] ∧ s.least = s.now := by
  have hl : s.least = s.now := by unfold St.least; rw [h]; rfl
  have hw : ∀ p ∈ s.wt, old s.least p = true := fun p hp => by rw [hl]; have := hi.wtlt p hp; simp [old]; omega
  have hd : s.wt.dropWhile (old s.least) = [] := dropWhile_all hw
  have ht : s.wt.takeWhile (old s.least) = s.wt := by
    have := List.takeWhile_append_dropWhile (p := old s.least) (l := s.wt)
    rw [hd, List.append_nil] at this
    exact this
  exact ⟨by unfold St.freed; rw [ht], hd, hl⟩

end Go.Proofs.Ytphmfmfbneoljaa.Ep
