/- Plain facts for the law that no held block is freed: what readers hold is linked, or waits for them. No program in sight. -/
import Derived.Test.YtphmfmfbneoljaaPlainF
namespace Go.Proofs.Ytphmfmfbneoljaa.Ep
open Go

def upd (f : Nat → Bool) (i : Nat) (v : Bool) : Nat → Bool := fun j => if j = i then v else f j
theorem upd_same (f : Nat → Bool) (i : Nat) (v : Bool) : upd f i v i = v := by simp [upd]
theorem upd_other {f : Nat → Bool} {i j : Nat} {v : Bool} (h : j ≠ i) : upd f i v j = f j := by simp [upd, h]
/-- The cells of row r are false. -/
def wipe (f : Nat → Bool) (r : Nat) : Nat → Bool := fun j => if r * 16 ≤ j ∧ j < r * 16 + 16 then false else f j

structure Kp (t : St) (act lnk wts hf : Nat → Bool) : Prop where
  actP : ∀ r : Nat, r < 8 → act r = has t.rd r
  wtrP : ∀ x ∈ names t.wt, 0 ≤ x ∧ x < 16
  wtsP : ∀ b : Nat, b < 16 → wts b = inB (names t.wt) b
  lnkP : ∀ b : Nat, b < 16 → lnk b = true → wts b = false
  hldP : ∀ r b : Nat, r < 8 → b < 16 → hf (r * 16 + b) = true → ∃ e, ((r : Int), e) ∈ t.rd ∧ (lnk b = true ∨ ∃ n, ((b : Int), n) ∈ t.wt ∧ e ≤ n)

theorem Kp.new : Kp St.new (fun _ => false) (fun _ => false) (fun _ => false) (fun _ => false) :=
  ⟨fun _ _ => rfl, by simp [St.new, names], fun _ _ => rfl, fun _ _ _ => rfl, fun _ _ _ _ h => by cases h⟩

section
variable {t : St} {act lnk wts hf : Nat → Bool}

theorem Kp.enter (h : Kp t act lnk wts hf) {r : Nat} (hr : r < 8) (ha : act r = false) : t.enterErr r = 0 ∧ Kp (t.enter r) (upd act r true) lnk wts hf := by
  have hh : has t.rd r = false := by rw [← h.actP r hr]; exact ha
  obtain ⟨_, e2⟩ := enter_now t r
  refine ⟨by simp [St.enterErr, hh], ⟨?_, by rw [e2]; exact h.wtrP, by rw [e2]; exact h.wtsP, h.lnkP, ?_⟩⟩
  · intro q hq
    rw [Bool.eq_iff_iff, has_iff]
    by_cases e : q = r
    · subst e
      rw [upd_same]
      refine ⟨fun _ => ⟨t.now, ?_⟩, fun _ => rfl⟩
      simp [St.enter, hh, mem_ins]
    · rw [upd_other e, h.actP q hq, has_iff]
      constructor
      · rintro ⟨x, hx⟩; exact ⟨x, enter_mem hx⟩
      · rintro ⟨x, hx⟩
        rcases enter_mem' hx with hx | hx
        · exact ⟨x, hx⟩
        · have := (Prod.mk.inj hx).1; omega
  · intro q b hq hb hx
    obtain ⟨e, he, ho⟩ := h.hldP q b hq hb hx
    exact ⟨e, enter_mem he, by rw [e2]; exact ho⟩
theorem Kp.leave (h : Kp t act lnk wts hf) {r : Nat} (hr : r < 8) (ha : act r = true) : t.enterErr r = 6 ∧ t.enter r = t ∧ t.leaveErr r = 0 ∧ Kp (t.leave r) (upd act r false) lnk wts (wipe hf r) := by
  have hh : has t.rd r = true := by rw [← h.actP r hr]; exact ha
  obtain ⟨_, e2⟩ := leave_now t r
  refine ⟨by simp [St.enterErr, hh], by simp [St.enter, hh], by simp [St.leaveErr, hh], ⟨?_, by rw [e2]; exact h.wtrP, by rw [e2]; exact h.wtsP, h.lnkP, ?_⟩⟩
  · intro q hq
    rw [Bool.eq_iff_iff, has_iff]
    by_cases e : q = r
    · subst e
      rw [upd_same]
      exact ⟨fun h => (by cases h), fun ⟨x, hx⟩ => absurd rfl (leave_mem.1 hx).2⟩
    · rw [upd_other e, h.actP q hq, has_iff]
      constructor
      · rintro ⟨x, hx⟩; exact ⟨x, leave_mem.2 ⟨hx, fun h => e (by simp only at h; omega)⟩⟩
      · rintro ⟨x, hx⟩; exact ⟨x, (leave_mem.1 hx).1⟩
  · intro q b hq hb hx
    unfold wipe at hx
    split at hx
    · cases hx
    · rename_i hn
      obtain ⟨e, he, ho⟩ := h.hldP q b hq hb hx
      exact ⟨e, leave_mem.2 ⟨he, fun h => hn (by simp only at h; omega)⟩, by rw [e2]; exact ho⟩
theorem Kp.link (h : Kp t act lnk wts hf) (b : Nat) : Kp t act (upd lnk b (lnk b || !wts b)) wts hf := by
  refine ⟨h.actP, h.wtrP, h.wtsP, ?_, ?_⟩
  · intro c hc hx
    by_cases e : c = b
    · subst e
      rw [upd_same] at hx
      cases hl : lnk c
      · rw [hl] at hx; simpa using hx
      · exact h.lnkP c hc hl
    · rw [upd_other e] at hx
      exact h.lnkP c hc hx
  · intro q c hq hc hx
    obtain ⟨e, he, ho⟩ := h.hldP q c hq hc hx
    refine ⟨e, he, ?_⟩
    rcases ho with ho | ho
    · left
      by_cases e : c = b
      · subst e; rw [upd_same, ho]; rfl
      · rw [upd_other e]; exact ho
    · exact Or.inr ho
theorem Kp.retire (hi : Inv t) (h : Kp t act lnk wts hf) {b : Nat} (hb : b < 16) (hl : lnk b = true) : t.retireErr [(b : Int)] = 0 ∧ Kp (t.retire [(b : Int)]) act (upd lnk b false) (upd wts b true) hf := by
  have hw := h.lnkP b hb hl
  rw [h.wtsP b hb, inB_false] at hw
  have hf' : fresh (names t.wt) [(b : Int)] = true := fresh_iff.2 ⟨by simp, by intro x hx; rw [List.mem_singleton.1 hx]; exact hw⟩
  have e : t.retire [(b : Int)] = { t with wt := t.wt ++ [((b : Int), t.now)], now := t.now + 1 } := by simp [St.retire, hf']
  refine ⟨by simp [St.retireErr, hf'], ?_⟩
  rw [e]
  have en : names (t.wt ++ [((b : Int), t.now)]) = names t.wt ++ [(b : Int)] := by rw [names_append]; rfl
  refine ⟨h.actP, ?_, ?_, ?_, ?_⟩
  · intro x hx
    rw [en, List.mem_append, List.mem_singleton] at hx
    rcases hx with hx | hx
    · exact h.wtrP x hx
    · omega
  · intro c hc
    show _ = inB (names (t.wt ++ [((b : Int), t.now)])) c
    rw [en]
    by_cases e : c = b
    · subst e
      rw [upd_same]
      symm
      rw [inB_iff]
      simp
    · rw [upd_other e, h.wtsP c hc, Bool.eq_iff_iff, inB_iff, inB_iff, List.mem_append, List.mem_singleton]
      constructor
      · exact Or.inl
      · rintro (h | h)
        · exact h
        · omega
  · intro c hc hx
    by_cases e : c = b
    · subst e; rw [upd_same] at hx; cases hx
    · rw [upd_other e] at hx ⊢
      exact h.lnkP c hc hx
  · intro q c hq hc hx
    obtain ⟨e, he, ho⟩ := h.hldP q c hq hc hx
    refine ⟨e, he, ?_⟩
    by_cases hcb : c = b
    · subst hcb
      exact Or.inr ⟨t.now, List.mem_append.2 (Or.inr List.mem_cons_self), (hi.rdle _ he).2⟩
    · rcases ho with ho | ⟨n, hn, hle⟩
      · left; rw [upd_other hcb]; exact ho
      · exact Or.inr ⟨n, List.mem_append.2 (Or.inl hn), hle⟩
theorem Kp.hold (h : Kp t act lnk wts hf) {r b : Nat} (hr : r < 8) (hb : b < 16) : Kp t act lnk wts (upd hf (r * 16 + b) (hf (r * 16 + b) || act r && lnk b)) := by
  refine ⟨h.actP, h.wtrP, h.wtsP, h.lnkP, ?_⟩
  intro q c hq hc hx
  by_cases e : q * 16 + c = r * 16 + b
  · obtain rfl : q = r := by omega
    obtain rfl : c = b := by omega
    rw [upd_same] at hx
    cases ho : hf (q * 16 + c)
    · rw [ho, Bool.false_or, Bool.and_eq_true] at hx
      have ha := hx.1
      rw [h.actP q hq, has_iff] at ha
      obtain ⟨x, hx'⟩ := ha
      exact ⟨x, hx', Or.inl hx.2⟩
    · exact h.hldP q c hq hc ho
  · rw [upd_other e] at hx
    exact h.hldP q c hq hc hx

/-- What waits when k of the freed blocks have been struck out. -/
def wtk (wts : Nat → Bool) (fr : List Int) (k : Nat) : Nat → Bool := fun b => wts b && !inB (fr.take k) b
theorem wtk_zero (wts : Nat → Bool) (fr : List Int) : wtk wts fr 0 = wts := by funext b; simp [wtk, inB]
theorem freed_nodup (hi : Inv t) : t.freed.Nodup := by
  have := hi.nodup
  rw [freed_split, List.nodup_append] at this
  exact this.1
theorem Kp.freed (hi : Inv t) (h : Kp t act lnk wts hf) {k : Nat} (hk : k < t.freed.length) :
    ∃ n : Nat, nthI t.freed k = (n : Int) ∧ n < 16 ∧ wtk wts t.freed k n = true ∧ (∀ q : Nat, q < 8 → hf (q * 16 + n) = false) ∧ wtk wts t.freed (k + 1) = upd (wtk wts t.freed k) n false := by
  have hm := nthI_mem hk
  obtain ⟨e, he, hlt⟩ := (freed_mem hi).1 hm
  have hr := h.wtrP _ (names_mem.2 ⟨e, he⟩)
  refine ⟨(nthI t.freed k).toNat, by omega, by omega, ?_, ?_, ?_⟩
  · unfold wtk
    rw [h.wtsP _ (by omega), Int.toNat_of_nonneg hr.1, Bool.and_eq_true, inB_iff, Bool.not_eq_true', inB_false]
    refine ⟨names_mem.2 ⟨e, he⟩, fun hc => ?_⟩
    have hn := freed_nodup hi
    rw [split_at hk, List.nodup_append] at hn
    exact hn.2.2 _ hc _ List.mem_cons_self rfl
  · intro q hq
    cases hx : hf (q * 16 + (nthI t.freed k).toNat)
    · rfl
    · exfalso
      obtain ⟨f, hf', ho⟩ := h.hldP q _ hq (by omega) hx
      rw [Int.toNat_of_nonneg hr.1] at ho
      have hl := leastOf_mem (now := t.now) hf'
      simp only at hl
      unfold St.least at hlt
      rcases ho with ho | ⟨n, hn, hle⟩
      · have := h.lnkP _ (by omega) ho
        rw [h.wtsP _ (by omega), Int.toNat_of_nonneg hr.1, inB_false] at this
        exact this (names_mem.2 ⟨e, he⟩)
      · have := names_inj hi.nodup he hn
        omega
  · funext c
    unfold upd wtk
    rw [take_snoc hk]
    by_cases hc : c = (nthI t.freed k).toNat
    · rw [if_pos hc, Bool.and_eq_false_iff]
      right
      rw [Bool.not_eq_false', inB_iff, List.mem_append, List.mem_singleton]
      right; omega
    · rw [if_neg hc]
      congr 2
      rw [Bool.eq_iff_iff, inB_iff, inB_iff, List.mem_append, List.mem_singleton]
      constructor
      · rintro (h | h)
        · exact h
        · omega
      · exact Or.inl
theorem Kp.free (hi : Inv t) (h : Kp t act lnk wts hf) : Kp t.free act lnk (wtk wts t.freed t.freed.length) hf := by
  refine ⟨h.actP, ?_, ?_, ?_, ?_⟩
  · intro x hx
    obtain ⟨e, he⟩ := names_mem.1 hx
    exact h.wtrP x (names_mem.2 ⟨e, ((free_mem hi).1 he).1⟩)
  · intro b hb
    unfold wtk
    rw [List.take_length, h.wtsP b hb]
    exact rest_contains hi b
  · intro b hb hl
    unfold wtk
    rw [h.lnkP b hb hl]; rfl
  · intro q b hq hb hx
    obtain ⟨e, he, ho⟩ := h.hldP q b hq hb hx
    refine ⟨e, he, ?_⟩
    rcases ho with ho | ⟨n, hn, hle⟩
    · exact Or.inl ho
    · refine Or.inr ⟨n, (free_mem hi).2 ⟨hn, ?_⟩, hle⟩
      have := leastOf_mem (now := t.now) he
      unfold St.least
      simp only at this ⊢
      omega
end

end Go.Proofs.Ytphmfmfbneoljaa.Ep
