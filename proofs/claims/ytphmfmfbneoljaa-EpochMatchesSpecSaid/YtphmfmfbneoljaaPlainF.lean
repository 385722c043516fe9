/- Plain facts for the law that a retired block waits for the readers that were active then. No program in sight. -/
import Derived.Test.YtphmfmfbneoljaaPlayE
namespace Go.Proofs.Ytphmfmfbneoljaa.Ep
open Go Go.RowKit Go.Maps

/-- The block waits since the epoch n0; of the readers those of rs entered then or before, all others later. -/
structure Jd (n0 block : Int) (t : St) (rs : List Int) : Prop where
  mem : (block, n0) ∈ t.wt
  lt : n0 < t.now
  nodup : rs.Nodup
  held : ∀ r ∈ rs, ∃ e, (r, e) ∈ t.rd ∧ e ≤ n0
  late : ∀ p ∈ t.rd, p.1 ∈ rs ∨ n0 < p.2

theorem inB_iff {l : List Int} {x : Int} : inB l x = true ↔ x ∈ l := by unfold inB; exact List.contains_iff_mem
theorem inB_false {l : List Int} {x : Int} : inB l x = false ↔ x ∉ l := by rw [← Bool.not_eq_true, inB_iff]
theorem names_mem {l : List (Int × Int)} {x : Int} : x ∈ names l ↔ ∃ e, (x, e) ∈ l := by unfold names; simp
theorem names_inj {l : List (Int × Int)} (h : (names l).Nodup) {x e f : Int} (h1 : (x, e) ∈ l) (h2 : (x, f) ∈ l) : e = f := by
  induction l with
  | nil => cases h1
  | cons y r ih =>
    unfold names at h
    rw [List.map_cons, List.nodup_cons] at h
    rcases List.mem_cons.1 h1 with h1' | h1'
    · rcases List.mem_cons.1 h2 with h2' | h2'
      · rw [← h1'] at h2'; exact (Prod.mk.inj h2').2.symm
      · exact absurd (List.mem_map.2 ⟨_, h2', by rw [← h1']⟩) h.1
    · rcases List.mem_cons.1 h2 with h2' | h2'
      · exact absurd (List.mem_map.2 ⟨_, h1', by rw [← h2']⟩) h.1
      · exact ih h.2 h1' h2'

theorem retire_ok {s : St} {b : Int} (h : s.retireErr [b] = 0) : fresh (names s.wt) [b] = true := by
  cases hf : fresh (names s.wt) [b]
  · simp [St.retireErr, hf] at h
  · rfl
theorem retire_no {s : St} {b : Int} (h : s.retireErr [b] ≠ 0) : inB (names (s.retire [b]).wt) b = true := by
  cases hf : fresh (names s.wt) [b]
  · have e : s.retire [b] = s := by simp [St.retire, hf]
    rw [e, inB_iff]
    simpa [fresh] using hf
  · simp [St.retireErr, hf] at h

theorem Jd.start {s : St} {b : Int} (hi : Inv s) (h : s.retireErr [b] = 0) : Jd s.now b (s.retire [b]) (names s.rd) := by
  have hf := retire_ok h
  have e : s.retire [b] = { s with wt := s.wt ++ [(b, s.now)], now := s.now + 1 } := by simp [St.retire, hf]
  rw [e]
  refine ⟨by simp, by show s.now < s.now + 1; omega, ?_, ?_, ?_⟩
  · exact (names_sorted hi.sorted).imp (fun h => Int.ne_of_lt h)
  · intro r hr
    obtain ⟨e, he⟩ := names_mem.1 hr
    exact ⟨e, he, (hi.rdle _ he).2⟩
  · intro p hp
    exact Or.inl (names_mem.2 ⟨p.2, hp⟩)

theorem Jd.least_le {n0 b : Int} {t : St} {rs : List Int} (j : Jd n0 b t rs) (h : rs ≠ []) : t.least ≤ n0 := by
  cases rs with
  | nil => exact absurd rfl h
  | cons r rest =>
    obtain ⟨e, he, hle⟩ := j.held r List.mem_cons_self
    have := leastOf_mem (now := t.now) he
    unfold St.least
    simp only at this
    omega
theorem freed_mem {t : St} (hi : Inv t) {x : Int} : x ∈ t.freed ↔ ∃ e, (x, e) ∈ t.wt ∧ e < t.least := by
  unfold St.freed
  rw [← (filter_old hi.order).1, names_mem]
  simp [old]
theorem free_mem {t : St} (hi : Inv t) {p : Int × Int} : p ∈ t.free.wt ↔ p ∈ t.wt ∧ ¬ p.2 < t.least := by
  unfold St.free
  rw [← (filter_old hi.order).2]
  simp [old]
theorem Jd.free_not {n0 b : Int} {t : St} {rs : List Int} (hi : Inv t) (j : Jd n0 b t rs) (h : rs ≠ []) : inB t.freed b = false ∧ Jd n0 b t.free rs := by
  have hl := j.least_le h
  constructor
  · rw [inB_false, freed_mem hi]
    rintro ⟨e, he, hlt⟩
    have := names_inj hi.nodup he j.mem
    omega
  · exact ⟨(free_mem hi).2 ⟨j.mem, by show ¬ n0 < t.least; omega⟩, j.lt, j.nodup, j.held, j.late⟩
theorem enter_now (t : St) (x : Int) : (t.enter x).now = t.now ∧ (t.enter x).wt = t.wt := by unfold St.enter; split <;> exact ⟨rfl, rfl⟩
theorem leave_now (t : St) (x : Int) : (t.leave x).now = t.now ∧ (t.leave x).wt = t.wt := by unfold St.leave; split <;> exact ⟨rfl, rfl⟩
theorem enter_mem {t : St} {x : Int} {p : Int × Int} (h : p ∈ t.rd) : p ∈ (t.enter x).rd := by
  unfold St.enter; split
  · exact h
  · exact mem_ins.2 (Or.inr h)
theorem enter_mem' {t : St} {x : Int} {p : Int × Int} (h : p ∈ (t.enter x).rd) : p ∈ t.rd ∨ p = (x, t.now) := by
  unfold St.enter at h; split at h
  · exact Or.inl h
  · rcases mem_ins.1 h with h | h
    · exact Or.inr h
    · exact Or.inl h
theorem leave_mem {t : St} {x : Int} {p : Int × Int} : p ∈ (t.leave x).rd ↔ p ∈ t.rd ∧ p.1 ≠ x := by
  unfold St.leave
  cases hh : has t.rd x
  · simp only [Bool.false_eq_true, if_false]
    exact ⟨fun h => ⟨h, has_false hh p h⟩, fun h => h.1⟩
  · simp [out]
theorem Jd.enter {n0 b x : Int} {t : St} {rs : List Int} (j : Jd n0 b t rs) : Jd n0 b (t.enter x) rs := by
  obtain ⟨e1, e2⟩ := enter_now t x
  refine ⟨by rw [e2]; exact j.mem, by rw [e1]; exact j.lt, j.nodup, ?_, ?_⟩
  · intro r hr
    obtain ⟨e, he, hle⟩ := j.held r hr
    exact ⟨e, enter_mem he, hle⟩
  · intro p hp
    rcases enter_mem' hp with h | h
    · exact j.late p h
    · right; rw [h]; exact j.lt
theorem Jd.leave {n0 b x : Int} {t : St} {rs : List Int} (j : Jd n0 b t rs) (hx : x ∉ rs) : Jd n0 b (t.leave x) rs := by
  obtain ⟨e1, e2⟩ := leave_now t x
  refine ⟨by rw [e2]; exact j.mem, by rw [e1]; exact j.lt, j.nodup, ?_, ?_⟩
  · intro r hr
    obtain ⟨e, he, hle⟩ := j.held r hr
    exact ⟨e, leave_mem.2 ⟨he, fun h => hx (by rw [← h]; exact hr)⟩, hle⟩
  · intro p hp
    exact j.late p (leave_mem.1 hp).1
theorem split_at {rs : List Int} {k : Nat} (hk : k < rs.length) : rs = rs.take k ++ nthI rs k :: rs.drop (k + 1) := by
  have e : rs.drop k = rs[k] :: rs.drop (k + 1) := List.drop_eq_getElem_cons hk
  have en : nthI rs k = rs[k] := by unfold nthI; simp [hk]
  rw [en, ← e, List.take_append_drop]
theorem Jd.leave_at {n0 b : Int} {t : St} {rs : List Int} (j : Jd n0 b t rs) {k : Nat} (hk : k < rs.length) : t.leaveErr (nthI rs k) = 0 ∧ Jd n0 b (t.leave (nthI rs k)) (rs.take k ++ rs.drop (k + 1)) := by
  obtain ⟨e, he, hle⟩ := j.held _ (nthI_mem hk)
  have hh : has t.rd (nthI rs k) = true := has_iff.2 ⟨e, he⟩
  have hs := split_at hk
  have hn := j.nodup
  rw [hs, List.nodup_append, List.nodup_cons] at hn
  obtain ⟨n1, ⟨n2, n3⟩, n4⟩ := hn
  refine ⟨by simp [St.leaveErr, hh], ?_⟩
  obtain ⟨e1, e2⟩ := leave_now t (nthI rs k)
  have hnot : nthI rs k ∉ rs.take k ++ rs.drop (k + 1) := by
    rw [List.mem_append]
    rintro (h | h)
    · exact n4 _ h _ List.mem_cons_self rfl
    · exact n2 h
  have hsub : ∀ r, r ∈ rs ↔ r ∈ rs.take k ++ rs.drop (k + 1) ∨ r = nthI rs k := by
    intro r
    conv => lhs; rw [hs]
    simp only [List.mem_append, List.mem_cons]
    constructor
    · rintro (h | h | h)
      · exact Or.inl (Or.inl h)
      · exact Or.inr h
      · exact Or.inl (Or.inr h)
    · rintro ((h | h) | h)
      · exact Or.inl h
      · exact Or.inr (Or.inr h)
      · exact Or.inr (Or.inl h)
  refine ⟨by rw [e2]; exact j.mem, by rw [e1]; exact j.lt, ?_, ?_, ?_⟩
  · rw [List.nodup_append]
    exact ⟨n1, n3, fun a ha c hc => n4 a ha c (List.mem_cons_of_mem _ hc)⟩
  · intro r hr
    obtain ⟨f, hf, hle⟩ := j.held r ((hsub r).2 (Or.inl hr))
    exact ⟨f, leave_mem.2 ⟨hf, fun h => hnot (by rw [← h]; exact hr)⟩, hle⟩
  · intro p hp
    obtain ⟨h1, h2⟩ := leave_mem.1 hp
    rcases j.late p h1 with h | h
    · rcases (hsub _).1 h with h | h
      · exact Or.inl h
      · exact absurd h h2
    · exact Or.inr h
theorem Jd.done {n0 b : Int} {t : St} (hi : Inv t) (j : Jd n0 b t []) : inB t.freed b = true ∧ inB t.free.freed b = false := by
  have hl : n0 < t.least := by
    have : n0 + 1 ≤ t.least := leastOf_ge (by have := j.lt; omega) (fun p hp => by rcases j.late p hp with h | h; exact absurd h (by simp); omega)
    omega
  constructor
  · rw [inB_iff, freed_mem hi]
    exact ⟨n0, j.mem, hl⟩
  · rw [inB_false, freed_mem hi.free]
    rintro ⟨e, he, _⟩
    obtain ⟨h1, h2⟩ := (free_mem hi).1 he
    have := names_inj hi.nodup h1 j.mem
    simp only at h2
    omega

/-- The first k of a slice, and what follows them. -/
theorem Rd.taken {w : World} {b off n cap : Nat} {bs : List Int} (h : Rd w (.slice (some ⟨b, off, none⟩) n cap) bs) {k : Nat} (hk : k < bs.length) : Rd w (.slice (some ⟨b, off, none⟩) k cap) (bs.take k) := by
  rcases h with ⟨a, c, h1, rfl⟩ | ⟨b', off', c, h1, h2, h3, h4, h5, h6⟩
  · simp at hk
  · simp only [Value.slice.injEq, Option.some.injEq, Addr.mk.injEq, and_true] at h1
    obtain ⟨⟨rfl, rfl⟩, rfl, rfl⟩ := h1
    by_cases h0 : k = 0
    · subst h0; exact Or.inl ⟨_, _, rfl, rfl⟩
    · have hl : (bs.take k).length = k := by simp; omega
      refine Or.inr ⟨b, off, cap, by rw [hl], by omega, by omega, h4, h5, fun j hj => ?_⟩
      rw [h6 j (by omega)]
      unfold nthI
      rw [List.getD_eq_getElem?_getD, List.getD_eq_getElem?_getD, List.getElem?_take_of_lt (by omega)]
theorem Rd.dropped {w : World} {b off n cap : Nat} {bs : List Int} (h : Rd w (.slice (some ⟨b, off, none⟩) n cap) bs) {k : Nat} (hk : k < bs.length) : Rd w (.slice (some ⟨b, off + k, none⟩) (n - k) (cap - k)) (bs.drop k) := by
  rcases h with ⟨a, c, h1, rfl⟩ | ⟨b', off', c, h1, h2, h3, h4, h5, h6⟩
  · simp at hk
  · simp only [Value.slice.injEq, Option.some.injEq, Addr.mk.injEq, and_true] at h1
    obtain ⟨⟨rfl, rfl⟩, rfl, rfl⟩ := h1
    have hl : (bs.drop k).length = bs.length - k := by simp
    refine Or.inr ⟨b, off + k, cap - k, by rw [hl], by omega, by omega, by omega, h5, fun j hj => ?_⟩
    rw [Nat.add_assoc, h6 (k + j) (by omega)]
    unfold nthI
    rw [List.getD_eq_getElem?_getD, List.getD_eq_getElem?_getD, List.getElem?_drop]
theorem Rd.zero {w : World} {ao : Option Addr} {n cap : Nat} (h : n = 0) : Rd w (.slice ao n cap) [] := Or.inl ⟨ao, cap, by rw [h], rfl⟩
/-- An empty slice of the call's own. -/
theorem Row.empty {w0 w : World} {B : Nat} {s : St} {F : Nat → Prop} {c : Nat} (h : Own w0 w B s F c) : Row w0 (w.alloc (.cells #[] 3)) F (.slice (some ⟨w.heap.size, 0, none⟩) 0 0) [] := by
  refine ⟨⟨rfl, Or.inr ⟨w.heap.size, 0, #[], rfl, h.below.size, heap_alloc_new _ _, Nat.le_refl _, by unfold maxLen; omega, by simp, rfl⟩⟩, fun k hk hf => ?_⟩
  cases hk
  exact Nat.lt_irrefl _ (h.obj.lt _ hf)
theorem Apart.empty {w0 w : World} {F : Nat → Prop} {v : Value} {xs : List Int} (h : Row w0 w F v xs) : Apart (.slice (some ⟨w.heap.size, 0, none⟩) 0 0) v := fun k hk hv => by
  cases hk
  exact Nat.lt_irrefl _ (h.lt hv)

end Go.Proofs.Ytphmfmfbneoljaa.Ep
