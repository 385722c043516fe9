/- Plain facts on the lines of entries: sorting and striking repetitions leads to what the merged entries' lines are without repetitions. No program in sight. -/
import Derived.Test.YtcngblnkfiggjaaDoorPlain
import Derived.Lib.SlicesCompact
namespace Go.Proofs.YtcngblnkfiggjaaDoor.Rm
open Go

theorem snoc_ind {P : List Int → Prop} (h0 : P []) (h1 : ∀ l q, P l → P (l ++ [q])) (l : List Int) : P l := by
  have : ∀ m : List Int, P m.reverse := by
    intro m
    induction m with
    | nil => exact h0
    | cons y r ih => rw [List.reverse_cons]; exact h1 _ _ ih
  have h := this l.reverse
  rwa [List.reverse_reverse] at h
/-- One number more, unless it is the last. -/
def runStep (o : List Int) (q : Int) : List Int := if o.getLast? = some q then o else o ++ [q]
def runs (l : List Int) : List Int := l.foldl runStep []
theorem runs_snoc (l : List Int) (q : Int) : runs (l ++ [q]) = runStep (runs l) q := by unfold runs; rw [List.foldl_append]; rfl
theorem runs_last (l : List Int) : (runs l).getLast? = l.getLast? := by
  induction l using snoc_ind with
  | h0 => rfl
  | h1 l q ih =>
    rw [runs_snoc]
    unfold runStep
    split
    · rename_i h; rw [h]; simp
    · simp
theorem runs_mem {l : List Int} {x : Int} : x ∈ runs l ↔ x ∈ l := by
  induction l using snoc_ind with
  | h0 => simp [runs]
  | h1 l q ih =>
    rw [runs_snoc]
    unfold runStep
    split
    · rename_i h
      have hq : q ∈ runs l := List.mem_of_getLast? h
      rw [ih, List.mem_append, List.mem_singleton]
      constructor
      · exact Or.inl
      · rintro (h1 | h1)
        · exact h1
        · exact ih.1 (by rw [h1]; exact hq)
    · rw [List.mem_append, List.mem_append, ih]
theorem runs_strict {l : List Int} (h : l.Pairwise (fun a b => a ≤ b)) : (runs l).Pairwise (fun a b => a < b) := by
  induction l using snoc_ind with
  | h0 => simp [runs]
  | h1 l q ih =>
    rw [List.pairwise_append] at h
    have i := ih h.1
    rw [runs_snoc]
    unfold runStep
    split
    · exact i
    · rename_i hn
      rw [List.pairwise_append]
      refine ⟨i, by simp, fun a ha b hb => ?_⟩
      rw [List.mem_singleton] at hb
      subst hb
      have hle := h.2.2 a (runs_mem.1 ha) b (by simp)
      by_cases e : a = b
      · exfalso
        subst e
        -- a is the last of runs l
        obtain ⟨r, m, hm⟩ : ∃ r m, runs l = r ++ [m] := by
          cases hr : (runs l).reverse with
          | nil => rw [List.reverse_eq_nil_iff] at hr; rw [hr] at ha; cases ha
          | cons m r => exact ⟨r.reverse, m, by have := congrArg List.reverse hr; simpa using this⟩
        rw [hm] at ha hn i
        have hmm : m ≤ a := h.2.2 m (runs_mem.1 (by rw [hm]; simp)) a (by simp)
        rcases List.mem_append.1 ha with h1 | h1
        · have := (List.pairwise_append.1 i).2.2 a h1 m (by simp)
          omega
        · rw [List.mem_singleton] at h1
          exact hn (by rw [h1]; simp)
      · omega
theorem strict_ext {a b : List Int} (ha : a.Pairwise (fun x y => x < y)) (hb : b.Pairwise (fun x y => x < y)) (h : ∀ x, x ∈ a ↔ x ∈ b) : a = b := by
  induction a generalizing b with
  | nil =>
    cases b with
    | nil => rfl
    | cons y t => exact absurd ((h y).2 List.mem_cons_self) (by simp)
  | cons x r ih =>
    cases b with
    | nil => exact absurd ((h x).1 List.mem_cons_self) (by simp)
    | cons y t =>
      rw [List.pairwise_cons] at ha hb
      have e : x = y := by
        rcases List.mem_cons.1 ((h x).1 List.mem_cons_self) with h1 | h1
        · exact h1
        · rcases List.mem_cons.1 ((h y).2 List.mem_cons_self) with h2 | h2
          · exact h2.symm
          · have := hb.1 x h1; have := ha.1 y h2; omega
      subst e
      rw [ih ha.2 hb.2 (fun z => ?_)]
      constructor
      · intro hz
        rcases List.mem_cons.1 ((h z).1 (List.mem_cons_of_mem _ hz)) with h1 | h1
        · have := ha.1 z hz; omega
        · exact h1
      · intro hz
        rcases List.mem_cons.1 ((h z).2 (List.mem_cons_of_mem _ hz)) with h1 | h1
        · have := hb.1 z hz; omega
        · exact h1
theorem names_addE {l : List (Int × Int)} {p : Int × Int} {x : Int} : x ∈ names (addE l p) ↔ x = p.1 ∨ x ∈ names l := by
  unfold names addE
  simp only [List.mem_map, Prod.exists, exists_and_right, exists_eq_right]
  constructor
  · rintro ⟨e, he⟩
    rcases mem_ins.1 he with h | h
    · exact Or.inl (Prod.mk.inj h).1
    · exact Or.inr ⟨e, (List.mem_filter.1 h).1⟩
  · intro h
    by_cases hx : x = p.1
    · subst hx; exact ⟨p.2, mem_ins.2 (Or.inl rfl)⟩
    · rcases h with h | ⟨e, he⟩
      · exact absurd h hx
      · exact ⟨e, mem_ins.2 (Or.inr (List.mem_filter.2 ⟨he, by simpa using hx⟩))⟩
theorem names_mergeE {l : List (Int × Int)} {x : Int} : x ∈ names (mergeE l) ↔ x ∈ names l := by
  have : ∀ m : List (Int × Int), x ∈ names (l.foldl addE m) ↔ x ∈ names m ∨ x ∈ names l := by
    induction l with
    | nil => intro m; simp [names]
    | cons y r ih =>
      intro m
      rw [List.foldl_cons, ih, names_addE]
      unfold names
      simp only [List.map_cons, List.mem_cons]
      constructor
      · rintro ((h | h) | h)
        · exact Or.inr (Or.inl h)
        · exact Or.inl h
        · exact Or.inr (Or.inr h)
      · rintro (h | h | h)
        · exact Or.inl (Or.inr h)
        · exact Or.inl (Or.inl h)
        · exact Or.inr h
  have h0 := this []
  simpa [names, mergeE] using h0

theorem compact_runs (zs : List Int) : Lib.compact zs = runs zs := by
  have : ∀ m, m ≤ zs.length → Lib.compactUpTo zs.toArray m = runs (zs.take m) := by
    intro m
    induction m with
    | zero => intro _; rfl
    | succ m ih =>
      intro hm
      have e : zs.take (m + 1) = zs.take m ++ [nthI zs m] := take_snoc (by omega)
      have ed : zs.toArray[m]! = nthI zs m := by
        rw [getElem!_pos _ _ (by simpa using (by omega : m < zs.length))]
        unfold nthI
        simp [(by omega : m < zs.length)]
      rw [Lib.compactUpTo_succ, ih (by omega), e, runs_snoc, ed]
      unfold runStep
      rw [runs_last]
      cases m with
      | zero =>
        have : Lib.keeps zs.toArray 0 = true := Lib.keeps_lt_one _ 0 (by omega)
        simp [this]
      | succ n =>
        have e2 : zs.take (n + 1) = zs.take n ++ [nthI zs n] := take_snoc (by omega)
        have ed2 : zs.toArray[n]! = nthI zs n := by
          rw [getElem!_pos _ _ (by simpa using (by omega : n < zs.length))]
          unfold nthI
          simp [(by omega : n < zs.length)]
        rw [e2]
        by_cases h : nthI zs n = nthI zs (n + 1)
        · have hk : Lib.keeps zs.toArray (n + 1) = false := Lib.keeps_neg (by omega) (by rw [ed]; show _ = zs.toArray[n]!; rw [ed2, h])
          simp [hk, h]
        · have hk : Lib.keeps zs.toArray (n + 1) = true := Lib.keeps_pos (by rw [ed]; show _ ≠ zs.toArray[n]!; rw [ed2]; exact fun e => h e.symm)
          simp [hk, h]
  have h := this zs.length (Nat.le_refl _)
  rw [List.take_length] at h
  exact h
def lineOf (x : Int) : Int := x.tdiv 8
def linesE (l : List (Int × Int)) : List Int := runs ((names (mergeE l)).map lineOf)
theorem lineOf_le {a b : Int} (h0 : 0 ≤ a) (h : a ≤ b) : lineOf a ≤ lineOf b := by
  unfold lineOf
  rw [Int.tdiv_eq_ediv_of_nonneg h0, Int.tdiv_eq_ediv_of_nonneg (by omega)]
  omega
theorem lines_eq {l : List (Int × Int)} {s : List Int} (h0 : ∀ p ∈ l, 0 ≤ p.1) (hs : s.Pairwise (fun a b => a ≤ b)) (hp : s.Perm ((names l).map lineOf)) : runs s = linesE l := by
  have hn : ∀ x ∈ names (mergeE l), 0 ≤ x := fun x hx => by
    have := names_mergeE.1 hx
    unfold names at this
    obtain ⟨p, hp', rfl⟩ := List.mem_map.1 this
    exact h0 p hp'
  have hasc : (names (mergeE l)).Pairwise (fun a b => a < b) := names_sorted (mergeE_asc l)
  have hm : ((names (mergeE l)).map lineOf).Pairwise (fun a b => a ≤ b) := by
    rw [List.pairwise_map]
    exact hasc.imp_of_mem (fun ha hb h => lineOf_le (hn _ ha) (by omega))
  apply strict_ext (runs_strict hs) (runs_strict hm)
  intro x
  rw [runs_mem, runs_mem, hp.mem_iff]
  simp only [List.mem_map]
  constructor
  · rintro ⟨a, ha, rfl⟩; exact ⟨a, names_mergeE.2 ha, rfl⟩
  · rintro ⟨a, ha, rfl⟩; exact ⟨a, names_mergeE.1 ha, rfl⟩

end Go.Proofs.YtcngblnkfiggjaaDoor.Rm
