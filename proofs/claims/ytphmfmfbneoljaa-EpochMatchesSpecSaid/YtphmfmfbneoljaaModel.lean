/- The plain model of package epoch: readers with the epoch in which they entered (ascending by name), waiting blocks with the epoch in which they were retired, the current epoch; and what the statements of layer 17 ask of it. No program in sight. -/
import Derived.WalkKit
namespace Go.Proofs.Ytphmfmfbneoljaa.Ep
open Go

structure St where
  rd : List (Int × Int)
  wt : List (Int × Int)
  now : Int

def names (l : List (Int × Int)) : List Int := l.map (·.1)
def has (l : List (Int × Int)) (k : Int) : Bool := l.any (fun p => p.1 == k)
def ins (k e : Int) : List (Int × Int) → List (Int × Int)
  | [] => [(k, e)]
  | y :: r => if k < y.1 then (k, e) :: y :: r else y :: ins k e r
def out (k : Int) (l : List (Int × Int)) : List (Int × Int) := l.filter (fun p => !(p.1 == k))
def leastOf (now : Int) : List (Int × Int) → Int
  | [] => now
  | y :: r => min y.2 (leastOf now r)
/-- None of the blocks waits, and none stands twice among them. -/
def fresh (wt : List Int) : List Int → Bool
  | [] => true
  | b :: r => !wt.contains b && fresh (wt ++ [b]) r

def St.new : St := ⟨[], [], 1⟩
def St.enterErr (s : St) (k : Int) : Int := if has s.rd k then 6 else 0
def St.enter (s : St) (k : Int) : St := if has s.rd k then s else { s with rd := ins k s.now s.rd }
def St.leaveErr (s : St) (k : Int) : Int := if has s.rd k then 0 else 5
def St.leave (s : St) (k : Int) : St := if has s.rd k then { s with rd := out k s.rd } else s
def St.retireErr (s : St) (bs : List Int) : Int := if fresh (names s.wt) bs then 0 else 6
def St.retire (s : St) (bs : List Int) : St := if fresh (names s.wt) bs then { s with wt := s.wt ++ bs.map (fun b => (b, s.now)), now := s.now + 1 } else s
def St.least (s : St) : Int := leastOf s.now s.rd
def old (least : Int) (p : Int × Int) : Bool := decide (p.2 < least)
def St.freed (s : St) : List Int := names (s.wt.takeWhile (old s.least))
def St.free (s : St) : St := { s with wt := s.wt.dropWhile (old s.least) }

/-- What holds of every state that calls lead to. -/
structure Inv (s : St) : Prop where
  sorted : s.rd.Pairwise (fun a b => a.1 < b.1)
  rdle : ∀ p ∈ s.rd, 1 ≤ p.2 ∧ p.2 ≤ s.now
  nodup : (names s.wt).Nodup
  order : s.wt.Pairwise (fun a b => a.2 ≤ b.2)
  wtlt : ∀ p ∈ s.wt, 1 ≤ p.2 ∧ p.2 < s.now
  now1 : 1 ≤ s.now

theorem Inv.new : Inv St.new := ⟨by simp [St.new], by simp [St.new], by simp [St.new, names], by simp [St.new], by simp [St.new], by simp [St.new]⟩

theorem mem_ins {k e : Int} {l : List (Int × Int)} {p : Int × Int} : p ∈ ins k e l ↔ p = (k, e) ∨ p ∈ l := by
  induction l with
  | nil => simp [ins]
  | cons y r ih =>
    unfold ins
    split
    · simp
    · simp only [List.mem_cons, ih]; exact or_left_comm
theorem ins_length (k e : Int) (l : List (Int × Int)) : (ins k e l).length = l.length + 1 := by
  induction l with
  | nil => rfl
  | cons y r ih =>
    unfold ins
    split
    · simp
    · simp [ih]
theorem has_iff {l : List (Int × Int)} {k : Int} : has l k = true ↔ ∃ e, (k, e) ∈ l := by
  unfold has
  simp only [List.any_eq_true, beq_iff_eq]
  constructor
  · rintro ⟨⟨a, b⟩, h, rfl⟩; exact ⟨b, h⟩
  · rintro ⟨e, h⟩; exact ⟨_, h, rfl⟩
theorem has_false {l : List (Int × Int)} {k : Int} (h : has l k = false) : ∀ p ∈ l, p.1 ≠ k := by
  intro p hp e
  have : has l k = true := has_iff.2 ⟨p.2, by rw [← e]; exact hp⟩
  rw [this] at h; cases h
theorem has_names {l : List (Int × Int)} {k : Int} : has l k = (names l).contains k := by
  rw [Bool.eq_iff_iff, List.contains_iff_mem]
  unfold names
  rw [has_iff]
  simp
theorem ins_sorted {k e : Int} {l : List (Int × Int)} (h : l.Pairwise (fun a b => a.1 < b.1)) (hk : ∀ p ∈ l, p.1 ≠ k) : (ins k e l).Pairwise (fun a b => a.1 < b.1) := by
  induction l with
  | nil => simp [ins]
  | cons y r ih =>
    rw [List.pairwise_cons] at h
    unfold ins
    split
    · rename_i hlt
      rw [List.pairwise_cons]
      refine ⟨?_, List.pairwise_cons.2 h⟩
      intro p hp
      rcases List.mem_cons.1 hp with rfl | hp
      · exact hlt
      · have := h.1 p hp; show k < p.1; omega
    · rename_i hlt
      rw [List.pairwise_cons]
      refine ⟨?_, ih h.2 (fun p hp => hk p (List.mem_cons_of_mem _ hp))⟩
      intro p hp
      rcases mem_ins.1 hp with rfl | hp
      · have := hk y (List.mem_cons_self); show y.1 < k; omega
      · exact h.1 p hp

theorem leastOf_le (now : Int) (l : List (Int × Int)) : leastOf now l ≤ now := by
  induction l with
  | nil => exact Int.le_refl _
  | cons y r ih => unfold leastOf; omega
theorem leastOf_mem {now : Int} {l : List (Int × Int)} {p : Int × Int} (h : p ∈ l) : leastOf now l ≤ p.2 := by
  induction l with
  | nil => cases h
  | cons y r ih =>
    unfold leastOf
    rcases List.mem_cons.1 h with rfl | h
    · omega
    · have := ih h; omega
theorem leastOf_ge {now m : Int} {l : List (Int × Int)} (h0 : m ≤ now) (h : ∀ p ∈ l, m ≤ p.2) : m ≤ leastOf now l := by
  induction l with
  | nil => exact h0
  | cons y r ih =>
    unfold leastOf
    have h1 := h y (List.mem_cons_self)
    have h2 := ih (fun p hp => h p (List.mem_cons_of_mem _ hp))
    omega

/-- fresh: no repetition, and nothing that waits. -/
theorem fresh_iff {wt bs : List Int} : fresh wt bs = true ↔ bs.Nodup ∧ ∀ b ∈ bs, b ∉ wt := by
  induction bs generalizing wt with
  | nil => simp [fresh]
  | cons b r ih =>
    unfold fresh
    simp only [Bool.and_eq_true, Bool.not_eq_true', ih, List.nodup_cons, List.mem_cons, List.mem_append, List.mem_singleton, not_or]
    rw [← Bool.not_eq_true, List.contains_iff_mem]
    constructor
    · rintro ⟨h1, h2, h3⟩
      refine ⟨⟨fun hb => (h3 b hb).2.1 rfl, h2⟩, fun c hc => ?_⟩
      rcases hc with rfl | hc
      · exact h1
      · exact (h3 c hc).1
    · rintro ⟨⟨h1, h2⟩, h3⟩
      exact ⟨h3 b (Or.inl rfl), h2, fun c hc => ⟨h3 c (Or.inr hc), fun e => h1 (e ▸ hc), by simp⟩⟩

theorem Inv.enter {s : St} (h : Inv s) (k : Int) : Inv (s.enter k) := by
  unfold St.enter
  split
  · exact h
  · rename_i hk
    simp only [Bool.not_eq_true] at hk
    refine ⟨ins_sorted h.sorted (has_false hk), ?_, h.nodup, h.order, h.wtlt, h.now1⟩
    intro p hp
    rcases mem_ins.1 hp with rfl | hp
    · exact ⟨h.now1, Int.le_refl _⟩
    · exact h.rdle p hp
theorem Inv.leave {s : St} (h : Inv s) (k : Int) : Inv (s.leave k) := by
  unfold St.leave
  split
  · refine ⟨h.sorted.filter _, ?_, h.nodup, h.order, h.wtlt, h.now1⟩
    intro p hp
    exact h.rdle p (List.mem_filter.1 hp).1
  · exact h
theorem names_stamp (bs : List Int) (e : Int) : names (bs.map (fun b => (b, e))) = bs := by
  unfold names; rw [List.map_map]; exact List.map_id _
theorem names_append (a b : List (Int × Int)) : names (a ++ b) = names a ++ names b := List.map_append
theorem Inv.retire {s : St} (h : Inv s) (bs : List Int) : Inv (s.retire bs) := by
  unfold St.retire
  split
  · rename_i hf
    obtain ⟨f1, f2⟩ := fresh_iff.1 hf
    have n1 := h.now1
    refine ⟨h.sorted, ?_, ?_, ?_, ?_, by show 1 ≤ s.now + 1; omega⟩
    · intro p hp
      have := h.rdle p hp
      exact ⟨this.1, by show p.2 ≤ s.now + 1; omega⟩
    · show (names (s.wt ++ _)).Nodup
      rw [names_append, names_stamp, List.nodup_append]
      exact ⟨h.nodup, f1, fun a ha b hb e => f2 b hb (e ▸ ha)⟩
    · show (s.wt ++ _).Pairwise _
      rw [List.pairwise_append]
      refine ⟨h.order, ?_, ?_⟩
      · rw [List.pairwise_map]; exact List.pairwise_of_forall (fun _ _ => Int.le_refl _)
      · intro a ha b hb
        obtain ⟨c, _, rfl⟩ := List.mem_map.1 hb
        have := h.wtlt a ha
        show a.2 ≤ s.now; omega
    · intro p hp
      rcases List.mem_append.1 hp with hp | hp
      · have := h.wtlt p hp
        exact ⟨this.1, by show p.2 < s.now + 1; omega⟩
      · obtain ⟨c, _, rfl⟩ := List.mem_map.1 hp
        exact ⟨n1, by show s.now < s.now + 1; omega⟩
  · exact h
theorem dropWhile_sub {p : Int × Int → Bool} {l : List (Int × Int)} : (l.dropWhile p).Sublist l := List.dropWhile_sublist p
theorem Inv.free {s : St} (h : Inv s) : Inv s.free := by
  have hs : (s.wt.dropWhile (old s.least)).Sublist s.wt := dropWhile_sub
  exact ⟨h.sorted, h.rdle, h.nodup.sublist (hs.map _), h.order.sublist hs, fun p hp => h.wtlt p (hs.mem hp), h.now1⟩

/-- What Free takes off, and what it leaves: by the order of the epochs, the old ones come first. -/
theorem filter_old {m : Int} {l : List (Int × Int)} (h : l.Pairwise (fun a b => a.2 ≤ b.2)) : l.filter (old m) = l.takeWhile (old m) ∧ l.filter (fun p => !old m p) = l.dropWhile (old m) := by
  induction l with
  | nil => simp
  | cons y r ih =>
    rw [List.pairwise_cons] at h
    obtain ⟨i1, i2⟩ := ih h.2
    by_cases hy : old m y = true
    · rw [List.takeWhile_cons_of_pos hy, List.dropWhile_cons_of_pos hy, List.filter_cons_of_pos hy, List.filter_cons_of_neg (by simp [hy]), i1, i2]
      exact ⟨rfl, rfl⟩
    · have hr : ∀ p ∈ r, old m p = false := by
        intro p hp
        have h1 := h.1 p hp
        simp only [old, decide_eq_true_eq] at hy
        simp only [old, decide_eq_false_iff_not]
        omega
      rw [List.takeWhile_cons_of_neg hy, List.dropWhile_cons_of_neg hy, List.filter_cons_of_neg hy, List.filter_cons_of_pos (by simpa using hy)]
      refine ⟨List.filter_eq_nil_iff.2 (fun p hp => by rw [hr p hp]; decide), ?_⟩
      rw [List.filter_eq_self.2 (fun p hp => by rw [hr p hp]; rfl)]

end Go.Proofs.Ytphmfmfbneoljaa.Ep
