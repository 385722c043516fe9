/- Plain facts on entries (an address and a value each): merging. No program in sight. -/
import Derived.Test.YtcngblnkfiggjaaDoorBase
namespace Go.Proofs.YtcngblnkfiggjaaDoor.Rm
open Go Go.RowKit Go.Maps

/-- One entry more: at its address it is the last. -/
def addE (l : List (Int × Int)) (x : Int × Int) : List (Int × Int) := ins x.1 x.2 (out x.1 l)
def mergeE (l : List (Int × Int)) : List (Int × Int) := l.foldl addE []
def Asc (l : List (Int × Int)) : Prop := l.Pairwise (fun a b => a.1 < b.1)
theorem out_asc {l : List (Int × Int)} (h : Asc l) (k : Int) : Asc (out k l) := h.filter _
theorem out_ne {l : List (Int × Int)} {k : Int} : ∀ p ∈ out k l, p.1 ≠ k := fun p hp => by
  have := (List.mem_filter.1 hp).2
  simpa using this
theorem addE_asc {l : List (Int × Int)} (h : Asc l) (x : Int × Int) : Asc (addE l x) := ins_sorted (out_asc h _) out_ne
theorem foldl_asc {l m : List (Int × Int)} (h : Asc m) : Asc (l.foldl addE m) := by
  induction l generalizing m with
  | nil => exact h
  | cons y r ih => exact ih (addE_asc h y)
theorem mergeE_asc (l : List (Int × Int)) : Asc (mergeE l) := foldl_asc List.Pairwise.nil
theorem mergeE_succ {l : List (Int × Int)} {k : Nat} (h : k < l.length) : mergeE (l.take (k + 1)) = addE (mergeE (l.take k)) (nth l k) := by
  unfold mergeE
  rw [List.take_add_one, nth_getElem h, List.foldl_append]
  rfl
theorem put_mapD_any (l : List (Int × Int)) (k e : Int) : (mapD l).put (.int .i64 k) (.lit (.int .i64 e)) = mapD (addE l (k, e)) := by
  have hf : (l.map fun p => ((Lit.int .i64 p.1, DataW.lit (Lit.int .i64 p.2)) : Lit × DataW Unit)).filter (fun p => !p.1.sameKey (.int .i64 k)) = (out k l).map fun p => (Lit.int .i64 p.1, DataW.lit (Lit.int .i64 p.2)) := by
    unfold out
    rw [List.filter_map]
    congr 2
    funext p
    rw [Bool.eq_iff_iff]
    simp [Lit.sameKey]
  unfold mapD DataW.put addE
  simp only
  rw [hf]
  congr 1
  generalize out k l = m
  induction m with
  | nil => rfl
  | cons y r ih =>
    simp only [List.map_cons, DataW.insert, ins, Lit.before]
    by_cases hlt : k < y.1
    · simp [hlt]
    · simp [hlt, ih]
theorem addE_length (l : List (Int × Int)) (x : Int × Int) : (addE l x).length ≤ l.length + 1 := by
  unfold addE
  rw [ins_length]
  have : (out x.1 l).length ≤ l.length := List.length_filter_le _ _
  omega
theorem mergeE_length (l : List (Int × Int)) : (mergeE l).length ≤ l.length := by
  have : ∀ m : List (Int × Int), (l.foldl addE m).length ≤ m.length + l.length := by
    induction l with
    | nil => intro m; simp
    | cons y r ih =>
      intro m
      have h1 := ih (addE m y)
      have h2 := addE_length m y
      simp only [List.foldl_cons, List.length_cons]
      omega
  unfold mergeE
  simpa using this []

/-- The specification's round: what has been gathered, and whether the new entry is among it. -/
def stepW (x : Int × Int) (st : List (Int × Int) × Bool) (y : Int × Int) : List (Int × Int) × Bool :=
  let a := if !st.2 && decide (x.1 ≤ y.1) then (st.1 ++ [x], true) else st
  if y.1 = x.1 then a else (a.1 ++ [y], a.2)
def withE (l : List (Int × Int)) (x : Int × Int) : List (Int × Int) :=
  let r := l.foldl (stepW x) ([], false)
  if r.2 then r.1 else r.1 ++ [x]
theorem stepW_done {x : Int × Int} {l m : List (Int × Int)} : l.foldl (stepW x) (m, true) = (m ++ out x.1 l, true) := by
  induction l generalizing m with
  | nil => simp [out]
  | cons y r ih =>
    rw [List.foldl_cons]
    by_cases h : y.1 = x.1
    · have e : stepW x (m, true) y = (m, true) := by simp [stepW, h]
      rw [e, ih]
      simp [out, h]
    · have e : stepW x (m, true) y = (m ++ [y], true) := by simp [stepW, h]
      rw [e, ih]
      have e2 : out x.1 (y :: r) = y :: out x.1 r := by unfold out; rw [List.filter_cons_of_pos (by simpa using h)]
      rw [e2, List.append_assoc]
      rfl
theorem ins_below {k e : Int} {l : List (Int × Int)} (h : ∀ p ∈ l, k < p.1) : ins k e l = (k, e) :: l := by
  cases l with
  | nil => rfl
  | cons y r => simp [ins, h y List.mem_cons_self]
theorem stepW_asc {x : Int × Int} {l m : List (Int × Int)} (h : Asc l) : (if (l.foldl (stepW x) (m, false)).2 then (l.foldl (stepW x) (m, false)).1 else (l.foldl (stepW x) (m, false)).1 ++ [x]) = m ++ addE l x := by
  induction l generalizing m with
  | nil => rfl
  | cons y r ih =>
    have hp := List.pairwise_cons.1 h
    rw [List.foldl_cons]
    by_cases hy : x.1 ≤ y.1
    · have hr : out x.1 r = r := List.filter_eq_self.2 (fun p hp' => by have := hp.1 p hp'; simp; omega)
      by_cases he : y.1 = x.1
      · have e : stepW x (m, false) y = (m ++ [x], true) := by simp [stepW, he]
        rw [e, stepW_done]
        have e2 : out x.1 (y :: r) = r := by
          have : out x.1 (y :: r) = out x.1 r := by unfold out; rw [List.filter_cons_of_neg (by simp [he])]
          rw [this, hr]
        simp only [if_true]
        unfold addE
        rw [e2, ins_below (fun p hp' => by have := hp.1 p hp'; omega), hr, List.append_assoc]
        rfl
      · have e : stepW x (m, false) y = (m ++ [x] ++ [y], true) := by simp [stepW, he, hy]
        rw [e, stepW_done]
        have e2 : out x.1 (y :: r) = y :: r := by
          have : out x.1 (y :: r) = y :: out x.1 r := by unfold out; rw [List.filter_cons_of_pos (by simpa using he)]
          rw [this, hr]
        simp only [if_true]
        unfold addE
        rw [e2, ins_below (fun p hp' => by
          rcases List.mem_cons.1 hp' with h' | h'
          · rw [h']; omega
          · have := hp.1 p h'; omega), hr]
        simp
    · have he : y.1 ≠ x.1 := by omega
      have e : stepW x (m, false) y = (m ++ [y], false) := by simp [stepW, he, hy]
      rw [e, ih hp.2]
      have e2 : addE (y :: r) x = y :: addE r x := by
        unfold addE
        have : out x.1 (y :: r) = y :: out x.1 r := by unfold out; rw [List.filter_cons_of_pos (by simpa using he)]
        rw [this]
        show (if x.1 < y.1 then _ else _) = _
        rw [if_neg (by omega)]
      rw [e2]
      simp
theorem withE_asc {l : List (Int × Int)} (h : Asc l) (x : Int × Int) : withE l x = addE l x := by
  have := stepW_asc (x := x) (m := []) h
  simpa [withE] using this

end Go.Proofs.YtcngblnkfiggjaaDoor.Rm
