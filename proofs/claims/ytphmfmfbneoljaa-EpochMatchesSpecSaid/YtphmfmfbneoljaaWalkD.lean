/- Contract of Readers of package epoch: a new slice with the names of the active readers, ascending; nothing that was there changes. -/
import Derived.Test.YtphmfmfbneoljaaWalkC
import Derived.Test.YtphmfmfbneoljaaShelf
namespace Go.Proofs.Ytphmfmfbneoljaa.Ep
open Go Go.RowKit Go.Maps Go.Sort Go.Shelf

/-- slices.Sort's two contracts at this program, at the fence that asks nothing. -/
theorem sortsA (m : Nat) : AnyZI.SortsIn Try.prog Try.sortedA_ren Fence.wide m :=
  ⟨fun blk off cap ss W hH hblk hsz => callsIn_wide.2 (AnyM.slices_Sort_int Try.sortA blk off cap ss W hH hblk hsz),
   fun p cap W => callsIn_wide.2 (AnyM.slices_Sort_int_none Try.sortA p cap W)⟩

theorem intKeys_mapD (rd : List (Int × Int)) : intKeys (mapD rd) = names rd := by
  unfold mapD names
  simp only [intKeys, List.map_map]
  rfl
theorem names_sorted {rd : List (Int × Int)} (h : rd.Pairwise (fun a b => a.1 < b.1)) : (names rd).Pairwise (fun a b => a < b) := by
  unfold names; rw [List.pairwise_map]; exact h
theorem sorted_unique {a b : List Int} (h : a.Perm b) (ha : a.Pairwise (fun x y => x ≤ y)) (hb : b.Pairwise (fun x y => x ≤ y)) : a = b := by
  induction a generalizing b with
  | nil => exact h.nil_eq
  | cons x r ih =>
    cases b with
    | nil => exact absurd h.length_eq (by simp)
    | cons y t =>
      rw [List.pairwise_cons] at ha hb
      have e : x = y := by
        have h1 : x ∈ y :: t := h.mem_iff.1 List.mem_cons_self
        have h2 : y ∈ x :: r := h.mem_iff.2 List.mem_cons_self
        rcases List.mem_cons.1 h1 with h1 | h1
        · exact h1
        · rcases List.mem_cons.1 h2 with h2 | h2
          · exact h2.symm
          · have := hb.1 x h1; have := ha.1 y h2; omega
      subst e
      rw [ih h.cons_inv ha.2 hb.2]
theorem sorted_names {rd : List (Int × Int)} {ss : List Int} (h : rd.Pairwise (fun a b => a.1 < b.1)) (hp : ss.Perm (names rd)) : ss.mergeSort (fun x y => decide (x ≤ y)) = names rd := by
  apply sorted_unique ((List.mergeSort_perm _ _).trans hp)
  · have := List.pairwise_mergeSort (le := fun x y : Int => decide (x ≤ y)) (by intro a b c; simp; omega) (by intro a b; simp; omega) ss
    exact this.imp (by intro a b; simp)
  · exact (names_sorted h).imp (by intro a b; omega)

set_option maxHeartbeats 1000000 in
theorem readers_any (w : World) (B : Nat) (s : St) (F : Nat → Prop) (c : Nat) (h : Obj w B s F c) (hc : c < 1000000000) :
    Calls Try.prog 17 #[.pointer (some ⟨B, 0, none⟩)] w fun e w' => ∃ v, e = .returned v ∧ w'.ownsRow w.heap.size 3 1 v s.rd.length (ints (names s.rd)) ∧ Below w.heap.size w w' := by
  have hrl := h.rd_le
  obtain ⟨m1, m2, v, n1, n2, D2, hB, hown, hm2, hD, hs, hd, c1, c2, c3, c4, hi, rfl⟩ := h
  obtain ⟨k0, k1, k2, k3⟩ := Obj.cells (F := fun _ => True) (c := 0) hB
  clear hB hm2 hD hs hd k1 k2 k3
  have hsize : Maps.size (mapD s.rd) = s.rd.length := by simp [mapD, Maps.size_eq]
  have hmax : Maps.size (mapD s.rd) ≤ maxLen := by rw [hsize]; unfold maxLen; omega
  have hbytes : Maps.size (mapD s.rd) * 8 ≤ 140737488355328 := by rw [hsize]; omega
  refine (callsIn_wide (n := 6)).1 ?_
  have hbl := hown.lt
  have hseq : SeqGives Fence.wide 2 Try.prog 37 #[.pointer (some ⟨w.heap.size, 0, none⟩)] encZ (fun ss => ss.Perm (intKeys (mapD s.rd))) (Maps.size (mapD s.rd)) (w.alloc (.cells #[.map (some m1)] 54)) :=
    AnyZI.keys_gives (ρ := Try.keysA_ren) { Try.keysA with } Fence.wide _ trivial rfl (by omega) w.heap.size m1 n1 (mapD s.rd) _ (by simp) (by simp) (by
      obtain ⟨es, clock, hb, Ft, hs, hD⟩ := hown
      exact ⟨es, clock, (Below.heap_alloc _ _ m1 hbl).trans hb, Ft, hs, hD⟩)
  have cK : ∀ mb W, CallsIn Fence.wide 5 Try.prog 30 #[.map mb] W fun e w' => e = .returned (.func (.func 37) #[] #[.pointer (some ⟨W.heap.size, 0, none⟩)]) ∧ w' = W.alloc (.cells #[.map mb] 54) := fun mb W => AnyZI.keys_in Try.keysA Fence.wide 5 trivial rfl mb W
  have cS := AnyZI.sorted_in Try.sortedA Fence.wide 5 trivial trivial trivial trivial rfl (by omega) (sortsA _) (enters_of Try.func36 (by kernel_rfl) rfl) 37 #[.pointer (some ⟨w.heap.size, 0, none⟩)] trivial (enters_of Try.func37 (by kernel_rfl) rfl) _ _ hmax hbytes _ hseq
  change CallsIn _ _ Try.prog 29 _ _ _ at cS
  have hfK : Fence.wide.fn 30 := trivial
  have hfS : Fence.wide.fn 29 := trivial
  clear hsize hmax hbytes hseq
  refine callsIn_of_wp Try.func17 rfl trivial ?_ rfl
  simp only [Try.ntmps17, List.size_toArray, List.length_cons, List.length_nil, Nat.reduceAdd, Nat.reduceSub, Array.replicate_succ, Array.replicate_zero, List.push_toArray, List.append_toArray, List.nil_append, List.cons_append]
  gi_wp2_with (first
    | (gi_at_call 30; refine (cK _ _).mono ?_; rintro e w' ⟨rfl, rfl⟩)
    | (gi_at_call 29; refine cS.mono ?_; rintro e w' ⟨v, ss, rfl, hS, hrow, hnil, hb⟩))
  go_ret
  rw [intKeys_mapD] at hS
  have hl : ss.length = s.rd.length := by rw [hS.length_eq]; simp [names]
  rw [sorted_names hi.sorted hS, hl] at hrow
  exact ⟨v, rfl, ownsRow_base_a hrow (by simp), ((Below.refl _ w).alloc (Nat.le_refl _) _).trans (hb.mono (by simp))⟩

end Go.Proofs.Ytphmfmfbneoljaa.Ep
