/- Contracts of slices.Sorted(maps.Keys(m)) and of merged of package redo. -/
import Derived.Test.YtcngblnkfiggjaaDoorWalkD
import Derived.Test.YtcngblnkfiggjaaDoorShelf
namespace Go.Proofs.YtcngblnkfiggjaaDoor.Rm
open Go Go.RowKit Go.Maps Go.Sort Go.Shelf

theorem sortsA (m : Nat) : AnyZI.SortsIn Tryd.prog Tryd.sortedA_ren Fence.wide m :=
  ⟨fun blk off cap ss W hH hblk hsz => callsIn_wide.2 (AnyM.slices_Sort_int Tryd.sortA blk off cap ss W hH hblk hsz),
   fun p cap W => callsIn_wide.2 (AnyM.slices_Sort_int_none Tryd.sortA p cap W)⟩
theorem keys_any (mb : Option Nat) (W : World) : Calls Tryd.prog 83 #[.map mb] W fun e w' => e = .returned (.func (.func 102) #[] #[.pointer (some ⟨W.heap.size, 0, none⟩)]) ∧ w' = W.alloc (.cells #[.map mb] 129) :=
  callsIn_wide.1 (AnyZI.keys_in Tryd.keysA Fence.wide 5 trivial rfl mb W)
theorem sortedKeys (w : World) (m n : Nat) (l : List (Int × Int)) (hown : w.ownsMap Tryd.prog 3 (plainElem Tryd.prog 3) m n (mapD l)) (hl : l.length < 100000000) (hs : Asc l) :
    Calls Tryd.prog 82 #[.func (.func 102) #[] #[.pointer (some ⟨w.heap.size, 0, none⟩)]] (w.alloc (.cells #[.map (some m)] 129)) fun e w' => ∃ v, e = .returned v ∧ OwnZ w' w.heap.size v (names l) ∧ Below w.heap.size w w' := by
  have hsize : Maps.size (mapD l) = l.length := by simp [mapD, Maps.size_eq]
  have hmax : Maps.size (mapD l) ≤ maxLen := by rw [hsize]; unfold maxLen; omega
  have hbytes : Maps.size (mapD l) * 8 ≤ 140737488355328 := by rw [hsize]; omega
  have hbl := hown.lt
  have hseq : SeqGives Fence.wide 2 Tryd.prog 102 #[.pointer (some ⟨w.heap.size, 0, none⟩)] encZ (fun ss => ss.Perm (intKeys (mapD l))) (Maps.size (mapD l)) (w.alloc (.cells #[.map (some m)] 129)) :=
    AnyZI.keys_gives (ρ := Tryd.keysA_ren) { Tryd.keysA with } Fence.wide _ trivial rfl (by omega) w.heap.size m n (mapD l) _ (by simp) (by simp) (by
      obtain ⟨es, clock, hb, Ft, hs, hD⟩ := hown
      exact ⟨es, clock, (Below.heap_alloc _ _ m hbl).trans hb, Ft, hs, hD⟩)
  have cS := AnyZI.sorted_in Tryd.sortedA Fence.wide 5 trivial trivial trivial trivial rfl (by omega) (sortsA _) (enters_of Tryd.func55 (by kernel_rfl) rfl) 102 #[.pointer (some ⟨w.heap.size, 0, none⟩)] trivial (enters_of Tryd.func102 (by kernel_rfl) rfl) _ _ hmax hbytes _ hseq
  change CallsIn _ _ Tryd.prog 82 _ _ _ at cS
  refine (callsIn_wide.1 cS).mono ?_
  rintro e w' ⟨v, ss, rfl, hS, hrow, hnil, hb⟩
  rw [intKeys_mapD] at hS
  have hl2 : ss.length = l.length := by rw [hS.length_eq, names_length]
  rw [sorted_names hs hS, hl2, ← names_length l] at hrow
  exact ⟨v, rfl, ownsRow_base_a hrow (by simp), ((Below.refl _ w).alloc (Nat.le_refl _) _).trans (hb.mono (by simp))⟩

end Go.Proofs.YtcngblnkfiggjaaDoor.Rm
