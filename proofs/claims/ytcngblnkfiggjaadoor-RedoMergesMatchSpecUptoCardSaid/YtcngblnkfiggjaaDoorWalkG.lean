/- Contracts of Lines of package redo and of the specification's package. -/
import Derived.Test.YtcngblnkfiggjaaDoorWalkF
import Derived.Test.YtcngblnkfiggjaaDoorPlainB
import Derived.Sort.OwnSortedInts
import Derived.Lib.RowBridge
namespace Go.Proofs.YtcngblnkfiggjaaDoor.Rm
open Go Go.RowKit Go.Maps Go.Sort

def srt (l : List Int) : List Int := l.mergeSort fun x y => decide (x ≤ y)
theorem sort_own (w : World) (base : Nat) (v : Value) (l : List Int) (h : OwnZ w base v l) (hl : l.length < 1000000000) :
    Calls Tryd.prog 55 #[v] w fun e w' => e = .returned (.tuple #[]) ∧ OwnZ w' base v (srt l) ∧ w.grownBy w' v.ownBlock := by
  obtain ⟨h1, ⟨rfl, h0⟩ | ⟨g, cap, cur, rfl, hbase, hb, a1, a2, a3, a4⟩⟩ := h
  · have hn : l = [] := List.length_eq_zero_iff.1 h0
    subst hn
    refine (Tryd.slices_Sort_int_none none 0 w).mono ?_
    rintro e w' ⟨rfl, rfl⟩
    exact ⟨rfl, by rw [show srt [] = [] by simp [srt]]; exact World.ownsRow_nil _ _ _ _, ⟨rfl, rfl, rfl, Nat.le_refl _, fun _ _ _ => rfl⟩⟩
  · have hH : Holds (Value.int .i64) w g 0 l.toArray := holds_of_blockI hb (by simpa [ints] using a4)
    refine (Tryd.slices_Sort_int g 0 cap l w hH (Array.getElem?_eq_some_iff.1 hb).1 (by omega)).mono ?_
    rintro e w' ⟨rfl, n, os, rfl⟩
    have hsl : (srt l).length = l.length := by simp [srt]
    refine ⟨rfl, ?_, grownBy_sortedI _⟩
    have := ownsRow_sortedI (os := os) (n := n) (ss := l) (ts := srt l) hsl hbase hb a1 a2 a3
    unfold OwnZ
    rw [hsl]
    exact this
theorem compact_own (w : World) (base : Nat) (v : Value) (l : List Int) (h : OwnZ w base v l) (hl : l.length < 1000000000) :
    Calls Tryd.prog 56 #[v] w fun e w' => ∃ r, e = .returned r ∧ Rd w' r (Lib.compact l) ∧ w.grownBy w' v.ownBlock := by
  obtain ⟨h1, ⟨rfl, h0⟩ | ⟨g, cap, cur, rfl, hbase, hb, a1, a2, a3, a4⟩⟩ := h
  · have hn : l = [] := List.length_eq_zero_iff.1 h0
    subst hn
    refine (Tryd.slices_Compact_int_empty none 0 w).mono ?_
    rintro e w' ⟨rfl, rfl⟩
    exact ⟨_, rfl, Or.inl ⟨_, _, rfl, rfl⟩, ⟨rfl, rfl, rfl, Nat.le_refl _, fun _ _ _ => rfl⟩⟩
  · have hH : Holds (Value.int .i64) w g 0 l.toArray := holds_of_blockI hb (by simpa [ints] using a4)
    refine (Tryd.slices_Compact_int g 0 cap l w hH (by omega) a1).mono ?_
    rintro e w' ⟨rfl, q, rfl⟩
    have hcl := Lib.compact_length_le l
    have hsl : (Lib.compact l ++ List.replicate (l.length - (Lib.compact l).length) 0).length = l.length := by simp; omega
    have hrow := ownsRow_sortedI (os := #[]) (n := q) (ss := l) (ts := Lib.compact l ++ List.replicate (l.length - (Lib.compact l).length) 0) hsl hbase hb a1 a2 a3
    have hgr := grownBy_sortedI (w := w) (g := g) (n := q) (os := #[]) (Lib.compact l ++ List.replicate (l.length - (Lib.compact l).length) 0).toArray
    rw [grow_empty] at hrow hgr
    refine ⟨_, rfl, ?_, hgr⟩
    have hrd := Rd.of_owns (bs := Lib.compact l ++ List.replicate (l.length - (Lib.compact l).length) 0) (by rw [hsl]; exact hrow)
    by_cases hc : (Lib.compact l).length < l.length
    · have := hrd.taken (k := (Lib.compact l).length) (by rw [hsl]; exact hc)
      rwa [List.take_left] at this
    · have e : Lib.compact l ++ List.replicate (l.length - (Lib.compact l).length) 0 = Lib.compact l := by
        rw [show l.length - (Lib.compact l).length = 0 by omega]; simp
      have e2 : (Lib.compact l).length = l.length := by omega
      rw [e] at hrd ⊢
      rw [e2]
      exact hrd
theorem lineOf_bd {x : Int} (h : 0 ≤ x) (h2 : x ≤ 9223372036854775807) : 0 ≤ lineOf x ∧ lineOf x ≤ 9223372036854775807 := by
  unfold lineOf
  rw [Int.tdiv_eq_ediv_of_nonneg h]
  omega
/-- The lines of the first k entries. -/
def linesK (l : List (Int × Int)) (k : Nat) : List Int := (names (l.take k)).map lineOf
theorem linesK_succ {l : List (Int × Int)} {k : Nat} (h : k < l.length) : linesK l (k + 1) = linesK l k ++ [lineOf (nth l k).1] := by
  unfold linesK names
  rw [take_item h]
  simp
theorem linesK_length {l : List (Int × Int)} {k : Nat} (h : k ≤ l.length) : (linesK l k).length = k := by
  unfold linesK names; simp; omega

set_option maxHeartbeats 2000000 in
set_option maxRecDepth 100000 in
theorem lines_any (w : World) (ao : Option Addr) (cap : Nat) (l : List (Int × Int)) (hu : RdI w (.slice ao l.length cap) l) (hl : l.length < 1000000) (hw : wfE l) (h0 : ∀ p ∈ l, 0 ≤ p.1) :
    Calls Tryd.prog 26 #[.slice ao l.length cap] w fun e w' => ∃ r, e = .returned r ∧ Rd w' r (linesE l) ∧ Below w.heap.size w w' := by
  have HU := Lib.hid hu
  have HW := Lib.hid hw
  have H0 := Lib.hid h0
  clear hu hw h0
  go_enter Tryd.func26, Tryd.ntmps26
  go_wp2
  go_loopw [3, 8] (fun u i wr => ∃ k : Nat, k ≤ l.length ∧ i = .int .i64 k ∧ OwnZ wr w.heap.size u (linesK l k) ∧ Below w.heap.size w wr) (fun _ i _ => l.length - (RowKit.intOf i).toNat)
  case atStart => exact ⟨0, Nat.zero_le _, rfl, World.ownsRow_nil _ _ _ _, Below.refl _ _⟩
  case round =>
    obtain ⟨k, hk, rfl, p2, p3⟩ := hrel
    have hll := linesK_length hk
    have HLL := Lib.hid hll
    clear hll
    by_cases hlt : k < l.length
    · obtain ⟨b, off, rfl, hc1, hm1, hbl, q1, q2⟩ := HU.out.at hlt
      have d1 := (p3.cell (p := ⟨b, off + k * 2, none⟩) hbl).trans q1
      have d2 := (p3.cell (p := ⟨b, off + k * 2 + 1, none⟩) hbl).trans q2
      have hx0 := H0.out _ (List.mem_of_getElem? (nth_getElem hlt))
      have hx1 := (bounds_i64 (HW.out _ (List.mem_of_getElem? (nth_getElem hlt))).1).2
      have hbd := lineOf_bd hx0 hx1
      have hlo : (nth l k).1.tdiv 8 = lineOf (nth l k).1 := rfl
      have hsz := p3.size
      have HS := Lib.hid (linesK_succ hlt)
      have p2a : (wr.alloc (.cells #[.int .i64 (nth l k).1, .int .i64 (nth l k).2] 55)).ownsRow w.heap.size 3 1 u3 (linesK l k).length (ints (linesK l k)) := World.ownsRow.alloc p2 _
      have p2b := p2a.alloc (.cells #[.int .i64 (lineOf (nth l k).1)] 3)
      have hone : Rd ((wr.alloc (.cells #[.int .i64 (nth l k).1, .int .i64 (nth l k).2] 55)).alloc (.cells #[.int .i64 (lineOf (nth l k).1)] 3)) (.slice (some ⟨wr.heap.size + 1, 0, none⟩) 1 1) [lineOf (nth l k).1] := by
        have := rd_new1 (wr.alloc (.cells #[.int .i64 (nth l k).1, .int .i64 (nth l k).2] 55)) (lineOf (nth l k).1)
        simpa using this
      have hba : Below w.heap.size w ((wr.alloc (.cells #[.int .i64 (nth l k).1, .int .i64 (nth l k).2] 55)).alloc (.cells #[.int .i64 (lineOf (nth l k).1)] 3)) := (p3.alloc p3.size _).alloc (by simp; omega) _
      unfold maxLen at hm1
      clear q1 q2
      go_wp2_with (at_builtin; refine wpList_append_rd _ rfl _ _ rfl rfl w.heap.size _ _ (linesK l k) [lineOf (nth l k).1] rfl rfl p2b hone ?c1 ?c2 ?_)
      case c1 => have := HLL.out; simp; omega
      case c2 => simp; omega
      intro v1 w1 hrow1 hg1 _
      have HN := Lib.hid (show OwnZ w1 w.heap.size v1 (linesK l (k + 1)) ∧ Below w.heap.size w w1 from ⟨by rw [HS.out]; unfold OwnZ; simpa using hrow1, hba.grown hg1 (by simp; omega) (fun j hj => (p2.lt hj).1)⟩)
      clear hrow1 hg1 p2 p2a p2b hone hba p3 d1 d2 HS hlo
      go_wp2
      go_roundw
      case rel => exact ⟨k + 1, by omega, by go_num, HN.out.1, HN.out.2⟩
      case measure => simp [RowKit.intOf]; omega
    · obtain rfl : k = l.length := by omega
      have hlen := HLL.out
      have HSO := Lib.hid (sort_own wr w.heap.size u3 (linesK l l.length) p2 (by omega))
      have hp2 := p2
      have HLT := Lib.hid (fun j hj => (p2.lt (k := j) hj).1)
      clear p2 hlen
      obtain ⟨a3, n3, c3, hsh⟩ : ∃ a n c, u3 = .slice a n c := by
        obtain ⟨a, c, h⟩ := owns_shape hp2
        exact ⟨_, _, _, h⟩
      clear hp2
      subst hsh
      go_wp2_with fail
      refine HSO.out.mono ?_
      rintro e w1 ⟨rfl, hr1, hg1⟩
      have b1 : Below w.heap.size w w1 := p3.grown hg1 p3.size HLT.out
      have hsl : (srt (linesK l l.length)).length < 1000000000 := by unfold srt; rw [List.length_mergeSort]; have := HLL.out; omega
      have HCO := Lib.hid (compact_own w1 w.heap.size _ _ hr1 hsl)
      clear hr1 hg1 p3 hsl HSO
      go_wp2_with fail
      refine HCO.out.mono ?_
      rintro e w2 ⟨r2, rfl, hr2, hg2⟩
      have hfin : Lib.compact (srt (linesK l l.length)) = linesE l := by
        rw [compact_runs]
        refine lines_eq H0.out ?_ ?_
        · have := List.pairwise_mergeSort (le := fun x y : Int => decide (x ≤ y)) (by intro a b c; simp; omega) (by intro a b; simp; omega) (linesK l l.length)
          exact this.imp (by intro a b; simp)
        · unfold linesK
          rw [List.take_length]
          exact List.mergeSort_perm _ _
      rw [hfin] at hr2
      have b2 : Below w.heap.size w w2 := b1.grown hg2 b1.size HLT.out
      have HR := Lib.hid hr2
      clear hr2 hg2 b1 hfin HCO HLT
      go_wp2
      go_ret
      exact ⟨_, rfl, HR.out, b2⟩

set_option maxHeartbeats 2000000 in
set_option maxRecDepth 100000 in
theorem lines_ref (w : World) (ao : Option Addr) (cap : Nat) (l : List (Int × Int)) (hu : RdI w (.slice ao l.length cap) l) (hl : l.length < 1000000) (hw : wfE l) (h0 : ∀ p ∈ l, 0 ≤ p.1) :
    Calls Tryd.prog 27 #[.slice ao l.length cap] w fun e w' => ∃ r, e = .returned r ∧ Rd w' r (linesE l) ∧ Below w.heap.size w w' := by
  have HM := Lib.hid (merged_ref w ao cap l hu (by omega))
  have hml := mergeE_length l
  have HWM := Lib.hid (wf_mergeE hw)
  have HN0 := Lib.hid (show ∀ p ∈ mergeE l, 0 ≤ p.1 from fun p hp => by
    have : p.1 ∈ names l := names_mergeE.1 (List.mem_map.2 ⟨p, hp, rfl⟩)
    obtain ⟨q, hq, e⟩ := List.mem_map.1 this
    rw [← e]; exact h0 q hq)
  have HLE : Hid (linesE l = runs ((names (mergeE l)).map lineOf)) := rfl
  clear hu hw h0
  go_enter Tryd.func27, Tryd.ntmps27
  go_wp2_with fail
  refine HM.out.mono ?_
  rintro e w1 ⟨r1, rfl, hr1, hb1⟩
  generalize mergeE l = M at *
  have HRM := Lib.hid hr1.rd
  obtain ⟨a1, c1, hsh⟩ := hr1.shape
  subst hsh
  clear hr1
  go_wp2
  go_loopw [3, 5] (fun u i wr => ∃ k : Nat, k ≤ M.length ∧ i = .int .i64 k ∧ OwnZ wr w1.heap.size u (runs (linesK M k)) ∧ Below w1.heap.size w1 wr) (fun _ i _ => M.length - (RowKit.intOf i).toNat)
  case atStart => exact ⟨0, Nat.zero_le _, rfl, World.ownsRow_nil _ _ _ _, Below.refl _ _⟩
  case round =>
    obtain ⟨k, hk, rfl, p2, p3⟩ := hrel
    by_cases hlt : k < M.length
    · obtain ⟨b, off, rfl, hc1, hm1, hbl, q1, q2⟩ := HRM.out.at hlt
      have d1 := (p3.cell (p := ⟨b, off + k * 2, none⟩) hbl).trans q1
      have hx0 := HN0.out _ (List.mem_of_getElem? (nth_getElem hlt))
      have hx1 := (bounds_i64 (HWM.out _ (List.mem_of_getElem? (nth_getElem hlt))).1).2
      have hbd := lineOf_bd hx0 hx1
      have hlo : (nth M k).1.tdiv 8 = lineOf (nth M k).1 := rfl
      have hsz := p3.size
      have hS : runs (linesK M (k + 1)) = runStep (runs (linesK M k)) (lineOf (nth M k).1) := by rw [linesK_succ hlt, runs_snoc]
      have hrl : (runs (linesK M k)).length ≤ k := by
        have : ∀ z : List Int, (runs z).length ≤ z.length := fun z => by
          induction z using snoc_ind with
          | h0 => simp [runs]
          | h1 z q ih => rw [runs_snoc]; unfold runStep; split <;> simp <;> omega
        have h1 := this (linesK M k)
        rw [linesK_length hk] at h1
        exact h1
      have hrd : Rd wr u3 (runs (linesK M k)) := Rd.of_owns p2
      generalize runs (linesK M k) = R at *
      unfold maxLen at hm1
      clear q1 q2
      cases hR : R with
      | nil =>
        subst hR
        have HS : Hid (runs (linesK M (k + 1)) = [] ++ [lineOf (nth M k).1]) := by show _ = _; rw [hS]; simp [runStep]
        obtain ⟨a3, c3, hsh⟩ := owns_shape p2
        subst hsh
        have p2a := World.ownsRow.alloc p2 (.cells #[.int .i64 (lineOf (nth M k).1)] 3)
        have hone := rd_new1 wr (lineOf (nth M k).1)
        clear hS hrd
        go_wp2_with (at_builtin; refine wpList_append_rd _ rfl _ _ rfl rfl w1.heap.size _ _ [] [lineOf (nth M k).1] rfl rfl p2a hone ?c1 ?c2 ?_)
        case c1 => simp
        case c2 => simp; omega
        intro v1 w2 hrow1 hg1 _
        have HN := Lib.hid (show OwnZ w2 w1.heap.size v1 (runs (linesK M (k + 1))) ∧ Below w1.heap.size w1 w2 from ⟨by rw [HS.out]; unfold OwnZ; simpa using hrow1, (p3.alloc p3.size _).grown hg1 (by simp; omega) (fun j hj => (p2.lt hj).1)⟩)
        clear hrow1 hg1 p2 p2a hone p3 d1 HS hlo
        go_wp2
        go_roundw
        case rel => exact ⟨k + 1, by omega, by go_num, HN.out.1, HN.out.2⟩
        case measure => simp [RowKit.intOf]; omega
      | cons y0 R0 =>
        obtain ⟨m, hm⟩ : ∃ m, R.length = m + 1 := ⟨R0.length, by rw [hR]; rfl⟩
        clear hR
        obtain ⟨a3, c3, hsh⟩ := owns_shape p2
        rw [hm] at hsh
        subst hsh
        obtain ⟨b3, off3, rfl, -, hcp3, hcm3, hbl3, q3⟩ := hrd.at (j := m) (by omega)
        have hlast : R.getLast? = some (nthI R m) := by
          rw [List.getLast?_eq_getElem?, hm]
          exact nthI_getElem (by omega)
        have HM' := Lib.hid hm
        unfold maxLen at hcm3
        have hmm : m < 1000000 := by omega
        by_cases heq : nthI R m = lineOf (nth M k).1
        · have HS : Hid (runs (linesK M (k + 1)) = R) := by show _ = _; rw [hS]; unfold runStep; rw [hlast, heq, if_pos rfl]
          have hq : (nthI R m != lineOf (nth M k).1) = false := by simp [heq]
          have HN := Lib.hid (show OwnZ wr w1.heap.size (.slice (some ⟨b3, off3, none⟩) (m + 1) c3) (runs (linesK M (k + 1))) ∧ Below w1.heap.size w1 wr from ⟨by rw [HS.out]; exact p2, p3⟩)
          clear hS hrd p2 p3 heq hlast hm HS
          go_wp2
          go_roundw
          case rel => exact ⟨k + 1, by omega, by go_num, HN.out.1, HN.out.2⟩
          case measure => simp [RowKit.intOf]; omega
        · have HS : Hid (runs (linesK M (k + 1)) = R ++ [lineOf (nth M k).1]) := by show _ = _; rw [hS]; unfold runStep; rw [hlast, if_neg (fun e => heq (Option.some.inj e))]
          have hq : (nthI R m != lineOf (nth M k).1) = true := by simpa using heq
          have p2a := World.ownsRow.alloc p2 (.cells #[.int .i64 (lineOf (nth M k).1)] 3)
          have hone := rd_new1 wr (lineOf (nth M k).1)
          clear hS hrd heq hlast hm
          go_wp2_with (at_builtin; refine wpList_append_rd _ rfl _ _ rfl rfl w1.heap.size _ _ R [lineOf (nth M k).1] rfl rfl p2a hone ?d1 ?d2 ?_)
          case d1 => have := HM'.out; simp; omega
          case d2 => simp; omega
          intro v1 w2 hrow1 hg1 _
          have HN := Lib.hid (show OwnZ w2 w1.heap.size v1 (runs (linesK M (k + 1))) ∧ Below w1.heap.size w1 w2 from ⟨by rw [HS.out]; unfold OwnZ; simpa using hrow1, (p3.alloc p3.size _).grown hg1 (by simp; omega) (fun j hj => (p2.lt hj).1)⟩)
          clear hrow1 hg1 p2 p2a hone p3 d1 HS hlo
          go_wp2
          go_roundw
          case rel => exact ⟨k + 1, by omega, by go_num, HN.out.1, HN.out.2⟩
          case measure => simp [RowKit.intOf]; omega
    · obtain rfl : k = M.length := by omega
      have HR := Lib.hid (show Rd wr u3 (linesE l) ∧ Below w.heap.size w wr from ⟨by rw [HLE.out]; unfold linesK at p2; rw [List.take_length] at p2; exact Rd.of_owns p2, below_next hb1 p3⟩)
      clear p2 p3
      go_wp2
      go_ret
      exact ⟨_, rfl, HR.out.1, HR.out.2⟩

end Go.Proofs.YtcngblnkfiggjaaDoor.Rm
