/- Records that came in, as a walk reads them; contracts of All, Same, with, Merged and Merge of the specification's package of layer 10, and of few. -/
import Derived.Test.YtcngblnkfiggjaaDoorPlain
namespace Go.Proofs.YtcngblnkfiggjaaDoor.Rm
open Go Go.RowKit Go.Maps

/-- A record: its number, the slice of its entries as a value, and the entries. -/
structure Rec where
  num : Int
  v : Value
  es : List (Int × Int)
def wfE (es : List (Int × Int)) : Prop := ∀ p ∈ es, (Lit.int .i64 p.1).wf = true ∧ (Lit.int .i64 p.2).wf = true
def Rec.ok (w : World) (r : Rec) : Prop := RdI w r.v r.es ∧ wfE r.es
def nthR (l : List Rec) (j : Nat) : Rec := l.getD j ⟨0, .slice none 0 0, []⟩
theorem nthR_getElem {l : List Rec} {j : Nat} (h : j < l.length) : l[j]? = some (nthR l j) := by
  unfold nthR; rw [List.getD_eq_getElem?_getD]; simp [h]
/-- Records that are read. -/
def Recs (w : World) (u : Value) (l : List Rec) : Prop :=
  (∃ ao cap, u = .slice ao 0 cap ∧ l = []) ∨
  ∃ b off cap, u = .slice (some ⟨b, off, none⟩) l.length cap ∧ 0 < l.length ∧ l.length ≤ cap ∧ cap ≤ maxLen ∧ b < w.heap.size ∧
    ∀ j, j < l.length → w.cell? ⟨b, off + j * 2, none⟩ = some (.int .i64 (nthR l j).num) ∧ w.cell? ⟨b, off + j * 2 + 1, none⟩ = some (nthR l j).v ∧ (nthR l j).ok w
theorem Recs.shape {w : World} {u : Value} {l : List Rec} (h : Recs w u l) : ∃ ao cap, u = .slice ao l.length cap := by
  rcases h with ⟨ao, cap, rfl, rfl⟩ | ⟨b, off, cap, rfl, _⟩
  · exact ⟨_, _, rfl⟩
  · exact ⟨_, _, rfl⟩
theorem Recs.at {w : World} {ao : Option Addr} {n cap : Nat} {l : List Rec} (h : Recs w (.slice ao n cap) l) {k : Nat} (hk : k < l.length) : ∃ b off, ao = some ⟨b, off, none⟩ ∧ n ≤ cap ∧ cap ≤ maxLen ∧ b < w.heap.size ∧
    w.cell? ⟨b, off + k * 2, none⟩ = some (.int .i64 (nthR l k).num) ∧ w.cell? ⟨b, off + k * 2 + 1, none⟩ = some (nthR l k).v ∧ (nthR l k).ok w := by
  rcases h with ⟨ao, cap, h1, rfl⟩ | ⟨b, off, c, h1, hp, hc, hm, hb, hj⟩
  · simp at hk
  · simp only [Value.slice.injEq] at h1
    obtain ⟨rfl, rfl, rfl⟩ := h1
    exact ⟨b, off, rfl, hc, hm, hb, hj k hk⟩
theorem Recs.below {w w' : World} {u : Value} {l : List Rec} (h : Recs w u l) (hb : Below w.heap.size w w') : Recs w' u l := by
  rcases h with h | ⟨b, off, cap, rfl, hp, hc, hm, hlt, hj⟩
  · exact Or.inl h
  · refine Or.inr ⟨b, off, cap, rfl, hp, hc, hm, Nat.lt_of_lt_of_le hlt hb.size, fun j hj' => ?_⟩
    obtain ⟨a1, a2, a3, a4⟩ := hj j hj'
    exact ⟨(hb.cell hlt).trans a1, (hb.cell hlt).trans a2, a3.below hb, a4⟩
theorem RdI.shape {w : World} {v : Value} {l : List (Int × Int)} (h : RdI w v l) : ∃ ao cap, v = .slice ao l.length cap := by
  rcases h with ⟨ao, cap, rfl, rfl⟩ | ⟨b, off, cap, rfl, _⟩
  · exact ⟨_, _, rfl⟩
  · exact ⟨_, _, rfl⟩
theorem RdI.at {w : World} {ao : Option Addr} {n cap : Nat} {l : List (Int × Int)} (h : RdI w (.slice ao n cap) l) {j : Nat} (hj : j < l.length) : ∃ b off, ao = some ⟨b, off, none⟩ ∧ n ≤ cap ∧ cap ≤ maxLen ∧ b < w.heap.size ∧ w.cell? ⟨b, off + j * 2, none⟩ = some (.int .i64 (nth l j).1) ∧ w.cell? ⟨b, off + j * 2 + 1, none⟩ = some (.int .i64 (nth l j).2) := by
  rcases h with ⟨a, c, h1, rfl⟩ | ⟨b, off, c, h1, h2, h3, h4, h5, h6⟩
  · simp at hj
  · simp only [Value.slice.injEq] at h1
    obtain ⟨rfl, rfl, rfl⟩ := h1
    exact ⟨b, off, rfl, h3, h4, h5, h6 j hj⟩
theorem OwnI.rd {w : World} {base : Nat} {v : Value} {l : List (Int × Int)} (h : OwnI w base v l) : RdI w v l := RdI.of_seg h.seg
/-- All entries, one record after the other. -/
def allE (l : List Rec) : List (Int × Int) := l.flatMap Rec.es
theorem allE_succ {l : List Rec} {k : Nat} (h : k < l.length) : allE (l.take (k + 1)) = allE (l.take k) ++ (nthR l k).es := by
  unfold allE
  rw [List.take_add_one, nthR_getElem h, List.flatMap_append]
  simp
theorem allE_take_le (l : List Rec) (k : Nat) : (allE (l.take k)).length ≤ (allE l).length := by
  have h : allE l = allE (l.take k) ++ allE (l.drop k) := by unfold allE; rw [← List.flatMap_append, List.take_append_drop]
  rw [h, List.length_append]; omega

set_option maxHeartbeats 1000000 in
set_option maxRecDepth 100000 in
theorem all_any (w : World) (ao : Option Addr) (cap : Nat) (l : List Rec) (hu : Recs w (.slice ao l.length cap) l) (ht : (allE l).length < 100000000) :
    Calls Tryd.prog 20 #[.slice ao l.length cap] w fun e w' => ∃ r, e = .returned r ∧ OwnI w' w.heap.size r (allE l) ∧ Below w.heap.size w w' := by
  have HU := Lib.hid hu
  have hcap : l.length ≤ 9223372036854775807 := by
    rcases hu with ⟨a, c, _, rfl⟩ | ⟨b, off, c, _, _, h3, h4, _⟩
    · simp
    · unfold maxLen at h4; omega
  have HLE := Lib.hid (allE_take_le l)
  clear hu
  go_enter Tryd.func20, Tryd.ntmps20
  go_wp2
  go_loopw [3, 4] (fun u i wr => ∃ k : Nat, k ≤ l.length ∧ i = .int .i64 k ∧ OwnI wr w.heap.size u (allE (l.take k)) ∧ Below w.heap.size w wr) (fun _ i _ => l.length - (RowKit.intOf i).toNat)
  case atStart => exact ⟨0, Nat.zero_le _, rfl, OwnI.nil _ _, Below.refl _ _⟩
  case round =>
    obtain ⟨k, hk, rfl, p2, p3⟩ := hrel
    by_cases hlt : k < l.length
    · obtain ⟨b, off, rfl, hc1, hm1, hb, q1, q2, hok⟩ := HU.out.at hlt
      have d2 := (p3.cell (p := ⟨b, off + k * 2 + 1, none⟩) hb).trans q2
      have hrd := hok.1.below p3
      obtain ⟨av, cv, hsh⟩ := hok.1.shape
      rw [hsh] at d2 hrd
      have hsz := p3.size
      have hle := HLE.out (k + 1)
      have HS := Lib.hid (allE_succ hlt)
      rw [HS.out, List.length_append] at hle
      unfold maxLen at hm1
      clear q1 q2 hsh hok
      go_wp2_with (at_builtin; refine wpList_append_rdI _ rfl _ _ rfl rfl w.heap.size _ _ (allE (l.take k)) (nthR l k).es rfl rfl p2 hrd ?c1 ?c2 ?_)
      case c1 => omega
      case c2 => exact hsz
      intro v1 w1 hrow1 hg1
      have hN : Hid (OwnI w1 w.heap.size v1 (allE (l.take (k + 1)))) := by rw [HS.out]; exact hrow1
      have b1 : Below w.heap.size w w1 := p3.grown hg1 hsz (fun j hj => (p2.lt hj).1)
      clear hrow1 hg1 p2 p3 hrd d2 HS
      go_wp2
      go_roundw
      case rel => exact ⟨k + 1, by omega, by go_num, hN.out, b1⟩
      case measure => simp [RowKit.intOf]; omega
    · obtain rfl : k = l.length := by omega
      go_wp2
      go_ret
      exact ⟨_, rfl, by simpa using p2, p3⟩

set_option maxHeartbeats 400000 in
theorem few_any (w : World) (ao : Option Addr) (n cap : Nat) : Calls Tryd.prog 21 #[.slice ao n cap] w fun e w' => e = .returned (.bool (decide ((n : Int) ≤ 60))) ∧ w = w' := by
  go_enter Tryd.func21, Tryd.ntmps21
  go_wp2
  go_ret
  exact ⟨rfl, rfl⟩

end Go.Proofs.YtcngblnkfiggjaaDoor.Rm
