/- Contracts of Encode of package chain and of its specification. -/
import Derived.Test.YtcngblnkfiggjaaDoorChP
namespace Go.Proofs.YtcngblnkfiggjaaDoor.Rm
open Go Go.RowKit Go.Maps

/-- A cell in a box. -/
def boxC (c : Cl) (v : Value) : _root_.Go.Obj := .cells #[.int .i64 c.t, .int .i64 c.r, .int .i64 c.s, .bool c.d, .int .i64 c.p, v] 24
theorem boxC_cells {w : World} {B : Nat} {c : Cl} {v : Value} (h : w.heap[B]? = some (boxC c v)) : w.cell? ⟨B, 0, none⟩ = some (.int .i64 c.t) ∧ w.cell? ⟨B, 1, none⟩ = some (.int .i64 c.r) ∧ w.cell? ⟨B, 2, none⟩ = some (.int .i64 c.s) ∧ w.cell? ⟨B, 3, none⟩ = some (.bool c.d) ∧ w.cell? ⟨B, 4, none⟩ = some (.int .i64 c.p) ∧ w.cell? ⟨B, 5, none⟩ = some v := by
  unfold boxC at h
  simp [World.cell?, h]
theorem OwnZ.lit4 (w : World) (base : Nat) (hb : base ≤ w.heap.size) (a b c d : Int) : OwnZ (w.alloc (.cells #[.int .i64 a, .int .i64 b, .int .i64 c, .int .i64 d] 3)) base (.slice (some ⟨w.heap.size, 0, none⟩) 4 4) [a, b, c, d] :=
  ⟨rfl, Or.inr ⟨w.heap.size, 4, _, rfl, hb, heap_alloc_new _ _, Nat.le_refl _, by unfold maxLen; omega, by simp, rfl⟩⟩
theorem Rd.bound {w : World} {v : Value} {bs : List Int} (h : Rd w v bs) : bs.length ≤ 9223372036854775807 := by
  rcases h with ⟨_, _, h, rfl⟩ | ⟨_, _, _, h, _, h1, h2, _⟩
  · simp
  · unfold maxLen at h2; omega

set_option maxHeartbeats 1000000 in
set_option maxRecDepth 100000 in
theorem encode_no (c : Cl) (v : Value) (w : World) (T : Tabs w) (h : Rd w v c.ws) (hr : c.right = false) :
    Calls Tryd.prog 9 #[clV c v] w fun e w' => e = .returned (.tuple #[.slice none 0 0, .int .i64 1]) ∧ Below w.heap.size w w' := by
  have HB := Lib.hid (show Below w.heap.size w (w.alloc (boxC c v)) from (Below.refl _ _).alloc (Nat.le_refl _) _)
  have HR := Lib.hid (cright_any c.t c.r c.s c.p c.d v c.ws (w.alloc (boxC c v)) (T.below HB.out) (h.below HB.out))
  obtain ⟨ao, cap, rfl⟩ := h.shape
  unfold boxC at HR HB
  clear h T
  unfold clV
  have hr' : rightC c.t c.r c.s c.p c.d c.ws = false := hr
  go_enter Tryd.func9, Tryd.ntmps9
  go_wp2_with fail
  refine HR.out.mono ?_
  rw [hr']
  rintro e w1 ⟨rfl, hb1⟩
  have HB1 := Lib.hid (below_next HB.out hb1)
  clear hb1
  go_wp2
  go_ret2
  exact ⟨rfl, HB1.out⟩

set_option maxHeartbeats 1000000 in
set_option maxRecDepth 100000 in
theorem encode_yes (c : Cl) (v : Value) (w : World) (T : Tabs w) (h : Rd w v c.ws) (hr : c.right = true) :
    Calls Tryd.prog 9 #[clV c v] w fun e w' => (∃ u, e = .returned (.tuple #[u, .int .i64 0]) ∧ OwnZ w' w.heap.size u c.enc) ∧ Below w.heap.size w w' := by
  have HB := Lib.hid (show Below w.heap.size w (w.alloc (boxC c v)) from (Below.refl _ _).alloc (Nat.le_refl _) _)
  have HR := Lib.hid (cright_any c.t c.r c.s c.p c.d v c.ws (w.alloc (boxC c v)) (T.below HB.out) (h.below HB.out))
  have hlen : c.ws.length ≤ 123 := (rightC_t hr).2.2.2.2.1
  have HW1 := Lib.hid (first_with hr)
  have HW2 := Lib.hid (fun hd => first_dead hr hd)
  have HW3 := Lib.hid (first_live (c := c))
  obtain ⟨ao, cap, rfl⟩ := h.shape
  have HC := Lib.hid (show ∀ w1, Below (w.alloc (boxC c (.slice ao c.ws.length cap))).heap.size (w.alloc (boxC c (.slice ao c.ws.length cap))) w1 → (w1.cell? ⟨w.heap.size, 0, none⟩ = some (.int .i64 c.t) ∧ w1.cell? ⟨w.heap.size, 1, none⟩ = some (.int .i64 c.r) ∧ w1.cell? ⟨w.heap.size, 2, none⟩ = some (.int .i64 c.s) ∧ w1.cell? ⟨w.heap.size, 3, none⟩ = some (.bool c.d) ∧ w1.cell? ⟨w.heap.size, 4, none⟩ = some (.int .i64 c.p) ∧ w1.cell? ⟨w.heap.size, 5, none⟩ = some (.slice ao c.ws.length cap)) ∧ Rd w1 (.slice ao c.ws.length cap) c.ws from fun w1 hb =>
    ⟨boxC_cells ((hb.block w.heap.size (by simp)).trans (heap_alloc_new _ _)), (h.below HB.out).below hb⟩)
  unfold boxC at HR HB HC
  clear h T
  unfold clV
  have hr' : rightC c.t c.r c.s c.p c.d c.ws = true := hr
  have hsz := HB.out.size
  go_enter Tryd.func9, Tryd.ntmps9
  go_wp2_with fail
  refine HR.out.mono ?_
  rw [hr']
  rintro e w1 ⟨rfl, hb1⟩
  obtain ⟨⟨s0, s1, s2, s3, s4, s5⟩, _⟩ := HC.out w1 hb1
  have HBX := Lib.hid hb1
  have HB1 := Lib.hid (below_next HB.out hb1)
  clear hb1
  go_wp2_with fail
  refine (with_any _ _ _ _ _).mono ?_
  rw [HW1.out]
  rintro e w2 ⟨rfl, m2, rfl⟩
  clear s0 s1 s2 s3 s4 s5
  have hb2 := below_drewN HBX.out m2
  obtain ⟨⟨s0, s1, s2, s3, s4, s5⟩, hrd⟩ := HC.out _ hb2
  have HB2 := Lib.hid (below_next HB.out hb2)
  have HBY := Lib.hid hb2
  have HRD := Lib.hid hrd
  clear hb2 hrd
  obtain ⟨W2, hW2⟩ : ∃ W2, w1.drewN m2 = W2 := ⟨_, rfl⟩
  rw [hW2] at s0 s1 s2 s3 s4 s5 HB2 HBY HRD ⊢
  clear hW2
  have hlw : w.heap.size < W2.heap.size := by have := HBY.out.size; simp at this; omega
  cases hd : c.d
  · rw [hd] at s3
    have hl4 := HB2.out.size
    have ho := OwnZ.lit4 W2 w.heap.size HB2.out.size c.first c.r c.s c.p
    have hrx := HRD.out.below ((Below.refl W2.heap.size W2).alloc (Nat.le_refl _) (.cells #[.int .i64 c.first, .int .i64 c.r, .int .i64 c.s, .int .i64 c.p] 3))
    have hX := HW3.out hd
    rw [hX]
    go_wp2_with (at_builtin; refine wpList_append_rd _ rfl _ _ rfl rfl w.heap.size _ _ [c.first, c.r, c.s, c.p] c.ws rfl rfl ho hrx ?a1 ?a2 ?_)
    case a1 => first | omega | (simp; done) | (simp; omega)
    case a2 => first | omega | (simp; done) | (simp; omega)
    intro v1 w3 hrow1 hg1 hv1
    have hb : Below w.heap.size w w3 := (HB2.out.alloc HB2.out.size _).grown hg1 (by simp; omega) (fun j hj => by cases hj; exact HB2.out.size)
    have HB3 := Lib.hid hb
    have HRW := Lib.hid (show OwnZ w3 w.heap.size v1 c.enc from hrow1)
    obtain ⟨a1, c1', hsh1⟩ := owns_shape hrow1
    subst hsh1
    clear hrow1 hg1 hv1 hb ho hrx
    go_wp2
    go_ret2
    exact ⟨⟨_, rfl, HRW.out⟩, HB3.out⟩
  · rw [hd] at s3
    have hX := HW2.out hd
    have HX := Lib.hid hX
    clear hX
    go_wp2_with fail
    refine (with_any _ _ _ _ _).mono ?_
    rw [HX.out]
    rintro e w3 ⟨rfl, m3, rfl⟩
    clear s0 s1 s2 s3 s4 s5
    have hb3 := below_drewN HBY.out m3
    obtain ⟨⟨s0, s1, s2, s3, s4, s5⟩, hrd⟩ := HC.out _ hb3
    have HB3 := Lib.hid (below_next HB.out hb3)
    have HB3s := hb3.size
    have HRD := Lib.hid hrd
    clear hb3 hrd
    obtain ⟨W3, hW3⟩ : ∃ W3, W2.drewN m3 = W3 := ⟨_, rfl⟩
    rw [hW3] at s0 s1 s2 s3 s4 s5 HB3 HRD HB3s ⊢
    clear hW3
    have hlw3 : w.heap.size < W3.heap.size := by simp at HB3s; omega
    clear HB3s
    have hl4 := HB3.out.size
    have ho := OwnZ.lit4 W3 w.heap.size HB3.out.size c.first c.r c.s c.p
    have hrx := HRD.out.below ((Below.refl W3.heap.size W3).alloc (Nat.le_refl _) (.cells #[.int .i64 c.first, .int .i64 c.r, .int .i64 c.s, .int .i64 c.p] 3))
    go_wp2_with (at_builtin; refine wpList_append_rd _ rfl _ _ rfl rfl w.heap.size _ _ [c.first, c.r, c.s, c.p] c.ws rfl rfl ho hrx ?a1 ?a2 ?_)
    case a1 => first | omega | (simp; done) | (simp; omega)
    case a2 => first | omega | (simp; done) | (simp; omega)
    intro v1 w3 hrow1 hg1 hv1
    have hb : Below w.heap.size w w3 := (HB3.out.alloc HB3.out.size _).grown hg1 (by simp; omega) (fun j hj => by cases hj; exact HB3.out.size)
    have HB4 := Lib.hid hb
    have HRW := Lib.hid (show OwnZ w3 w.heap.size v1 c.enc from hrow1)
    obtain ⟨a1, c1', hsh1⟩ := owns_shape hrow1
    subst hsh1
    clear hrow1 hg1 hv1 hb ho hrx
    go_wp2
    go_ret2
    exact ⟨⟨_, rfl, HRW.out⟩, HB4.out⟩

set_option maxHeartbeats 1000000 in
set_option maxRecDepth 100000 in
theorem rencode_any (c : Cl) (v : Value) (w : World) (h : Rd w v c.ws) (hr : c.right = true) :
    Calls Tryd.prog 13 #[clV c v] w fun e w' => (∃ u, e = .returned u ∧ OwnZ w' w.heap.size u c.enc) ∧ Below w.heap.size w w' := by
  have HB := Lib.hid (show Below w.heap.size w (w.alloc (boxC c v)) from (Below.refl _ _).alloc (Nat.le_refl _) _)
  have hlen : c.ws.length ≤ 123 := (rightC_t hr).2.2.2.2.1
  have ht := (rightC_t hr).1
  obtain ⟨ao, cap, rfl⟩ := h.shape
  have hrd := h.below HB.out
  unfold boxC at HB hrd
  clear h
  unfold clV
  have hfx : ∀ W : World, OwnZ (W.alloc (.cells #[.int .i64 c.first, .int .i64 c.r, .int .i64 c.s, .int .i64 c.p] 3)) W.heap.size (.slice (some ⟨W.heap.size, 0, none⟩) 4 4) [c.first, c.r, c.s, c.p] := fun W => OwnZ.lit4 W W.heap.size (Nat.le_refl _) _ _ _ _
  have hrx := hrd.below ((Below.refl (w.alloc (.cells #[.int .i64 c.t, .int .i64 c.r, .int .i64 c.s, .bool c.d, .int .i64 c.p, .slice ao c.ws.length cap] 24)).heap.size _).alloc (Nat.le_refl _) (.cells #[.int .i64 c.first, .int .i64 c.r, .int .i64 c.s, .int .i64 c.p] 3))
  have ho := OwnZ.lit4 (w.alloc (.cells #[.int .i64 c.t, .int .i64 c.r, .int .i64 c.s, .bool c.d, .int .i64 c.p, .slice ao c.ws.length cap] 24)) w.heap.size HB.out.size c.first c.r c.s c.p
  have HB2 := Lib.hid (HB.out.alloc HB.out.size (.cells #[.int .i64 c.first, .int .i64 c.r, .int .i64 c.s, .int .i64 c.p] 3))
  have hw1 : wrap64 ((c.ws.length : Int) * 65536) = c.ws.length * 65536 := w64_in _ (by omega)
  have hw2 : wrap64 (c.t + c.ws.length * 65536) = c.t + c.ws.length * 65536 := w64_in _ (by omega)
  have hw3 : wrap64 (c.t + c.ws.length * 65536 + 256) = c.t + c.ws.length * 65536 + 256 := w64_in _ (by omega)
  cases hd : c.d
  · have hX : c.t + c.ws.length * 65536 = c.first := first_live hd
    rw [hd] at ho hrx HB HB2
    simp only [World.size_alloc] at ho
    rw [← hX] at ho hrx HB2
    have HE := Lib.hid (show [c.t + c.ws.length * 65536, c.r, c.s, c.p] ++ c.ws = c.enc by rw [hX]; rfl)
    clear hX
    go_enter Tryd.func13, Tryd.ntmps13
    go_wp2_with (at_builtin; refine wpList_append_rd _ rfl _ _ rfl rfl w.heap.size _ _ [c.t + c.ws.length * 65536, c.r, c.s, c.p] c.ws rfl rfl ho hrx ?a1 ?a2 ?_)
    case a1 => first | omega | (simp; done) | (simp; omega)
    case a2 => first | omega | (simp; done) | (simp; omega)
    intro v1 w3 hrow1 hg1 hv1
    have hb : Below w.heap.size w w3 := HB2.out.grown hg1 (by simp; omega) (fun j hj => by cases hj; simp)
    have HB4 := Lib.hid hb
    have HRW := Lib.hid (show OwnZ w3 w.heap.size v1 c.enc from by rw [← HE.out]; exact hrow1)
    obtain ⟨a1, c1', hsh1⟩ := owns_shape hrow1
    subst hsh1
    clear hrow1 hg1 hv1 hb ho hrx
    go_wp2
    go_ret
    exact ⟨⟨_, rfl, HRW.out⟩, HB4.out⟩
  · have hX : c.t + c.ws.length * 65536 + 256 = c.first := by unfold Cl.first; rw [hd]; rfl
    rw [hd] at ho hrx HB HB2
    simp only [World.size_alloc] at ho
    rw [← hX] at ho hrx HB2
    have HE := Lib.hid (show [c.t + c.ws.length * 65536 + 256, c.r, c.s, c.p] ++ c.ws = c.enc by rw [hX]; rfl)
    clear hX
    go_enter Tryd.func13, Tryd.ntmps13
    go_wp2_with (at_builtin; refine wpList_append_rd _ rfl _ _ rfl rfl w.heap.size _ _ [c.t + c.ws.length * 65536 + 256, c.r, c.s, c.p] c.ws rfl rfl ho hrx ?a1 ?a2 ?_)
    case a1 => first | omega | (simp; done) | (simp; omega)
    case a2 => first | omega | (simp; done) | (simp; omega)
    intro v1 w3 hrow1 hg1 hv1
    have hb : Below w.heap.size w w3 := HB2.out.grown hg1 (by simp; omega) (fun j hj => by cases hj; simp)
    have HB4 := Lib.hid hb
    have HRW := Lib.hid (show OwnZ w3 w.heap.size v1 c.enc from by rw [← HE.out]; exact hrow1)
    obtain ⟨a1, c1', hsh1⟩ := owns_shape hrow1
    subst hsh1
    clear hrow1 hg1 hv1 hb ho hrx
    go_wp2
    go_ret
    exact ⟨⟨_, rfl, HRW.out⟩, HB4.out⟩

end Go.Proofs.YtcngblnkfiggjaaDoor.Rm
