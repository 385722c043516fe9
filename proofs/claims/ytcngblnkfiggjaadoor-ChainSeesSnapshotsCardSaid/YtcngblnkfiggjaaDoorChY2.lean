/- The example that the statements of layer 16 play first: what it holds, and plain facts on its cells. -/
import Derived.Test.YtcngblnkfiggjaaDoorChY1
import Derived.Test.YtcngblnkfiggjaaDoorChG
import Derived.Test.YtcngblnkfiggjaaDoorChR
namespace Go.Proofs.YtcngblnkfiggjaaDoor.Rm
open Go Go.RowKit Go.Maps Go.Shelf

def oldC : Cl := ⟨3, 7, 2, false, 0, [9, 8]⟩
def deadC : Cl := ⟨3, 7, 5, true, 0, []⟩
def newC : Cl := ⟨3, 7, 5, true, 4097, []⟩
theorem oldC_right : oldC.right = true := by decide
theorem deadC_right : deadC.right = true := by decide
theorem newC_right : newC.right = true := by decide
theorem oldC_enc : oldC.enc = [131075, 7, 2, 0, 9, 8] := rfl
theorem deadC_enc : deadC.enc = [259, 7, 5, 0] := rfl
theorem newC_enc : newC.enc = [259, 7, 5, 4097] := rfl
theorem make1 : makeS 1 1 = 4097 := by decide
theorem make2 : makeS 2 4 = 16386 := by decide
theorem pack1 : packS 1 0 1 = 129 := by decide
theorem pack2 : packS 1 0 4 = 513 := by decide
def exM0 : Int → Int := upd (upd (fun _ => 0) 8 129) 16 513
def exM1 : Int → Int := wrt exM0 9 oldC.enc
def exM2 : Int → Int := wrt exM1 17 newC.enc
theorem exB1 (M : Int → Int) (h : M 8 = 129) : Blk M 4 4097 1 1 := by
  refine ⟨by decide, by decide, by decide, by decide, ?_, ?_, ?_⟩
  · show checkS 4097 (M 8) = 0
    rw [h]; decide
  · show kindS (M 8) = 1
    rw [h]; decide
  · show linesS (classS (M 8)) = 1
    rw [h]; decide
theorem exB2 (M : Int → Int) (h : M 16 = 513) : Blk M 4 16386 2 1 := by
  refine ⟨by decide, by decide, by decide, by decide, ?_, ?_, ?_⟩
  · show checkS 16386 (M 16) = 0
    rw [h]; decide
  · show kindS (M 16) = 1
    rw [h]; decide
  · show linesS (classS (M 16)) = 1
    rw [h]; decide
def exIts : List It := [⟨16386, 2, 1, newC⟩, ⟨4097, 1, 1, oldC⟩]
theorem exL1 : Lies exM2 1 1 oldC := by
  refine ⟨oldC_right, by decide, fun j hj => ?_⟩
  rw [oldC_enc] at hj
  have : j < 6 := hj
  rcases (show j = 0 ∨ j = 1 ∨ j = 2 ∨ j = 3 ∨ j = 4 ∨ j = 5 by omega) with rfl | rfl | rfl | rfl | rfl | rfl <;> decide
theorem exL2 : Lies exM2 2 1 newC := by
  refine ⟨newC_right, by decide, fun j hj => ?_⟩
  rw [newC_enc] at hj
  have : j < 4 := hj
  rcases (show j = 0 ∨ j = 1 ∨ j = 2 ∨ j = 3 by omega) with rfl | rfl | rfl | rfl <;> decide
theorem exCh : Chn exM2 4 16386 exIts := by
  refine ⟨rfl, exB2 _ (by decide), .inl rfl, by decide, exL2, fun j hj => ?_, rfl, exB1 _ (by decide), .inl rfl, by decide, exL1, fun j hj => (by cases hj), rfl⟩
  cases hj
  exact ⟨rfl, rfl, by decide⟩
theorem exS4 : seenK exIts 4 = (4097, oldC) := rfl
theorem exS5 : seenK exIts 5 = (16386, newC) := rfl
theorem exS1 : seenK exIts 1 = (0, Cl.zero) := rfl

theorem Tabs.belowB {w w' : World} {B : Nat} (T : Tabs w) (h : Below B w w') (hB : 3 ≤ B) : Tabs w' := by
  have c : ∀ b o, b < 3 → w'.cell? ⟨b, o, none⟩ = w.cell? ⟨b, o, none⟩ := fun b o hb => World.cell?_of_block (h.block b (by omega))
  exact ⟨(c 0 0 (by decide)).trans T.p0, (c 0 1 (by decide)).trans T.p1, (c 0 2 (by decide)).trans T.p2, (c 0 3 (by decide)).trans T.p3,
    (c 2 0 (by decide)).trans T.h0, (c 2 1 (by decide)).trans T.h1, (c 2 2 (by decide)).trans T.h2, (c 2 3 (by decide)).trans T.h3, (c 2 4 (by decide)).trans T.h4, (c 2 5 (by decide)).trans T.h5,
    Nat.le_trans T.sz h.size⟩
/-- What the example holds ahead of its memory. -/
structure SP (w0 : World) (W : World) : Prop where
  tabs : Tabs W
  rd : Rd W (.slice (some ⟨w0.heap.size, 0, none⟩) 2 2) [9, 8]
  box : W.heap[w0.heap.size + 1]? = some (boxC oldC (.slice (some ⟨w0.heap.size, 0, none⟩) 2 2))
  below : Below w0.heap.size w0 W
  size : w0.heap.size + 2 ≤ W.heap.size
  three : 3 ≤ w0.heap.size
theorem SP.next {w0 A B : World} (h : SP w0 A) (hb : Below A.heap.size A B) : SP w0 B :=
  ⟨h.tabs.below hb, h.rd.below hb, (hb.block _ (by have := h.size; omega)).trans h.box, h.below.trans (hb.mono (by have := h.size; omega)), Nat.le_trans h.size hb.size, h.three⟩
theorem rdn2 (w : World) (a b : Int) : Rd (w.alloc (.cells #[.int .i64 a, .int .i64 b] 3)) (.slice (some ⟨w.heap.size, 0, none⟩) 2 2) [a, b] :=
  Or.inr ⟨w.heap.size, 0, 2, rfl, by simp, by simp, by unfold maxLen; omega, by simp, fun j hj => by
    have hj2 : j < 2 := hj
    rcases (show j = 0 ∨ j = 1 by omega) with rfl | rfl
    · exact cell_blk (heap_alloc_new _ _) rfl
    · exact cell_blk (heap_alloc_new _ _) rfl⟩
theorem rdn4 (w : World) (a b c d : Int) : Rd (w.alloc (.cells #[.int .i64 a, .int .i64 b, .int .i64 c, .int .i64 d] 3)) (.slice (some ⟨w.heap.size, 0, none⟩) 4 4) [a, b, c, d] :=
  OwnZ.rd (OwnZ.lit4 w 0 (Nat.zero_le _) a b c d)
theorem rdn6 (w : World) (a b c d e f : Int) : Rd (w.alloc (.cells #[.int .i64 a, .int .i64 b, .int .i64 c, .int .i64 d, .int .i64 e, .int .i64 f] 3)) (.slice (some ⟨w.heap.size, 0, none⟩) 6 6) [a, b, c, d, e, f] :=
  OwnZ.rd (base := 0) ⟨rfl, Or.inr ⟨w.heap.size, 6, _, rfl, Nat.zero_le _, heap_alloc_new _ _, Nat.le_refl _, by unfold maxLen; omega, by simp, rfl⟩⟩
theorem SP.start (w : World) (T : Tabs w) : SP w ((w.alloc (.cells #[.int .i64 9, .int .i64 8] 3)).alloc (boxC oldC (.slice (some ⟨w.heap.size, 0, none⟩) 2 2))) := by
  have hb1 : Below w.heap.size w (w.alloc (.cells #[.int .i64 9, .int .i64 8] 3)) := (Below.refl _ w).alloc (Nat.le_refl _) _
  have hb2 : Below (w.alloc (.cells #[.int .i64 9, .int .i64 8] 3)).heap.size (w.alloc (.cells #[.int .i64 9, .int .i64 8] 3)) ((w.alloc (.cells #[.int .i64 9, .int .i64 8] 3)).alloc (boxC oldC (.slice (some ⟨w.heap.size, 0, none⟩) 2 2))) := (Below.refl _ _).alloc (Nat.le_refl _) _
  exact ⟨(T.below hb1).below hb2, (rdn2 w 9 8).below hb2, new_at (by simp), hb1.trans (hb2.mono (by simp)), by simp, T.sz⟩
/-- What the example holds beside its memory. -/
structure SW (w0 : World) (Bv Bm : Nat) (M : Int → Int) (F : Nat → Prop) (c : Nat) (W : World) : Prop where
  sp : SP w0 W
  cv : CV W Bv Bm 4 M F c
  low : ∀ k, F k → w0.heap.size + 2 ≤ k
theorem SW.next {w0 : World} {Bv Bm : Nat} {M : Int → Int} {F : Nat → Prop} {c : Nat} {A B : World} (h : SW w0 Bv Bm M F c A) (hb : Below A.heap.size A B) : SW w0 Bv Bm M F c B :=
  ⟨h.sp.next hb, h.cv.below hb, h.low⟩
theorem SW.moves {w0 : World} {Bv Bm : Nat} {M M' : Int → Int} {F F' : Nat → Prop} {c c' : Nat} {A B : World} (h : SW w0 Bv Bm M F c A) (hc : CV B Bv Bm 4 M' F' c') (hm : Moves F F' A B) : SW w0 Bv Bm M' F' c' B := by
  have hsz := h.sp.size
  have hl := hm.below (B := w0.heap.size + 2) h.low hsz
  have htab : w0.heap.size + 2 ≤ A.heap.size := hsz
  refine ⟨⟨?_, h.sp.rd.carry hm.size (fun k hk _ => by cases hk; exact hl.block _ (by show w0.heap.size < _; omega)), (hl.block _ (by omega)).trans h.sp.box, h.sp.below.trans (hl.mono (by omega)), Nat.le_trans hsz hm.size, h.sp.three⟩, hc, fun k hk => ?_⟩
  · exact h.sp.tabs.belowB hl (by have := h.sp.three; omega)
  · rcases hm.sub k hk with h1 | h1
    · exact h.low k h1
    · omega

/-! The calls of the example, written out. -/
theorem Rd.len {w : World} {v : Value} {l : List Int} (h : Rd w v l) : ∃ a c, v = .slice a l.length c := h.shape
theorem exEnc1 (W : World) (T : Tabs W) (b : Nat) (h : Rd W (.slice (some ⟨b, 0, none⟩) 2 2) [9, 8]) :
    Calls Tryd.prog 9 #[.agg #[.int .i64 3, .int .i64 7, .int .i64 2, .bool false, .int .i64 0, .slice (some ⟨b, 0, none⟩) 2 2]] W fun e w' => (∃ a c, e = .returned (.tuple #[.slice a 6 c, .int .i64 0]) ∧ Rd w' (.slice a 6 c) [131075, 7, 2, 0, 9, 8]) ∧ Below W.heap.size W w' := by
  refine (encode_yes oldC (.slice (some ⟨b, 0, none⟩) 2 2) W T h oldC_right).mono ?_
  rintro e w' ⟨⟨u, rfl, ho⟩, hb⟩
  obtain ⟨a, c, hu⟩ := owns_shape ho
  have hu' : u = .slice a 6 c := hu
  subst hu'
  exact ⟨⟨a, c, rfl, ho.rd⟩, hb⟩
theorem exEnc2 (W : World) (T : Tabs W) :
    Calls Tryd.prog 9 #[.agg #[.int .i64 3, .int .i64 7, .int .i64 5, .bool true, .int .i64 0, .slice none 0 0]] W fun e w' => (∃ a c, e = .returned (.tuple #[.slice a 4 c, .int .i64 0]) ∧ Rd w' (.slice a 4 c) [259, 7, 5, 0]) ∧ Below W.heap.size W w' := by
  refine (encode_yes deadC (.slice none 0 0) W T (Or.inl ⟨_, _, rfl, rfl⟩) deadC_right).mono ?_
  rintro e w' ⟨⟨u, rfl, ho⟩, hb⟩
  obtain ⟨a, c, hu⟩ := owns_shape ho
  have hu' : u = .slice a 4 c := hu
  subst hu'
  exact ⟨⟨a, c, rfl, ho.rd⟩, hb⟩
theorem exNew (w0 W : World) (h : SP w0 W) : Calls Tryd.prog 28 #[.int .i64 4] W fun e w' => ∃ Bm F, e = .returned (.pointer (some ⟨Bm, 0, none⟩)) ∧ MO w' Bm 4 (fun _ => 0) F 0 ∧ SP w0 w' ∧ (∀ k, F k → w0.heap.size + 2 ≤ k) ∧ Bm < w'.heap.size := by
  refine (new_any W 4 (by omega)).mono ?_
  rintro e w' ⟨Bm, F, rfl, hm, hF, hb⟩
  obtain ⟨_, _, hlt, _⟩ := hm.top
  exact ⟨Bm, F, rfl, hm, h.next hb, fun k hk => Nat.le_trans h.size (hF k hk), hlt⟩
theorem exOver (w0 W : World) (Bm : Nat) (M : Int → Int) (F : Nat → Prop) (c : Nat) (hm : MO W Bm 4 M F c) (h : SP w0 W) (hF : ∀ k, F k → w0.heap.size + 2 ≤ k) : Calls Tryd.prog 29 #[.pointer (some ⟨Bm, 0, none⟩)] W fun e w' => ∃ Bv, e = .returned (.pointer (some ⟨Bv, 0, none⟩)) ∧ SW w0 Bv Bm M F c w' := by
  refine (cover_any W Bm 4 M F c hm).mono ?_
  rintro e w' ⟨Bv, rfl, hv, _, hb⟩
  exact ⟨Bv, rfl, h.next hb, hv, hF⟩
theorem exStore {w0 W : World} {Bv Bm : Nat} {M : Int → Int} {F : Nat → Prop} {c : Nat} (h : SW w0 Bv Bm M F c W) (hc : c < 1000) (k : Nat) (hk : k < 4) (x y : Int) (hx : x = 8 * k) (hy : wordB y = true) :
    Calls Tryd.prog 30 #[.pointer (some ⟨Bm, 0, none⟩), .int .i64 x, .int .i64 y] W fun e w' => e = .returned (.int .i64 0) ∧ ∃ F' c', c' ≤ c + 20 ∧ SW w0 Bv Bm (upd M x y) F' c' w' := by
  refine (store_any W Bm 4 M F c h.cv.mem (by omega) k 0 hk (by omega) x y (by omega) hy).mono ?_
  rintro e w' ⟨rfl, F', hm, hv⟩
  exact ⟨rfl, F', c + 2, by omega, h.moves (h.cv.moves hm hv) hv⟩
theorem exWrite {w0 W : World} {Bv Bm : Nat} {M : Int → Int} {F : Nat → Prop} {c : Nat} (h : SW w0 Bv Bm M F c W) (hc : c < 1000) (p : Int) (k : Nat) (hb : Blk M 4 p k 1) (hk : k + 1 ≤ 4) (cl : Cl) (v : Value) (hv : Rd W v cl.ws) (hr : cl.right = true) (hf : 5 + cl.ws.length ≤ 8) :
    Calls Tryd.prog 33 #[.pointer (some ⟨Bv, 0, none⟩), .int .i64 p, clV cl v] W fun e w' => e = .returned (.int .i64 0) ∧ ∃ F' c', c' ≤ c + 20 ∧ SW w0 Bv Bm (wrt M (8 * k + 1) cl.enc) F' c' w' := by
  refine (write_any W Bv Bm 4 M F c h.cv (by omega) h.sp.tabs p k 1 hb (.inl rfl) hk cl v hv hr (by omega)).mono ?_
  rintro e w' ⟨rfl, F', hcv, hm⟩
  have := enc_length cl
  exact ⟨rfl, F', _, by omega, h.moves hcv hm⟩
theorem exW1 {w0 W : World} {Bv Bm : Nat} {F : Nat → Prop} {c : Nat} (h : SW w0 Bv Bm exM0 F c W) (hc : c < 1000) :
    Calls Tryd.prog 33 #[.pointer (some ⟨Bv, 0, none⟩), .int .i64 4097, .agg #[.int .i64 3, .int .i64 7, .int .i64 2, .bool false, .int .i64 0, .slice (some ⟨w0.heap.size, 0, none⟩) 2 2]] W fun e w' => e = .returned (.int .i64 0) ∧ ∃ F' c', c' ≤ c + 20 ∧ SW w0 Bv Bm exM1 F' c' w' :=
  exWrite h hc 4097 1 (exB1 _ (by decide)) (by omega) oldC _ h.sp.rd oldC_right (by decide)
theorem exW2 {w0 W : World} {Bv Bm : Nat} {F : Nat → Prop} {c : Nat} (h : SW w0 Bv Bm exM1 F c W) (hc : c < 1000) :
    Calls Tryd.prog 33 #[.pointer (some ⟨Bv, 0, none⟩), .int .i64 16386, .agg #[.int .i64 3, .int .i64 7, .int .i64 5, .bool true, .int .i64 4097, .slice none 0 0]] W fun e w' => e = .returned (.int .i64 0) ∧ ∃ F' c', c' ≤ c + 20 ∧ SW w0 Bv Bm exM2 F' c' w' :=
  exWrite h hc 16386 2 (exB2 _ (by decide)) (by omega) newC _ (Or.inl ⟨_, _, rfl, rfl⟩) newC_right (by decide)
theorem exAt4 {w0 W : World} {Bv Bm : Nat} {F : Nat → Prop} {c : Nat} (h : SW w0 Bv Bm exM2 F c W) (hc : c < 1000) :
    Calls Tryd.prog 18 #[.pointer (some ⟨Bv, 0, none⟩), .int .i64 16386, .int .i64 4] W fun e w' => (∃ a cp, e = .returned (.tuple #[.agg #[.int .i64 3, .int .i64 7, .int .i64 2, .bool false, .int .i64 0, .slice a 2 cp], .int .i64 4097, .int .i64 0]) ∧ Rd w' (.slice a 2 cp) [9, 8]) ∧ SW w0 Bv Bm exM2 F c w' := by
  refine (at_any W Bv Bm 4 exM2 F c h.cv (by omega) h.sp.tabs exIts 16386 exCh (by decide) 4).mono ?_
  rintro e w' ⟨⟨v, rfl, hr⟩, hb⟩
  rw [exS4] at hr ⊢
  obtain ⟨a, cp, hv⟩ := hr.shape
  have hv' : v = .slice a 2 cp := hv
  subst hv'
  exact ⟨⟨a, cp, rfl, hr⟩, h.next hb⟩
theorem exAt5 {w0 W : World} {Bv Bm : Nat} {F : Nat → Prop} {c : Nat} (h : SW w0 Bv Bm exM2 F c W) (hc : c < 1000) :
    Calls Tryd.prog 18 #[.pointer (some ⟨Bv, 0, none⟩), .int .i64 16386, .int .i64 5] W fun e w' => (∃ a cp, e = .returned (.tuple #[.agg #[.int .i64 3, .int .i64 7, .int .i64 5, .bool true, .int .i64 4097, .slice a 0 cp], .int .i64 16386, .int .i64 0])) ∧ Below W.heap.size W w' := by
  refine (at_any W Bv Bm 4 exM2 F c h.cv (by omega) h.sp.tabs exIts 16386 exCh (by decide) 5).mono ?_
  rintro e w' ⟨⟨v, rfl, hr⟩, hb⟩
  rw [exS5] at hr ⊢
  obtain ⟨a, cp, hv⟩ := hr.shape
  have hv' : v = .slice a 0 cp := hv
  subst hv'
  exact ⟨⟨a, cp, rfl⟩, hb⟩
theorem exAt1 {w0 W : World} {Bv Bm : Nat} {F : Nat → Prop} {c : Nat} (h : SW w0 Bv Bm exM2 F c W) (hc : c < 1000) :
    Calls Tryd.prog 18 #[.pointer (some ⟨Bv, 0, none⟩), .int .i64 16386, .int .i64 1] W fun e w' => (∃ a cp, e = .returned (.tuple #[.agg #[.int .i64 0, .int .i64 0, .int .i64 0, .bool false, .int .i64 0, .slice a 0 cp], .int .i64 0, .int .i64 0])) ∧ Below W.heap.size W w' := by
  refine (at_any W Bv Bm 4 exM2 F c h.cv (by omega) h.sp.tabs exIts 16386 exCh (by decide) 1).mono ?_
  rintro e w' ⟨⟨v, rfl, hr⟩, hb⟩
  rw [exS1] at hr ⊢
  obtain ⟨a, cp, hv⟩ := hr.shape
  have hv' : v = .slice a 0 cp := hv
  subst hv'
  exact ⟨⟨a, cp, rfl⟩, hb⟩
theorem exT0 {w0 W : World} {Bv Bm : Nat} {F : Nat → Prop} {c : Nat} (h : SW w0 Bv Bm exM2 F c W) (hc : c < 1000) :
    Calls Tryd.prog 34 #[.pointer (some ⟨Bv, 0, none⟩), .int .i64 16386, .slice none 0 0] W fun e w' => (∃ a cp, e = .returned (.tuple #[.int .i64 0, .slice a 2 cp, .int .i64 0]) ∧ Rd w' (.slice a 2 cp) [16386, 4097]) ∧ Below W.heap.size W w' := by
  refine (trim_any W Bv Bm 4 exM2 F c h.cv (by omega) h.sp.tabs exIts 16386 4097 newC oldC exCh rfl rfl rfl rfl rfl (by decide) (by decide) false none 0 0 (Or.inl ⟨_, _, rfl, rfl⟩)).mono ?_
  rintro e w' ⟨⟨v, rfl, hr⟩, hb⟩
  obtain ⟨a, cp, hv⟩ := hr.shape
  have hv' : v = .slice a 2 cp := hv
  subst hv'
  exact ⟨⟨a, cp, rfl, hr⟩, hb⟩
theorem exT1 {w0 W : World} {Bv Bm : Nat} {F : Nat → Prop} {c : Nat} (h : SW w0 Bv Bm exM2 F c W) (hc : c < 1000) (sa : Option Addr) (sc : Nat) (hs : Rd W (.slice sa 1 sc) [3]) :
    Calls Tryd.prog 34 #[.pointer (some ⟨Bv, 0, none⟩), .int .i64 16386, .slice sa 1 sc] W fun e w' => (∃ a cp, e = .returned (.tuple #[.int .i64 16386, .slice a 0 cp, .int .i64 0])) ∧ Below W.heap.size W w' := by
  refine (trim_any W Bv Bm 4 exM2 F c h.cv (by omega) h.sp.tabs exIts 16386 4097 newC oldC exCh rfl rfl rfl rfl rfl (by decide) (by decide) true sa 1 sc hs).mono ?_
  rintro e w' ⟨⟨v, rfl, hr⟩, hb⟩
  obtain ⟨a, cp, hv⟩ := hr.shape
  have hv' : v = .slice a 0 cp := hv
  subst hv'
  exact ⟨⟨a, cp, rfl⟩, hb⟩
theorem exSame (W : World) (a b : Option Addr) (ca cb : Nat) (ha : Rd W (.slice a 2 ca) [9, 8]) (hb : Rd W (.slice b 2 cb) [9, 8]) :
    Calls Tryd.prog 16 #[.agg #[.int .i64 3, .int .i64 7, .int .i64 2, .bool false, .int .i64 0, .slice a 2 ca], .agg #[.int .i64 3, .int .i64 7, .int .i64 2, .bool false, .int .i64 0, .slice b 2 cb]] W fun e w' => e = .returned (.bool true) ∧ Below W.heap.size W w' :=
  csame_any W oldC _ _ ha hb
theorem exInts (W : World) (u v : Value) (l : List Int) (hl : l.length < 1000) (hu : Rd W u l) (hv : Rd W v l) : Calls Tryd.prog 12 #[u, v] W fun e w' => e = .returned (.bool true) ∧ Below W.heap.size W w' := by
  refine (sameInts_any W u v l l hu hv (by omega) (by omega)).mono ?_
  rintro e w' ⟨rfl, hb⟩
  refine ⟨?_, hb⟩
  rw [sameB_all rfl (fun _ _ => rfl)]

end Go.Proofs.YtcngblnkfiggjaaDoor.Rm
