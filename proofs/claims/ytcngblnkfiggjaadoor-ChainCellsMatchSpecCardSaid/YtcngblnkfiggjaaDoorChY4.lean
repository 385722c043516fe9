/- Walk of ChainCodesBack. -/
import Derived.Test.YtcngblnkfiggjaaDoorChY3
namespace Go.Proofs.YtcngblnkfiggjaaDoor.Rm
open Go Go.RowKit Go.Maps Go.Shelf

/-- What the law holds of its two arguments, later on. -/
structure AW (w : World) (c : Cl) (v tv : Value) (tail : List Int) (W : World) : Prop where
  tabs : Tabs W
  rd : Rd W v c.ws
  tl : Rd W tv tail
  box : W.heap[w.heap.size]? = some (boxC c v)
  below : Below w.heap.size w W
  size : w.heap.size + 1 ≤ W.heap.size
theorem AW.next {w : World} {c : Cl} {v tv : Value} {tail : List Int} {A B : World} (h : AW w c v tv tail A) (hb : Below A.heap.size A B) : AW w c v tv tail B :=
  ⟨h.tabs.below hb, h.rd.below hb, h.tl.below hb, (hb.block _ (by have := h.size; omega)).trans h.box, h.below.trans (hb.mono (by have := h.size; omega)), Nat.le_trans h.size hb.size⟩
theorem AW.start {w : World} {c : Cl} {v tv : Value} {tail : List Int} (T : Tabs w) (hv : Rd w v c.ws) (ht : Rd w tv tail) : AW w c v tv tail (w.alloc (boxC c v)) := by
  have hb : Below w.heap.size w (w.alloc (boxC c v)) := (Below.refl _ w).alloc (Nat.le_refl _) _
  exact ⟨T.below hb, hv.below hb, ht.below hb, heap_alloc_new _ _, hb, by simp⟩
/-- A slice cut to its first n elements. -/
theorem Rd.cut {w : World} {a : Option Addr} {m cap n : Nat} {l : List Int} (h : Rd w (.slice a m cap) l) (hn : n ≤ l.length) : Rd w (.slice a n cap) (l.take n) := by
  rcases h with ⟨ao, cp, e, rfl⟩ | ⟨b, off, cp, e, h0, hc, hm, hb, he⟩
  · cases e
    obtain rfl : n = 0 := by simpa using hn
    exact Or.inl ⟨_, _, rfl, rfl⟩
  · cases e
    by_cases hz : n = 0
    · subst hz; exact Or.inl ⟨_, _, rfl, by simp⟩
    · have hl : (l.take n).length = n := by rw [List.length_take, Nat.min_eq_left hn]
      refine Or.inr ⟨b, off, cap, by rw [hl], by omega, by omega, hm, hb, fun j hj => ?_⟩
      rw [he j (by omega)]
      unfold nthI
      rw [List.getD_eq_getElem?_getD, List.getD_eq_getElem?_getD, List.getElem?_take_of_lt (by omega)]

theorem Rd.capLe {w : World} {a : Option Addr} {m cap : Nat} {l : List Int} (h : Rd w (.slice a m cap) l) (hp : 0 < l.length) : l.length ≤ cap := by
  rcases h with ⟨ao, cp, e, rfl⟩ | ⟨b, off, cp, e, h0, hc, hm, hb, he⟩
  · simp at hp
  · cases e; exact hc

set_option maxHeartbeats 8000000 in
set_option maxRecDepth 100000 in
theorem codesback_any (w : World) (T : Tabs w) (c : Cl) (v tv : Value) (tail : List Int) (hv : Rd w v c.ws) (ht : Rd w tv tail) :
    Calls Tryd.prog 4 #[clV c v, tv] w fun e w' => e = .returned (.bool true) ∧ Below w.heap.size w w' := by
  have hA0 := AW.start T hv ht
  obtain ⟨ao, cap, rfl⟩ := hv.shape
  obtain ⟨at', tcap, rfl⟩ := ht.shape
  have hbt := ht.bound
  unfold boxC at hA0
  have HA0 := Lib.hid hA0
  have HR := Lib.hid (rright16_any c.t c.r c.s c.p c.d (.slice ao c.ws.length cap) c.ws _ hA0.rd)
  clear hA0 hv ht
  unfold clV
  go_enter Tryd.func4, Tryd.ntmps4
  go_wp2_with fail
  refine HR.out.mono ?_
  rintro e w1 ⟨rfl, hb1⟩
  have HA1 := Lib.hid (HA0.out.next hb1)
  clear hb1 HA0 HR
  cases hr : rightC c.t c.r c.s c.p c.d c.ws
  · go_wp2_with fail
    refine (csanity_any w1 HA1.out.tabs).mono ?_
    rintro e w2 ⟨rfl, hb2⟩
    have HE := Lib.hid (HA1.out.next hb2).below
    clear hb2
    go_wp2
    go_ret
    exact ⟨rfl, HE.out⟩
  · by_cases hl : 40 < tail.length
    · have hlq : (40 : Int) < tail.length := by omega
      go_wp2_with fail
      refine (csanity_any w1 HA1.out.tabs).mono ?_
      rintro e w2 ⟨rfl, hb2⟩
      have HE := Lib.hid (HA1.out.next hb2).below
      clear hb2
      go_wp2
      go_ret
      exact ⟨rfl, HE.out⟩
    · have hlq : ¬ (40 : Int) < tail.length := by omega
      have hlen : c.ws.length ≤ 123 := (rightC_t hr).2.2.2.2.1
      obtain ⟨o0, o1, o2, o3, o4, o5⟩ := boxC_cells HA1.out.box
      have HE1 := Lib.hid (encode_yes c (.slice ao c.ws.length cap) w1 HA1.out.tabs HA1.out.rd hr)
      unfold clV at HE1
      go_wp2_with fail
      refine HE1.out.mono ?_
      rintro e w2 ⟨⟨u, rfl, ho⟩, hb2⟩
      obtain ⟨ue, ce, hue⟩ := owns_shape ho
      subst hue
      have hel : c.enc.length ≤ 127 := by have := enc_length c; omega
      have HA2 := Lib.hid (HA1.out.next hb2)
      have HU2 := Lib.hid ho.rd
      clear ho hb2 HE1 o0 o1 o2 o3 o4 o5
      have hbe : Below w2.heap.size w2 (w2.alloc (.cells #[] 3)) := (Below.refl _ _).alloc (Nat.le_refl _) _
      have ho3 := OwnZ.empty (w := w2) (base := w2.heap.size) (Nat.le_refl _)
      have hd3 := HU2.out.below hbe
      go_wp2_with (at_builtin; refine wpList_append_rd _ rfl _ _ rfl rfl w2.heap.size _ _ [] c.enc rfl rfl ho3 hd3 ?a1 ?a2 ?_)
      case a1 => first | omega | (simp; done) | (simp; omega)
      case a2 => first | omega | (simp; done) | (simp; omega)
      intro v3 w3 hrow3 hg3 hv3
      have hb3 : Below w2.heap.size w2 w3 := hbe.grown hg3 (by simp) (fun j hj => by cases hj; exact Nat.le_refl _)
      have ht3 := (HA2.out.next hb3).tl
      have hs3 := hb3.size
      have HB3 := Lib.hid hb3
      clear ho3 hd3 hg3 hv3 hbe hb3
      obtain ⟨a3, c3, hsh3⟩ := owns_shape hrow3
      subst hsh3
      go_wp2_with (at_builtin; refine wpList_append_rd _ rfl _ _ rfl rfl w2.heap.size _ _ c.enc tail rfl rfl hrow3 ht3 ?a1 ?a2 ?_)
      case a1 => first | omega | (simp; done) | (simp; omega)
      case a2 => first | omega | (simp; done) | (simp; omega)
      intro v4 w4 hrow4 hg4 hv4
      have hb4 : Below w2.heap.size w2 w4 := HB3.out.grown hg4 hs3 (fun j hj => (hrow3.lt j hj).1)
      have HA4 := Lib.hid (HA2.out.next hb4)
      have HU4 := Lib.hid (HU2.out.below hb4)
      have HR4 := Lib.hid (OwnZ.rd (show OwnZ w4 w2.heap.size v4 (c.enc ++ tail) from by unfold OwnZ; rw [List.length_append]; exact hrow4))
      obtain ⟨a4, c4, hsh4⟩ := owns_shape hrow4
      subst hsh4
      clear hrow3 ht3 hg4 hv4 hrow4 hb4 HB3 HA2 HU2
      have hdl : (c.enc ++ tail).length < 1000000 := by rw [List.length_append]; omega
      have HDE := Lib.hid (dec_enc hr tail)
      go_wp2_with fail
      refine (decode_any w4 _ (c.enc ++ tail) HA4.out.tabs HR4.out hdl).mono ?_
      rintro e w5 ⟨hcase, hb5⟩
      have hok : okD (c.enc ++ tail) = true := by unfold okD; rw [HDE.out.1, HDE.out.2]; exact hr
      rcases hcase with ⟨_, u5, rfl, ho5⟩ | ⟨hno, _⟩
      rotate_left
      · rw [hok] at hno; cases hno
      rw [HDE.out.2] at ho5 ⊢
      obtain ⟨a5, c5, hsh5⟩ := owns_shape ho5
      subst hsh5
      have hl5 := (Below.refl w5.heap.size w5).alloc (Nat.le_refl _) (boxC c (.slice a5 c.ws.length c5))
      have HA5 := Lib.hid ((HA4.out.next hb5).next hl5)
      have HU5 := Lib.hid ((HU4.out.below hb5).below hl5)
      have HX5 := Lib.hid (ho5.rd.below hl5)
      have HB5 := Lib.hid (show (w5.alloc (boxC c (.slice a5 c.ws.length c5))).heap[w5.heap.size]? = some (boxC c (.slice a5 c.ws.length c5)) from heap_alloc_new _ _)
      unfold boxC at HA5 HU5 HX5
      clear ho5 hb5 hl5 HA4 HU4 HR4 hok hdl
      unfold clV
      go_wp2_with fail
      have htl : tail.length < 1000000 := by omega
      refine (decode_any _ _ tail HA5.out.tabs HA5.out.tl htl).mono ?_
      rintro e w6 ⟨hcase, hb6⟩
      have hs6 := hb6.size
      simp only [World.size_alloc] at hs6
      rcases hcase with ⟨hok, u6, rfl, ho6⟩ | ⟨hno, rfl⟩
      · obtain ⟨a6, c6, hsh6⟩ := owns_shape ho6
        subst hsh6
        have hl6 := (Below.refl w6.heap.size w6).alloc (Nat.le_refl _) (boxC (decC tail) (.slice a6 (decC tail).ws.length c6))
        have HA6 := Lib.hid ((HA5.out.next hb6).next hl6)
        have HX6 := Lib.hid ((HX5.out.below hb6).below hl6)
        have HB6 := Lib.hid ((hl6.block _ (by omega)).trans ((hb6.block _ (by simp)).trans HB5.out))
        have HY6 := Lib.hid (ho6.rd.below hl6)
        have HC6 := Lib.hid (show (w6.alloc (boxC (decC tail) (.slice a6 (decC tail).ws.length c6))).heap[w6.heap.size]? = some (boxC (decC tail) (.slice a6 (decC tail).ws.length c6)) from heap_alloc_new _ _)
        have hry : (decC tail).right = true := by unfold okD at hok; rw [Bool.and_eq_true] at hok; exact hok.2
        have HED := Lib.hid (enc_dec hok)
        obtain ⟨d, hd⟩ : ∃ d, decC tail = d := ⟨_, rfl⟩
        rw [hd] at HA6 HX6 HB6 HY6 HC6 hry HED ⊢
        unfold boxC at HA6 HX6 HY6
        clear ho6 hb6 hl6 hok HA5 HX5 HB5 hd
        unfold clV
        obtain ⟨y0, y1, y2, y3, y4, y5⟩ := boxC_cells HC6.out
        unfold boxC at y0 y1 y2 y3 y4 y5
        have HE6 := Lib.hid (encode_yes d (.slice a6 d.ws.length c6) _ HA6.out.tabs HY6.out hry)
        unfold clV at HE6
        go_wp2_with fail
        refine HE6.out.mono ?_
        rintro e w7 ⟨⟨u7, rfl, ho7⟩, hb7⟩
        obtain ⟨a7, c7, hsh7⟩ := owns_shape ho7
        subst hsh7
        have hs7 := hb7.size
        simp only [World.size_alloc] at hs7
        have HA7 := Lib.hid (HA6.out.next hb7)
        have HX7 := Lib.hid (HX6.out.below hb7)
        have HB7 := Lib.hid ((hb7.block _ (by simp; omega)).trans HB6.out)
        have HK7 := Lib.hid ho7.rd
        obtain ⟨hle, heq⟩ := HED.out
        have HCUT := Lib.hid (show Rd w7 (.slice at' d.enc.length tcap) d.enc from by
          have := HA7.out.tl.cut hle
          rw [← heq] at this
          exact this)
        clear ho7 hb7 HE6 HA6 HX6 HB6 HY6 HC6 y0 y1 y2 y3 y4 y5 heq HED
        have hlei : (d.enc.length : Int) ≤ tail.length := by omega
        have hcp : d.enc.length ≤ tcap := by
          have h1 := enc_length d
          have h2 := HA7.out.tl.capLe (by omega)
          omega
        have hdl : d.enc.length < 1000 := by omega
        go_wp2_with fail
        refine (exInts w7 _ _ d.enc hdl HK7.out HCUT.out).mono ?_
        rintro e w71 ⟨rfl, hb71⟩
        have hs71 := hb71.size
        have HA71 := Lib.hid (HA7.out.next hb71)
        have HX71 := Lib.hid (HX7.out.below hb71)
        have HB71 := Lib.hid ((hb71.block _ (by omega)).trans HB7.out)
        clear hb71 HA7 HX7 HB7 HK7 HCUT
        obtain ⟨o0, o1, o2, o3, o4, o5⟩ := boxC_cells HA71.out.box
        obtain ⟨x0, x1, x2, x3, x4, x5⟩ := boxC_cells HB71.out
        go_wp2_with fail
        refine (csanity_any _ HA71.out.tabs).mono ?_
        rintro e w8 ⟨rfl, hb8⟩
        have HA8 := Lib.hid (HA71.out.next hb8)
        have HX8 := Lib.hid (HX71.out.below hb8)
        have HB8 := Lib.hid ((hb8.block _ (by omega)).trans HB71.out)
        clear hb8 o0 o1 o2 o3 o4 o5 x0 x1 x2 x3 x4 x5
        obtain ⟨o0, o1, o2, o3, o4, o5⟩ := boxC_cells HA8.out.box
        obtain ⟨x0, x1, x2, x3, x4, x5⟩ := boxC_cells HB8.out
        have HS8 := Lib.hid (csame_any w8 c (.slice a5 c.ws.length c5) (.slice ao c.ws.length cap) HX8.out HA8.out.rd)
        unfold clV at HS8
        go_wp2_with fail
        refine HS8.out.mono ?_
        rintro e w9 ⟨rfl, hb9⟩
        have HA9 := Lib.hid (HA8.out.next hb9)
        clear hb9 o0 o1 o2 o3 o4 o5 x0 x1 x2 x3 x4 x5 HS8
        obtain ⟨o0, o1, o2, o3, o4, o5⟩ := boxC_cells HA9.out.box
        go_wp2_with fail
        refine (size_any c.t c.r c.s c.p c.d ao c.ws.length cap w9 (by omega)).mono ?_
        rintro e w10 ⟨rfl, hb10⟩
        have HE := Lib.hid (HA9.out.next hb10).below
        clear hb10 o0 o1 o2 o3 o4 o5
        have hz : (c.enc.length : Int) = 5 + (c.ws.length : Int) - 1 := by have := enc_length c; omega
        go_wp2
        go_ret
        exact ⟨rfl, HE.out⟩
      · have hl6 := (Below.refl w6.heap.size w6).alloc (Nat.le_refl _) (boxC Cl.zero (.slice none 0 0))
        have HA6 := Lib.hid ((HA5.out.next hb6).next hl6)
        have HX6 := Lib.hid ((HX5.out.below hb6).below hl6)
        have HB6 := Lib.hid ((hl6.block _ (by omega)).trans ((hb6.block _ (by simp)).trans HB5.out))
        unfold boxC Cl.zero at HA6 HX6
        have hl6s : w5.heap.size < (w6.alloc (.cells #[.int .i64 0, .int .i64 0, .int .i64 0, .bool false, .int .i64 0, .slice none 0 0] 24)).heap.size := by simp; omega
        clear hb6 hl6 HA5 HX5 HB5
        unfold clV Cl.zero
        dsimp only
        obtain ⟨o0, o1, o2, o3, o4, o5⟩ := boxC_cells HA6.out.box
        obtain ⟨x0, x1, x2, x3, x4, x5⟩ := boxC_cells HB6.out
        go_wp2_with fail
        refine (csanity_any _ HA6.out.tabs).mono ?_
        rintro e w8 ⟨rfl, hb8⟩
        have HA8 := Lib.hid (HA6.out.next hb8)
        have HX8 := Lib.hid (HX6.out.below hb8)
        have HB8 := Lib.hid ((hb8.block _ (by omega)).trans HB6.out)
        clear hb8 o0 o1 o2 o3 o4 o5 x0 x1 x2 x3 x4 x5
        obtain ⟨o0, o1, o2, o3, o4, o5⟩ := boxC_cells HA8.out.box
        obtain ⟨x0, x1, x2, x3, x4, x5⟩ := boxC_cells HB8.out
        have HS8 := Lib.hid (csame_any w8 c (.slice a5 c.ws.length c5) (.slice ao c.ws.length cap) HX8.out HA8.out.rd)
        unfold clV at HS8
        go_wp2_with fail
        refine HS8.out.mono ?_
        rintro e w9 ⟨rfl, hb9⟩
        have HA9 := Lib.hid (HA8.out.next hb9)
        clear hb9 o0 o1 o2 o3 o4 o5 x0 x1 x2 x3 x4 x5 HS8
        obtain ⟨o0, o1, o2, o3, o4, o5⟩ := boxC_cells HA9.out.box
        go_wp2_with fail
        refine (size_any c.t c.r c.s c.p c.d ao c.ws.length cap w9 (by omega)).mono ?_
        rintro e w10 ⟨rfl, hb10⟩
        have HE := Lib.hid (HA9.out.next hb10).below
        clear hb10 o0 o1 o2 o3 o4 o5
        have hz : (c.enc.length : Int) = 5 + (c.ws.length : Int) - 1 := by have := enc_length c; omega
        go_wp2
        go_ret
        exact ⟨rfl, HE.out⟩

end Go.Proofs.YtcngblnkfiggjaaDoor.Rm
