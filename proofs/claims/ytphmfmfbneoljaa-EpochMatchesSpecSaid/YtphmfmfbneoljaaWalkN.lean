/- The example that every statement of layer 17 plays first returns true; nothing that was there changes. -/
import Derived.Test.YtphmfmfbneoljaaWalkM
namespace Go.Proofs.Ytphmfmfbneoljaa.Ep
open Go Go.RowKit Go.Maps

/-- An object that has been made since w0. -/
structure Own (w0 w : World) (B : Nat) (s : St) (F : Nat → Prop) (c : Nat) : Prop where
  obj : Obj w B s F c
  new : ∀ k, F k → w0.heap.size ≤ k
  below : Below w0.heap.size w0 w
theorem Own.moves {w0 w w' : World} {B : Nat} {s s' : St} {F F' : Nat → Prop} {c c' : Nat} (h : Own w0 w B s F c) (ho : Obj w' B s' F' c') (hm : Moves F F' w w') : Own w0 w' B s' F' c' :=
  ⟨ho, fun k hk => by rcases hm.sub k hk with h1 | h1; exact h.new k h1; exact Nat.le_trans h.below.size h1, h.below.trans (hm.below h.new h.below.size)⟩
theorem Own.by {w0 w w' : World} {B : Nat} {s : St} {F : Nat → Prop} {c : Nat} (h : Own w0 w B s F c) (hb : Below w.heap.size w w') : Own w0 w' B s F c :=
  ⟨h.obj.below hb, h.new, h.below.trans (hb.mono h.below.size)⟩
theorem Own.alloc {w0 w : World} {B : Nat} {s : St} {F : Nat → Prop} {c : Nat} (h : Own w0 w B s F c) (o : _root_.Go.Obj) : Own w0 (w.alloc o) B s F c := h.by ((Below.refl _ _).alloc (Nat.le_refl _) _)

/-- A row that has been handed out: it is read, and its block belongs to no object. -/
def Out (w : World) (F : Nat → Prop) (v : Value) (bs : List Int) : Prop := Rd w v bs ∧ ∀ k, v.ownBlock = some k → k < w.heap.size → ¬ F k
theorem Out.moves {w w' : World} {F F' : Nat → Prop} {v : Value} {bs : List Int} (h : Out w F v bs) (hl : ∀ k, v.ownBlock = some k → k < w.heap.size) (hm : Moves F F' w w') : Out w' F' v bs :=
  ⟨h.1.carry hm.size (fun k hk hlt => hm.block k hlt (h.2 k hk hlt)), fun k hk _ hF => by
    rcases hm.sub k hF with h1 | h1
    · exact h.2 k hk (hl k hk) h1
    · have := hl k hk; omega⟩

theorem owns_shape {w : World} {base : Nat} {e : TypeId} {sz : Nat} {v : Value} {n : Nat} {xs : List Value} (h : w.ownsRow base e sz v n xs) : ∃ ao cap, v = .slice ao n cap := by
  obtain ⟨_, ⟨rfl, rfl⟩ | ⟨g, cap, cur, rfl, _⟩⟩ := h
  · exact ⟨_, _, rfl⟩
  · exact ⟨_, _, rfl⟩
theorem rd_new1 (w : World) (x : Int) : Rd (w.alloc (.cells #[.int .i64 x] 3)) (.slice (some ⟨w.heap.size, 0, none⟩) 1 1) [x] :=
  Or.inr ⟨w.heap.size, 0, 1, rfl, by simp, by simp, by unfold maxLen; omega, by simp, fun j hj => by
    simp at hj; subst hj; go_simp; rfl⟩
theorem rd_new2 (w : World) (x y : Int) : Rd (w.alloc (.cells #[.int .i64 x, .int .i64 y] 3)) (.slice (some ⟨w.heap.size, 0, none⟩) 2 2) [x, y] :=
  Or.inr ⟨w.heap.size, 0, 2, rfl, by simp, by simp, by unfold maxLen; omega, by simp, fun j hj => by
    simp at hj
    rcases (show j = 0 ∨ j = 1 by omega) with rfl | rfl
    · go_simp; rfl
    · go_simp; rfl⟩

def t1 : St := St.new.enter 7
def t2 : St := t1.retire [1, 2]
def t3 : St := t2.enter 8
def t4 : St := t3.retire [3]
def t5 : St := t4.free
def t6 : St := t5.leave 7
def t7 : St := t6.free
def t8 : St := t7.enter 8
def t9 : St := t8.leave 7
def t10 : St := t9.retire [3]
def t11 : St := t10.retire [4, 4]
def t12 : St := t11.leave 8

theorem wf7 : (Lit.int .i64 7).wf = true := by decide
theorem wf8 : (Lit.int .i64 8).wf = true := by decide
theorem wfs (l : List Int) (h : ∀ x ∈ l, 0 ≤ x ∧ x ≤ 9) : ∀ x ∈ l, (Lit.int .i64 x).wf = true := fun x hx => wf64 (by have := h x hx; omega)

set_option maxHeartbeats 4000000 in
set_option maxRecDepth 100000 in
theorem sanity_any (w : World) : Calls Try.prog 7 #[] w fun e w' => e = .returned (.bool true) ∧ Below w.heap.size w w' := by
  go_enter Try.func7, Try.ntmps7
  go_wp2_with fail
  refine (new_any w).mono ?_
  rintro e w1 ⟨B, F0, rfl, hO, hb, hF⟩
  have X0 : Own w w1 B St.new F0 0 := ⟨hO, hF, hb⟩
  clear hO hb hF
  go_wp2_with fail
  refine (enter_any _ B _ _ _ 7 X0.obj wf7 (by omega)).mono ?_
  rintro e w2 ⟨rfl, F1, hO, hM⟩
  have X1 : Own w w2 B t1 F1 1 := X0.moves hO hM
  clear hO hM X0
  go_wp2_with fail
  refine (retire_any _ B _ _ _ _ [1, 2] (X1.alloc _).obj (rd_new2 _ 1 2) (fun k hk _ hf => by cases hk; exact Nat.lt_irrefl _ (X1.obj.lt _ hf)) (wfs _ (by simp)) (by simp)).mono ?_
  rintro e w3 ⟨rfl, F2, hO, hM⟩
  rw [show t1.retireErr [1, 2] = 0 by decide]
  have X2 : Own w w3 B t2 F2 4 := (X1.alloc _).moves hO hM
  clear hO hM X1
  go_wp2_with fail
  refine (enter_any _ B _ _ _ 8 X2.obj wf8 (by omega)).mono ?_
  rintro e w4 ⟨rfl, F3, hO, hM⟩
  have X3 : Own w w4 B t3 F3 5 := X2.moves hO hM
  clear hO hM X2
  go_wp2_with fail
  refine (retire_any _ B _ _ _ _ [3] (X3.alloc _).obj (rd_new1 _ 3) (fun k hk _ hf => by cases hk; exact Nat.lt_irrefl _ (X3.obj.lt _ hf)) (wfs _ (by simp)) (by simp)).mono ?_
  rintro e w5 ⟨rfl, F4, hO, hM⟩
  have X4 : Own w w5 B t4 F4 7 := (X3.alloc _).moves hO hM
  clear hO hM X3
  go_wp2_with fail
  refine (free_any _ B _ _ _ X4.obj (by omega)).mono ?_
  rintro e w6 ⟨r1, rfl, hr1, hO, hM⟩
  have X5 : Own w w6 B t5 F4 7 := X4.moves hO hM
  have e5 : St.freed t4 = [] := by decide
  rw [e5] at hr1
  obtain ⟨a1, p1, rfl⟩ := owns_shape hr1
  clear hO hM X4 hr1 e5
  go_wp2_with fail
  refine (leave_any _ B _ _ _ 7 X5.obj wf7).mono ?_
  rintro e w7 ⟨rfl, F6, hO, hM⟩
  rw [show t5.leaveErr 7 = 0 by decide]
  have X6 : Own w w7 B t6 F6 7 := X5.moves hO hM
  clear hO hM X5
  go_wp2_with fail
  refine (free_any _ B _ _ _ X6.obj (by omega)).mono ?_
  rintro e w8 ⟨r2, rfl, hr2, hO, hM⟩
  have X7 : Own w w8 B t7 F6 7 := X6.moves hO hM
  have e7 : St.freed t6 = [1, 2] := by decide
  rw [e7] at hr2
  have R8 : Out w8 F6 r2 [1, 2] := ⟨Rd.of_owns hr2, fun k hk _ hf => by have h1 := (hr2.lt k hk).1; have h2 := X6.obj.lt k hf; omega⟩
  have L8 : ∀ k, r2.ownBlock = some k → k < w8.heap.size := fun k hk => (hr2.lt k hk).2
  have HR8 := Lib.hid R8
  have HL8 := Lib.hid L8
  clear hO hM X6 hr2 e7 R8 L8
  go_wp2_with fail
  refine (waiting_any _ B _ _ _ X7.obj (by omega)).mono ?_
  rintro e w9 ⟨r3, rfl, hr3, hb9⟩
  have X8 := X7.by hb9
  have R3 : Rd w9 r3 [3] := Rd.of_owns (bs := [3]) hr3
  have M9 : Moves F6 F6 w8 w9 := Moves.of_below hb9
  have HR3 := Lib.hid R3
  have HM9 := Lib.hid M9
  clear hr3 R3 M9 hb9
  go_wp2_with fail
  refine (same_any _ _ _ [3] [3] (HR3.out.below ((Below.refl _ _).alloc (Nat.le_refl _) _)) (rd_new1 _ 3) (by simp) (by simp)).mono ?_
  rintro e w10 ⟨rfl, hb10⟩
  rw [show sameB [3] [3] = true by decide]
  have X9 := (X8.alloc _).by hb10
  have M10 : Moves F6 F6 w8 w10 := HM9.out.trans (Moves.of_below (((Below.refl _ _).alloc (Nat.le_refl _) _).trans (hb10.mono (by simp))))
  have HM10 := Lib.hid M10
  clear M10 hb10 HM9 HR3 X8 X7
  go_wp2_with fail
  refine (readers_any _ B _ _ _ X9.obj (by omega)).mono ?_
  rintro e w11 ⟨r4, rfl, hr4, hb11⟩
  have X10 := X9.by hb11
  have R4 : Rd w11 r4 [8] := Rd.of_owns (bs := [8]) hr4
  have M11 : Moves F6 F6 w8 w11 := HM10.out.trans (Moves.of_below hb11)
  have HR4 := Lib.hid R4
  have HM11 := Lib.hid M11
  clear hr4 R4 M11 hb11 HM10 X9
  go_wp2_with fail
  refine (same_any _ _ _ [8] [8] (HR4.out.below ((Below.refl _ _).alloc (Nat.le_refl _) _)) (rd_new1 _ 8) (by simp) (by simp)).mono ?_
  rintro e w12 ⟨rfl, hb12⟩
  rw [show sameB [8] [8] = true by decide]
  have X11 := (X10.alloc _).by hb12
  have M12 : Moves F6 F6 w8 w12 := HM11.out.trans (Moves.of_below (((Below.refl _ _).alloc (Nat.le_refl _) _).trans (hb12.mono (by simp))))
  have HM12 := Lib.hid M12
  clear M12 hb12 HM11 HR4 X10
  go_wp2_with fail
  refine (least_any _ B _ _ _ X11.obj).mono ?_
  rintro e w13 ⟨rfl, hb13⟩
  rw [show t7.least = 2 by decide]
  have X12 := X11.by hb13
  have M13 : Moves F6 F6 w8 w13 := HM12.out.trans (Moves.of_below hb13)
  have HM13 := Lib.hid M13
  clear M13 hb13 HM12 X11
  go_wp2_with fail
  refine (now_any _ B _ _ _ X12.obj).mono ?_
  rintro e w' ⟨rfl, rfl⟩
  rw [show t7.now = 3 by decide]
  go_wp2_with fail
  refine (enter_any _ B _ _ _ 8 X12.obj wf8 (by omega)).mono ?_
  rintro e w14 ⟨rfl, F8, hO, hM⟩
  rw [show t7.enterErr 8 = 6 by decide]
  have X13 : Own w w14 B t8 F8 8 := X12.moves hO hM
  have HM14 := Lib.hid (HM13.out.trans hM)
  clear hO hM HM13 X12
  go_wp2_with fail
  refine (leave_any _ B _ _ _ 7 X13.obj wf7).mono ?_
  rintro e w15 ⟨rfl, F9, hO, hM⟩
  rw [show t8.leaveErr 7 = 5 by decide]
  have X14 : Own w w15 B t9 F9 8 := X13.moves hO hM
  have HM15 := Lib.hid (HM14.out.trans hM)
  clear hO hM HM14 X13
  go_wp2_with fail
  refine (retire_any _ B _ _ _ _ [3] (X14.alloc _).obj (rd_new1 _ 3) (fun k hk _ hf => by cases hk; exact Nat.lt_irrefl _ (X14.obj.lt _ hf)) (wfs _ (by simp)) (by simp)).mono ?_
  rintro e w16 ⟨rfl, F10, hO, hM⟩
  rw [show t9.retireErr [3] = 6 by decide]
  have X15 : Own w w16 B t10 F10 10 := (X14.alloc _).moves hO hM
  have HM16 := Lib.hid (HM15.out.trans (moves_alloc hM))
  clear hO hM HM15 X14
  go_wp2_with fail
  refine (retire_any _ B _ _ _ _ [4, 4] (X15.alloc _).obj (rd_new2 _ 4 4) (fun k hk _ hf => by cases hk; exact Nat.lt_irrefl _ (X15.obj.lt _ hf)) (wfs _ (by simp)) (by simp)).mono ?_
  rintro e w17 ⟨rfl, F11, hO, hM⟩
  rw [show t10.retireErr [4, 4] = 6 by decide]
  have X16 : Own w w17 B t11 F11 13 := (X15.alloc _).moves hO hM
  have HM17 := Lib.hid (HM16.out.trans (moves_alloc hM))
  clear hO hM HM16 X15
  go_wp2_with fail
  refine (leave_any _ B _ _ _ 8 X16.obj wf8).mono ?_
  rintro e w18 ⟨rfl, F12, hO, hM⟩
  have X17 : Own w w18 B t12 F12 13 := X16.moves hO hM
  have HM18 := Lib.hid (HM17.out.trans hM)
  clear hO hM HM17 X16
  go_wp2_with fail
  refine (same_any _ _ _ [1, 2] [1, 2] (((HR8.out.moves HL8.out HM18.out).1).below ((Below.refl _ _).alloc (Nat.le_refl _) _)) (rd_new2 _ 1 2) (by simp) (by simp)).mono ?_
  rintro e w19 ⟨rfl, hb19⟩
  rw [show sameB [1, 2] [1, 2] = true by decide]
  have X18 := (X17.alloc _).by hb19
  clear hb19 X17 HM18 HR8 HL8
  go_wp2_with fail
  refine (free_any _ B _ _ _ X18.obj (by omega)).mono ?_
  rintro e w20 ⟨r5, rfl, hr5, hO, hM⟩
  have X19 := X18.moves hO hM
  have e5 : St.freed t12 = [3] := by decide
  rw [e5] at hr5
  have R5 : Rd w20 r5 [3] := Rd.of_owns (bs := [3]) hr5
  have HR5 := Lib.hid R5
  clear hO hM X18 hr5 e5 R5
  go_wp2_with fail
  refine (same_any _ _ _ [3] [3] (HR5.out.below ((Below.refl _ _).alloc (Nat.le_refl _) _)) (rd_new1 _ 3) (by simp) (by simp)).mono ?_
  rintro e w21 ⟨rfl, hb21⟩
  rw [show sameB [3] [3] = true by decide]
  have X20 := (X19.alloc _).by hb21
  clear hb21 X19 HR5
  go_wp2
  go_ret
  exact ⟨rfl, X20.below⟩

end Go.Proofs.Ytphmfmfbneoljaa.Ep
