/- Contract of do of the statements' package: one call of a script, on the program's object. -/
import Derived.Test.YtphmfmfbneoljaaWalkL
namespace Go.Proofs.Ytphmfmfbneoljaa.Ep
open Go Go.RowKit Go.Maps

/-- One call of a script, on the plain state. -/
def St.step (s : St) (kind a : Int) (bs : List Int) : St := if kind = 0 then s.enter a else if kind = 1 then s.leave a else if kind = 2 then s.retire bs else if kind = 3 then s.free else s
def St.stepOut (s : St) (kind : Int) : List Int := if kind = 3 then s.freed else []
def St.stepErr (s : St) (kind a : Int) (bs : List Int) : Int := if kind = 0 then s.enterErr a else if kind = 1 then s.leaveErr a else if kind = 2 then s.retireErr bs else 0

/-- What do leaves. -/
def Done (w : World) (B : Nat) (s : St) (F : Nat → Prop) (c : Nat) (kind a : Int) (bs : List Int) (e : Ending) (w' : World) : Prop :=
  ∃ ro F', e = .returned (.tuple #[ro, .int .i64 (s.stepErr kind a bs)]) ∧ w'.ownsRow w.heap.size 3 1 ro (s.stepOut kind).length (ints (s.stepOut kind)) ∧ Obj w' B (s.step kind a bs) F' (c + bs.length + 1) ∧ Moves F F' w w' ∧
    ∀ k, ro.ownBlock = some k → ¬ F' k

theorem moves_alloc {F F' : Nat → Prop} {w w' : World} {o : _root_.Go.Obj} (h : Moves F F' (w.alloc o) w') : Moves F F' w w' :=
  Moves.trans (Moves.of_below ((Below.refl _ _).alloc (Nat.le_refl _) _)) h

set_option maxHeartbeats 2000000 in
set_option maxRecDepth 100000 in
theorem do_any (w : World) (B : Nat) (s : St) (F : Nat → Prop) (c : Nat) (kind a : Int) (u : Value) (bs : List Int) (h : Obj w B s F c) (hu : Rd w u bs) (hF : ∀ k, u.ownBlock = some k → bs ≠ [] → ¬ F k) (ha : (Lit.int .i64 a).wf = true) (hw : ∀ x ∈ bs, (Lit.int .i64 x).wf = true) (hc : c + bs.length < 1000000) :
    Calls Try.prog 11 #[.pointer (some ⟨B, 0, none⟩), .agg #[.int .i64 kind, .int .i64 a, u]] w (Done w B s F c kind a bs) := by
  have hbel : Below w.heap.size w (w.alloc (.cells #[.int .i64 kind, .int .i64 a, u] 34)) := (Below.refl _ _).alloc (Nat.le_refl _) _
  have hO := h.below hbel
  have hu' := hu.below hbel
  have hsl : ∃ au lu cu, u = .slice au lu cu := by
    rcases hu with ⟨ao, cap, rfl, rfl⟩ | ⟨b, off, cap, rfl, _⟩
    · exact ⟨_, _, _, rfl⟩
    · exact ⟨_, _, _, rfl⟩
  by_cases k0 : kind = 0
  · have e1 : s.step kind a bs = s.enter a := by simp [St.step, k0]
    have e2 : s.stepErr kind a bs = s.enterErr a := by simp [St.stepErr, k0]
    have e3 : s.stepOut kind = [] := by simp [St.stepOut, k0]
    have hE := enter_any _ B s F c a hO ha (by omega)
    have hq : (kind == 0) = true := by simpa using k0
    have HE := Lib.hid hE
    have H1 := Lib.hid e1
    have H2 := Lib.hid e2
    have H3 := Lib.hid e3
    obtain ⟨au, lu, cu, rfl⟩ := hsl
    clear e1 e2 e3 hE k0 hu hu' hF hw hO h
    go_enter Try.func11, Try.ntmps11
    go_wp2_with fail
    refine HE.out.mono ?_
    rintro e w1 ⟨rfl, F', hO1, hM1⟩
    have HO1 := Lib.hid hO1
    have HM1 := Lib.hid hM1
    clear hO1 hM1
    go_wp2
    go_ret2
    refine ⟨.slice none 0 0, F', by rw [H2.out]; rfl, ?_, ?_, moves_alloc HM1.out, fun k hk => by cases hk⟩
    · rw [H3.out]; exact World.ownsRow_nil _ _ _ _
    · rw [H1.out]; exact HO1.out.mono (by omega)
  have q0 : (kind == 0) = false := by simpa using k0
  by_cases k1 : kind = 1
  · have e1 : s.step kind a bs = s.leave a := by simp [St.step, k1]
    have e2 : s.stepErr kind a bs = s.leaveErr a := by simp [St.stepErr, k1]
    have e3 : s.stepOut kind = [] := by simp [St.stepOut, k1]
    have hE := leave_any _ B s F c a hO ha
    have hq : (kind == 1) = true := by simpa using k1
    have HE := Lib.hid hE
    have H1 := Lib.hid e1
    have H2 := Lib.hid e2
    have H3 := Lib.hid e3
    obtain ⟨au, lu, cu, rfl⟩ := hsl
    clear e1 e2 e3 hE k1 hu hu' hF hw hO h
    go_enter Try.func11, Try.ntmps11
    go_wp2_with fail
    refine HE.out.mono ?_
    rintro e w1 ⟨rfl, F', hO1, hM1⟩
    have HO1 := Lib.hid hO1
    have HM1 := Lib.hid hM1
    clear hO1 hM1
    go_wp2
    go_ret2
    refine ⟨.slice none 0 0, F', by rw [H2.out]; rfl, ?_, ?_, moves_alloc HM1.out, fun k hk => by cases hk⟩
    · rw [H3.out]; exact World.ownsRow_nil _ _ _ _
    · rw [H1.out]; exact HO1.out.mono (by omega)
  have q1 : (kind == 1) = false := by simpa using k1
  by_cases k2 : kind = 2
  · have e1 : s.step kind a bs = s.retire bs := by simp [St.step, k2]
    have e2 : s.stepErr kind a bs = s.retireErr bs := by simp [St.stepErr, k2]
    have e3 : s.stepOut kind = [] := by simp [St.stepOut, k2]
    have hE := retire_any _ B s F c u bs hO hu' hF hw hc
    have hq : (kind == 2) = true := by simpa using k2
    have HE := Lib.hid hE
    have H1 := Lib.hid e1
    have H2 := Lib.hid e2
    have H3 := Lib.hid e3
    obtain ⟨au, lu, cu, rfl⟩ := hsl
    clear e1 e2 e3 hE k2 hu hu' hF hw hO h
    go_enter Try.func11, Try.ntmps11
    go_wp2_with fail
    refine HE.out.mono ?_
    rintro e w1 ⟨rfl, F', hO1, hM1⟩
    have HO1 := Lib.hid hO1
    have HM1 := Lib.hid hM1
    clear hO1 hM1
    go_wp2
    go_ret2
    refine ⟨.slice none 0 0, F', by rw [H2.out]; rfl, ?_, ?_, moves_alloc HM1.out, fun k hk => by cases hk⟩
    · rw [H3.out]; exact World.ownsRow_nil _ _ _ _
    · rw [H1.out]; exact HO1.out.mono (by omega)
  have q2 : (kind == 2) = false := by simpa using k2
  by_cases k3 : kind = 3
  · have e1 : s.step kind a bs = s.free := by simp [St.step, k3]
    have e2 : s.stepErr kind a bs = 0 := by simp [St.stepErr, k3]
    have e3 : s.stepOut kind = s.freed := by simp [St.stepOut, k3]
    have hE := free_any _ B s F c hO (by omega)
    have hlt := h.lt
    have hq : (kind == 3) = true := by simpa using k3
    have HE := Lib.hid hE
    have H1 := Lib.hid e1
    have H2 := Lib.hid e2
    have H3 := Lib.hid e3
    have HLT := Lib.hid hlt
    obtain ⟨au, lu, cu, rfl⟩ := hsl
    clear e1 e2 e3 hE k0 k1 k2 k3 hu hu' hF hw hO h hlt
    go_enter Try.func11, Try.ntmps11
    go_wp2_with fail
    refine HE.out.mono ?_
    rintro e w1 ⟨ro, rfl, hrow, hO1, hM1⟩
    have HO1 := Lib.hid hO1
    have HM1 := Lib.hid hM1
    have HRO := Lib.hid hrow
    clear hO1 hM1 hrow
    go_wp2
    go_ret2
    refine ⟨ro, F, by rw [H2.out]; rfl, ?_, ?_, moves_alloc HM1.out, fun k hk hf => ?_⟩
    · rw [H3.out]; exact Joins.ownsRow_le HRO.out (by simp)
    · rw [H1.out]; exact HO1.out.mono (by omega)
    · have h1 := (HRO.out.lt k hk).1
      have h2 := HLT.out k hf
      simp at h1
      omega
  have q3 : (kind == 3) = false := by simpa using k3
  have e1 : s.step kind a bs = s := by simp [St.step, k0, k1, k2, k3]
  have e2 : s.stepErr kind a bs = 0 := by simp [St.stepErr, k0, k1, k2]
  have e3 : s.stepOut kind = [] := by simp [St.stepOut, k3]
  have H1 := Lib.hid e1
  have H2 := Lib.hid e2
  have H3 := Lib.hid e3
  have HO := Lib.hid hO
  have HBL := Lib.hid hbel
  obtain ⟨au, lu, cu, rfl⟩ := hsl
  clear e1 e2 e3 k0 k1 k2 k3 hu hu' hF hw hO h hbel
  go_enter Try.func11, Try.ntmps11
  go_wp2
  go_ret2
  refine ⟨.slice none 0 0, F, by rw [H2.out]; rfl, ?_, ?_, Moves.of_below HBL.out, fun k hk => by cases hk⟩
  · rw [H3.out]; exact World.ownsRow_nil _ _ _ _
  · rw [H1.out]; exact HO.out.mono (by omega)

end Go.Proofs.Ytphmfmfbneoljaa.Ep
