/- Walk of ChainCellsMatchSpec. -/
import Derived.Test.YtcngblnkfiggjaaDoorChY4
import Derived.Test.YtcngblnkfiggjaaDoorChY5
namespace Go.Proofs.YtcngblnkfiggjaaDoor.Rm
open Go Go.RowKit Go.Maps Go.Shelf

/-- What both Decodes return: the cell, the error. -/
def dD (l : List Int) : Cl := if okD l = true then decC l else Cl.zero
def eD (l : List Int) : Int := if okD l = true then 0 else 3
theorem decode_two (w : World) (v : Value) (l : List Int) (T : Tabs w) (h : Rd w v l) (hlen : l.length < 1000000) :
    Calls Tryd.prog 14 #[v] w fun e w' => (∃ a n c, e = .returned (.tuple #[clV (dD l) (.slice a n c), .int .i64 (eD l)]) ∧ Rd w' (.slice a n c) (dD l).ws) ∧ Below w.heap.size w w' := by
  refine (decode_any w v l T h hlen).mono ?_
  rintro e w' ⟨⟨hok, u, rfl, ho⟩ | ⟨hno, rfl⟩, hb⟩
  · unfold dD eD
    rw [if_pos hok, if_pos hok]
    obtain ⟨a, c, rfl⟩ := owns_shape ho
    exact ⟨⟨a, _, c, rfl, ho.rd⟩, hb⟩
  · unfold dD eD
    rw [if_neg (by rw [hno]; decide), if_neg (by rw [hno]; decide)]
    exact ⟨⟨none, 0, 0, rfl, Or.inl ⟨_, _, rfl, rfl⟩⟩, hb⟩
theorem rdecode_two (w : World) (v : Value) (l : List Int) (h : Rd w v l) (hlen : l.length < 1000000) :
    Calls Tryd.prog 15 #[v] w fun e w' => (∃ a n c, e = .returned (gotV (dD l) (.slice a n c) 0 (eD l)) ∧ Rd w' (.slice a n c) (dD l).ws) ∧ Below w.heap.size w w' := by
  refine (rdecode_any w v l h hlen).mono ?_
  rintro e w' ⟨⟨hok, u, rfl, ho⟩ | ⟨hno, rfl⟩, hb⟩
  · unfold dD eD
    rw [if_pos hok, if_pos hok]
    obtain ⟨a, c, rfl⟩ := ho.shape
    exact ⟨⟨a, _, c, rfl, ho⟩, hb⟩
  · unfold dD eD
    rw [if_neg (by rw [hno]; decide), if_neg (by rw [hno]; decide)]
    exact ⟨⟨none, 0, 0, rfl, Or.inl ⟨_, _, rfl, rfl⟩⟩, hb⟩

set_option maxHeartbeats 8000000 in
set_option maxRecDepth 100000 in
theorem cells_any (w : World) (T : Tabs w) (c : Cl) (v lv : Value) (l : List Int) (hv : Rd w v c.ws) (hl : Rd w lv l) :
    Calls Tryd.prog 3 #[clV c v, lv] w fun e w' => e = .returned (.bool true) ∧ Below w.heap.size w w' := by
  have hA0 := AW.start T hv hl
  obtain ⟨ao, cap, rfl⟩ := hv.shape
  obtain ⟨al, lcap, rfl⟩ := hl.shape
  have hbv := hv.bound
  have hbl := hl.bound
  unfold boxC at hA0
  have HA0 := Lib.hid hA0
  clear hA0 hv hl
  unfold clV
  by_cases h1 : 130 < c.ws.length
  · have i1 : (130 : Int) < c.ws.length := by omega
    go_enter Tryd.func3, Tryd.ntmps3
    go_wp2_with fail
    refine (csanity_any _ HA0.out.tabs).mono ?_
    rintro e w2 ⟨rfl, hb2⟩
    have HE := Lib.hid (HA0.out.next hb2).below
    clear hb2
    go_wp2
    go_ret
    exact ⟨rfl, HE.out⟩
  by_cases h2 : 140 < l.length
  · have i1 : ¬ (130 : Int) < c.ws.length := by omega
    have i2 : (140 : Int) < l.length := by omega
    go_enter Tryd.func3, Tryd.ntmps3
    go_wp2_with fail
    refine (csanity_any _ HA0.out.tabs).mono ?_
    rintro e w2 ⟨rfl, hb2⟩
    have HE := Lib.hid (HA0.out.next hb2).below
    clear hb2
    go_wp2
    go_ret
    exact ⟨rfl, HE.out⟩
  have i1 : ¬ (130 : Int) < c.ws.length := by omega
  have i2 : ¬ (140 : Int) < l.length := by omega
  have HR := Lib.hid (rright16_any c.t c.r c.s c.p c.d (.slice ao c.ws.length cap) c.ws _ HA0.out.rd)
  go_enter Tryd.func3, Tryd.ntmps3
  go_wp2_with fail
  refine HR.out.mono ?_
  rintro e w1 ⟨rfl, hb1⟩
  have HA1 := Lib.hid (HA0.out.next hb1)
  clear hb1 HA0 HR
  obtain ⟨o0, o1, o2, o3, o4, o5⟩ := boxC_cells HA1.out.box
  cases hr : rightC c.t c.r c.s c.p c.d c.ws
  · have HE1 := Lib.hid (encode_no c (.slice ao c.ws.length cap) w1 HA1.out.tabs HA1.out.rd hr)
    unfold clV at HE1
    go_wp2_with fail
    refine HE1.out.mono ?_
    rintro e w2 ⟨rfl, hb2⟩
    have HA2 := Lib.hid (HA1.out.next hb2)
    clear hb2 HE1 o0 o1 o2 o3 o4 o5 HA1
    obtain ⟨o0, o1, o2, o3, o4, o5⟩ := boxC_cells HA2.out.box
    have HK := Lib.hid (fun (W : World) (hW : Below w2.heap.size w2 W) => (show Below w2.heap.size w2 W ∧ W.cell? ⟨w.heap.size, 0, none⟩ = some (.int .i64 c.t) ∧ W.cell? ⟨w.heap.size, 1, none⟩ = some (.int .i64 c.r) ∧ W.cell? ⟨w.heap.size, 2, none⟩ = some (.int .i64 c.s) ∧ W.cell? ⟨w.heap.size, 3, none⟩ = some (.bool c.d) ∧ W.cell? ⟨w.heap.size, 4, none⟩ = some (.int .i64 c.p) ∧ W.cell? ⟨w.heap.size, 5, none⟩ = some (.slice ao c.ws.length cap) from
      ⟨hW, boxC_cells (HA2.out.next hW).box⟩))
    have C10 := Lib.hid (fun (W : World) (hW : Below w2.heap.size w2 W) => (show Calls Tryd.prog 10 #[.agg #[.int .i64 c.t, .int .i64 c.r, .int .i64 c.s, .bool c.d, .int .i64 c.p, .slice ao c.ws.length cap]] W fun e W' => e = .returned (.bool false) ∧ Below w2.heap.size w2 W' from
      (cright_any c.t c.r c.s c.p c.d (.slice ao c.ws.length cap) c.ws W (HA2.out.next hW).tabs (HA2.out.next hW).rd).mono fun e W' ⟨he, hb⟩ => ⟨by rw [he, hr], below_next hW hb⟩))
    have C11 := Lib.hid (fun (W : World) (hW : Below w2.heap.size w2 W) => (show Calls Tryd.prog 11 #[.agg #[.int .i64 c.t, .int .i64 c.r, .int .i64 c.s, .bool c.d, .int .i64 c.p, .slice ao c.ws.length cap]] W fun e W' => e = .returned (.int .i64 (5 + c.ws.length)) ∧ Below w2.heap.size w2 W' from
      (size_any c.t c.r c.s c.p c.d ao c.ws.length cap W (by omega)).mono fun e W' ⟨he, hb⟩ => ⟨he, below_next hW hb⟩))
    have hb5 : Below w2.heap.size w2 w2.drew := (Below.refl _ _).drew
    have g5 : IntKind.i64.wrap (5 + (c.ws.length : Int)) = 5 + (c.ws.length : Int) := by simp [IntKind.wrap, IntKind.bits, IntKind.signed]; omega
    go_wp2
    -- REGION F BEGIN
    refine wp_region_D (fun W => Below w2.heap.size w2 W ∧ W.cell? ⟨w.heap.size, 0, none⟩ = some (.int .i64 c.t) ∧ W.cell? ⟨w.heap.size, 1, none⟩ = some (.int .i64 c.r) ∧ W.cell? ⟨w.heap.size, 2, none⟩ = some (.int .i64 c.s) ∧ W.cell? ⟨w.heap.size, 3, none⟩ = some (.bool c.d) ∧ W.cell? ⟨w.heap.size, 4, none⟩ = some (.int .i64 c.p) ∧ W.cell? ⟨w.heap.size, 5, none⟩ = some (.slice ao c.ws.length cap)) [] (by kernel_rfl) (HK.out _ hb5) (fun hHeld => ?_)
    refine wpAnyD_take (i := 0) (oi := { dst := some 28, op := Op.load 24 (Operand.tmp 2), type := 24, pos := "law.go:84", after := #[], guard := none }) (v := ?_) [] rfl (by kernel_rfl) (by kernel_rfl) (by kernel_rfl) (by kernel_rfl) (fun _ _ _ h => h) (Or.inl ⟨by rfl, ?_⟩) (by assumption) ?_
    rotate_left
    · intro w hSw; (try dsimp only at hSw); go_simp; try with_reducible rfl
    try simp only [Act.put, List.setIfInBounds_toArray, List.set_cons_zero, List.set_cons_succ]
    refine wpAnyD_take (i := 2) (oi := { dst := some 30, op := Op.move (Operand.tmp 5), type := 4, pos := "law.go:84", after := #[], guard := none }) (v := ?_) [] rfl (by kernel_rfl) (by kernel_rfl) (by kernel_rfl) (by kernel_rfl) (fun _ _ _ h => h) (Or.inl ⟨by rfl, ?_⟩) (by assumption) ?_
    rotate_left
    · intro w hSw; (try dsimp only at hSw); go_simp; try with_reducible rfl
    try simp only [Act.put, List.setIfInBounds_toArray, List.set_cons_zero, List.set_cons_succ]
    refine wpAnyD_ready [1] (by kernel_rfl) (by simp) ?_
    refine AllReadyD.cons (o := { dst := some 29, op := Op.call { callee := Callee.value (Operand.func 10), args := #[Operand.tmp 28], argTypes := #[24] }, type := 4, pos := "law.go:84", after := #[{ on := 0, ground := Ground.data }], guard := none }) rfl (fun K hK => ?_) AllReadyD.nil
    go_simp
    refine (C10.out _ hb5).mono ?_
    rintro e W1 ⟨rfl, hbw1⟩
    refine hK.out _ _ (fun _ => HK.out _ hbw1) ?_
    clear hK K hHeld
    have hHeld := HK.out _ hbw1
    try simp only [Act.put, List.setIfInBounds_toArray, List.set_cons_zero, List.set_cons_succ]
    refine wpAnyD_take (i := 3) (oi := { dst := some 31, op := Op.binOp BinOp.neq 4 (Operand.tmp 29) (Operand.tmp 30) 4, type := 4, pos := "law.go:84", after := #[{ on := 1, ground := Ground.data }, { on := 2, ground := Ground.data }], guard := none }) (v := ?_) [] rfl (by kernel_rfl) (by kernel_rfl) (by kernel_rfl) (by kernel_rfl) (fun _ _ _ h => h) (Or.inl ⟨by rfl, ?_⟩) (by assumption) ?_
    rotate_left
    · intro w hSw; (try dsimp only at hSw); go_simp; try with_reducible rfl
    try simp only [Act.put, List.setIfInBounds_toArray, List.set_cons_zero, List.set_cons_succ]
    refine wpAnyD_take (i := 4) (oi := { dst := some 32, op := Op.move (Operand.tmp 31), type := 4, pos := "law.go:84", after := #[{ on := 3, ground := Ground.data }, { on := 1, ground := Ground.chain }], guard := none }) (v := ?_) [] rfl (by kernel_rfl) (by kernel_rfl) (by kernel_rfl) (by kernel_rfl) (fun _ _ _ h => h) (Or.inl ⟨by rfl, ?_⟩) (by assumption) ?_
    rotate_left
    · intro w hSw; (try dsimp only at hSw); go_simp; try with_reducible rfl
    try simp only [Act.put, List.setIfInBounds_toArray, List.set_cons_zero, List.set_cons_succ]
    refine wpAnyD_take (i := 5) (oi := { dst := some 33, op := Op.load 24 (Operand.tmp 2), type := 24, pos := "law.go:84", after := #[{ on := 4, ground := Ground.guard }], guard := some (4, false) }) (v := ?_) [] rfl (by kernel_rfl) (by kernel_rfl) (by kernel_rfl) (by kernel_rfl) (fun _ _ _ h => h) (Or.inl ⟨by rfl, ?_⟩) (by assumption) ?_
    rotate_left
    · intro w hSw; (try dsimp only at hSw); go_simp; try with_reducible rfl
    try simp only [Act.put, List.setIfInBounds_toArray, List.set_cons_zero, List.set_cons_succ]
    refine wpAnyD_take (i := 7) (oi := { dst := some 35, op := Op.fieldAddr 24 (Operand.tmp 2) 5, type := 0, pos := "law.go:84", after := #[{ on := 4, ground := Ground.guard }], guard := some (4, false) }) (v := ?_) [] rfl (by kernel_rfl) (by kernel_rfl) (by kernel_rfl) (by kernel_rfl) (fun _ _ _ h => h) (Or.inl ⟨by rfl, ?_⟩) (by assumption) ?_
    rotate_left
    · intro w hSw; (try dsimp only at hSw); go_simp; try with_reducible rfl
    try simp only [Act.put, List.setIfInBounds_toArray, List.set_cons_zero, List.set_cons_succ]
    refine wpAnyD_take (i := 8) (oi := { dst := some 36, op := Op.load 22 (Operand.tmp 35), type := 22, pos := "law.go:84", after := #[{ on := 7, ground := Ground.data }, { on := 4, ground := Ground.guard }], guard := some (4, false) }) (v := ?_) [] rfl (by kernel_rfl) (by kernel_rfl) (by kernel_rfl) (by kernel_rfl) (fun _ _ _ h => h) (Or.inl ⟨by rfl, ?_⟩) (by assumption) ?_
    rotate_left
    · intro w hSw; (try dsimp only at hSw); go_simp; try with_reducible rfl
    try simp only [Act.put, List.setIfInBounds_toArray, List.set_cons_zero, List.set_cons_succ]
    refine wpAnyD_take (i := 9) (oi := { dst := some 37, op := Op.call { callee := Callee.builtin Builtin.len, args := #[Operand.tmp 36], argTypes := #[22] }, type := 3, pos := "law.go:84", after := #[{ on := 8, ground := Ground.data }, { on := 4, ground := Ground.guard }], guard := some (4, false) }) (v := ?_) [] rfl (by kernel_rfl) (by kernel_rfl) (by kernel_rfl) (by kernel_rfl) (fun _ _ _ h => h) (Or.inl ⟨by rfl, ?_⟩) (by assumption) ?_
    rotate_left
    · intro w hSw; (try dsimp only at hSw); go_simp; try with_reducible rfl
    try simp only [Act.put, List.setIfInBounds_toArray, List.set_cons_zero, List.set_cons_succ]
    refine wpAnyD_take (i := 10) (oi := { dst := some 38, op := Op.binOp BinOp.add 3 (Operand.const (Value.int IntKind.i64 5)) (Operand.tmp 37) 3, type := 3, pos := "law.go:84", after := #[{ on := 9, ground := Ground.data }, { on := 4, ground := Ground.guard }], guard := some (4, false) }) (v := ?_) [] rfl (by kernel_rfl) (by kernel_rfl) (by kernel_rfl) (by kernel_rfl) (fun _ _ _ h => h) (Or.inl ⟨by rfl, ?_⟩) (by assumption) ?_
    rotate_left
    · intro w hSw; (try dsimp only at hSw); go_simp; try with_reducible rfl
    try simp only [Act.put, List.setIfInBounds_toArray, List.set_cons_zero, List.set_cons_succ]
    refine wpAnyD_ready [6] (by kernel_rfl) (by simp) ?_
    refine AllReadyD.cons (o := { dst := some 34, op := Op.call { callee := Callee.value (Operand.func 11), args := #[Operand.tmp 33], argTypes := #[24] }, type := 3, pos := "law.go:84", after := #[{ on := 5, ground := Ground.data }, { on := 4, ground := Ground.chain }, { on := 4, ground := Ground.guard }], guard := some (4, false) }) rfl (fun K hK => ?_) AllReadyD.nil
    go_simp
    refine (C11.out _ hbw1).mono ?_
    rintro e W2 ⟨rfl, hbw2⟩
    refine hK.out _ _ (fun _ => HK.out _ hbw2) ?_
    clear hK K hHeld
    have hHeld := HK.out _ hbw2
    try simp only [Act.put, List.setIfInBounds_toArray, List.set_cons_zero, List.set_cons_succ]
    refine wpAnyD_take (i := 11) (oi := { dst := some 39, op := Op.binOp BinOp.neq 3 (Operand.tmp 34) (Operand.tmp 38) 3, type := 4, pos := "law.go:84", after := #[{ on := 6, ground := Ground.data }, { on := 10, ground := Ground.data }, { on := 4, ground := Ground.guard }], guard := some (4, false) }) (v := ?_) [] rfl (by kernel_rfl) (by kernel_rfl) (by kernel_rfl) (by kernel_rfl) (fun _ _ _ h => h) (Or.inl ⟨by rfl, ?_⟩) (by assumption) ?_
    rotate_left
    · intro w hSw; (try dsimp only at hSw); go_simp; try with_reducible rfl
    try simp only [Act.put, List.setIfInBounds_toArray, List.set_cons_zero, List.set_cons_succ]
    refine wpAnyD_take (i := 12) (oi := { dst := some 40, op := Op.pick (Operand.tmp 32) (Operand.const (Value.bool true)) (Operand.tmp 39), type := 4, pos := "law.go:84", after := #[{ on := 4, ground := Ground.data }, { on := 11, ground := Ground.data }], guard := none }) (v := ?_) [] rfl (by kernel_rfl) (by kernel_rfl) (by kernel_rfl) (by kernel_rfl) (fun _ _ _ h => h) (Or.inl ⟨by rfl, ?_⟩) (by assumption) ?_
    rotate_left
    · intro w hSw; (try dsimp only at hSw); go_simp; try with_reducible rfl
    try simp only [Act.put, List.setIfInBounds_toArray, List.set_cons_zero, List.set_cons_succ]
    refine wpAnyD_take (i := 13) (oi := { dst := some 41, op := Op.move (Operand.tmp 40), type := 4, pos := "law.go:84", after := #[{ on := 12, ground := Ground.data }, { on := 6, ground := Ground.chain }], guard := none }) (v := ?_) [] rfl (by kernel_rfl) (by kernel_rfl) (by kernel_rfl) (by kernel_rfl) (fun _ _ _ h => h) (Or.inl ⟨by rfl, ?_⟩) (by assumption) ?_
    rotate_left
    · intro w hSw; (try dsimp only at hSw); go_simp; try with_reducible rfl
    try simp only [Act.put, List.setIfInBounds_toArray, List.set_cons_zero, List.set_cons_succ]
    refine wpAnyD_take (i := 14) (oi := { dst := some 42, op := Op.move (Operand.tmp 7), type := 27, pos := "law.go:84", after := #[{ on := 13, ground := Ground.guard }], guard := some (13, false) }) (v := ?_) [] rfl (by kernel_rfl) (by kernel_rfl) (by kernel_rfl) (by kernel_rfl) (fun _ _ _ h => h) (Or.inl ⟨by rfl, ?_⟩) (by assumption) ?_
    rotate_left
    · intro w hSw; (try dsimp only at hSw); go_simp; try with_reducible rfl
    try simp only [Act.put, List.setIfInBounds_toArray, List.set_cons_zero, List.set_cons_succ]
    refine wpAnyD_take (i := 15) (oi := { dst := some 43, op := Op.binOp BinOp.eql 27 (Operand.tmp 42) (Operand.const (Value.int IntKind.i64 0)) 27, type := 4, pos := "law.go:84", after := #[{ on := 14, ground := Ground.data }, { on := 13, ground := Ground.guard }], guard := some (13, false) }) (v := ?_) [] rfl (by kernel_rfl) (by kernel_rfl) (by kernel_rfl) (by kernel_rfl) (fun _ _ _ h => h) (Or.inl ⟨by rfl, ?_⟩) (by assumption) ?_
    rotate_left
    · intro w hSw; (try dsimp only at hSw); go_simp; try with_reducible rfl
    try simp only [Act.put, List.setIfInBounds_toArray, List.set_cons_zero, List.set_cons_succ]
    refine wpAnyD_take (i := 16) (oi := { dst := some 44, op := Op.move (Operand.tmp 5), type := 4, pos := "law.go:84", after := #[{ on := 13, ground := Ground.guard }], guard := some (13, false) }) (v := ?_) [] rfl (by kernel_rfl) (by kernel_rfl) (by kernel_rfl) (by kernel_rfl) (fun _ _ _ h => h) (Or.inl ⟨by rfl, ?_⟩) (by assumption) ?_
    rotate_left
    · intro w hSw; (try dsimp only at hSw); go_simp; try with_reducible rfl
    try simp only [Act.put, List.setIfInBounds_toArray, List.set_cons_zero, List.set_cons_succ]
    refine wpAnyD_take (i := 17) (oi := { dst := some 45, op := Op.binOp BinOp.neq 4 (Operand.tmp 43) (Operand.tmp 44) 4, type := 4, pos := "law.go:84", after := #[{ on := 15, ground := Ground.data }, { on := 16, ground := Ground.data }, { on := 13, ground := Ground.guard }], guard := some (13, false) }) (v := ?_) [] rfl (by kernel_rfl) (by kernel_rfl) (by kernel_rfl) (by kernel_rfl) (fun _ _ _ h => h) (Or.inl ⟨by rfl, ?_⟩) (by assumption) ?_
    rotate_left
    · intro w hSw; (try dsimp only at hSw); go_simp; try with_reducible rfl
    try simp only [Act.put, List.setIfInBounds_toArray, List.set_cons_zero, List.set_cons_succ]
    refine wpAnyD_take (i := 18) (oi := { dst := some 46, op := Op.pick (Operand.tmp 41) (Operand.const (Value.bool true)) (Operand.tmp 45), type := 4, pos := "law.go:84", after := #[{ on := 13, ground := Ground.data }, { on := 17, ground := Ground.data }], guard := none }) (v := ?_) [] rfl (by kernel_rfl) (by kernel_rfl) (by kernel_rfl) (by kernel_rfl) (fun _ _ _ h => h) (Or.inl ⟨by rfl, ?_⟩) (by assumption) ?_
    rotate_left
    · intro w hSw; (try dsimp only at hSw); go_simp; try with_reducible rfl
    try simp only [Act.put, List.setIfInBounds_toArray, List.set_cons_zero, List.set_cons_succ]
    refine wpAnyD_take (i := 19) (oi := { dst := some 47, op := Op.move (Operand.tmp 46), type := 4, pos := "law.go:84", after := #[{ on := 18, ground := Ground.data }, { on := 13, ground := Ground.chain }], guard := none }) (v := ?_) [] rfl (by kernel_rfl) (by kernel_rfl) (by kernel_rfl) (by kernel_rfl) (fun _ _ _ h => h) (Or.inl ⟨by rfl, ?_⟩) (by assumption) ?_
    rotate_left
    · intro w hSw; (try dsimp only at hSw); go_simp; try with_reducible rfl
    try simp only [Act.put, List.setIfInBounds_toArray, List.set_cons_zero, List.set_cons_succ]
    refine wpAnyD_take (i := 20) (oi := { dst := some 48, op := Op.move (Operand.tmp 5), type := 4, pos := "law.go:84", after := #[{ on := 19, ground := Ground.guard }], guard := some (19, false) }) (v := ?_) [] rfl (by kernel_rfl) (by kernel_rfl) (by kernel_rfl) (by kernel_rfl) (fun _ _ _ h => h) (Or.inl ⟨by rfl, ?_⟩) (by assumption) ?_
    rotate_left
    · intro w hSw; (try dsimp only at hSw); go_simp; try with_reducible rfl
    try simp only [Act.put, List.setIfInBounds_toArray, List.set_cons_zero, List.set_cons_succ]
    refine wpAnyD_take (i := 21) (oi := { dst := some 49, op := Op.move (Operand.tmp 48), type := 4, pos := "law.go:84", after := #[{ on := 20, ground := Ground.data }, { on := 19, ground := Ground.chain }, { on := 19, ground := Ground.guard }], guard := some (19, false) }) (v := ?_) [] rfl (by kernel_rfl) (by kernel_rfl) (by kernel_rfl) (by kernel_rfl) (fun _ _ _ h => h) (Or.inl ⟨by rfl, ?_⟩) (by assumption) ?_
    rotate_left
    · intro w hSw; (try dsimp only at hSw); go_simp; try with_reducible rfl
    try simp only [Act.put, List.setIfInBounds_toArray, List.set_cons_zero, List.set_cons_succ]
    refine wpAnyD_take (i := 22) (oi := { dst := some 50, op := Op.move (Operand.tmp 6), type := 22, pos := "law.go:84", after := #[{ on := 21, ground := Ground.guard }], guard := some (21, true) }) (v := undef) [] rfl (by kernel_rfl) (by kernel_rfl) (by kernel_rfl) (by kernel_rfl) (fun _ _ _ h => h) (Or.inr ⟨by rfl, rfl⟩) (by assumption) ?_
    try simp only [Act.put, List.setIfInBounds_toArray, List.set_cons_zero, List.set_cons_succ]
    refine wpAnyD_take (i := 23) (oi := { dst := some 51, op := Op.load 24 (Operand.tmp 2), type := 24, pos := "law.go:84", after := #[{ on := 21, ground := Ground.guard }], guard := some (21, true) }) (v := undef) [] rfl (by kernel_rfl) (by kernel_rfl) (by kernel_rfl) (by kernel_rfl) (fun _ _ _ h => h) (Or.inr ⟨by rfl, rfl⟩) (by assumption) ?_
    try simp only [Act.put, List.setIfInBounds_toArray, List.set_cons_zero, List.set_cons_succ]
    refine wpAnyD_take (i := 24) (oi := { dst := some 52, op := Op.call { callee := Callee.value (Operand.func 13), args := #[Operand.tmp 51], argTypes := #[24] }, type := 22, pos := "law.go:84", after := #[{ on := 23, ground := Ground.data }, { on := 21, ground := Ground.chain }, { on := 21, ground := Ground.guard }], guard := some (21, true) }) (v := undef) [] rfl (by kernel_rfl) (by kernel_rfl) (by kernel_rfl) (by kernel_rfl) (fun _ _ _ h => h) (Or.inr ⟨by rfl, rfl⟩) (by assumption) ?_
    try simp only [Act.put, List.setIfInBounds_toArray, List.set_cons_zero, List.set_cons_succ]
    refine wpAnyD_take (i := 25) (oi := { dst := some 53, op := Op.call { callee := Callee.value (Operand.func 12), args := #[Operand.tmp 50, Operand.tmp 52], argTypes := #[22, 22] }, type := 4, pos := "law.go:84", after := #[{ on := 22, ground := Ground.data }, { on := 24, ground := Ground.data }, { on := 24, ground := Ground.chain }, { on := 21, ground := Ground.guard }], guard := some (21, true) }) (v := undef) [] rfl (by kernel_rfl) (by kernel_rfl) (by kernel_rfl) (by kernel_rfl) (fun _ _ _ h => h) (Or.inr ⟨by rfl, rfl⟩) (by assumption) ?_
    try simp only [Act.put, List.setIfInBounds_toArray, List.set_cons_zero, List.set_cons_succ]
    refine wpAnyD_take (i := 26) (oi := { dst := some 54, op := Op.unOp UnOp.not 4 (Operand.tmp 53), type := 4, pos := "law.go:84", after := #[{ on := 25, ground := Ground.data }, { on := 21, ground := Ground.guard }], guard := some (21, true) }) (v := undef) [] rfl (by kernel_rfl) (by kernel_rfl) (by kernel_rfl) (by kernel_rfl) (fun _ _ _ h => h) (Or.inr ⟨by rfl, rfl⟩) (by assumption) ?_
    try simp only [Act.put, List.setIfInBounds_toArray, List.set_cons_zero, List.set_cons_succ]
    refine wpAnyD_take (i := 27) (oi := { dst := some 55, op := Op.pick (Operand.tmp 49) (Operand.tmp 54) (Operand.const (Value.bool false)), type := 4, pos := "law.go:84", after := #[{ on := 21, ground := Ground.data }, { on := 26, ground := Ground.data }, { on := 19, ground := Ground.guard }], guard := some (19, false) }) (v := ?_) [] rfl (by kernel_rfl) (by kernel_rfl) (by kernel_rfl) (by kernel_rfl) (fun _ _ _ h => h) (Or.inl ⟨by rfl, ?_⟩) (by assumption) ?_
    rotate_left
    · intro w hSw; (try dsimp only at hSw); go_simp; try with_reducible rfl
    try simp only [Act.put, List.setIfInBounds_toArray, List.set_cons_zero, List.set_cons_succ]
    refine wpAnyD_take (i := 28) (oi := { dst := some 56, op := Op.pick (Operand.tmp 47) (Operand.const (Value.bool true)) (Operand.tmp 55), type := 4, pos := "law.go:84", after := #[{ on := 19, ground := Ground.data }, { on := 27, ground := Ground.data }], guard := none }) (v := ?_) [] rfl (by kernel_rfl) (by kernel_rfl) (by kernel_rfl) (by kernel_rfl) (fun _ _ _ h => h) (Or.inl ⟨by rfl, ?_⟩) (by assumption) ?_
    rotate_left
    · intro w hSw; (try dsimp only at hSw); go_simp; try with_reducible rfl
    try simp only [Act.put, List.setIfInBounds_toArray, List.set_cons_zero, List.set_cons_succ]
    refine wpAnyD_take (i := 29) (oi := { dst := some 57, op := Op.move (Operand.tmp 56), type := 4, pos := "law.go:84", after := #[{ on := 28, ground := Ground.data }, { on := 25, ground := Ground.chain }], guard := none }) (v := ?_) [] rfl (by kernel_rfl) (by kernel_rfl) (by kernel_rfl) (by kernel_rfl) (fun _ _ _ h => h) (Or.inl ⟨by rfl, ?_⟩) (by assumption) ?_
    rotate_left
    · intro w hSw; (try dsimp only at hSw); go_simp; try with_reducible rfl
    try simp only [Act.put, List.setIfInBounds_toArray, List.set_cons_zero, List.set_cons_succ]
    refine wpAnyD_take (i := 30) (oi := { dst := some 58, op := Op.move (Operand.tmp 5), type := 4, pos := "law.go:84", after := #[{ on := 29, ground := Ground.guard }], guard := some (29, false) }) (v := ?_) [] rfl (by kernel_rfl) (by kernel_rfl) (by kernel_rfl) (by kernel_rfl) (fun _ _ _ h => h) (Or.inl ⟨by rfl, ?_⟩) (by assumption) ?_
    rotate_left
    · intro w hSw; (try dsimp only at hSw); go_simp; try with_reducible rfl
    try simp only [Act.put, List.setIfInBounds_toArray, List.set_cons_zero, List.set_cons_succ]
    refine wpAnyD_take (i := 31) (oi := { dst := some 59, op := Op.unOp UnOp.not 4 (Operand.tmp 58), type := 4, pos := "law.go:84", after := #[{ on := 30, ground := Ground.data }, { on := 29, ground := Ground.guard }], guard := some (29, false) }) (v := ?_) [] rfl (by kernel_rfl) (by kernel_rfl) (by kernel_rfl) (by kernel_rfl) (fun _ _ _ h => h) (Or.inl ⟨by rfl, ?_⟩) (by assumption) ?_
    rotate_left
    · intro w hSw; (try dsimp only at hSw); go_simp; try with_reducible rfl
    try simp only [Act.put, List.setIfInBounds_toArray, List.set_cons_zero, List.set_cons_succ]
    refine wpAnyD_take (i := 32) (oi := { dst := some 60, op := Op.move (Operand.tmp 59), type := 4, pos := "law.go:84", after := #[{ on := 31, ground := Ground.data }, { on := 29, ground := Ground.chain }, { on := 29, ground := Ground.guard }], guard := some (29, false) }) (v := ?_) [] rfl (by kernel_rfl) (by kernel_rfl) (by kernel_rfl) (by kernel_rfl) (fun _ _ _ h => h) (Or.inl ⟨by rfl, ?_⟩) (by assumption) ?_
    rotate_left
    · intro w hSw; (try dsimp only at hSw); go_simp; try with_reducible rfl
    try simp only [Act.put, List.setIfInBounds_toArray, List.set_cons_zero, List.set_cons_succ]
    refine wpAnyD_take (i := 33) (oi := { dst := some 61, op := Op.move (Operand.tmp 7), type := 27, pos := "law.go:84", after := #[{ on := 32, ground := Ground.guard }], guard := some (32, true) }) (v := ?_) [] rfl (by kernel_rfl) (by kernel_rfl) (by kernel_rfl) (by kernel_rfl) (fun _ _ _ h => h) (Or.inl ⟨by rfl, ?_⟩) (by assumption) ?_
    rotate_left
    · intro w hSw; (try dsimp only at hSw); go_simp; try with_reducible rfl
    try simp only [Act.put, List.setIfInBounds_toArray, List.set_cons_zero, List.set_cons_succ]
    refine wpAnyD_take (i := 34) (oi := { dst := some 62, op := Op.binOp BinOp.neq 27 (Operand.tmp 61) (Operand.const (Value.int IntKind.i64 1)) 27, type := 4, pos := "law.go:84", after := #[{ on := 33, ground := Ground.data }, { on := 32, ground := Ground.guard }], guard := some (32, true) }) (v := ?_) [] rfl (by kernel_rfl) (by kernel_rfl) (by kernel_rfl) (by kernel_rfl) (fun _ _ _ h => h) (Or.inl ⟨by rfl, ?_⟩) (by assumption) ?_
    rotate_left
    · intro w hSw; (try dsimp only at hSw); go_simp; try with_reducible rfl
    try simp only [Act.put, List.setIfInBounds_toArray, List.set_cons_zero, List.set_cons_succ]
    refine wpAnyD_take (i := 35) (oi := { dst := some 63, op := Op.move (Operand.tmp 62), type := 4, pos := "law.go:84", after := #[{ on := 34, ground := Ground.data }, { on := 32, ground := Ground.chain }, { on := 32, ground := Ground.guard }], guard := some (32, true) }) (v := ?_) [] rfl (by kernel_rfl) (by kernel_rfl) (by kernel_rfl) (by kernel_rfl) (fun _ _ _ h => h) (Or.inl ⟨by rfl, ?_⟩) (by assumption) ?_
    rotate_left
    · intro w hSw; (try dsimp only at hSw); go_simp; try with_reducible rfl
    try simp only [Act.put, List.setIfInBounds_toArray, List.set_cons_zero, List.set_cons_succ]
    refine wpAnyD_take (i := 36) (oi := { dst := some 64, op := Op.move (Operand.tmp 6), type := 22, pos := "law.go:84", after := #[{ on := 35, ground := Ground.guard }], guard := some (35, false) }) (v := ?_) [] rfl (by kernel_rfl) (by kernel_rfl) (by kernel_rfl) (by kernel_rfl) (fun _ _ _ h => h) (Or.inl ⟨by rfl, ?_⟩) (by assumption) ?_
    rotate_left
    · intro w hSw; (try dsimp only at hSw); go_simp; try with_reducible rfl
    try simp only [Act.put, List.setIfInBounds_toArray, List.set_cons_zero, List.set_cons_succ]
    refine wpAnyD_take (i := 37) (oi := { dst := some 65, op := Op.call { callee := Callee.builtin Builtin.len, args := #[Operand.tmp 64], argTypes := #[22] }, type := 3, pos := "law.go:84", after := #[{ on := 36, ground := Ground.data }, { on := 35, ground := Ground.guard }], guard := some (35, false) }) (v := ?_) [] rfl (by kernel_rfl) (by kernel_rfl) (by kernel_rfl) (by kernel_rfl) (fun _ _ _ h => h) (Or.inl ⟨by rfl, ?_⟩) (by assumption) ?_
    rotate_left
    · intro w hSw; (try dsimp only at hSw); go_simp; try with_reducible rfl
    try simp only [Act.put, List.setIfInBounds_toArray, List.set_cons_zero, List.set_cons_succ]
    refine wpAnyD_take (i := 38) (oi := { dst := some 66, op := Op.binOp BinOp.neq 3 (Operand.tmp 65) (Operand.const (Value.int IntKind.i64 0)) 3, type := 4, pos := "law.go:84", after := #[{ on := 37, ground := Ground.data }, { on := 35, ground := Ground.guard }], guard := some (35, false) }) (v := ?_) [] rfl (by kernel_rfl) (by kernel_rfl) (by kernel_rfl) (by kernel_rfl) (fun _ _ _ h => h) (Or.inl ⟨by rfl, ?_⟩) (by assumption) ?_
    rotate_left
    · intro w hSw; (try dsimp only at hSw); go_simp; try with_reducible rfl
    try simp only [Act.put, List.setIfInBounds_toArray, List.set_cons_zero, List.set_cons_succ]
    refine wpAnyD_take (i := 39) (oi := { dst := some 67, op := Op.pick (Operand.tmp 63) (Operand.const (Value.bool true)) (Operand.tmp 66), type := 4, pos := "law.go:84", after := #[{ on := 35, ground := Ground.data }, { on := 38, ground := Ground.data }, { on := 32, ground := Ground.guard }], guard := some (32, true) }) (v := ?_) [] rfl (by kernel_rfl) (by kernel_rfl) (by kernel_rfl) (by kernel_rfl) (fun _ _ _ h => h) (Or.inl ⟨by rfl, ?_⟩) (by assumption) ?_
    rotate_left
    · intro w hSw; (try dsimp only at hSw); go_simp; try with_reducible rfl
    try simp only [Act.put, List.setIfInBounds_toArray, List.set_cons_zero, List.set_cons_succ]
    refine wpAnyD_take (i := 40) (oi := { dst := some 68, op := Op.pick (Operand.tmp 60) (Operand.tmp 67) (Operand.const (Value.bool false)), type := 4, pos := "law.go:84", after := #[{ on := 32, ground := Ground.data }, { on := 39, ground := Ground.data }, { on := 29, ground := Ground.guard }], guard := some (29, false) }) (v := ?_) [] rfl (by kernel_rfl) (by kernel_rfl) (by kernel_rfl) (by kernel_rfl) (fun _ _ _ h => h) (Or.inl ⟨by rfl, ?_⟩) (by assumption) ?_
    rotate_left
    · intro w hSw; (try dsimp only at hSw); go_simp; try with_reducible rfl
    try simp only [Act.put, List.setIfInBounds_toArray, List.set_cons_zero, List.set_cons_succ]
    refine wpAnyD_take (i := 41) (oi := { dst := some 69, op := Op.pick (Operand.tmp 57) (Operand.const (Value.bool true)) (Operand.tmp 68), type := 4, pos := "law.go:84", after := #[{ on := 29, ground := Ground.data }, { on := 40, ground := Ground.data }], guard := none }) (v := ?_) [] rfl (by kernel_rfl) (by kernel_rfl) (by kernel_rfl) (by kernel_rfl) (fun _ _ _ h => h) (Or.inl ⟨by rfl, ?_⟩) (by assumption) ?_
    rotate_left
    · intro w hSw; (try dsimp only at hSw); go_simp; try with_reducible rfl
    try simp only [Act.put, List.setIfInBounds_toArray, List.set_cons_zero, List.set_cons_succ]
    refine wpAnyD_done (by kernel_rfl) ?_ _
    have hbq := hbw2
    -- REGION F END
    have HA3 := Lib.hid (HA2.out.next hbq)
    clear hHeld hbw1 hbw2  hbq hb5 g5 HA2 HK C10 C11  o0 o1 o2 o3 o4 o5
    obtain ⟨d, hd⟩ : ∃ d, dD l = d := ⟨_, rfl⟩
    obtain ⟨er, he⟩ : ∃ er, eD l = er := ⟨_, rfl⟩
    have D14 := Lib.hid (decode_two _ _ l HA3.out.tabs HA3.out.tl (by omega))
    have D15 := Lib.hid (fun (W : World) (hW : Rd W (.slice al l.length lcap) l) => rdecode_two W _ l hW (by omega))
    rw [hd, he] at D14
    rw [hd, he] at D15
    unfold clV at D14
    unfold gotV at D15
    clear hd he
    go_wp2_with fail
    refine D14.out.mono ?_
    rintro e w6 ⟨⟨a6, n6, c6, rfl, hr6⟩, hb6⟩
    have hl6 := (Below.refl w6.heap.size w6).alloc (Nat.le_refl _) (boxC d (.slice a6 n6 c6))
    have HA6 := Lib.hid ((HA3.out.next hb6).next hl6)
    have HX6 := Lib.hid (hr6.below hl6)
    have HB6 := Lib.hid (show (w6.alloc (boxC d (.slice a6 n6 c6))).heap[w6.heap.size]? = some (boxC d (.slice a6 n6 c6)) from heap_alloc_new _ _)
    unfold boxC at HA6 HX6
    clear hr6 hb6 hl6 HA3 D14
    go_wp2_with fail
    refine (D15.out _ HA6.out.tl).mono ?_
    rintro e w7 ⟨⟨a7, n7, c7, rfl, hr7⟩, hb7⟩
    have hs7 := hb7.size
    simp only [World.size_alloc] at hs7
    have hl7 := (Below.refl w7.heap.size w7).alloc (Nat.le_refl _) (box8 d.t d.r d.s d.d d.p (.slice a7 n7 c7) 0 er)
    have HA7 := Lib.hid ((HA6.out.next hb7).next hl7)
    have HX7 := Lib.hid ((HX6.out.below hb7).below hl7)
    have HY7 := Lib.hid (hr7.below hl7)
    have HB7 := Lib.hid ((hl7.block _ (by omega)).trans ((hb7.block _ (by simp)).trans HB6.out))
    have HG7 := Lib.hid (show (w7.alloc (box8 d.t d.r d.s d.d d.p (.slice a7 n7 c7) 0 er)).heap[w7.heap.size]? = some (box8 d.t d.r d.s d.d d.p (.slice a7 n7 c7) 0 er) from heap_alloc_new _ _)
    clear hr7 hb7 hl7 HA6 HX6 HB6 D15
    go_wp2_with fail
    refine (csanity_any _ HA7.out.tabs).mono ?_
    rintro e w8 ⟨rfl, hb8⟩
    have HA8 := Lib.hid (HA7.out.next hb8)
    have HX8 := Lib.hid (HX7.out.below hb8)
    have HY8 := Lib.hid (HY7.out.below hb8)
    obtain ⟨x0, x1, x2, x3, x4, x5⟩ := boxC_cells ((hb8.block _ (by simp; omega)).trans HB7.out)
    obtain ⟨_, y0, y1, y2, y3, y4, y5, y6, y7, _⟩ := fz8g ((hb8.block _ (by simp)).trans HG7.out)
    have HS8 := Lib.hid (csame_any w8 d (.slice a6 n6 c6) (.slice a7 n7 c7) HX8.out HY8.out)
    unfold clV at HS8
    clear hb8 HA7 HX7 HY7 HB7 HG7
    go_wp2_with fail
    refine HS8.out.mono ?_
    rintro e w9 ⟨rfl, hb9⟩
    have HE := Lib.hid (HA8.out.next hb9).below
    clear hb9 x0 x1 x2 x3 x4 x5 y0 y1 y2 y3 y4 y5 y6 y7 HS8
    go_wp2
    go_ret
    exact ⟨rfl, HE.out⟩
  · have HE1 := Lib.hid (encode_yes c (.slice ao c.ws.length cap) w1 HA1.out.tabs HA1.out.rd hr)
    unfold clV at HE1
    go_wp2_with fail
    refine HE1.out.mono ?_
    rintro e w2 ⟨⟨u, rfl, ho⟩, hb2⟩
    obtain ⟨ue, ce, hue⟩ := owns_shape ho
    subst hue
    have HA2 := Lib.hid (HA1.out.next hb2)
    have HU2 := Lib.hid ho.rd
    clear ho hb2 HE1 o0 o1 o2 o3 o4 o5 HA1
    obtain ⟨o0, o1, o2, o3, o4, o5⟩ := boxC_cells HA2.out.box
    have hel : c.enc.length ≤ 134 := by have := enc_length c; omega
    have HK := Lib.hid (fun (W : World) (hW : Below w2.heap.size w2 W) => (show Below w2.heap.size w2 W ∧ W.cell? ⟨w.heap.size, 0, none⟩ = some (.int .i64 c.t) ∧ W.cell? ⟨w.heap.size, 1, none⟩ = some (.int .i64 c.r) ∧ W.cell? ⟨w.heap.size, 2, none⟩ = some (.int .i64 c.s) ∧ W.cell? ⟨w.heap.size, 3, none⟩ = some (.bool c.d) ∧ W.cell? ⟨w.heap.size, 4, none⟩ = some (.int .i64 c.p) ∧ W.cell? ⟨w.heap.size, 5, none⟩ = some (.slice ao c.ws.length cap) from
      ⟨hW, boxC_cells (HA2.out.next hW).box⟩))
    have C10 := Lib.hid (fun (W : World) (hW : Below w2.heap.size w2 W) => (show Calls Tryd.prog 10 #[.agg #[.int .i64 c.t, .int .i64 c.r, .int .i64 c.s, .bool c.d, .int .i64 c.p, .slice ao c.ws.length cap]] W fun e W' => e = .returned (.bool true) ∧ Below w2.heap.size w2 W' from
      (cright_any c.t c.r c.s c.p c.d (.slice ao c.ws.length cap) c.ws W (HA2.out.next hW).tabs (HA2.out.next hW).rd).mono fun e W' ⟨he, hb⟩ => ⟨by rw [he, hr], below_next hW hb⟩))
    have C11 := Lib.hid (fun (W : World) (hW : Below w2.heap.size w2 W) => (show Calls Tryd.prog 11 #[.agg #[.int .i64 c.t, .int .i64 c.r, .int .i64 c.s, .bool c.d, .int .i64 c.p, .slice ao c.ws.length cap]] W fun e W' => e = .returned (.int .i64 (5 + c.ws.length)) ∧ Below w2.heap.size w2 W' from
      (size_any c.t c.r c.s c.p c.d ao c.ws.length cap W (by omega)).mono fun e W' ⟨he, hb⟩ => ⟨he, below_next hW hb⟩))
    have C13 := Lib.hid (fun (W : World) (hW : Below w2.heap.size w2 W) => (show Calls Tryd.prog 13 #[.agg #[.int .i64 c.t, .int .i64 c.r, .int .i64 c.s, .bool c.d, .int .i64 c.p, .slice ao c.ws.length cap]] W fun e W' => ∃ a cp, e = .returned (.slice a c.enc.length cp) ∧ Rd W' (.slice a c.enc.length cp) c.enc ∧ Below w2.heap.size w2 W' from
      (rencode_any c (.slice ao c.ws.length cap) W (HA2.out.next hW).rd hr).mono fun e W' ⟨⟨u, he, ho⟩, hb⟩ => by
        obtain ⟨a, cp, hu⟩ := owns_shape ho
        subst hu
        exact ⟨a, cp, he, ho.rd, below_next hW hb⟩))
    have C12 := Lib.hid (fun (W : World) (hW : Below w2.heap.size w2 W) (a : Option Addr) (cp : Nat) (ha : Rd W (.slice a c.enc.length cp) c.enc) => (show Calls Tryd.prog 12 #[.slice ue c.enc.length ce, .slice a c.enc.length cp] W fun e W' => e = .returned (.bool true) ∧ Below w2.heap.size w2 W' from
      (exInts W _ _ c.enc (by omega) (HU2.out.below hW) ha).mono fun e W' ⟨he, hb⟩ => ⟨he, below_next hW hb⟩))
    have hb5 : Below w2.heap.size w2 w2.drew := (Below.refl _ _).drew
    have g5 : IntKind.i64.wrap (5 + (c.ws.length : Int)) = 5 + (c.ws.length : Int) := by simp [IntKind.wrap, IntKind.bits, IntKind.signed]; omega
    go_wp2
    -- REGION T BEGIN
    refine wp_region_D (fun W => Below w2.heap.size w2 W ∧ W.cell? ⟨w.heap.size, 0, none⟩ = some (.int .i64 c.t) ∧ W.cell? ⟨w.heap.size, 1, none⟩ = some (.int .i64 c.r) ∧ W.cell? ⟨w.heap.size, 2, none⟩ = some (.int .i64 c.s) ∧ W.cell? ⟨w.heap.size, 3, none⟩ = some (.bool c.d) ∧ W.cell? ⟨w.heap.size, 4, none⟩ = some (.int .i64 c.p) ∧ W.cell? ⟨w.heap.size, 5, none⟩ = some (.slice ao c.ws.length cap)) [] (by kernel_rfl) (HK.out _ hb5) (fun hHeld => ?_)
    refine wpAnyD_take (i := 0) (oi := { dst := some 28, op := Op.load 24 (Operand.tmp 2), type := 24, pos := "law.go:84", after := #[], guard := none }) (v := ?_) [] rfl (by kernel_rfl) (by kernel_rfl) (by kernel_rfl) (by kernel_rfl) (fun _ _ _ h => h) (Or.inl ⟨by rfl, ?_⟩) (by assumption) ?_
    rotate_left
    · intro w hSw; (try dsimp only at hSw); go_simp; try with_reducible rfl
    try simp only [Act.put, List.setIfInBounds_toArray, List.set_cons_zero, List.set_cons_succ]
    refine wpAnyD_take (i := 2) (oi := { dst := some 30, op := Op.move (Operand.tmp 5), type := 4, pos := "law.go:84", after := #[], guard := none }) (v := ?_) [] rfl (by kernel_rfl) (by kernel_rfl) (by kernel_rfl) (by kernel_rfl) (fun _ _ _ h => h) (Or.inl ⟨by rfl, ?_⟩) (by assumption) ?_
    rotate_left
    · intro w hSw; (try dsimp only at hSw); go_simp; try with_reducible rfl
    try simp only [Act.put, List.setIfInBounds_toArray, List.set_cons_zero, List.set_cons_succ]
    refine wpAnyD_ready [1] (by kernel_rfl) (by simp) ?_
    refine AllReadyD.cons (o := { dst := some 29, op := Op.call { callee := Callee.value (Operand.func 10), args := #[Operand.tmp 28], argTypes := #[24] }, type := 4, pos := "law.go:84", after := #[{ on := 0, ground := Ground.data }], guard := none }) rfl (fun K hK => ?_) AllReadyD.nil
    go_simp
    refine (C10.out _ hb5).mono ?_
    rintro e W1 ⟨rfl, hbw1⟩
    refine hK.out _ _ (fun _ => HK.out _ hbw1) ?_
    clear hK K hHeld
    have hHeld := HK.out _ hbw1
    try simp only [Act.put, List.setIfInBounds_toArray, List.set_cons_zero, List.set_cons_succ]
    refine wpAnyD_take (i := 3) (oi := { dst := some 31, op := Op.binOp BinOp.neq 4 (Operand.tmp 29) (Operand.tmp 30) 4, type := 4, pos := "law.go:84", after := #[{ on := 1, ground := Ground.data }, { on := 2, ground := Ground.data }], guard := none }) (v := ?_) [] rfl (by kernel_rfl) (by kernel_rfl) (by kernel_rfl) (by kernel_rfl) (fun _ _ _ h => h) (Or.inl ⟨by rfl, ?_⟩) (by assumption) ?_
    rotate_left
    · intro w hSw; (try dsimp only at hSw); go_simp; try with_reducible rfl
    try simp only [Act.put, List.setIfInBounds_toArray, List.set_cons_zero, List.set_cons_succ]
    refine wpAnyD_take (i := 4) (oi := { dst := some 32, op := Op.move (Operand.tmp 31), type := 4, pos := "law.go:84", after := #[{ on := 3, ground := Ground.data }, { on := 1, ground := Ground.chain }], guard := none }) (v := ?_) [] rfl (by kernel_rfl) (by kernel_rfl) (by kernel_rfl) (by kernel_rfl) (fun _ _ _ h => h) (Or.inl ⟨by rfl, ?_⟩) (by assumption) ?_
    rotate_left
    · intro w hSw; (try dsimp only at hSw); go_simp; try with_reducible rfl
    try simp only [Act.put, List.setIfInBounds_toArray, List.set_cons_zero, List.set_cons_succ]
    refine wpAnyD_take (i := 5) (oi := { dst := some 33, op := Op.load 24 (Operand.tmp 2), type := 24, pos := "law.go:84", after := #[{ on := 4, ground := Ground.guard }], guard := some (4, false) }) (v := ?_) [] rfl (by kernel_rfl) (by kernel_rfl) (by kernel_rfl) (by kernel_rfl) (fun _ _ _ h => h) (Or.inl ⟨by rfl, ?_⟩) (by assumption) ?_
    rotate_left
    · intro w hSw; (try dsimp only at hSw); go_simp; try with_reducible rfl
    try simp only [Act.put, List.setIfInBounds_toArray, List.set_cons_zero, List.set_cons_succ]
    refine wpAnyD_take (i := 7) (oi := { dst := some 35, op := Op.fieldAddr 24 (Operand.tmp 2) 5, type := 0, pos := "law.go:84", after := #[{ on := 4, ground := Ground.guard }], guard := some (4, false) }) (v := ?_) [] rfl (by kernel_rfl) (by kernel_rfl) (by kernel_rfl) (by kernel_rfl) (fun _ _ _ h => h) (Or.inl ⟨by rfl, ?_⟩) (by assumption) ?_
    rotate_left
    · intro w hSw; (try dsimp only at hSw); go_simp; try with_reducible rfl
    try simp only [Act.put, List.setIfInBounds_toArray, List.set_cons_zero, List.set_cons_succ]
    refine wpAnyD_take (i := 8) (oi := { dst := some 36, op := Op.load 22 (Operand.tmp 35), type := 22, pos := "law.go:84", after := #[{ on := 7, ground := Ground.data }, { on := 4, ground := Ground.guard }], guard := some (4, false) }) (v := ?_) [] rfl (by kernel_rfl) (by kernel_rfl) (by kernel_rfl) (by kernel_rfl) (fun _ _ _ h => h) (Or.inl ⟨by rfl, ?_⟩) (by assumption) ?_
    rotate_left
    · intro w hSw; (try dsimp only at hSw); go_simp; try with_reducible rfl
    try simp only [Act.put, List.setIfInBounds_toArray, List.set_cons_zero, List.set_cons_succ]
    refine wpAnyD_take (i := 9) (oi := { dst := some 37, op := Op.call { callee := Callee.builtin Builtin.len, args := #[Operand.tmp 36], argTypes := #[22] }, type := 3, pos := "law.go:84", after := #[{ on := 8, ground := Ground.data }, { on := 4, ground := Ground.guard }], guard := some (4, false) }) (v := ?_) [] rfl (by kernel_rfl) (by kernel_rfl) (by kernel_rfl) (by kernel_rfl) (fun _ _ _ h => h) (Or.inl ⟨by rfl, ?_⟩) (by assumption) ?_
    rotate_left
    · intro w hSw; (try dsimp only at hSw); go_simp; try with_reducible rfl
    try simp only [Act.put, List.setIfInBounds_toArray, List.set_cons_zero, List.set_cons_succ]
    refine wpAnyD_take (i := 10) (oi := { dst := some 38, op := Op.binOp BinOp.add 3 (Operand.const (Value.int IntKind.i64 5)) (Operand.tmp 37) 3, type := 3, pos := "law.go:84", after := #[{ on := 9, ground := Ground.data }, { on := 4, ground := Ground.guard }], guard := some (4, false) }) (v := ?_) [] rfl (by kernel_rfl) (by kernel_rfl) (by kernel_rfl) (by kernel_rfl) (fun _ _ _ h => h) (Or.inl ⟨by rfl, ?_⟩) (by assumption) ?_
    rotate_left
    · intro w hSw; (try dsimp only at hSw); go_simp; try with_reducible rfl
    try simp only [Act.put, List.setIfInBounds_toArray, List.set_cons_zero, List.set_cons_succ]
    refine wpAnyD_ready [6] (by kernel_rfl) (by simp) ?_
    refine AllReadyD.cons (o := { dst := some 34, op := Op.call { callee := Callee.value (Operand.func 11), args := #[Operand.tmp 33], argTypes := #[24] }, type := 3, pos := "law.go:84", after := #[{ on := 5, ground := Ground.data }, { on := 4, ground := Ground.chain }, { on := 4, ground := Ground.guard }], guard := some (4, false) }) rfl (fun K hK => ?_) AllReadyD.nil
    go_simp
    refine (C11.out _ hbw1).mono ?_
    rintro e W2 ⟨rfl, hbw2⟩
    refine hK.out _ _ (fun _ => HK.out _ hbw2) ?_
    clear hK K hHeld
    have hHeld := HK.out _ hbw2
    try simp only [Act.put, List.setIfInBounds_toArray, List.set_cons_zero, List.set_cons_succ]
    refine wpAnyD_take (i := 11) (oi := { dst := some 39, op := Op.binOp BinOp.neq 3 (Operand.tmp 34) (Operand.tmp 38) 3, type := 4, pos := "law.go:84", after := #[{ on := 6, ground := Ground.data }, { on := 10, ground := Ground.data }, { on := 4, ground := Ground.guard }], guard := some (4, false) }) (v := ?_) [] rfl (by kernel_rfl) (by kernel_rfl) (by kernel_rfl) (by kernel_rfl) (fun _ _ _ h => h) (Or.inl ⟨by rfl, ?_⟩) (by assumption) ?_
    rotate_left
    · intro w hSw; (try dsimp only at hSw); go_simp; try with_reducible rfl
    try simp only [Act.put, List.setIfInBounds_toArray, List.set_cons_zero, List.set_cons_succ]
    refine wpAnyD_take (i := 12) (oi := { dst := some 40, op := Op.pick (Operand.tmp 32) (Operand.const (Value.bool true)) (Operand.tmp 39), type := 4, pos := "law.go:84", after := #[{ on := 4, ground := Ground.data }, { on := 11, ground := Ground.data }], guard := none }) (v := ?_) [] rfl (by kernel_rfl) (by kernel_rfl) (by kernel_rfl) (by kernel_rfl) (fun _ _ _ h => h) (Or.inl ⟨by rfl, ?_⟩) (by assumption) ?_
    rotate_left
    · intro w hSw; (try dsimp only at hSw); go_simp; try with_reducible rfl
    try simp only [Act.put, List.setIfInBounds_toArray, List.set_cons_zero, List.set_cons_succ]
    refine wpAnyD_take (i := 13) (oi := { dst := some 41, op := Op.move (Operand.tmp 40), type := 4, pos := "law.go:84", after := #[{ on := 12, ground := Ground.data }, { on := 6, ground := Ground.chain }], guard := none }) (v := ?_) [] rfl (by kernel_rfl) (by kernel_rfl) (by kernel_rfl) (by kernel_rfl) (fun _ _ _ h => h) (Or.inl ⟨by rfl, ?_⟩) (by assumption) ?_
    rotate_left
    · intro w hSw; (try dsimp only at hSw); go_simp; try with_reducible rfl
    try simp only [Act.put, List.setIfInBounds_toArray, List.set_cons_zero, List.set_cons_succ]
    refine wpAnyD_take (i := 14) (oi := { dst := some 42, op := Op.move (Operand.tmp 7), type := 27, pos := "law.go:84", after := #[{ on := 13, ground := Ground.guard }], guard := some (13, false) }) (v := ?_) [] rfl (by kernel_rfl) (by kernel_rfl) (by kernel_rfl) (by kernel_rfl) (fun _ _ _ h => h) (Or.inl ⟨by rfl, ?_⟩) (by assumption) ?_
    rotate_left
    · intro w hSw; (try dsimp only at hSw); go_simp; try with_reducible rfl
    try simp only [Act.put, List.setIfInBounds_toArray, List.set_cons_zero, List.set_cons_succ]
    refine wpAnyD_take (i := 15) (oi := { dst := some 43, op := Op.binOp BinOp.eql 27 (Operand.tmp 42) (Operand.const (Value.int IntKind.i64 0)) 27, type := 4, pos := "law.go:84", after := #[{ on := 14, ground := Ground.data }, { on := 13, ground := Ground.guard }], guard := some (13, false) }) (v := ?_) [] rfl (by kernel_rfl) (by kernel_rfl) (by kernel_rfl) (by kernel_rfl) (fun _ _ _ h => h) (Or.inl ⟨by rfl, ?_⟩) (by assumption) ?_
    rotate_left
    · intro w hSw; (try dsimp only at hSw); go_simp; try with_reducible rfl
    try simp only [Act.put, List.setIfInBounds_toArray, List.set_cons_zero, List.set_cons_succ]
    refine wpAnyD_take (i := 16) (oi := { dst := some 44, op := Op.move (Operand.tmp 5), type := 4, pos := "law.go:84", after := #[{ on := 13, ground := Ground.guard }], guard := some (13, false) }) (v := ?_) [] rfl (by kernel_rfl) (by kernel_rfl) (by kernel_rfl) (by kernel_rfl) (fun _ _ _ h => h) (Or.inl ⟨by rfl, ?_⟩) (by assumption) ?_
    rotate_left
    · intro w hSw; (try dsimp only at hSw); go_simp; try with_reducible rfl
    try simp only [Act.put, List.setIfInBounds_toArray, List.set_cons_zero, List.set_cons_succ]
    refine wpAnyD_take (i := 17) (oi := { dst := some 45, op := Op.binOp BinOp.neq 4 (Operand.tmp 43) (Operand.tmp 44) 4, type := 4, pos := "law.go:84", after := #[{ on := 15, ground := Ground.data }, { on := 16, ground := Ground.data }, { on := 13, ground := Ground.guard }], guard := some (13, false) }) (v := ?_) [] rfl (by kernel_rfl) (by kernel_rfl) (by kernel_rfl) (by kernel_rfl) (fun _ _ _ h => h) (Or.inl ⟨by rfl, ?_⟩) (by assumption) ?_
    rotate_left
    · intro w hSw; (try dsimp only at hSw); go_simp; try with_reducible rfl
    try simp only [Act.put, List.setIfInBounds_toArray, List.set_cons_zero, List.set_cons_succ]
    refine wpAnyD_take (i := 18) (oi := { dst := some 46, op := Op.pick (Operand.tmp 41) (Operand.const (Value.bool true)) (Operand.tmp 45), type := 4, pos := "law.go:84", after := #[{ on := 13, ground := Ground.data }, { on := 17, ground := Ground.data }], guard := none }) (v := ?_) [] rfl (by kernel_rfl) (by kernel_rfl) (by kernel_rfl) (by kernel_rfl) (fun _ _ _ h => h) (Or.inl ⟨by rfl, ?_⟩) (by assumption) ?_
    rotate_left
    · intro w hSw; (try dsimp only at hSw); go_simp; try with_reducible rfl
    try simp only [Act.put, List.setIfInBounds_toArray, List.set_cons_zero, List.set_cons_succ]
    refine wpAnyD_take (i := 19) (oi := { dst := some 47, op := Op.move (Operand.tmp 46), type := 4, pos := "law.go:84", after := #[{ on := 18, ground := Ground.data }, { on := 13, ground := Ground.chain }], guard := none }) (v := ?_) [] rfl (by kernel_rfl) (by kernel_rfl) (by kernel_rfl) (by kernel_rfl) (fun _ _ _ h => h) (Or.inl ⟨by rfl, ?_⟩) (by assumption) ?_
    rotate_left
    · intro w hSw; (try dsimp only at hSw); go_simp; try with_reducible rfl
    try simp only [Act.put, List.setIfInBounds_toArray, List.set_cons_zero, List.set_cons_succ]
    refine wpAnyD_take (i := 20) (oi := { dst := some 48, op := Op.move (Operand.tmp 5), type := 4, pos := "law.go:84", after := #[{ on := 19, ground := Ground.guard }], guard := some (19, false) }) (v := ?_) [] rfl (by kernel_rfl) (by kernel_rfl) (by kernel_rfl) (by kernel_rfl) (fun _ _ _ h => h) (Or.inl ⟨by rfl, ?_⟩) (by assumption) ?_
    rotate_left
    · intro w hSw; (try dsimp only at hSw); go_simp; try with_reducible rfl
    try simp only [Act.put, List.setIfInBounds_toArray, List.set_cons_zero, List.set_cons_succ]
    refine wpAnyD_take (i := 21) (oi := { dst := some 49, op := Op.move (Operand.tmp 48), type := 4, pos := "law.go:84", after := #[{ on := 20, ground := Ground.data }, { on := 19, ground := Ground.chain }, { on := 19, ground := Ground.guard }], guard := some (19, false) }) (v := ?_) [] rfl (by kernel_rfl) (by kernel_rfl) (by kernel_rfl) (by kernel_rfl) (fun _ _ _ h => h) (Or.inl ⟨by rfl, ?_⟩) (by assumption) ?_
    rotate_left
    · intro w hSw; (try dsimp only at hSw); go_simp; try with_reducible rfl
    try simp only [Act.put, List.setIfInBounds_toArray, List.set_cons_zero, List.set_cons_succ]
    refine wpAnyD_take (i := 22) (oi := { dst := some 50, op := Op.move (Operand.tmp 6), type := 22, pos := "law.go:84", after := #[{ on := 21, ground := Ground.guard }], guard := some (21, true) }) (v := ?_) [] rfl (by kernel_rfl) (by kernel_rfl) (by kernel_rfl) (by kernel_rfl) (fun _ _ _ h => h) (Or.inl ⟨by rfl, ?_⟩) (by assumption) ?_
    rotate_left
    · intro w hSw; (try dsimp only at hSw); go_simp; try with_reducible rfl
    try simp only [Act.put, List.setIfInBounds_toArray, List.set_cons_zero, List.set_cons_succ]
    refine wpAnyD_take (i := 23) (oi := { dst := some 51, op := Op.load 24 (Operand.tmp 2), type := 24, pos := "law.go:84", after := #[{ on := 21, ground := Ground.guard }], guard := some (21, true) }) (v := ?_) [] rfl (by kernel_rfl) (by kernel_rfl) (by kernel_rfl) (by kernel_rfl) (fun _ _ _ h => h) (Or.inl ⟨by rfl, ?_⟩) (by assumption) ?_
    rotate_left
    · intro w hSw; (try dsimp only at hSw); go_simp; try with_reducible rfl
    try simp only [Act.put, List.setIfInBounds_toArray, List.set_cons_zero, List.set_cons_succ]
    refine wpAnyD_ready [24] (by kernel_rfl) (by simp) ?_
    refine AllReadyD.cons (o := { dst := some 52, op := Op.call { callee := Callee.value (Operand.func 13), args := #[Operand.tmp 51], argTypes := #[24] }, type := 22, pos := "law.go:84", after := #[{ on := 23, ground := Ground.data }, { on := 21, ground := Ground.chain }, { on := 21, ground := Ground.guard }], guard := some (21, true) }) rfl (fun K hK => ?_) AllReadyD.nil
    go_simp
    refine (C13.out _ hbw2).mono ?_
    rintro e W3 ⟨a13, c13, rfl, hr13, hbw3⟩
    refine hK.out _ _ (fun _ => HK.out _ hbw3) ?_
    clear hK K hHeld
    have hHeld := HK.out _ hbw3
    try simp only [Act.put, List.setIfInBounds_toArray, List.set_cons_zero, List.set_cons_succ]
    refine wpAnyD_ready [25] (by kernel_rfl) (by simp) ?_
    refine AllReadyD.cons (o := { dst := some 53, op := Op.call { callee := Callee.value (Operand.func 12), args := #[Operand.tmp 50, Operand.tmp 52], argTypes := #[22, 22] }, type := 4, pos := "law.go:84", after := #[{ on := 22, ground := Ground.data }, { on := 24, ground := Ground.data }, { on := 24, ground := Ground.chain }, { on := 21, ground := Ground.guard }], guard := some (21, true) }) rfl (fun K hK => ?_) AllReadyD.nil
    go_simp
    refine (C12.out _ hbw3 _ _ hr13).mono ?_
    rintro e W4 ⟨rfl, hbw4⟩
    refine hK.out _ _ (fun _ => HK.out _ hbw4) ?_
    clear hK K hHeld
    have hHeld := HK.out _ hbw4
    try simp only [Act.put, List.setIfInBounds_toArray, List.set_cons_zero, List.set_cons_succ]
    refine wpAnyD_take (i := 26) (oi := { dst := some 54, op := Op.unOp UnOp.not 4 (Operand.tmp 53), type := 4, pos := "law.go:84", after := #[{ on := 25, ground := Ground.data }, { on := 21, ground := Ground.guard }], guard := some (21, true) }) (v := ?_) [] rfl (by kernel_rfl) (by kernel_rfl) (by kernel_rfl) (by kernel_rfl) (fun _ _ _ h => h) (Or.inl ⟨by rfl, ?_⟩) (by assumption) ?_
    rotate_left
    · intro w hSw; (try dsimp only at hSw); go_simp; try with_reducible rfl
    try simp only [Act.put, List.setIfInBounds_toArray, List.set_cons_zero, List.set_cons_succ]
    refine wpAnyD_take (i := 27) (oi := { dst := some 55, op := Op.pick (Operand.tmp 49) (Operand.tmp 54) (Operand.const (Value.bool false)), type := 4, pos := "law.go:84", after := #[{ on := 21, ground := Ground.data }, { on := 26, ground := Ground.data }, { on := 19, ground := Ground.guard }], guard := some (19, false) }) (v := ?_) [] rfl (by kernel_rfl) (by kernel_rfl) (by kernel_rfl) (by kernel_rfl) (fun _ _ _ h => h) (Or.inl ⟨by rfl, ?_⟩) (by assumption) ?_
    rotate_left
    · intro w hSw; (try dsimp only at hSw); go_simp; try with_reducible rfl
    try simp only [Act.put, List.setIfInBounds_toArray, List.set_cons_zero, List.set_cons_succ]
    refine wpAnyD_take (i := 28) (oi := { dst := some 56, op := Op.pick (Operand.tmp 47) (Operand.const (Value.bool true)) (Operand.tmp 55), type := 4, pos := "law.go:84", after := #[{ on := 19, ground := Ground.data }, { on := 27, ground := Ground.data }], guard := none }) (v := ?_) [] rfl (by kernel_rfl) (by kernel_rfl) (by kernel_rfl) (by kernel_rfl) (fun _ _ _ h => h) (Or.inl ⟨by rfl, ?_⟩) (by assumption) ?_
    rotate_left
    · intro w hSw; (try dsimp only at hSw); go_simp; try with_reducible rfl
    try simp only [Act.put, List.setIfInBounds_toArray, List.set_cons_zero, List.set_cons_succ]
    refine wpAnyD_take (i := 29) (oi := { dst := some 57, op := Op.move (Operand.tmp 56), type := 4, pos := "law.go:84", after := #[{ on := 28, ground := Ground.data }, { on := 25, ground := Ground.chain }], guard := none }) (v := ?_) [] rfl (by kernel_rfl) (by kernel_rfl) (by kernel_rfl) (by kernel_rfl) (fun _ _ _ h => h) (Or.inl ⟨by rfl, ?_⟩) (by assumption) ?_
    rotate_left
    · intro w hSw; (try dsimp only at hSw); go_simp; try with_reducible rfl
    try simp only [Act.put, List.setIfInBounds_toArray, List.set_cons_zero, List.set_cons_succ]
    refine wpAnyD_take (i := 30) (oi := { dst := some 58, op := Op.move (Operand.tmp 5), type := 4, pos := "law.go:84", after := #[{ on := 29, ground := Ground.guard }], guard := some (29, false) }) (v := ?_) [] rfl (by kernel_rfl) (by kernel_rfl) (by kernel_rfl) (by kernel_rfl) (fun _ _ _ h => h) (Or.inl ⟨by rfl, ?_⟩) (by assumption) ?_
    rotate_left
    · intro w hSw; (try dsimp only at hSw); go_simp; try with_reducible rfl
    try simp only [Act.put, List.setIfInBounds_toArray, List.set_cons_zero, List.set_cons_succ]
    refine wpAnyD_take (i := 31) (oi := { dst := some 59, op := Op.unOp UnOp.not 4 (Operand.tmp 58), type := 4, pos := "law.go:84", after := #[{ on := 30, ground := Ground.data }, { on := 29, ground := Ground.guard }], guard := some (29, false) }) (v := ?_) [] rfl (by kernel_rfl) (by kernel_rfl) (by kernel_rfl) (by kernel_rfl) (fun _ _ _ h => h) (Or.inl ⟨by rfl, ?_⟩) (by assumption) ?_
    rotate_left
    · intro w hSw; (try dsimp only at hSw); go_simp; try with_reducible rfl
    try simp only [Act.put, List.setIfInBounds_toArray, List.set_cons_zero, List.set_cons_succ]
    refine wpAnyD_take (i := 32) (oi := { dst := some 60, op := Op.move (Operand.tmp 59), type := 4, pos := "law.go:84", after := #[{ on := 31, ground := Ground.data }, { on := 29, ground := Ground.chain }, { on := 29, ground := Ground.guard }], guard := some (29, false) }) (v := ?_) [] rfl (by kernel_rfl) (by kernel_rfl) (by kernel_rfl) (by kernel_rfl) (fun _ _ _ h => h) (Or.inl ⟨by rfl, ?_⟩) (by assumption) ?_
    rotate_left
    · intro w hSw; (try dsimp only at hSw); go_simp; try with_reducible rfl
    try simp only [Act.put, List.setIfInBounds_toArray, List.set_cons_zero, List.set_cons_succ]
    refine wpAnyD_take (i := 33) (oi := { dst := some 61, op := Op.move (Operand.tmp 7), type := 27, pos := "law.go:84", after := #[{ on := 32, ground := Ground.guard }], guard := some (32, true) }) (v := undef) [] rfl (by kernel_rfl) (by kernel_rfl) (by kernel_rfl) (by kernel_rfl) (fun _ _ _ h => h) (Or.inr ⟨by rfl, rfl⟩) (by assumption) ?_
    try simp only [Act.put, List.setIfInBounds_toArray, List.set_cons_zero, List.set_cons_succ]
    refine wpAnyD_take (i := 34) (oi := { dst := some 62, op := Op.binOp BinOp.neq 27 (Operand.tmp 61) (Operand.const (Value.int IntKind.i64 1)) 27, type := 4, pos := "law.go:84", after := #[{ on := 33, ground := Ground.data }, { on := 32, ground := Ground.guard }], guard := some (32, true) }) (v := undef) [] rfl (by kernel_rfl) (by kernel_rfl) (by kernel_rfl) (by kernel_rfl) (fun _ _ _ h => h) (Or.inr ⟨by rfl, rfl⟩) (by assumption) ?_
    try simp only [Act.put, List.setIfInBounds_toArray, List.set_cons_zero, List.set_cons_succ]
    refine wpAnyD_take (i := 35) (oi := { dst := some 63, op := Op.move (Operand.tmp 62), type := 4, pos := "law.go:84", after := #[{ on := 34, ground := Ground.data }, { on := 32, ground := Ground.chain }, { on := 32, ground := Ground.guard }], guard := some (32, true) }) (v := undef) [] rfl (by kernel_rfl) (by kernel_rfl) (by kernel_rfl) (by kernel_rfl) (fun _ _ _ h => h) (Or.inr ⟨by rfl, rfl⟩) (by assumption) ?_
    try simp only [Act.put, List.setIfInBounds_toArray, List.set_cons_zero, List.set_cons_succ]
    refine wpAnyD_take (i := 36) (oi := { dst := some 64, op := Op.move (Operand.tmp 6), type := 22, pos := "law.go:84", after := #[{ on := 35, ground := Ground.guard }], guard := some (35, false) }) (v := undef) [] rfl (by kernel_rfl) (by kernel_rfl) (by kernel_rfl) (by kernel_rfl) (fun _ _ _ h => h) (Or.inr ⟨by rfl, rfl⟩) (by assumption) ?_
    try simp only [Act.put, List.setIfInBounds_toArray, List.set_cons_zero, List.set_cons_succ]
    refine wpAnyD_take (i := 37) (oi := { dst := some 65, op := Op.call { callee := Callee.builtin Builtin.len, args := #[Operand.tmp 64], argTypes := #[22] }, type := 3, pos := "law.go:84", after := #[{ on := 36, ground := Ground.data }, { on := 35, ground := Ground.guard }], guard := some (35, false) }) (v := undef) [] rfl (by kernel_rfl) (by kernel_rfl) (by kernel_rfl) (by kernel_rfl) (fun _ _ _ h => h) (Or.inr ⟨by rfl, rfl⟩) (by assumption) ?_
    try simp only [Act.put, List.setIfInBounds_toArray, List.set_cons_zero, List.set_cons_succ]
    refine wpAnyD_take (i := 38) (oi := { dst := some 66, op := Op.binOp BinOp.neq 3 (Operand.tmp 65) (Operand.const (Value.int IntKind.i64 0)) 3, type := 4, pos := "law.go:84", after := #[{ on := 37, ground := Ground.data }, { on := 35, ground := Ground.guard }], guard := some (35, false) }) (v := undef) [] rfl (by kernel_rfl) (by kernel_rfl) (by kernel_rfl) (by kernel_rfl) (fun _ _ _ h => h) (Or.inr ⟨by rfl, rfl⟩) (by assumption) ?_
    try simp only [Act.put, List.setIfInBounds_toArray, List.set_cons_zero, List.set_cons_succ]
    refine wpAnyD_take (i := 39) (oi := { dst := some 67, op := Op.pick (Operand.tmp 63) (Operand.const (Value.bool true)) (Operand.tmp 66), type := 4, pos := "law.go:84", after := #[{ on := 35, ground := Ground.data }, { on := 38, ground := Ground.data }, { on := 32, ground := Ground.guard }], guard := some (32, true) }) (v := undef) [] rfl (by kernel_rfl) (by kernel_rfl) (by kernel_rfl) (by kernel_rfl) (fun _ _ _ h => h) (Or.inr ⟨by rfl, rfl⟩) (by assumption) ?_
    try simp only [Act.put, List.setIfInBounds_toArray, List.set_cons_zero, List.set_cons_succ]
    refine wpAnyD_take (i := 40) (oi := { dst := some 68, op := Op.pick (Operand.tmp 60) (Operand.tmp 67) (Operand.const (Value.bool false)), type := 4, pos := "law.go:84", after := #[{ on := 32, ground := Ground.data }, { on := 39, ground := Ground.data }, { on := 29, ground := Ground.guard }], guard := some (29, false) }) (v := ?_) [] rfl (by kernel_rfl) (by kernel_rfl) (by kernel_rfl) (by kernel_rfl) (fun _ _ _ h => h) (Or.inl ⟨by rfl, ?_⟩) (by assumption) ?_
    rotate_left
    · intro w hSw; (try dsimp only at hSw); go_simp; try with_reducible rfl
    try simp only [Act.put, List.setIfInBounds_toArray, List.set_cons_zero, List.set_cons_succ]
    refine wpAnyD_take (i := 41) (oi := { dst := some 69, op := Op.pick (Operand.tmp 57) (Operand.const (Value.bool true)) (Operand.tmp 68), type := 4, pos := "law.go:84", after := #[{ on := 29, ground := Ground.data }, { on := 40, ground := Ground.data }], guard := none }) (v := ?_) [] rfl (by kernel_rfl) (by kernel_rfl) (by kernel_rfl) (by kernel_rfl) (fun _ _ _ h => h) (Or.inl ⟨by rfl, ?_⟩) (by assumption) ?_
    rotate_left
    · intro w hSw; (try dsimp only at hSw); go_simp; try with_reducible rfl
    try simp only [Act.put, List.setIfInBounds_toArray, List.set_cons_zero, List.set_cons_succ]
    refine wpAnyD_done (by kernel_rfl) ?_ _
    have hbq := hbw4
    -- REGION T END
    have HA3 := Lib.hid (HA2.out.next hbq)
    clear hHeld hbw1 hbw2 hbw3 hbw4 hbq hb5 g5 HA2 HK C10 C11 C13 C12 o0 o1 o2 o3 o4 o5
    obtain ⟨d, hd⟩ : ∃ d, dD l = d := ⟨_, rfl⟩
    obtain ⟨er, he⟩ : ∃ er, eD l = er := ⟨_, rfl⟩
    have D14 := Lib.hid (decode_two _ _ l HA3.out.tabs HA3.out.tl (by omega))
    have D15 := Lib.hid (fun (W : World) (hW : Rd W (.slice al l.length lcap) l) => rdecode_two W _ l hW (by omega))
    rw [hd, he] at D14
    rw [hd, he] at D15
    unfold clV at D14
    unfold gotV at D15
    clear hd he
    go_wp2_with fail
    refine D14.out.mono ?_
    rintro e w6 ⟨⟨a6, n6, c6, rfl, hr6⟩, hb6⟩
    have hl6 := (Below.refl w6.heap.size w6).alloc (Nat.le_refl _) (boxC d (.slice a6 n6 c6))
    have HA6 := Lib.hid ((HA3.out.next hb6).next hl6)
    have HX6 := Lib.hid (hr6.below hl6)
    have HB6 := Lib.hid (show (w6.alloc (boxC d (.slice a6 n6 c6))).heap[w6.heap.size]? = some (boxC d (.slice a6 n6 c6)) from heap_alloc_new _ _)
    unfold boxC at HA6 HX6
    clear hr6 hb6 hl6 HA3 D14
    go_wp2_with fail
    refine (D15.out _ HA6.out.tl).mono ?_
    rintro e w7 ⟨⟨a7, n7, c7, rfl, hr7⟩, hb7⟩
    have hs7 := hb7.size
    simp only [World.size_alloc] at hs7
    have hl7 := (Below.refl w7.heap.size w7).alloc (Nat.le_refl _) (box8 d.t d.r d.s d.d d.p (.slice a7 n7 c7) 0 er)
    have HA7 := Lib.hid ((HA6.out.next hb7).next hl7)
    have HX7 := Lib.hid ((HX6.out.below hb7).below hl7)
    have HY7 := Lib.hid (hr7.below hl7)
    have HB7 := Lib.hid ((hl7.block _ (by omega)).trans ((hb7.block _ (by simp)).trans HB6.out))
    have HG7 := Lib.hid (show (w7.alloc (box8 d.t d.r d.s d.d d.p (.slice a7 n7 c7) 0 er)).heap[w7.heap.size]? = some (box8 d.t d.r d.s d.d d.p (.slice a7 n7 c7) 0 er) from heap_alloc_new _ _)
    clear hr7 hb7 hl7 HA6 HX6 HB6 D15
    go_wp2_with fail
    refine (csanity_any _ HA7.out.tabs).mono ?_
    rintro e w8 ⟨rfl, hb8⟩
    have HA8 := Lib.hid (HA7.out.next hb8)
    have HX8 := Lib.hid (HX7.out.below hb8)
    have HY8 := Lib.hid (HY7.out.below hb8)
    obtain ⟨x0, x1, x2, x3, x4, x5⟩ := boxC_cells ((hb8.block _ (by simp; omega)).trans HB7.out)
    obtain ⟨_, y0, y1, y2, y3, y4, y5, y6, y7, _⟩ := fz8g ((hb8.block _ (by simp)).trans HG7.out)
    have HS8 := Lib.hid (csame_any w8 d (.slice a6 n6 c6) (.slice a7 n7 c7) HX8.out HY8.out)
    unfold clV at HS8
    clear hb8 HA7 HX7 HY7 HB7 HG7
    go_wp2_with fail
    refine HS8.out.mono ?_
    rintro e w9 ⟨rfl, hb9⟩
    have HE := Lib.hid (HA8.out.next hb9).below
    clear hb9 x0 x1 x2 x3 x4 x5 y0 y1 y2 y3 y4 y5 y6 y7 HS8
    go_wp2
    go_ret
    exact ⟨rfl, HE.out⟩

end Go.Proofs.YtcngblnkfiggjaaDoor.Rm
