/- Contracts of the small functions of package chain, of slices.IndexFunc, ContainsFunc and Clone there, and of SameInts (printed by gen_a.py). -/
import Derived.Test.YtcngblnkfiggjaaDoorPtrC
namespace Go.Proofs.YtcngblnkfiggjaaDoor.Rm
open Go Go.RowKit Go.Maps

/-- A number of a row, or a stamp. -/
def numB (x : Int) : Bool := decide (1 ≤ x ∧ x ≤ 1073741824)
set_option maxHeartbeats 400000 in
theorem cword_any (x : Int) (w : World) :
    Calls Tryd.prog 42 #[.int .i64 x] w fun e w' => e = .returned (.bool (wordB x)) ∧ w = w' := by
  by_cases h0 : 0 ≤ x
  · go_enter Tryd.func42, Tryd.ntmps42
    go_wp2
    go_ret
    exact ⟨ret_bool (by simp [wordB, h0]), rfl⟩
  · go_enter Tryd.func42, Tryd.ntmps42
    go_wp2
    go_ret
    exact ⟨ret_bool (by simp [wordB]; omega), rfl⟩
set_option maxHeartbeats 400000 in
theorem r16word_any (x : Int) (w : World) :
    Calls Tryd.prog 36 #[.int .i64 x] w fun e w' => e = .returned (.bool (wordB x)) ∧ w = w' := by
  by_cases h0 : 0 ≤ x
  · go_enter Tryd.func36, Tryd.ntmps36
    go_wp2
    go_ret
    exact ⟨ret_bool (by simp [wordB, h0]), rfl⟩
  · go_enter Tryd.func36, Tryd.ntmps36
    go_wp2
    go_ret
    exact ⟨ret_bool (by simp [wordB]; omega), rfl⟩
set_option maxHeartbeats 400000 in
theorem number_any (x : Int) (w : World) :
    Calls Tryd.prog 38 #[.int .i64 x] w fun e w' => e = .returned (.bool (numB x)) ∧ w = w' := by
  by_cases h0 : 1 ≤ x
  · go_enter Tryd.func38, Tryd.ntmps38
    go_wp2
    go_ret
    exact ⟨ret_bool (by simp [numB, h0]), rfl⟩
  · go_enter Tryd.func38, Tryd.ntmps38
    go_wp2
    go_ret
    exact ⟨ret_bool (by simp [numB]; omega), rfl⟩
set_option maxHeartbeats 400000 in
theorem nword41 (x : Int) (w : World) :
    Calls Tryd.prog 41 #[.int .i64 x] w fun e w' => e = .returned (.bool (!wordB x)) ∧ w = w' := by
  go_enter Tryd.func41, Tryd.ntmps41
  go_wp2_with (go_at_call 42; refine (cword_any _ _).mono ?_; rintro e w1 ⟨rfl, rfl⟩)
  go_ret
  exact ⟨rfl, rfl⟩
set_option maxHeartbeats 400000 in
theorem nword43 (x : Int) (w : World) :
    Calls Tryd.prog 43 #[.int .i64 x] w fun e w' => e = .returned (.bool (!wordB x)) ∧ w = w' := by
  go_enter Tryd.func43, Tryd.ntmps43
  go_wp2_with (go_at_call 42; refine (cword_any _ _).mono ?_; rintro e w1 ⟨rfl, rfl⟩)
  go_ret
  exact ⟨rfl, rfl⟩
theorem all_of {ws : List Int} (h : ∀ j, j < ws.length → wordB (nthI ws j) = true) : ws.all wordB = true := by
  rw [List.all_eq_true]
  intro x hx
  obtain ⟨j, hj⟩ := List.getElem?_of_mem hx
  have hlt : j < ws.length := (List.getElem?_eq_some_iff.1 hj).1
  have := h j hlt
  rw [nthI_getElem hlt] at hj
  cases hj
  exact this
theorem all_no {ws : List Int} {k : Nat} (hk : k < ws.length) (h : wordB (nthI ws k) = false) : ws.all wordB = false := by
  rw [Bool.eq_false_iff]
  intro ha
  rw [List.all_eq_true] at ha
  have := ha (nthI ws k) (List.mem_of_getElem? (nthI_getElem hk))
  rw [this] at h; cases h
theorem all_at {ws : List Int} (h : ws.all wordB = true) {k : Nat} (hk : k < ws.length) : wordB (nthI ws k) = true :=
  List.all_eq_true.1 h _ (List.mem_of_getElem? (nthI_getElem hk))
set_option maxHeartbeats 1000000 in
set_option maxRecDepth 100000 in
theorem index41 (w : World) (v : Value) (ws : List Int) (h : Rd w v ws) :
    Calls Tryd.prog 76 #[v, .func (.func 41) #[] #[]] w fun e w' => (∃ n : Int, e = .returned (.int .i64 n) ∧ decide (0 ≤ n) = !(ws.all wordB)) ∧ w = w' := by
  rcases h with ⟨ao, cap, rfl, rfl⟩ | ⟨b, off, cap, rfl, hp, hc1, hm1, hb1, he1⟩
  · go_enter Tryd.func76, Tryd.ntmps76
    go_wp2
    refine wp_loop_rounds 1 ?_
    rw [rounds_succ]
    go_wp2
    go_ret
    exact ⟨⟨-1, rfl, rfl⟩, rfl⟩
  · have H1 := Lib.hid he1
    unfold maxLen at hm1
    clear he1
    go_enter Tryd.func76, Tryd.ntmps76
    go_wp2
    go_loop [8] (fun i => ∃ k : Nat, k ≤ ws.length ∧ i = .int .i64 k ∧ Hid (∀ j, j < k → wordB (nthI ws j) = true)) (fun i => ws.length - (RowKit.intOf i).toNat)
    case atStart => exact ⟨0, Nat.zero_le _, rfl, fun j hj => by omega⟩
    case round =>
      obtain ⟨k, hk, rfl, hP⟩ := hrel
      by_cases hlt : k < ws.length
      · have q1 := H1.out k hlt
        cases hwd : wordB (nthI ws k)
        · have HF := Lib.hid (all_no hlt hwd)
          go_wp2_with (go_at_call 41; refine (nword41 _ _).mono ?_; rw [hwd]; rintro e w1 ⟨rfl, rfl⟩)
          go_ret
          exact ⟨⟨_, rfl, by rw [HF.out]; simp⟩, rfl⟩
        · have hP1 : Hid (∀ j, j < k + 1 → wordB (nthI ws j) = true) := fun j hj => by
            by_cases e : j = k
            · subst e; exact hwd
            · exact hP.out j (by omega)
          go_wp2_with (go_at_call 41; refine (nword41 _ _).mono ?_; rw [hwd]; rintro e w1 ⟨rfl, rfl⟩)
          go_round
          case rel => exact ⟨k + 1, by omega, by go_num, hP1⟩
          case measure => simp [RowKit.intOf]; omega
      · obtain rfl : k = ws.length := by omega
        have HF := Lib.hid (all_of hP.out)
        go_wp2
        go_ret
        exact ⟨⟨-1, rfl, by rw [HF.out]; rfl⟩, rfl⟩
set_option maxHeartbeats 400000 in
theorem contains41 (w : World) (v : Value) (ws : List Int) (h : Rd w v ws) :
    Calls Tryd.prog 40 #[v, .func (.func 41) #[] #[]] w fun e w' => e = .returned (.bool (!(ws.all wordB))) ∧ w = w' := by
  have HI := Lib.hid (index41 w v ws h)
  obtain ⟨ao, cap, rfl⟩ := h.shape
  clear h
  go_enter Tryd.func40, Tryd.ntmps40
  go_wp2_with (go_at_call 76; refine HI.out.mono ?_; rintro e w1 ⟨⟨n, rfl, hn⟩, rfl⟩)
  go_ret
  exact ⟨ret_bool (by first | rfl | exact hn), rfl⟩
set_option maxHeartbeats 1000000 in
set_option maxRecDepth 100000 in
theorem index43 (w : World) (v : Value) (ws : List Int) (h : Rd w v ws) :
    Calls Tryd.prog 76 #[v, .func (.func 43) #[] #[]] w fun e w' => (∃ n : Int, e = .returned (.int .i64 n) ∧ decide (0 ≤ n) = !(ws.all wordB)) ∧ w = w' := by
  rcases h with ⟨ao, cap, rfl, rfl⟩ | ⟨b, off, cap, rfl, hp, hc1, hm1, hb1, he1⟩
  · go_enter Tryd.func76, Tryd.ntmps76
    go_wp2
    refine wp_loop_rounds 1 ?_
    rw [rounds_succ]
    go_wp2
    go_ret
    exact ⟨⟨-1, rfl, rfl⟩, rfl⟩
  · have H1 := Lib.hid he1
    unfold maxLen at hm1
    clear he1
    go_enter Tryd.func76, Tryd.ntmps76
    go_wp2
    go_loop [8] (fun i => ∃ k : Nat, k ≤ ws.length ∧ i = .int .i64 k ∧ Hid (∀ j, j < k → wordB (nthI ws j) = true)) (fun i => ws.length - (RowKit.intOf i).toNat)
    case atStart => exact ⟨0, Nat.zero_le _, rfl, fun j hj => by omega⟩
    case round =>
      obtain ⟨k, hk, rfl, hP⟩ := hrel
      by_cases hlt : k < ws.length
      · have q1 := H1.out k hlt
        cases hwd : wordB (nthI ws k)
        · have HF := Lib.hid (all_no hlt hwd)
          go_wp2_with (go_at_call 43; refine (nword43 _ _).mono ?_; rw [hwd]; rintro e w1 ⟨rfl, rfl⟩)
          go_ret
          exact ⟨⟨_, rfl, by rw [HF.out]; simp⟩, rfl⟩
        · have hP1 : Hid (∀ j, j < k + 1 → wordB (nthI ws j) = true) := fun j hj => by
            by_cases e : j = k
            · subst e; exact hwd
            · exact hP.out j (by omega)
          go_wp2_with (go_at_call 43; refine (nword43 _ _).mono ?_; rw [hwd]; rintro e w1 ⟨rfl, rfl⟩)
          go_round
          case rel => exact ⟨k + 1, by omega, by go_num, hP1⟩
          case measure => simp [RowKit.intOf]; omega
      · obtain rfl : k = ws.length := by omega
        have HF := Lib.hid (all_of hP.out)
        go_wp2
        go_ret
        exact ⟨⟨-1, rfl, by rw [HF.out]; rfl⟩, rfl⟩
set_option maxHeartbeats 400000 in
theorem contains43 (w : World) (v : Value) (ws : List Int) (h : Rd w v ws) :
    Calls Tryd.prog 40 #[v, .func (.func 43) #[] #[]] w fun e w' => e = .returned (.bool (!(ws.all wordB))) ∧ w = w' := by
  have HI := Lib.hid (index43 w v ws h)
  obtain ⟨ao, cap, rfl⟩ := h.shape
  clear h
  go_enter Tryd.func40, Tryd.ntmps40
  go_wp2_with (go_at_call 76; refine HI.out.mono ?_; rintro e w1 ⟨⟨n, rfl, hn⟩, rfl⟩)
  go_ret
  exact ⟨ret_bool (by first | rfl | exact hn), rfl⟩
set_option maxHeartbeats 400000 in
theorem size_any (t r s p : Int) (d : Bool) (ao : Option Addr) (n cap : Nat) (w : World) (hn : n ≤ 1000000000) :
    Calls Tryd.prog 11 #[.agg #[.int .i64 t, .int .i64 r, .int .i64 s, .bool d, .int .i64 p, .slice ao n cap]] w fun e w' => e = .returned (.int .i64 (5 + n)) ∧ Below w.heap.size w w' := by
  have HB := Lib.hid (show Below w.heap.size w (w.alloc (.cells #[.int .i64 t, .int .i64 r, .int .i64 s, .bool d, .int .i64 p, .slice ao n cap] 24)) from (Below.refl _ _).alloc (Nat.le_refl _) _)
  go_enter Tryd.func11, Tryd.ntmps11
  go_wp2
  go_ret
  exact ⟨rfl, HB.out⟩
set_option maxHeartbeats 1000000 in
set_option maxRecDepth 100000 in
theorem sameInts_any (w : World) (u v : Value) (xs bs : List Int) (hu : Rd w u xs) (hv : Rd w v bs) (ha : xs.length < 1000000000) (hb : bs.length < 1000000000) :
    Calls Tryd.prog 12 #[u, v] w fun e w' => e = .returned (.bool (sameB xs bs)) ∧ Below w.heap.size w w' := by
  by_cases hl : xs.length = bs.length
  · rcases hu with ⟨ao, cap, rfl, rfl⟩ | ⟨b, off, cap, rfl, hp, hc1, hm1, hb1, he1⟩
    · have hbs : bs = [] := List.eq_nil_of_length_eq_zero hl.symm
      subst hbs
      obtain ⟨av, cv, rfl⟩ : ∃ av cv, v = .slice av 0 cv := by
        rcases hv with ⟨ao, cap, rfl, _⟩ | ⟨b, off, cap, rfl, hp, _⟩
        · exact ⟨_, _, rfl⟩
        · simp at hp
      clear hv hl ha hb
      go_enter Tryd.func12, Tryd.ntmps12
      go_wp2
      refine wp_loop_rounds 1 ?_
      rw [rounds_succ]
      go_wp2
      go_ret
      exact ⟨rfl, Below.refl _ _⟩
    · rcases hv with ⟨ao', cap', rfl, rfl⟩ | ⟨b', off', cap', rfl, hp', hc2, hm2, hb2, he2⟩
      · exfalso; simp at hl; rw [hl] at hp; simp at hp
      · skip
        have H1 := Lib.hid he1
        have H2 := Lib.hid he2
        have HL := Lib.hid hl
        have hle1 : xs.length ≤ bs.length := by omega
        have hle2 : bs.length ≤ xs.length := by omega
        have hbq : ((xs.length : Int) != (bs.length : Int)) = false := by simp [hl]
        unfold maxLen at hm1 hm2
        clear he1 he2 hl
        go_enter Tryd.func12, Tryd.ntmps12
        go_wp2
        go_loopw [5] (fun i wr => ∃ k : Nat, k ≤ xs.length ∧ i = .int .i64 k ∧ Hid (∀ j, j < k → nthI xs j = nthI bs j) ∧ ∃ n, Hid (wr = w.drewN n)) (fun i _ => xs.length - (RowKit.intOf i).toNat)
        case atStart => exact ⟨0, Nat.zero_le _, rfl, fun j hj => by omega, 0, rfl⟩
        case round =>
          obtain ⟨k, hk, rfl, hP, n, hwr⟩ := hrel
          obtain rfl : wr = w.drewN n := hwr
          by_cases hlt : k < xs.length
          · have q1 := H1.out k hlt
            have q2 := H2.out k (by omega)
            have i1 : (k : Int) < xs.length := by omega
            have i2 : (k : Int) < bs.length := by omega
            by_cases heq : nthI xs k = nthI bs k
            · have hne : (nthI xs k != nthI bs k) = false := by simp [heq]
              have hP1 : Hid (∀ j, j < k + 1 → nthI xs j = nthI bs j) := fun j hj => by
                by_cases e : j = k
                · subst e; exact heq
                · exact hP.out j (by omega)
              clear heq
              go_wp2
              go_quiet (fail)
              go_wp2
              exact ⟨⟨k + 1, by omega, by go_num, hP1, _, rfl⟩, by simp [RowKit.intOf]; omega⟩
            · have hne : (nthI xs k != nthI bs k) = true := by simpa using heq
              have HF := Lib.hid (sameB_at heq)
              clear heq
              go_wp2
              go_quiet (fail)
              go_wp2
              go_ret
              exact ⟨ret_bool HF.out.symm, below_drewN (below_drewN (Below.refl _ _) _) _⟩
          · obtain rfl : k = xs.length := by omega
            have HF := Lib.hid (sameB_all HL.out hP.out)
            go_wp2
            go_ret
            exact ⟨ret_bool HF.out.symm, below_drewN (Below.refl _ _) _⟩
  · obtain ⟨au, lu, cu, hu1, hlu⟩ : ∃ au lu cu, u = .slice au lu cu ∧ lu = xs.length := by
      rcases hu with ⟨ao, cap, rfl, rfl⟩ | ⟨b, off, cap, rfl, _⟩
      · exact ⟨_, _, _, rfl, rfl⟩
      · exact ⟨_, _, _, rfl, rfl⟩
    obtain ⟨av, lv, cv, hv1, hlv⟩ : ∃ av lv cv, v = .slice av lv cv ∧ lv = bs.length := by
      rcases hv with ⟨ao, cap, rfl, rfl⟩ | ⟨b, off, cap, rfl, _⟩
      · exact ⟨_, _, _, rfl, rfl⟩
      · exact ⟨_, _, _, rfl, rfl⟩
    subst hu1 hv1
    have hbq : ((lu : Int) != (lv : Int)) = true := by rw [bne_iff_ne]; omega
    have HF := Lib.hid (sameB_len hl)
    clear hu hv hl hlu hlv
    go_enter Tryd.func12, Tryd.ntmps12
    go_wp2
    go_ret
    exact ⟨ret_bool HF.out.symm, Below.refl _ _⟩
theorem OwnZ.empty {w : World} {base : Nat} (h : base ≤ w.heap.size) : OwnZ (w.alloc (.cells #[] 3)) base (.slice (some ⟨w.heap.size, 0, none⟩) 0 0) [] :=
  ⟨rfl, Or.inr ⟨w.heap.size, 0, #[], rfl, h, heap_alloc_new _ _, Nat.le_refl _, by unfold maxLen; omega, by simp, rfl⟩⟩
theorem OwnZ.nil (w : World) (base : Nat) : OwnZ w base (.slice none 0 0) [] := World.ownsRow_nil _ _ _ _
theorem OwnZ.rd {w : World} {base : Nat} {v : Value} {l : List Int} (h : OwnZ w base v l) : Rd w v l := Rd.of_owns h
set_option maxHeartbeats 1000000 in
set_option maxRecDepth 100000 in
theorem clone_some (w : World) (a : Addr) (n cap : Nat) (ws : List Int) (h : Rd w (.slice (some a) n cap) ws) (hl : ws.length < 1000000) :
    Calls Tryd.prog 45 #[.slice (some a) n cap] w fun e w' => (∃ u, e = .returned u ∧ OwnZ w' w.heap.size u ws) ∧ Below w.heap.size w w' := by
  have hd : Rd (w.alloc (.cells #[] 3)) (.slice (some a) n cap) ws := h.below ((Below.refl _ _).alloc (Nat.le_refl _) _)
  have ho := OwnZ.empty (w := w) (base := w.heap.size) (Nat.le_refl _)
  have hnil := fun w a n c => Lib.run_eql_slice_nil (P := Tryd.prog) w 22 3 a n c 0 0 Tryd.underlying22
  clear h
  go_enter Tryd.func45, Tryd.ntmps45
  go_wp2_with (at_builtin; refine wpList_append_rd _ rfl _ _ rfl rfl w.heap.size _ _ [] ws rfl rfl ho hd ?a1 ?a2 ?_)
  case a1 => first | omega | (simp; done) | (simp; omega)
  case a2 => first | omega | (simp; done) | (simp; omega)
  intro v1 w1 hrow1 hg1 hv1
  have hb : Below w.heap.size w w1 := ((Below.refl _ _).alloc (Nat.le_refl _) _).grown hg1 (by simp) (fun j hj => by cases hj; exact Nat.le_refl _)
  have HB := Lib.hid hb
  have HR := Lib.hid (show OwnZ w1 w.heap.size v1 ws from by simpa [OwnZ] using hrow1)
  obtain ⟨a1, c1', hsh1⟩ := owns_shape hrow1
  subst hsh1
  clear hrow1 hg1 hv1 hb ho hd
  go_wp2
  go_ret
  exact ⟨⟨_, rfl, HR.out⟩, HB.out⟩
set_option maxHeartbeats 1000000 in
set_option maxRecDepth 100000 in
theorem clone_any (w : World) (v : Value) (ws : List Int) (h : Rd w v ws) (hl : ws.length < 1000000) :
    Calls Tryd.prog 45 #[v] w fun e w' => (∃ u, e = .returned u ∧ OwnZ w' w.heap.size u ws) ∧ Below w.heap.size w w' := by
  obtain ⟨ao, cap, rfl⟩ := h.shape
  cases ao with
  | none =>
    have hn : ws = [] := by
      rcases h with ⟨_, _, _, rfl⟩ | ⟨_, _, _, h, _⟩
      · rfl
      · cases h
    subst hn
    have hnil := fun w a n c => Lib.run_eql_slice_nil (P := Tryd.prog) w 22 3 a n c 0 0 Tryd.underlying22
    clear h
    go_enter Tryd.func45, Tryd.ntmps45
    go_wp2
    go_ret
    exact ⟨⟨_, rfl, OwnZ.nil _ _⟩, Below.refl _ _⟩
  | some a => exact clone_some w a _ cap ws h hl

end Go.Proofs.YtcngblnkfiggjaaDoor.Rm
