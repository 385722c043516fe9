/- Contracts of Same and In of the specification's package: whether two lists of ints are equal, whether a list has a number. -/
import Derived.Test.YtphmfmfbneoljaaWalkK
namespace Go.Proofs.Ytphmfmfbneoljaa.Ep
open Go Go.RowKit Go.Maps

theorem Rd.below {w w' : World} {v : Value} {bs : List Int} (h : Rd w v bs) (hb : Below w.heap.size w w') : Rd w' v bs := h.carry hb.size (fun k _ hk => hb.block k hk)
/-- The form of a slice that is read. -/
theorem Rd.form {w : World} {v : Value} {bs : List Int} (h : Rd w v bs) : (∃ ao cap, v = .slice ao 0 cap ∧ bs = []) ∨
    ∃ b off cap, v = .slice (some ⟨b, off, none⟩) bs.length cap ∧ 0 < bs.length ∧ bs.length ≤ cap ∧ cap ≤ maxLen ∧ b < w.heap.size ∧ ∀ j, j < bs.length → w.cell? ⟨b, off + j, none⟩ = some (.int .i64 (nthI bs j)) := h
theorem nthI_ext {a b : List Int} (hl : a.length = b.length) (h : ∀ j, j < a.length → nthI a j = nthI b j) : a = b := by
  apply List.ext_getElem?
  intro j
  by_cases hj : j < a.length
  · rw [nthI_getElem hj, nthI_getElem (hl ▸ hj), h j hj]
  · rw [List.getElem?_eq_none (by omega), List.getElem?_eq_none (by omega)]
/-- Whether a list has a number. -/
def inB (xs : List Int) (x : Int) : Bool := xs.contains x
/-- Whether two lists are equal. -/
def sameB (a b : List Int) : Bool := decide (a = b)
theorem sameB_len {a b : List Int} (h : a.length ≠ b.length) : sameB a b = false := decide_eq_false (fun e => h (by rw [e]))
theorem sameB_at {a b : List Int} {k : Nat} (h : nthI a k ≠ nthI b k) : sameB a b = false := decide_eq_false (fun e => h (by rw [e]))
theorem sameB_all {a b : List Int} (hl : a.length = b.length) (h : ∀ j, j < a.length → nthI a j = nthI b j) : sameB a b = true := decide_eq_true (nthI_ext hl h)

set_option maxHeartbeats 1000000 in
set_option maxRecDepth 100000 in
theorem same_any (w : World) (u v : Value) (xs bs : List Int) (hu : Rd w u xs) (hv : Rd w v bs) (ha : xs.length < 1000000000) (hb : bs.length < 1000000000) :
    Calls Try.prog 13 #[u, v] w fun e w' => e = .returned (.bool (sameB xs bs)) ∧ Below w.heap.size w w' := by
  by_cases hl : xs.length = bs.length
  · rcases hu with ⟨ao, cap, rfl, rfl⟩ | ⟨b, off, cap, rfl, hp, hc1, hm1, hb1, he1⟩
    · have hbs : bs = [] := List.eq_nil_of_length_eq_zero hl.symm
      subst hbs
      obtain ⟨av, cv, rfl⟩ : ∃ av cv, v = .slice av 0 cv := by
        rcases hv with ⟨ao, cap, rfl, _⟩ | ⟨b, off, cap, rfl, hp, _⟩
        · exact ⟨_, _, rfl⟩
        · simp at hp
      clear hv hl ha hb
      go_enter Try.func13, Try.ntmps13
      go_wp2
      refine wp_loop_rounds 1 ?_
      rw [rounds_succ]
      go_wp2
      go_ret
      exact ⟨rfl, Below.refl _ _⟩
    · rcases hv with ⟨ao', cap', rfl, rfl⟩ | ⟨b', off', cap', rfl, hp', hc2, hm2, hb2, he2⟩
      · exfalso; simp at hl; rw [hl] at hp; simp at hp
      · skip
        have H1 := Lib.hid he1
        have H2 := Lib.hid he2
        have HL := Lib.hid hl
        have hle1 : xs.length ≤ bs.length := by omega
        have hle2 : bs.length ≤ xs.length := by omega
        have hbq : ((xs.length : Int) != (bs.length : Int)) = false := by simp [hl]
        unfold maxLen at hm1 hm2
        clear he1 he2 hl
        go_enter Try.func13, Try.ntmps13
        go_wp2
        go_loopw [5] (fun i wr => ∃ k : Nat, k ≤ xs.length ∧ i = .int .i64 k ∧ Hid (∀ j, j < k → nthI xs j = nthI bs j) ∧ ∃ n, Hid (wr = w.drewN n)) (fun i _ => xs.length - (intOf i).toNat)
        case atStart => exact ⟨0, Nat.zero_le _, rfl, fun j hj => by omega, 0, rfl⟩
        case round =>
          obtain ⟨k, hk, rfl, hP, n, hwr⟩ := hrel
          obtain rfl : wr = w.drewN n := hwr
          by_cases hlt : k < xs.length
          · have q1 := H1.out k hlt
            have q2 := H2.out k (by omega)
            have i1 : (k : Int) < xs.length := by omega
            have i2 : (k : Int) < bs.length := by omega
            by_cases heq : nthI xs k = nthI bs k
            · have hne : (nthI xs k != nthI bs k) = false := by simp [heq]
              have hP1 : Hid (∀ j, j < k + 1 → nthI xs j = nthI bs j) := fun j hj => by
                by_cases e : j = k
                · subst e; exact heq
                · exact hP.out j (by omega)
              clear heq
              go_wp2
              go_quiet (fail)
              go_wp2
              exact ⟨⟨k + 1, by omega, by go_num, hP1, _, rfl⟩, by simp [intOf]; omega⟩
            · have hne : (nthI xs k != nthI bs k) = true := by simpa using heq
              have HF := Lib.hid (sameB_at heq)
              clear heq
              go_wp2
              go_quiet (fail)
              go_wp2
              go_ret
              exact ⟨ret_bool HF.out.symm, below_drewN (below_drewN (Below.refl _ _) _) _⟩
          · obtain rfl : k = xs.length := by omega
            have HF := Lib.hid (sameB_all HL.out hP.out)
            go_wp2
            go_ret
            exact ⟨ret_bool HF.out.symm, below_drewN (Below.refl _ _) _⟩
  · obtain ⟨au, lu, cu, hu1, hlu⟩ : ∃ au lu cu, u = .slice au lu cu ∧ lu = xs.length := by
      rcases hu with ⟨ao, cap, rfl, rfl⟩ | ⟨b, off, cap, rfl, _⟩
      · exact ⟨_, _, _, rfl, rfl⟩
      · exact ⟨_, _, _, rfl, rfl⟩
    obtain ⟨av, lv, cv, hv1, hlv⟩ : ∃ av lv cv, v = .slice av lv cv ∧ lv = bs.length := by
      rcases hv with ⟨ao, cap, rfl, rfl⟩ | ⟨b, off, cap, rfl, _⟩
      · exact ⟨_, _, _, rfl, rfl⟩
      · exact ⟨_, _, _, rfl, rfl⟩
    subst hu1 hv1
    have hbq : ((lu : Int) != (lv : Int)) = true := by rw [bne_iff_ne]; omega
    have HF := Lib.hid (sameB_len hl)
    clear hu hv hl hlu hlv
    go_enter Try.func13, Try.ntmps13
    go_wp2
    go_ret
    exact ⟨ret_bool HF.out.symm, Below.refl _ _⟩

set_option maxHeartbeats 1000000 in
set_option maxRecDepth 100000 in
theorem in_any (w : World) (u : Value) (xs : List Int) (x : Int) (hu : Rd w u xs) (ha : xs.length < 1000000000) :
    Calls Try.prog 24 #[u, .int .i64 x] w fun e w' => e = .returned (.bool (inB xs x)) ∧ w = w' := by
  rcases hu with ⟨ao, cap, rfl, rfl⟩ | ⟨b, off, cap, rfl, hp, hc1, hm1, hb1, he1⟩
  · go_enter Try.func24, Try.ntmps24
    go_wp2
    refine wp_loop_rounds 1 ?_
    rw [rounds_succ]
    go_wp2
    go_ret
    exact ⟨rfl, rfl⟩
  · have H1 := Lib.hid he1
    unfold maxLen at hm1
    clear he1
    go_enter Try.func24, Try.ntmps24
    go_wp2
    go_loop [5] (fun i => ∃ k : Nat, k ≤ xs.length ∧ i = .int .i64 k ∧ Hid ((xs.take k).contains x = false)) (fun i => xs.length - (intOf i).toNat)
    case atStart => exact ⟨0, Nat.zero_le _, rfl, rfl⟩
    case round =>
      obtain ⟨k, hk, rfl, hP⟩ := hrel
      by_cases hlt : k < xs.length
      · have q1 := H1.out k hlt
        by_cases heq : nthI xs k = x
        · have hq : (nthI xs k == x) = true := by simpa using heq
          have HF : Hid (inB xs x = true) := by show xs.contains x = true; rw [List.contains_iff_mem, ← heq]; exact nthI_mem hlt
          clear heq
          go_wp2
          go_ret
          exact ⟨ret_bool HF.out.symm, rfl⟩
        · have hq : (nthI xs k == x) = false := by simpa using heq
          have hP1 : Hid ((xs.take (k + 1)).contains x = false) := by
            show _ = false
            rw [take_snoc hlt, List.contains_append, hP.out]
            simpa using fun h => heq h.symm
          clear heq
          go_wp2
          go_round
          case rel => exact ⟨k + 1, by omega, by go_num, hP1⟩
          case measure => simp [intOf]; omega
      · obtain rfl : k = xs.length := by omega
        have HF : Hid (inB xs x = false) := by have := hP.out; rwa [List.take_length] at this
        go_wp2
        go_ret
        exact ⟨ret_bool HF.out.symm, rfl⟩

end Go.Proofs.Ytphmfmfbneoljaa.Ep
