/- What the rounds of the law 'all is freed in the end' leave: a call played, a row appended to, a reader that leaves. -/
import Derived.Test.YtphmfmfbneoljaaPlay
namespace Go.Proofs.Ytphmfmfbneoljaa.Ep
open Go Go.RowKit Go.Maps

/-- What holds when k calls have been played. -/
def Playing (w0 wr : World) (B : Nat) (r f : Value) (k : Nat) : Prop :=
  ∃ s F c R D, Own w0 wr B s F c ∧ Row w0 wr F r R ∧ Row w0 wr F f D ∧ Apart r f ∧ R = D ++ names s.wt ∧ c ≤ 11 * k ∧ R.length ≤ 10 * k

/-- An append to a row, beside the object and another row. -/
theorem grow1 {w0 w w' : World} {B : Nat} {s : St} {F : Nat → Prop} {c : Nat} {r r' f : Value} {R R' D : List Int} (X : Own w0 w B s F c) (h1 : Row w0 w F r R) (h2 : Row w0 w F f D) (hap : Apart r f)
    {n : Nat} (hrow : w'.ownsRow w0.heap.size 3 1 r' n (ints R')) (hn : n = R'.length) (hg : w.grownBy w' r.ownBlock) (hv : r'.ownBlock = r.ownBlock ∨ r'.ownBlock = some w.heap.size) :
    Own w0 w' B s F c ∧ Row w0 w' F r' R' ∧ Row w0 w' F f D ∧ Apart r' f := by
  subst hn
  exact ⟨X.grown h1 hg, Row.appended X h1 hrow hv, h2.grown hg hap.symm, hap.appended h2 hv⟩

/-- A call of a script that came in: its contract in a round. -/
theorem do_round {w0 w : World} {B : Nat} {s : St} {F : Nat → Prop} {c : Nat} {C : Call} (X : Own w0 w B s F c) (hok : C.ok w0) (hc : c + C.bs.length < 1000000) :
    Calls Try.prog 11 #[.pointer (some ⟨B, 0, none⟩), .agg #[.int .i64 C.kind, .int .i64 C.a, C.v]] w fun e w' =>
      ∃ ro F', e = .returned (.tuple #[ro, .int .i64 (s.stepErr C.kind C.a C.bs)]) ∧ Own w0 w' B (s.step C.kind C.a C.bs) F' (c + C.bs.length + 1) ∧ Row w0 w' F' ro (s.stepOut C.kind) ∧ Moves F F' w w' ∧ w'.ownsRow w.heap.size 3 1 ro (s.stepOut C.kind).length (ints (s.stepOut C.kind)) := by
  refine (do_any w B s F c C.kind C.a C.v C.bs X.obj (hok.rd_at X) (fun k hk hne hF => ?_) hok.2.1 hok.2.2.2.1 hc).mono (fun e w' hd => do_played X hd)
  have h1 := hok.2.2.2.2 k hk hne
  have h2 := X.new k hF
  omega

theorem Playing.next {w0 w' : World} {B : Nat} {s : St} {F' : Nat → Prop} {c k : Nat} {kind a : Int} {bs R D : List Int} {r f : Value} (X : Own w0 w' B (s.step kind a bs) F' (c + bs.length + 1)) (h1 : Row w0 w' F' r (retd s kind a bs R)) (h2 : Row w0 w' F' f (D ++ s.stepOut kind)) (hap : Apart r f)
    (hRD : R = D ++ names s.wt) (hcc : c ≤ 11 * k) (hRl : R.length ≤ 10 * k) (hbs : bs.length ≤ 10) : Playing w0 w' B r f (k + 1) := by
  refine ⟨_, _, _, _, _, X, h1, h2, hap, step_keeps hRD, by omega, ?_⟩
  have := retd_length (s := s) (kind := kind) (a := a) (bs := bs) (R := R)
  omega

theorem stepOut_le (s : St) (kind : Int) : (s.stepOut kind).length ≤ s.wt.length := by
  unfold St.stepOut
  split
  · rw [freed_length]; exact olds_le _ _
  · simp
theorem play_len {s : St} {R D : List Int} (h : R = D ++ names s.wt) (kind : Int) : D.length + (s.stepOut kind).length ≤ R.length := by
  have := stepOut_le s kind
  rw [h, List.length_append]
  unfold names
  rw [List.length_map]
  omega

/-- The state when the first k readers have left. -/
def sD (s : St) (k : Nat) : St := { s with rd := s.rd.drop k }
theorem out_head {x e : Int} {r : List (Int × Int)} (h : ((x, e) :: r).Pairwise (fun a b => a.1 < b.1)) : out x ((x, e) :: r) = r := by
  rw [List.pairwise_cons] at h
  unfold out
  rw [List.filter_cons_of_neg (by simp)]
  exact List.filter_eq_self.2 (fun p hp => by have := h.1 p hp; simp at this ⊢; omega)
theorem leave_drop {s : St} (hi : Inv s) {k : Nat} (hk : k < s.rd.length) : (sD s k).leaveErr (nthI (names s.rd) k) = 0 ∧ (sD s k).leave (nthI (names s.rd) k) = sD s (k + 1) := by
  have e : s.rd.drop k = s.rd[k] :: s.rd.drop (k + 1) := List.drop_eq_getElem_cons hk
  have en : nthI (names s.rd) k = s.rd[k].1 := by unfold nthI names; simp [hk]
  have hp : (s.rd.drop k).Pairwise (fun a b => a.1 < b.1) := hi.sorted.sublist (List.drop_sublist _ _)
  have hh : has (s.rd.drop k) (nthI (names s.rd) k) = true := has_iff.2 ⟨s.rd[k].2, by rw [en, e]; exact List.mem_cons_self⟩
  have ho : out (nthI (names s.rd) k) (s.rd.drop k) = s.rd.drop (k + 1) := by rw [e] at hp ⊢; rw [en]; exact out_head hp
  constructor
  · simp [St.leaveErr, sD, hh]
  · simp [St.leave, sD, hh, ho]
theorem sD_all (s : St) : (sD s s.rd.length).rd = [] := by simp [sD]
theorem sD_zero (s : St) : sD s 0 = s := by simp [sD]
theorem sD_wt (s : St) (k : Nat) : (sD s k).wt = s.wt := rfl

/-- What holds when k readers have left. -/
def Leaving (w0 wr : World) (B : Nat) (s : St) (c : Nat) (r f v : Value) (R D : List Int) (k : Nat) : Prop :=
  ∃ F, Own w0 wr B (sD s k) F c ∧ Row w0 wr F r R ∧ Row w0 wr F f D ∧ Row w0 wr F v (names s.rd)
theorem Leaving.step {w0 wr w' : World} {B : Nat} {s : St} {c : Nat} {r f v : Value} {R D : List Int} {k : Nat} {F F' : Nat → Prop} (hi : Inv s) (hk : k < s.rd.length) (X : Own w0 wr B (sD s k) F c) (h1 : Row w0 wr F r R) (h2 : Row w0 wr F f D) (h3 : Row w0 wr F v (names s.rd))
    (hO : Obj w' B ((sD s k).leave (nthI (names s.rd) k)) F' c) (hM : Moves F F' wr w') : Leaving w0 w' B s c r f v R D (k + 1) := by
  rw [(leave_drop hi hk).2] at hO
  exact ⟨F', X.moves hO hM, h1.moves hM, h2.moves hM, h3.moves hM⟩

/-- What a round reads of a slice of ints. -/
theorem Rd.at {w : World} {ao : Option Addr} {n cap : Nat} {bs : List Int} (h : Rd w (.slice ao n cap) bs) {j : Nat} (hj : j < bs.length) : ∃ b off, ao = some ⟨b, off, none⟩ ∧ n = bs.length ∧ n ≤ cap ∧ cap ≤ maxLen ∧ b < w.heap.size ∧ w.cell? ⟨b, off + j, none⟩ = some (.int .i64 (nthI bs j)) := by
  rcases h with ⟨a, c, h1, rfl⟩ | ⟨b, off, c, h1, h2, h3, h4, h5, h6⟩
  · simp at hj
  · simp only [Value.slice.injEq] at h1
    obtain ⟨rfl, rfl, rfl⟩ := h1
    exact ⟨b, off, rfl, rfl, h3, h4, h5, h6 j hj⟩
theorem names_length (l : List (Int × Int)) : (names l).length = l.length := by unfold names; simp
/-- A row that a call on the object has handed out. -/
theorem Row.handed {w0 w w' : World} {B : Nat} {s : St} {F F' : Nat → Prop} {c n : Nat} {v : Value} {xs : List Int} (h : Own w0 w B s F c) (hrow : w'.ownsRow w.heap.size 3 1 v n (ints xs)) (hn : n = xs.length) (hF : ∀ k, F' k → F k) : Row w0 w' F' v xs := by
  subst hn
  exact ⟨Joins.ownsRow_le hrow h.below.size, fun k hk hf => by have h1 := (hrow.lt k hk).1; have h2 := h.obj.lt k (hF k hf); omega⟩
theorem sameB_self (l : List Int) : sameB l l = true := decide_eq_true rfl

end Go.Proofs.Ytphmfmfbneoljaa.Ep
