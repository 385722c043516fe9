/- The program's object and the specification's, side by side, in one state; what the calls that only read give in every later world. -/
import Derived.Test.YtphmfmfbneoljaaWalkX
namespace Go.Proofs.Ytphmfmfbneoljaa.Ep
open Go Go.RowKit Go.Maps

/-- Both objects hold the state s. -/
structure Pair (w0 w : World) (B B2 : Nat) (s : St) (F G : Nat → Prop) (c : Nat) : Prop where
  own : Own w0 w B s F c
  ref : RObj w B2 s G c
  new : ∀ k, G k → w0.heap.size ≤ k
  dj : ∀ k, F k → ¬ G k
theorem Pair.by {w0 w w' : World} {B B2 : Nat} {s : St} {F G : Nat → Prop} {c : Nat} (h : Pair w0 w B B2 s F G c) (hb : Below w.heap.size w w') : Pair w0 w' B B2 s F G c :=
  ⟨h.own.by hb, h.ref.below hb, h.new, h.dj⟩

/-- One call of a script, on the program's object first. -/
theorem pair_do {w0 w : World} {B B2 : Nat} {s : St} {F G : Nat → Prop} {c : Nat} {C : Call} (P : Pair w0 w B B2 s F G c) (hok : C.ok w0) (hc : c + C.bs.length < 1000000) :
    Calls Try.prog 11 #[.pointer (some ⟨B, 0, none⟩), .agg #[.int .i64 C.kind, .int .i64 C.a, C.v]] w fun e w' =>
      ∃ ro F', e = .returned (.tuple #[ro, .int .i64 (s.stepErr C.kind C.a C.bs)]) ∧ Own w0 w' B (s.step C.kind C.a C.bs) F' (c + C.bs.length + 1) ∧ RObj w' B2 s G c ∧ (∀ k, F' k → ¬ G k) ∧
        Rd w' ro (s.stepOut C.kind) ∧ (∀ k, ro.ownBlock = some k → k < w'.heap.size ∧ ¬ G k) := by
  refine (do_round P.own hok hc).mono ?_
  rintro e w' ⟨ro, F', rfl, X, hr, hM, hrow⟩
  refine ⟨ro, F', rfl, X, P.ref.carry (fun k hk => hM.block k (P.ref.lt k hk) (fun hF => P.dj k hF hk)), fun k hF hG => ?_, hr.rd, fun k hk => ⟨hr.lt hk, fun hG => ?_⟩⟩
  · rcases hM.sub k hF with h | h
    · exact P.dj k h hG
    · have := P.ref.lt k hG; omega
  · have h1 := (hrow.lt k hk).1
    have h2 := P.ref.lt k hG
    omega
/-- And then on the specification's. -/
theorem pair_rdo {w0 w : World} {B B2 : Nat} {s s' : St} {F' G : Nat → Prop} {c c' : Nat} {C : Call} {ro : Value} {xs : List Int} (X : Own w0 w B s' F' c') (hR : RObj w B2 s G c) (hnew : ∀ k, G k → w0.heap.size ≤ k) (hdj : ∀ k, F' k → ¬ G k)
    (hrd : Rd w ro xs) (hro : ∀ k, ro.ownBlock = some k → k < w.heap.size ∧ ¬ G k) (hok : C.ok w0) (hc : c + C.bs.length < 1000000) (hs : s' = s.step C.kind C.a C.bs) (hcc : c' = c + C.bs.length + 1) :
    Calls Try.prog 12 #[.pointer (some ⟨B2, 0, none⟩), .agg #[.int .i64 C.kind, .int .i64 C.a, C.v]] w fun e w' =>
      ∃ rb G', e = .returned (.tuple #[rb, .int .i64 (s.stepErr C.kind C.a C.bs)]) ∧ Pair w0 w' B B2 s' F' G' c' ∧ Rd w' ro xs ∧ Rd w' rb (s.stepOut C.kind) := by
  subst hs hcc
  refine (rdo_any w B2 s G c C.kind C.a C.v C.bs hR (hok.rd_at X) hc).mono ?_
  rintro e w' ⟨rb, G', rfl, hrow, hO, hM, hoff⟩
  refine ⟨rb, G', rfl, ⟨⟨X.obj.carry (fun k hk => hM.block k (X.obj.lt k hk) (hdj k hk)), X.new, X.below.trans (hM.below hnew X.below.size)⟩, hO, fun k hk => ?_, fun k hF hG => ?_⟩, hrd.carry hM.size (fun k hk hlt => hM.block k hlt (hro k hk).2), Rd.of_owns hrow⟩
  · rcases hM.sub k hk with h | h
    · exact hnew k h
    · exact Nat.le_trans X.below.size h
  · rcases hM.sub k hG with h | h
    · exact hdj k hF h
    · have := X.obj.lt k hF; omega

section
variable {w0 w : World} {B B2 : Nat} {s : St} {F G : Nat → Prop} {c : Nat}
theorem later_same {u v : Value} {xs : List Int} (hu : Rd w u xs) (hv : Rd w v xs) (hl : xs.length < 1000000000) : ∀ W, Below w.heap.size w W → Calls Try.prog 13 #[u, v] W fun e w' => e = .returned (.bool true) ∧ Below w.heap.size w w' := fun W hb => by
  refine (same_any W u v xs xs (hu.below hb) (hv.below hb) hl hl).mono ?_
  rintro e w' ⟨rfl, hb'⟩
  exact ⟨by rw [sameB_self], below_next hb hb'⟩
theorem later_now (P : Pair w0 w B B2 s F G c) : ∀ W, Below w.heap.size w W → Calls Try.prog 14 #[.pointer (some ⟨B, 0, none⟩)] W fun e w' => e = .returned (.int .i64 s.now) ∧ Below w.heap.size w w' := fun W hb => by
  refine (now_any W B s F c (P.own.obj.below hb)).mono ?_
  rintro e w' ⟨rfl, rfl⟩
  exact ⟨rfl, hb⟩
theorem later_least (P : Pair w0 w B B2 s F G c) : ∀ W, Below w.heap.size w W → Calls Try.prog 15 #[.pointer (some ⟨B, 0, none⟩)] W fun e w' => e = .returned (.int .i64 s.least) ∧ Below w.heap.size w w' := fun W hb => by
  refine (least_any W B s F c (P.own.obj.below hb)).mono ?_
  rintro e w' ⟨rfl, hb'⟩
  exact ⟨rfl, below_next hb hb'⟩
theorem later_rleast (P : Pair w0 w B B2 s F G c) (hc : c < 1000000) : ∀ W, Below w.heap.size w W → Calls Try.prog 16 #[.pointer (some ⟨B2, 0, none⟩)] W fun e w' => e = .returned (.int .i64 s.least) ∧ Below w.heap.size w w' := fun W hb => by
  refine (rleast_any W B2 s G c (P.ref.below hb) (by omega)).mono ?_
  rintro e w' ⟨rfl, rfl⟩
  exact ⟨rfl, hb⟩
/-- A row that is new, and stays as it is. -/
theorem later_readers (P : Pair w0 w B B2 s F G c) (hc : c < 1000000) : ∀ W, Below w.heap.size w W → Calls Try.prog 17 #[.pointer (some ⟨B, 0, none⟩)] W fun e w' => ∃ v, e = .returned v ∧ Rd w' v (names s.rd) ∧ Below w.heap.size w w' ∧ Below W.heap.size W w' := fun W hb => by
  refine (readers_any W B s F c (P.own.obj.below hb) (by omega)).mono ?_
  rintro e w' ⟨v, rfl, hrow, hb'⟩
  exact ⟨v, rfl, Rd.of_owns (by rw [names_length]; exact hrow), below_next hb hb', hb'⟩
theorem later_waiting (P : Pair w0 w B B2 s F G c) (hc : c < 1000000) : ∀ W, Below w.heap.size w W → Calls Try.prog 19 #[.pointer (some ⟨B, 0, none⟩)] W fun e w' => ∃ v, e = .returned v ∧ Rd w' v (names s.wt) ∧ Below w.heap.size w w' ∧ Below W.heap.size W w' := fun W hb => by
  refine (waiting_any W B s F c (P.own.obj.below hb) (by omega)).mono ?_
  rintro e w' ⟨v, rfl, hrow, hb'⟩
  exact ⟨v, rfl, Rd.of_owns (by rw [names_length]; exact hrow), below_next hb hb', hb'⟩
/-- What the specification's object shows of itself. -/
theorem Pair.cells (P : Pair w0 w B B2 s F G c) (hc : c < 1000000) : ∃ vR vW, (∃ a n k, vR = .slice a n k) ∧ (∃ a n k, vW = .slice a n k) ∧ B2 < w.heap.size ∧ w.cell? ⟨B2, 0, none⟩ = some vR ∧ w.cell? ⟨B2, 1, none⟩ = some vW ∧ w.cell? ⟨B2, 2, none⟩ = some (.int .i64 s.now) ∧
    (∀ W, Below w.heap.size w W → Calls Try.prog 18 #[vR] W fun e w' => ∃ v, e = .returned v ∧ Rd w' v (names s.rd) ∧ Below w.heap.size w w' ∧ Below W.heap.size W w') ∧
    (∀ W, Below w.heap.size w W → Calls Try.prog 18 #[vW] W fun e w' => ∃ v, e = .returned v ∧ Rd w' v (names s.wt) ∧ Below w.heap.size w w' ∧ Below W.heap.size W w') ∧ s.rd.length ≤ c ∧ s.wt.length ≤ c := by
  obtain ⟨vR, vW, hB, hR, hW, hd, c1, c2, c3, hi, rfl⟩ := P.ref
  have hsl : ∀ {v : Value} {l : List (Int × Int)}, Seg w 62 2 v l.length (itemCells l) → ∃ a n k, v = .slice a n k := fun h => by
    obtain ⟨_, ⟨h, _⟩ | ⟨g, off, cap, cur, h, _⟩⟩ := h
    · exact ⟨_, _, _, h⟩
    · exact ⟨_, _, _, h⟩
  have hn : ∀ {v : Value} {l : List (Int × Int)}, Seg w 62 2 v l.length (itemCells l) → l.length ≤ c → ∀ W, Below w.heap.size w W → Calls Try.prog 18 #[v] W fun e w' => ∃ r, e = .returned r ∧ Rd w' r (names l) ∧ Below w.heap.size w w' ∧ Below W.heap.size W w' := fun {v l} h hl W hb => by
    refine (rnames_any W v l (h.carry (fun k hk => hb.block k (h.lt hk))) (by omega)).mono ?_
    rintro e w' ⟨r, rfl, hrow, hb'⟩
    exact ⟨r, rfl, Rd.of_owns (by rw [names_length]; exact hrow), below_next hb hb', hb'⟩
  exact ⟨vR, vW, hsl hR, hsl hW, (Array.getElem?_eq_some_iff.1 hB).1, by simp [World.cell?, hB], by simp [World.cell?, hB], by simp [World.cell?, hB], hn hR c1, hn hW c2, c1, c2⟩
end

end Go.Proofs.Ytphmfmfbneoljaa.Ep
