/- A script being played: the object, and two rows of the call's own (what was retired, what was freed), none in the way of another. -/
import Derived.Test.YtphmfmfbneoljaaPlainE
namespace Go.Proofs.Ytphmfmfbneoljaa.Ep
open Go Go.RowKit Go.Maps

theorem row_carry {w w' : World} {base : Nat} {e : TypeId} {sz : Nat} {v : Value} {n : Nat} {xs : List Value} (h : w.ownsRow base e sz v n xs) (hb : ∀ k, v.ownBlock = some k → w'.heap[k]? = w.heap[k]?) : w'.ownsRow base e sz v n xs := by
  obtain ⟨h1, h2⟩ := h
  refine ⟨h1, ?_⟩
  rcases h2 with h2 | ⟨g, cap, cur, rfl, hg, hh, r⟩
  · exact Or.inl h2
  · exact Or.inr ⟨g, cap, cur, rfl, hg, (hb g rfl).trans hh, r⟩
theorem Obj.rd_wf {w : World} {B : Nat} {s : St} {F : Nat → Prop} {c : Nat} (h : Obj w B s F c) : ∀ k ∈ names s.rd, (Lit.int .i64 k).wf = true := by
  obtain ⟨m1, m2, v, n1, n2, D2, hB, hm1, hm2, hD, hs, hd, c1, c2, c3, c4, hi, rfl⟩ := h
  intro k hk
  have := intKeys_wf hm1 Try.underlying3
  rw [intKeys_mapD] at this
  exact this k hk

/-- A row of ints of the call's own, which is no block of the object. -/
structure Row (w0 w : World) (F : Nat → Prop) (v : Value) (xs : List Int) : Prop where
  row : w.ownsRow w0.heap.size 3 1 v xs.length (ints xs)
  off : ∀ k, v.ownBlock = some k → ¬ F k
theorem Row.lt {w0 w : World} {F : Nat → Prop} {v : Value} {xs : List Int} (h : Row w0 w F v xs) {k : Nat} (hk : v.ownBlock = some k) : k < w.heap.size := (h.row.lt k hk).2
theorem Row.ge {w0 w : World} {F : Nat → Prop} {v : Value} {xs : List Int} (h : Row w0 w F v xs) {k : Nat} (hk : v.ownBlock = some k) : w0.heap.size ≤ k := (h.row.lt k hk).1
theorem Row.moves {w0 w w' : World} {F F' : Nat → Prop} {v : Value} {xs : List Int} (h : Row w0 w F v xs) (hm : Moves F F' w w') : Row w0 w' F' v xs :=
  ⟨row_carry h.row (fun k hk => hm.block k (h.lt hk) (h.off k hk)), fun k hk hF => by
    rcases hm.sub k hF with h1 | h1
    · exact h.off k hk h1
    · have := h.lt hk; omega⟩
theorem Row.by {w0 w w' : World} {F : Nat → Prop} {v : Value} {xs : List Int} (h : Row w0 w F v xs) (hb : Below w.heap.size w w') : Row w0 w' F v xs :=
  ⟨row_carry h.row (fun k hk => hb.block k (h.lt hk)), h.off⟩
/-- Another row was appended to. -/
theorem Row.grown {w0 w w' : World} {F : Nat → Prop} {v u : Value} {xs : List Int} (h : Row w0 w F v xs) (hg : w.grownBy w' u.ownBlock) (hd : ∀ k, v.ownBlock = some k → u.ownBlock ≠ some k) : Row w0 w' F v xs :=
  ⟨row_carry h.row (fun k hk => hg.block k (h.lt hk) (fun e => hd k hk e.symm)), h.off⟩
theorem Row.rd {w0 w : World} {F : Nat → Prop} {v : Value} {xs : List Int} (h : Row w0 w F v xs) : Rd w v xs := Rd.of_owns h.row
theorem Row.nil (w0 w : World) (F : Nat → Prop) : Row w0 w F (.slice none 0 0) [] := ⟨World.ownsRow_nil _ _ _ _, fun k hk => by cases hk⟩
/-- Two slices of different blocks. -/
def Apart (v u : Value) : Prop := ∀ k, v.ownBlock = some k → u.ownBlock ≠ some k
theorem Apart.symm {v u : Value} (h : Apart v u) : Apart u v := fun k h1 h2 => h k h2 h1
theorem Apart.nil (v : Value) : Apart (.slice none 0 0) v := fun k hk => by cases hk
/-- The object beside an append to a row. -/
theorem Own.grown {w0 w w' : World} {B : Nat} {s : St} {F : Nat → Prop} {c : Nat} {u : Value} {xs : List Int} (h : Own w0 w B s F c) (hr : Row w0 w F u xs) (hg : w.grownBy w' u.ownBlock) : Own w0 w' B s F c :=
  ⟨h.obj.carry (fun k hk => hg.block k (h.obj.lt k hk) (fun e => hr.off k e.symm hk)), h.new, h.below.grown hg h.below.size (fun k hk => hr.ge hk)⟩
/-- The row that was appended to. -/
theorem Row.appended {w0 w w' : World} {B : Nat} {s : St} {F : Nat → Prop} {c : Nat} {v v' : Value} {xs ys : List Int} (h : Own w0 w B s F c) (hr : Row w0 w F v xs) (hrow : w'.ownsRow w0.heap.size 3 1 v' ys.length (ints ys)) (hv : v'.ownBlock = v.ownBlock ∨ v'.ownBlock = some w.heap.size) : Row w0 w' F v' ys :=
  ⟨hrow, fun k hk hF => by
    rcases hv with h1 | h1
    · exact hr.off k (h1 ▸ hk) hF
    · rw [h1] at hk; cases hk; exact Nat.lt_irrefl _ (h.obj.lt _ hF)⟩
theorem Apart.appended {w0 w : World} {F : Nat → Prop} {v v' u : Value} {xs : List Int} (h : Apart v u) (hr : Row w0 w F u xs) (hv : v'.ownBlock = v.ownBlock ∨ v'.ownBlock = some w.heap.size) : Apart v' u := fun k hk hu => by
  rcases hv with h1 | h1
  · exact h k (h1 ▸ hk) hu
  · rw [h1] at hk; cases hk; exact Nat.lt_irrefl _ (hr.lt hu)
/-- A row that is new. -/
theorem Row.new {w0 w w' : World} {B : Nat} {s : St} {F : Nat → Prop} {c : Nat} {v : Value} {xs : List Int} (h : Own w0 w B s F c) (hrow : w'.ownsRow w.heap.size 3 1 v xs.length (ints xs)) (hoff : ∀ k, v.ownBlock = some k → ¬ F k) : Row w0 w' F v xs :=
  ⟨Joins.ownsRow_le hrow h.below.size, hoff⟩
theorem Apart.new {w0 w w' : World} {F : Nat → Prop} {v u : Value} {xs ys : List Int} (hrow : w'.ownsRow w.heap.size 3 1 v xs.length (ints xs)) (hr : Row w0 w F u ys) : Apart v u := fun k hk hu => by
  have h1 := (hrow.lt k hk).1
  have h2 := hr.lt hu
  omega

/-- What one call of a script leaves. -/
theorem do_played {w0 w w' : World} {B : Nat} {s : St} {F : Nat → Prop} {c : Nat} {kind a : Int} {bs : List Int} {e : Ending} (h : Own w0 w B s F c) (hd : Done w B s F c kind a bs e w') :
    ∃ ro F', e = .returned (.tuple #[ro, .int .i64 (s.stepErr kind a bs)]) ∧ Own w0 w' B (s.step kind a bs) F' (c + bs.length + 1) ∧ Row w0 w' F' ro (s.stepOut kind) ∧ Moves F F' w w' ∧ w'.ownsRow w.heap.size 3 1 ro (s.stepOut kind).length (ints (s.stepOut kind)) := by
  obtain ⟨ro, F', rfl, h1, h2, h3, h4⟩ := hd
  exact ⟨ro, F', rfl, h.moves h2 h3, ⟨Joins.ownsRow_le h1 h.below.size, h4⟩, h3, h1⟩

/-- What a round reads of a script. -/
theorem Script.at {w : World} {u : Value} {l : List Call} (h : Script w u l) {k : Nat} (hk : k < l.length) : ∃ b off cap, u = .slice (some ⟨b, off, none⟩) l.length cap ∧ l.length ≤ cap ∧ cap ≤ maxLen ∧ b < w.heap.size ∧
    w.cell? ⟨b, off + k * 3, none⟩ = some (.int .i64 (nthC l k).kind) ∧ w.cell? ⟨b, off + k * 3 + 1, none⟩ = some (.int .i64 (nthC l k).a) ∧ w.cell? ⟨b, off + k * 3 + 2, none⟩ = some (nthC l k).v ∧ (nthC l k).ok w := by
  rcases h with ⟨ao, cap, rfl, rfl⟩ | ⟨b, off, cap, rfl, hp, hc, hm, hb, hj⟩
  · simp at hk
  · exact ⟨b, off, cap, rfl, hc, hm, hb, hj k hk⟩
theorem Script.shape {w : World} {u : Value} {l : List Call} (h : Script w u l) : ∃ ao cap, u = .slice ao l.length cap := by
  rcases h with ⟨ao, cap, rfl, rfl⟩ | ⟨b, off, cap, rfl, _⟩
  · exact ⟨_, _, rfl⟩
  · exact ⟨_, _, rfl⟩
theorem Script.below {w w' : World} {u : Value} {l : List Call} (h : Script w u l) (hb : Below w.heap.size w w') : Script w' u l := by
  rcases h with h | ⟨b, off, cap, rfl, hp, hc, hm, hlt, hj⟩
  · exact Or.inl h
  · refine Or.inr ⟨b, off, cap, rfl, hp, hc, hm, Nat.lt_of_lt_of_le hlt hb.size, fun j hj' => ?_⟩
    obtain ⟨a1, a2, a3, a4, a5, a6, a7, a8⟩ := hj j hj'
    refine ⟨(hb.cell hlt).trans a1, (hb.cell hlt).trans a2, (hb.cell hlt).trans a3, a4, a5, a6.below hb, a7, fun k hk hne => Nat.lt_of_lt_of_le (a8 k hk hne) hb.size⟩
/-- The blocks of a call of a script that came in, in a round. -/
theorem Call.ok.rd_at {w0 w : World} {B : Nat} {s : St} {F : Nat → Prop} {c : Nat} {C : Call} (h : Own w0 w B s F c) (hk : C.ok w0) : Rd w C.v C.bs := hk.2.2.1.below h.below

end Go.Proofs.Ytphmfmfbneoljaa.Ep
