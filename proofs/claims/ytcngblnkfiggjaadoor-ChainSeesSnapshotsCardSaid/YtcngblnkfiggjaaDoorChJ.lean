/- A law for a range over a function whose iterator writes cells of its own between two rounds, and hands on what it has just made. -/
import Derived.Test.YtcngblnkfiggjaaDoorChW
namespace Go.Proofs.YtcngblnkfiggjaaDoor.Rm
open Go Go.RowKit Go.Maps Go.Shelf

/-- An iterator's contract. Step: what it does to memory by itself. G x A0 A: what it knows of x, which it hands on in A; A0 was the world when the round began. Kp A0 A B: what a round that goes on keeps. -/
def SeqC {α : Type} (n : Nat) (g : Nat) (lb : Array Value) (encs : α → Array Value) (Step : World → World → Prop) (G : List α → α → World → World → Prop) (Kp : World → World → World → Prop) (S Sp : List α → Prop) (N : Nat) (W : World) : Prop :=
  ∀ (l : Nat) (J Jx : List α → World → Prop), (∀ pre A B, J pre A → Step A B → J pre B) →
    (∀ pre x A0 A, J pre A0 → Step A0 A → G pre x A0 A → pre.length < N → YieldAt Fence.wide (n - 1) Tryd.prog l (encs x) A fun e B =>
      (e = .returned (.bool true) ∧ J (pre ++ [x]) B ∧ Kp A0 A B) ∨ (e = .returned (.bool false) ∧ Jx (pre ++ [x]) B)) →
    J [] W →
    CallsIn Fence.wide n Tryd.prog g (#[.func (.yield l) #[] #[]] ++ lb) W fun e B => (∃ v, e = .returned v) ∧ ((∃ xs, S xs ∧ J xs B) ∨ (∃ pre, Sp pre ∧ Jx pre B))

/-- How a round may be left: the loop's own two blocks are as they were; where it goes on, it has kept its word. -/
def roundC {α : Type} (D : Nat) (r : Loop) (Kp : World → Prop) (I : List α → World → Prop) (Ix : Code → List α → World → Prop) (xs : List α) : Exit → Act → World → Prop
  | .normal, _, B => B.heap[D]? = some (.deferred (some [])) ∧ B.heap[D + 1]? = some (.loop r) ∧ I xs B ∧ ∀ r', Kp (B.putObj (D + 1) (.loop r'))
  | .ret, _, B => B.heap[D]? = some (.deferred (some [])) ∧ B.heap[D + 1]? = some (.loop r) ∧ Ix .ret xs B
  | .exit id, _, B => B.heap[D]? = some (.deferred (some [])) ∧ B.heap[D + 1]? = some (.loop r) ∧ Ix (.exit id) xs B
  | _, _, _ => False

theorem range_c {α : Type} {n : Nat} {g : Operand} {ps : Array Tmp} {assign body : Code} {Q : Exit → Act → World → Prop} {a : Act} {w : World} {gf : Nat} {lb : Array Value} (h1 : 1 ≤ n)
    (hg : a.eval g = .func (.func gf) #[] lb) (eg : ∀ args w, (callFunc gf args).run Tryd.prog w = .ok (.enter gf args) w) {encs : α → Array Value} (hps : ∀ x, (encs x).size = ps.size)
    (Step : World → World → Prop) (G : List α → α → World → World → Prop) (Kp : World → World → World → Prop) (S Sp : List α → Prop) (N : Nat)
    (hseq : ∀ W1, Below w.heap.size w W1 → W1.heap.size = w.heap.size + 2 → SeqC (n - 1) gf lb encs Step G Kp S Sp N W1)
    (I : List α → World → Prop) (Ix : Code → List α → World → Prop)
    (hStep : ∀ A B k o, Step A B → k = w.heap.size ∨ k = w.heap.size + 1 → A.heap[k]? = some o → B.heap[k]? = some o)
    (hI : ∀ pre A B, I pre A → Step A B → I pre B)
    (hIl : ∀ pre A r r', I pre A → A.heap[w.heap.size + 1]? = some (.loop r) → I pre (A.putObj (w.heap.size + 1) (.loop r')))
    (hIxl : ∀ c pre A r r', Ix c pre A → A.heap[w.heap.size + 1]? = some (.loop r) → Ix c pre (A.putObj (w.heap.size + 1) (.loop r')))
    (h0 : ∀ r, I [] ((w.alloc (.deferred (some []))).alloc (.loop r)))
    (hround : ∀ (pre : List α) (x : α) (A0 A : World) (r : Loop), I pre A0 → Step A0 A → G pre x A0 A → pre.length < N → A.heap[w.heap.size]? = some (.deferred (some [])) → A.heap[w.heap.size + 1]? = some (.loop r) →
      assign.wpIn (Fence.wide.inRound (w.heap.size + 1)) (n - 1 - 1) Tryd.prog (Exit.then (fun a' A1 => A1.heap[w.heap.size]? = some (.deferred (some [])) ∧ A1.heap[w.heap.size + 1]? = some (.loop r) ∧
        ∀ r', body.wpIn (Fence.wide.inRound (w.heap.size + 1)) (n - 1 - 1) Tryd.prog (roundC w.heap.size r' (Kp A0 A) I Ix (pre ++ [x])) a' (A1.putObj (w.heap.size + 1) (.loop r'))) (fun _ _ _ => False))
        { tmps := (ps.zip (encs x)).foldl (fun t (p, v) => t.setIfInBounds p v) a.tmps, defers := [] } A)
    (hdone : ∀ (xs : List α) (W : World), S xs → I xs W → W.heap[w.heap.size]? = some (.deferred (some [])) → Q .normal { a with defers := { target := .collected w.heap.size, args := #[] } :: a.defers } W)
    (hstop : ∀ (c : Code) (pre : List α) (W : World), Sp pre → Ix c pre W → W.heap[w.heap.size]? = some (.deferred (some [])) → c.wpIn Fence.wide n Tryd.prog Q { a with defers := { target := .collected w.heap.size, args := #[] } :: a.defers } W) :
    (Code.rangeFunc g ps assign body).wpIn Fence.wide n Tryd.prog Q a w := by
  refine wpIn_rangeFunc fun fn hfn => ?_
  obtain ⟨rc, hrc⟩ : ∃ rc : LoopState → Option Code → Loop, rc = fun st pe => { state := st, pending := pe, fn, tmps := a.tmps, params := ps, assign, body, defers := w.heap.size } := ⟨_, rfl⟩
  obtain ⟨W1, hW1⟩ : ∃ W1, (w.alloc (.deferred (some []))).alloc (.loop (rc .ready none)) = W1 := ⟨_, rfl⟩
  have hK1 : W1.heap[w.heap.size]? = some (.deferred (some [])) := by rw [← hW1]; exact at_old (heap_alloc_new _ _)
  have hL1 : W1.heap[w.heap.size + 1]? = some (.loop (rc .ready none)) := by rw [← hW1]; exact new_at (by simp)
  have hI1 : I [] W1 := by rw [← hW1]; exact h0 _
  have hb1 : Below w.heap.size w W1 := by rw [← hW1]; exact ((Below.refl _ w).alloc (Nat.le_refl _) _).alloc (by simp) _
  have hs1 : W1.heap.size = w.heap.size + 2 := by rw [← hW1]; simp
  refine ⟨w.heap.size + 1, [{ target := .collected w.heap.size, args := #[] }], W1, { target := .fn (.func gf) lb, args := #[.func (.yield (w.heap.size + 1)) #[] #[]] }, W1, gf,
    #[.func (.yield (w.heap.size + 1)) #[] #[]] ++ lb, W1, ?_, ?_, fun _ _ => trivial, ?_, fun _ => h1, ?_⟩
  · rw [← hW1, hrc]; exact run_enterLoop_outer _ _ _ _ _
  · simp only [resolve, hg]
    simp [go_sem]
  · simp [invoke, go_sem, eg]
  have other : ∀ {A : World} {o : _root_.Go.Obj}, A.heap[w.heap.size]? = some (.deferred (some [])) → (A.putObj (w.heap.size + 1) o).heap[w.heap.size]? = some (.deferred (some [])) := fun h => (World.putObj_heap_other (by omega)).trans h
  have same : ∀ {A : World} {o o' : _root_.Go.Obj}, A.heap[w.heap.size + 1]? = some o → (A.putObj (w.heap.size + 1) o').heap[w.heap.size + 1]? = some o' := fun h => World.putObj_heap_same (Array.getElem?_eq_some_iff.1 h).1
  refine (hseq W1 hb1 hs1 (w.heap.size + 1)
    (fun pre W => I pre W ∧ W.heap[w.heap.size]? = some (.deferred (some [])) ∧ W.heap[w.heap.size + 1]? = some (.loop (rc .ready none)))
    (fun pre W => ∃ c, Ix c pre W ∧ W.heap[w.heap.size]? = some (.deferred (some [])) ∧ W.heap[w.heap.size + 1]? = some (.loop (rc .done (some c))))
    (fun pre A B h hs => ⟨hI _ _ _ h.1 hs, hStep _ _ _ _ hs (.inl rfl) h.2.1, hStep _ _ _ _ hs (.inr rfl) h.2.2⟩) ?_ ⟨hI1, hK1, hL1⟩).mono ?_
  · rintro pre x A0 A ⟨hi, hk, hl⟩ hs hG hlen
    have hkA := hStep _ _ _ _ hs (.inl rfl) hk
    have hlA := hStep _ _ _ _ hs (.inr rfl) hl
    have hy := run_yield (P := Tryd.prog) (args := encs x) hlA (by rw [hrc]; exact hps x)
    rw [hrc] at hy
    refine ⟨fn, _, assign, body, hy, roundIn_of_wpIn hfn (wpIn_mono (hround pre x A0 A _ hi hs hG hlen hkA hlA) ?_)⟩
    rintro e a' A1 hp
    cases e with
    | normal =>
      obtain ⟨hk1, hl1, hbody⟩ := hp
      refine ⟨_, run_beginRound hl1 (by rw [hrc]), ?_⟩
      refine wpIn_mono (hbody _) ?_
      rintro e a3 B hp
      cases e with
      | normal =>
        obtain ⟨hk3, hl3, hi3, hkp⟩ := hp
        have hr := run_endRound (P := Tryd.prog) none hl3
        refine ⟨_, _, hr, .inl ⟨rfl, ⟨hIl _ _ _ _ hi3 hl3, other hk3, ?_⟩, hkp _⟩⟩
        rw [same hl3, hrc]; rfl
      | ret =>
        obtain ⟨hk3, hl3, hi3⟩ := hp
        have hr := run_endRound (P := Tryd.prog) (some .ret) hl3
        refine ⟨_, _, hr, .inr ⟨rfl, .ret, hIxl _ _ _ _ _ hi3 hl3, other hk3, ?_⟩⟩
        rw [same hl3, hrc]; rfl
      | exit id =>
        obtain ⟨hk3, hl3, hi3⟩ := hp
        have hr := run_endRound (P := Tryd.prog) (some (.exit id)) hl3
        refine ⟨_, _, hr, .inr ⟨rfl, .exit id, hIxl _ _ _ _ _ hi3 hl3, other hk3, ?_⟩⟩
        rw [same hl3, hrc]; rfl
      | goto t => exact hp.elim
      | panic ch => exact hp.elim
      | outgrown => exact hp.elim
    | ret => exact hp.elim
    | exit id => exact hp.elim
    | goto t => exact hp.elim
    | panic ch => exact hp.elim
    | outgrown => exact hp.elim
  · rintro e W2 ⟨⟨v, rfl⟩, (⟨xs, hS, hi, hk, hl⟩ | ⟨pre, hSp, c, hi, hk, hl⟩)⟩
    · refine ⟨none, _, by have := run_endLoop (P := Tryd.prog) hl (by rw [hrc]; simp); rw [hrc] at this; exact this, ?_⟩
      exact hdone xs _ hS (hIl _ _ _ _ hi hl) (other hk)
    · refine ⟨some c, _, by have := run_endLoop (P := Tryd.prog) hl (by rw [hrc]; simp); rw [hrc] at this; exact this, ?_⟩
      exact hstop c pre _ hSp (hIxl _ _ _ _ _ hi hl) (other hk)

end Go.Proofs.YtcngblnkfiggjaaDoor.Rm
