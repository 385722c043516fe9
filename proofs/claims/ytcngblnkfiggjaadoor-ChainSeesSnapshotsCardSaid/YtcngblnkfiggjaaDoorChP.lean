/- Plain facts on the words of cells. -/
import Derived.Test.YtcngblnkfiggjaaDoorChB
namespace Go.Proofs.YtcngblnkfiggjaaDoor.Rm
open Go Go.RowKit Go.Maps

/-- A cell: table, row, stamp, dead, the pointer to the one before, words. -/
structure Cl where
  t : Int
  r : Int
  s : Int
  d : Bool
  p : Int
  ws : List Int
/-- The cell as a value; its words are read at v. -/
def clV (c : Cl) (v : Value) : Value := .agg #[.int .i64 c.t, .int .i64 c.r, .int .i64 c.s, .bool c.d, .int .i64 c.p, v]
def Cl.right (c : Cl) : Bool := rightC c.t c.r c.s c.p c.d c.ws
def Cl.zero : Cl := ⟨0, 0, 0, false, 0, []⟩
/-- Whether two cells are equal. -/
def sameC (a b : Cl) : Bool := decide (a.t = b.t ∧ a.r = b.r ∧ a.s = b.s ∧ a.d = b.d ∧ a.p = b.p ∧ a.ws = b.ws)
theorem sameC_self (a : Cl) : sameC a a = true := decide_eq_true ⟨rfl, rfl, rfl, rfl, rfl, rfl⟩
theorem sameC_eq {a b : Cl} (h : sameC a b = true) : a = b := by
  obtain ⟨h1, h2, h3, h4, h5, h6⟩ := of_decide_eq_true h
  cases a; cases b
  simp only at h1 h2 h3 h4 h5 h6
  subst h1 h2 h3 h4 h5 h6
  rfl
/-- The first word. -/
def Cl.first (c : Cl) : Int := c.t + c.ws.length * 65536 + (if c.d then 256 else 0)
/-- The words of a cell. -/
def Cl.enc (c : Cl) : List Int := [c.first, c.r, c.s, c.p] ++ c.ws
theorem enc_length (c : Cl) : c.enc.length = 4 + c.ws.length := by simp [Cl.enc]; omega
theorem first_with {c : Cl} (h : c.right = true) : withS c.t 16 8 c.ws.length = c.t + c.ws.length * 65536 := by
  obtain ⟨h1, h2, h3, h4, h5, h6, h7⟩ := rightC_t h
  rw [withS_yes (by simp [wordB]; omega) (by decide) (by omega) (by
    show (c.ws.length : Int) < 2 ^ 8
    omega)]
  have : fld c.t 16 8 = 0 := by
    show c.t / 2 ^ 16 % 2 ^ 8 = 0
    omega
  rw [this]
  show c.t + (c.ws.length - 0) * 2 ^ 16 = _
  omega
theorem first_dead {c : Cl} (h : c.right = true) (hd : c.d = true) : withS (c.t + c.ws.length * 65536) 8 1 1 = c.first := by
  obtain ⟨h1, h2, h3, h4, h5, h6, h7⟩ := rightC_t h
  have hws := h6 hd
  unfold Cl.first
  rw [hws, hd]
  simp only [List.length_nil]
  rw [withS_yes (by simp [wordB]; omega) (by decide) (by omega) (by decide)]
  have : fld (c.t + ((0 : Nat) : Int) * 65536) 8 1 = 0 := by
    show (c.t + ((0 : Nat) : Int) * 65536) / 2 ^ 8 % 2 ^ 1 = 0
    omega
  rw [this]
  show c.t + ((0 : Nat) : Int) * 65536 + (1 - 0) * 2 ^ 8 = _
  simp
theorem first_live {c : Cl} (hd : c.d = false) : c.t + c.ws.length * 65536 = c.first := by
  unfold Cl.first; rw [hd]; simp
theorem first_rng {c : Cl} (h : c.right = true) : 0 ≤ c.first ∧ c.first ≤ 1099511627775 ∧ c.first / 65536 = c.ws.length ∧ c.first % 65536 ≤ 511 ∧ c.first % 256 = c.t ∧ decide (c.first / 256 % 2 = 1) = c.d := by
  obtain ⟨h1, h2, h3, h4, h5, h6, h7⟩ := rightC_t h
  unfold Cl.first
  cases hd : c.d
  · simp only [Bool.false_eq_true, if_false]
    refine ⟨by omega, by omega, by omega, by omega, by omega, decide_eq_false (by omega)⟩
  · rw [h6 hd]
    simp only [if_true, List.length_nil]
    refine ⟨by omega, by omega, by omega, by omega, by omega, decide_eq_true (by omega)⟩
/-- The cell that words begin with. -/
def decC (l : List Int) : Cl := ⟨nthI l 0 % 256, nthI l 1, nthI l 2, decide (nthI l 0 / 256 % 2 = 1), nthI l 3, (l.drop 4).take (nthI l 0 / 65536).toNat⟩
def formD (l : List Int) : Bool := decide (4 ≤ l.length) && (l.take 4).all wordB && decide (nthI l 0 / 65536 ≤ 255 ∧ nthI l 0 % 65536 ≤ 511 ∧ 4 + nthI l 0 / 65536 ≤ l.length)
def okD (l : List Int) : Bool := formD l && (decC l).right
theorem decC_length {l : List Int} (h : formD l = true) : ((decC l).ws.length : Int) = nthI l 0 / 65536 := by
  unfold formD at h
  simp only [Bool.and_eq_true, decide_eq_true_eq] at h
  obtain ⟨⟨h1, h2⟩, h3, h4, h5⟩ := h
  have hw := wordB_t (List.all_eq_true.1 h2 (nthI l 0) (List.mem_of_getElem? (i := 0) (by rw [List.getElem?_take_of_lt (by omega), nthI_getElem (by omega)])))
  unfold decC
  simp only [List.length_take, List.length_drop]
  omega
theorem wordB_of {x : Int} (h : 0 ≤ x ∧ x ≤ 1099511627775) : wordB x = true := decide_eq_true h
theorem rightB_word {p : Int} (h : rightB p = true) : wordB p = true := by
  have := rightB_t h
  exact wordB_of ⟨this.1, this.2.1⟩
/-- A right cell is decoded from its words, whatever follows. -/
theorem dec_enc {c : Cl} (h : c.right = true) (tail : List Int) : formD (c.enc ++ tail) = true ∧ decC (c.enc ++ tail) = c := by
  obtain ⟨h1, h2, h3, h4, h5, h6, h7⟩ := rightC_t h
  obtain ⟨f1, f2, f3, f4, f5, f6⟩ := first_rng h
  have e0 : nthI (c.enc ++ tail) 0 = c.first := rfl
  have e1 : nthI (c.enc ++ tail) 1 = c.r := rfl
  have e2 : nthI (c.enc ++ tail) 2 = c.s := rfl
  have e3 : nthI (c.enc ++ tail) 3 = c.p := rfl
  have e4 : (c.enc ++ tail).drop 4 = c.ws ++ tail := rfl
  have e5 : (c.enc ++ tail).take 4 = [c.first, c.r, c.s, c.p] := rfl
  constructor
  · unfold formD
    rw [e0, e5]
    simp only [List.length_append, enc_length, Bool.and_eq_true, decide_eq_true_eq, List.all_cons, List.all_nil]
    refine ⟨⟨by omega, wordB_of ⟨f1, f2⟩, wordB_of (by omega), wordB_of (by omega), rightB_word h4, trivial⟩, by omega, by omega, by omega⟩
  · unfold decC
    rw [e0, e1, e2, e3, e4, f3, f5, f6]
    have : (c.ws ++ tail).take (c.ws.length : Int).toNat = c.ws := by simp
    rw [this]
/-- Words that are decoded begin with the words of the cell. -/
theorem enc_dec {l : List Int} (h : okD l = true) : (decC l).enc.length ≤ l.length ∧ (decC l).enc = l.take (decC l).enc.length := by
  unfold okD at h
  rw [Bool.and_eq_true] at h
  obtain ⟨h, hr⟩ := h
  have hl := decC_length h
  unfold formD at h
  simp only [Bool.and_eq_true, decide_eq_true_eq] at h
  obtain ⟨⟨h1, h2⟩, h3, h4, h5⟩ := h
  have hw := wordB_t (List.all_eq_true.1 h2 (nthI l 0) (List.mem_of_getElem? (i := 0) (by rw [List.getElem?_take_of_lt (by omega), nthI_getElem (by omega)])))
  have hle : (decC l).enc.length ≤ l.length := by rw [enc_length]; omega
  refine ⟨hle, ?_⟩
  obtain ⟨q1, q2, q3, q4, q5, q6, q7⟩ := rightC_t hr
  have hf : (decC l).first = nthI l 0 := by
    unfold Cl.first
    rw [hl]
    cases hd : (decC l).d
    · have : ¬ nthI l 0 / 256 % 2 = 1 := of_decide_eq_false hd
      simp only [Bool.false_eq_true, if_false]
      show nthI l 0 % 256 + nthI l 0 / 65536 * 65536 + 0 = nthI l 0
      omega
    · have : nthI l 0 / 256 % 2 = 1 := of_decide_eq_true hd
      simp only [if_true]
      show nthI l 0 % 256 + nthI l 0 / 65536 * 65536 + 256 = nthI l 0
      omega
  match l, h1 with
  | a :: b :: c :: e :: m, _ =>
    show (decC (a :: b :: c :: e :: m)).first :: b :: c :: e :: (decC (a :: b :: c :: e :: m)).ws = _
    rw [enc_length, hf, show 4 + (decC (a :: b :: c :: e :: m)).ws.length = (decC (a :: b :: c :: e :: m)).ws.length + 1 + 1 + 1 + 1 by omega]
    simp only [List.take_succ_cons]
    have : m.take (decC (a :: b :: c :: e :: m)).ws.length = (decC (a :: b :: c :: e :: m)).ws := by
      have e2 : (decC (a :: b :: c :: e :: m)).ws = m.take (a / 65536).toNat := rfl
      have e3 : nthI (a :: b :: c :: e :: m) 0 = a := rfl
      rw [e3] at hl hw
      rw [show (decC (a :: b :: c :: e :: m)).ws.length = (a / 65536).toNat by omega]
      exact e2.symm
    rw [this]
    rfl
/-- What chain.Decode asks of the first word. -/
theorem form_first {x : Int} (hx : 0 ≤ x ∧ x ≤ 1099511627775) : fieldS x 16 8 = x / 65536 % 256 ∧ fieldS x 0 9 = x % 512 ∧ fieldS x 8 1 = x / 256 % 2 ∧ withS (x % 512) 16 8 (x / 65536 % 256) = x % 512 + x / 65536 % 256 * 65536 ∧ bits .and .i64 x 255 = x % 256 := by
  have hw : wordB x = true := wordB_of hx
  refine ⟨?_, ?_, ?_, ?_, ?_⟩
  · unfold fieldS; rw [hw]; rfl
  · unfold fieldS; rw [hw]
    show x / 2 ^ 0 % 2 ^ 9 = x % 512
    omega
  · unfold fieldS; rw [hw]; rfl
  · rw [withS_yes (wordB_of (by omega)) (by decide) (by omega) (by show x / 65536 % 256 < 2 ^ 8; omega)]
    have : fld (x % 512) 16 8 = 0 := by
      show x % 512 / 2 ^ 16 % 2 ^ 8 = 0
      omega
    rw [this]
    show x % 512 + (x / 65536 % 256 - 0) * 2 ^ 16 = _
    omega
  · exact and_mask x 8 hx.1 hx.2 (by omega)

end Go.Proofs.YtcngblnkfiggjaaDoor.Rm
