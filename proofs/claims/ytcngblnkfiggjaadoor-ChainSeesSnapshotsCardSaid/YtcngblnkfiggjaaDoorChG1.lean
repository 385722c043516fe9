/- Plain facts on the chain that the statement of the snapshots grows. -/
import Derived.Test.YtcngblnkfiggjaaDoorChY2
namespace Go.Proofs.YtcngblnkfiggjaaDoor.Rm
open Go Go.RowKit Go.Maps

theorem and_rng (n k : Int) (h0 : 0 ≤ k) (h1 : k < 9223372036854775808) : 0 ≤ bits .and .i64 n k ∧ bits .and .i64 n k ≤ k := by
  obtain ⟨b, rfl⟩ := Int.eq_ofNat_of_zero_le h0
  have hl : (BitVec.ofInt 64 n).toNat &&& b ≤ b := Nat.and_le_right
  have e : bits .and .i64 n (b : Int) = (((BitVec.ofInt 64 n).toNat &&& b : Nat) : Int) := by
    show IntKind.i64.wrap ((BitVec.ofInt 64 n &&& BitVec.ofInt 64 (b : Int)).toNat : Int) = _
    rw [BitVec.toNat_and, ofInt_nat b (by omega)]
    exact wrap_small _ (by omega)
  rw [e]
  omega
def stampG (gaps : List Int) : Nat → Int
  | 0 => 0
  | i + 1 => stampG gaps i + (1 + bits .and .i64 (nthI gaps i) 3)
def ptrG : Nat → Int
  | 0 => 0
  | i + 1 => makeS (4 + 2 * i) (1 + i)
def deadG (dead : List Bool) (i : Nat) : Bool := dead.getD i false
def cellG (gaps : List Int) (dead : List Bool) (i : Nat) : Cl :=
  ⟨1, 9, stampG gaps (i + 1), deadG dead i, ptrG i, if deadG dead i then [] else [stampG gaps (i + 1), bits .and .i64 (nthI gaps i) 1099511627775, 7]⟩
def itG (gaps : List Int) (dead : List Bool) (i : Nat) : It := ⟨ptrG (i + 1), 4 + 2 * i, 2, cellG gaps dead i⟩
/-- The chain, the newest cell first. -/
def itsG (gaps : List Int) (dead : List Bool) : Nat → List It
  | 0 => []
  | i + 1 => itG gaps dead i :: itsG gaps dead i
def hdrG (i : Nat) : Int := packS 1 1 (1 + i)
/-- The memory behind i writes. -/
def MG (gaps : List Int) (dead : List Bool) : Nat → Int → Int
  | 0 => fun _ => 0
  | i + 1 => wrt (upd (MG gaps dead i) (8 * (4 + 2 * i)) (hdrG i)) (8 * (4 + 2 * i) + 1) (cellG gaps dead i).enc

theorem cellG_s (gaps : List Int) (dead : List Bool) (i : Nat) : (cellG gaps dead i).s = stampG gaps (i + 1) := rfl
theorem stampG_succ (gaps : List Int) (i : Nat) : stampG gaps (i + 1) = stampG gaps i + (1 + bits .and .i64 (nthI gaps i) 3) := rfl
theorem stampG_rng (gaps : List Int) (i : Nat) : (i : Int) ≤ stampG gaps i ∧ stampG gaps i ≤ 4 * i := by
  induction i with
  | zero => simp [stampG]
  | succ i ih =>
    have := and_rng (nthI gaps i) 3 (by omega) (by omega)
    simp only [stampG]
    omega
theorem ptrG_eq {i : Nat} (hi : i < 16) : ptrG (i + 1) = 4 + 2 * i + (1 + i) * 4096 := by
  show makeS (4 + 2 * i) (1 + i) = _
  unfold makeS
  rw [if_pos (by omega)]
theorem ptrG_ne {i : Nat} (hi : i < 16) : ptrG (i + 1) ≠ 0 := by rw [ptrG_eq hi]; omega
theorem ptrG_right {i : Nat} (hi : i < 16) : rightB (ptrG (i + 1)) = true := by
  rw [ptrG_eq hi]
  refine decide_eq_true (Or.inr ?_)
  omega
theorem ptrG_right' {i : Nat} (hi : i ≤ 16) : rightB (ptrG i) = true := by
  cases i with
  | zero => rfl
  | succ i => exact ptrG_right (by omega)
theorem ptrG_line {i : Nat} (hi : i < 16) : lineS (ptrG (i + 1)) = ((4 + 2 * i : Nat) : Int) := by
  unfold lineS
  rw [ptrG_right hi, ptrG_eq hi]
  simp only [if_true]
  omega
theorem hdrG_eq {i : Nat} (hi : i < 16) : hdrG i = 17 + (1 + i) * 128 := by
  unfold hdrG packS
  rw [if_pos (by omega)]
  omega
theorem hdrG_formed {i : Nat} (hi : i < 16) : formedB (hdrG i) = true := by
  rw [hdrG_eq hi]
  refine decide_eq_true ?_
  omega
theorem hdrG_blk {M : Int → Int} {i : Nat} (hi : i < 16) (h : M (8 * (4 + 2 * i)) = hdrG i) : Blk M 40 (ptrG (i + 1)) (4 + 2 * i) 2 := by
  have hx : M (8 * ((4 + 2 * i : Nat) : Int)) = hdrG i := by rw [← h]; congr 1
  have hf := hdrG_formed hi
  refine ⟨ptrG_right hi, ptrG_ne hi, ptrG_line hi, by omega, ?_, ?_, ?_⟩
  · rw [hx, checkS_in (ptrG_right hi) (ptrG_ne hi) hf]
    unfold kindS generS genS
    rw [hf, ptrG_right hi, hdrG_eq hi, ptrG_eq hi]
    simp only [if_true]
    rw [if_neg (by omega)]
  · rw [hx]
    unfold kindS
    rw [hf, hdrG_eq hi]
    simp only [if_true]
    omega
  · rw [hx]
    unfold classS
    rw [hf, hdrG_eq hi]
    simp only [if_true]
    rw [show (17 + (1 + (i : Int)) * 128) / 16 % 8 = 1 by omega]
    decide
theorem cellG_len (gaps : List Int) (dead : List Bool) (i : Nat) : (cellG gaps dead i).ws.length ≤ 3 := by
  unfold cellG
  dsimp only
  split <;> simp
theorem cellG_right (gaps : List Int) (dead : List Bool) {i : Nat} (hi : i < 16) : (cellG gaps dead i).right = true := by
  have hs := stampG_rng gaps (i + 1)
  have ha := and_rng (nthI gaps i) 1099511627775 (by omega) (by omega)
  have hp := ptrG_right' (i := i) (by omega)
  have hs0 : 1 ≤ stampG gaps (i + 1) ∧ stampG gaps (i + 1) ≤ 64 := by omega
  unfold Cl.right cellG
  dsimp only
  cases deadG dead i with
  | true =>
    unfold rightC
    rw [hp]
    simp [numB]
    omega
  | false =>
    unfold rightC
    rw [hp]
    have w1 : wordB (stampG gaps (i + 1)) = true := wordB_of (by omega)
    have w2 : wordB (bits .and .i64 (nthI gaps i) 1099511627775) = true := wordB_of ha
    have w3 : wordB 7 = true := by decide
    simp [numB, w1, w2, w3]
    omega
theorem MG_low (gaps : List Int) (dead : List Bool) (i : Nat) (x : Int) (hx : x < 8 * (4 + 2 * i)) : MG gaps dead (i + 1) x = MG gaps dead i x := by
  show wrt (upd (MG gaps dead i) (8 * (4 + 2 * i)) (hdrG i)) (8 * (4 + 2 * i) + 1) (cellG gaps dead i).enc x = _
  unfold wrt upd
  rw [if_neg (by omega), if_neg (by omega)]
theorem MG_hdr (gaps : List Int) (dead : List Bool) {i j : Nat} (h : j < i) : MG gaps dead i (8 * (4 + 2 * j)) = hdrG j := by
  induction i with
  | zero => omega
  | succ i ih =>
    by_cases e : j = i
    · subst e
      show wrt (upd (MG gaps dead j) (8 * (4 + 2 * j)) (hdrG j)) (8 * (4 + 2 * j) + 1) (cellG gaps dead j).enc (8 * (4 + 2 * j)) = _
      unfold wrt upd
      rw [if_neg (by omega), if_pos rfl]
    · rw [MG_low _ _ _ _ (by omega)]
      exact ih (by omega)
theorem MG_enc (gaps : List Int) (dead : List Bool) {i j : Nat} (h : j < i) {t : Nat} (ht : t < (cellG gaps dead j).enc.length) : MG gaps dead i (8 * ((4 + 2 * j : Nat) : Int) + 1 + t) = nthI (cellG gaps dead j).enc t := by
  have hl := cellG_len gaps dead j
  have he := enc_length (cellG gaps dead j)
  induction i with
  | zero => omega
  | succ i ih =>
    by_cases e : j = i
    · subst e
      show wrt (upd (MG gaps dead j) (8 * (4 + 2 * j)) (hdrG j)) (8 * (4 + 2 * j) + 1) (cellG gaps dead j).enc _ = _
      unfold wrt
      rw [if_pos (by omega)]
      congr 1
      omega
    · rw [MG_low _ _ _ _ (by omega)]
      exact ih (by omega)
theorem lies_G (gaps : List Int) (dead : List Bool) {i j : Nat} (h : j < i) (hi : i ≤ 16) : Lies (MG gaps dead i) (4 + 2 * j) 2 (cellG gaps dead j) :=
  ⟨cellG_right gaps dead (by omega), by have := cellG_len gaps dead j; omega, fun t ht => MG_enc gaps dead h ht⟩
theorem Chn.cons {M : Int → Int} {n : Nat} {it : It} {r : List It} (hb : Blk M n it.p it.k it.nl) (hl : it.nl = 1 ∨ it.nl = 2) (hk : it.k + it.nl ≤ n) (hL : Lies M it.k it.nl it.cl) (hn : ∀ j, r.head? = some j → j.cl.t = it.cl.t ∧ j.cl.r = it.cl.r ∧ j.cl.s < it.cl.s) (hr : Chn M n it.cl.p r) : Chn M n it.p (it :: r) := ⟨rfl, hb, hl, hk, hL, hn, hr⟩
theorem head_G (gaps : List Int) (dead : List Bool) (j : Nat) (k : It) (hk : (itsG gaps dead j).head? = some k) : k.cl.t = (cellG gaps dead j).t ∧ k.cl.r = (cellG gaps dead j).r ∧ k.cl.s < (cellG gaps dead j).s := by
  cases j with
  | zero => cases hk
  | succ j =>
    have hk' : itG gaps dead j = k := Option.some.inj hk
    subst hk'
    have h1 : (itG gaps dead j).cl = cellG gaps dead j := rfl
    have := and_rng (nthI gaps (j + 1)) 3 (by omega) (by omega)
    rw [h1, cellG_s, cellG_s, stampG_succ gaps (j + 1)]
    exact ⟨rfl, rfl, by omega⟩
theorem chain_step (gaps : List Int) (dead : List Bool) {i : Nat} (hi : i ≤ 16) {j : Nat} (hj : j + 1 ≤ i) (ih : Chn (MG gaps dead i) 40 (ptrG j) (itsG gaps dead j)) : Chn (MG gaps dead i) 40 (itG gaps dead j).p (itG gaps dead j :: itsG gaps dead j) :=
  Chn.cons (hdrG_blk (i := j) (by omega) (MG_hdr gaps dead (by omega))) (.inr rfl) (by show 4 + 2 * j + 2 ≤ 40; omega) (lies_G gaps dead (by omega) hi) (head_G gaps dead j) ih
theorem chain_G (gaps : List Int) (dead : List Bool) {i : Nat} (hi : i ≤ 16) : ∀ j, j ≤ i → Chn (MG gaps dead i) 40 (ptrG j) (itsG gaps dead j) := by
  intro j
  induction j with
  | zero => intro _; exact (rfl : (0 : Int) = 0)
  | succ j ih => intro hj; exact chain_step gaps dead hi hj (ih (by omega))
theorem itsG_length (gaps : List Int) (dead : List Bool) (i : Nat) : (itsG gaps dead i).length = i := by
  induction i with
  | zero => rfl
  | succ i ih => show (itsG gaps dead i).length + 1 = _; rw [ih]
theorem seenG_succ (gaps : List Int) (dead : List Bool) (i : Nat) (snap : Int) : seenK (itsG gaps dead (i + 1)) snap = if (cellG gaps dead i).s ≤ snap then (ptrG (i + 1), cellG gaps dead i) else seenK (itsG gaps dead i) snap := by
  show seenK (itG gaps dead i :: itsG gaps dead i) snap = _
  unfold seenK
  rw [List.map_cons, List.find?_cons]
  by_cases h : (cellG gaps dead i).s ≤ snap
  · rw [show decide ((keyI (itG gaps dead i)).2.s ≤ snap) = true from decide_eq_true h, if_pos h]
    rfl
  · rw [show decide ((keyI (itG gaps dead i)).2.s ≤ snap) = false from decide_eq_false h, if_neg h]

end Go.Proofs.YtcngblnkfiggjaaDoor.Rm
