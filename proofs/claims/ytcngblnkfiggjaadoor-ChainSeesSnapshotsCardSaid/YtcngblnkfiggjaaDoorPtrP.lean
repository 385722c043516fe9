/- Plain facts on fields of words, pointers and headers (printed by gen_ptr.py). -/
import Derived.Test.YtcngblnkfiggjaaDoorBase
namespace Go.Proofs.YtcngblnkfiggjaaDoor.Rm
open Go Go.RowKit


theorem ofInt_nat (a : Nat) (ha : a < 9223372036854775808) : (BitVec.ofInt 64 (a : Int)).toNat = a := by
  rw [BitVec.ofInt_natCast, BitVec.toNat_ofNat]; exact Nat.mod_eq_of_lt (by omega)
theorem wrap_small (n : Nat) (h : n < 9223372036854775808) : IntKind.i64.wrap (n : Int) = (n : Int) := by
  simp [IntKind.wrap, IntKind.bits, IntKind.signed]; omega
theorem and_nat (a b : Nat) (ha : a < 9223372036854775808) (hb : b < 9223372036854775808) :
    bits .and .i64 (a : Int) (b : Int) = ((a &&& b : Nat) : Int) := by
  have h : a &&& b < 9223372036854775808 := Nat.lt_of_le_of_lt Nat.and_le_left ha
  show IntKind.i64.wrap ((BitVec.ofInt 64 (a : Int) &&& BitVec.ofInt 64 (b : Int)).toNat : Int) = _
  rw [BitVec.toNat_and, ofInt_nat a ha, ofInt_nat b hb]
  exact wrap_small _ h
theorem or_nat (a b : Nat) (ha : a < 9223372036854775808) (hb : b < 9223372036854775808) :
    bits .or .i64 (a : Int) (b : Int) = ((a ||| b : Nat) : Int) := by
  have h : a ||| b < 2 ^ 63 := Nat.or_lt_two_pow (by omega) (by omega)
  show IntKind.i64.wrap ((BitVec.ofInt 64 (a : Int) ||| BitVec.ofInt 64 (b : Int)).toNat : Int) = _
  rw [BitVec.toNat_or, ofInt_nat a ha, ofInt_nat b hb]
  exact wrap_small _ (by omega)
theorem andNot_nat (a b : Nat) (ha : a < 9223372036854775808) (hb : b < 9223372036854775808) :
    bits .andNot .i64 (a : Int) (b : Int) = ((a &&& (18446744073709551615 - b) : Nat) : Int) := by
  have h : a &&& (18446744073709551615 - b) < 9223372036854775808 := Nat.lt_of_le_of_lt Nat.and_le_left ha
  show IntKind.i64.wrap ((BitVec.ofInt 64 (a : Int) &&& ~~~BitVec.ofInt 64 (b : Int)).toNat : Int) = _
  rw [BitVec.toNat_and, BitVec.toNat_not, ofInt_nat a ha, ofInt_nat b hb]
  exact wrap_small _ h
/-- Clearing a field of a number and setting it anew, in natural numbers. -/
theorem set_field (n a b v : Nat) (hn : n < 2 ^ 64) (hab : a + b ≤ 40) (hv : v < 2 ^ b) :
    (n &&& (18446744073709551615 - (2 ^ b - 1) * 2 ^ a)) ||| (v * 2 ^ a) = 2 ^ a * (2 ^ b * (n / 2 ^ a / 2 ^ b) + v) + n % 2 ^ a := by
  have hlo : n % 2 ^ a < 2 ^ a := Nat.mod_lt _ (Nat.two_pow_pos a)
  have hmid : n / 2 ^ a % 2 ^ b < 2 ^ b := Nat.mod_lt _ (Nat.two_pow_pos b)
  have en : n = 2 ^ a * (2 ^ b * (n / 2 ^ a / 2 ^ b) + n / 2 ^ a % 2 ^ b) + n % 2 ^ a := by
    rw [Nat.div_add_mod, Nat.div_add_mod]
  have hm : (2 ^ b - 1) * 2 ^ a < 2 ^ 64 := by
    have h1 : (2 ^ b - 1) * 2 ^ a ≤ 2 ^ b * 2 ^ a := Nat.mul_le_mul_right _ (by omega)
    rw [← Nat.pow_add] at h1
    have h2 : 2 ^ (b + a) ≤ 2 ^ 40 := Nat.pow_le_pow_right (by decide) (by omega)
    omega
  apply Nat.eq_of_testBit_eq
  intro j
  rw [Nat.testBit_or, Nat.testBit_and, Nat.testBit_two_pow_mul_add _ hlo, Nat.testBit_two_pow_mul_add _ hv]
  have e1 : (18446744073709551615 - (2 ^ b - 1) * 2 ^ a).testBit j = (decide (j < 64) && !((2 ^ b - 1) * 2 ^ a).testBit j) := by
    have : 18446744073709551615 - (2 ^ b - 1) * 2 ^ a = 2 ^ 64 - ((2 ^ b - 1) * 2 ^ a + 1) := by omega
    rw [this, Nat.testBit_two_pow_sub_succ hm]
  have e2 : n.testBit j = if j < a then (n % 2 ^ a).testBit j else if j - a < b then (n / 2 ^ a % 2 ^ b).testBit (j - a) else (n / 2 ^ a / 2 ^ b).testBit (j - a - b) := by
    conv => lhs; rw [en]
    rw [Nat.testBit_two_pow_mul_add _ hlo, Nat.testBit_two_pow_mul_add _ hmid]
  have e3 : n.testBit j = (n.testBit j && decide (j < 64)) := by
    by_cases hj : j < 64
    · simp [hj]
    · have : n.testBit j = false := Nat.testBit_lt_two_pow (Nat.lt_of_lt_of_le hn (Nat.pow_le_pow_right (by decide) (by omega)))
      simp [this]
  rw [e1, ← Bool.and_assoc, ← e3, e2, Nat.mul_comm _ (2 ^ a), Nat.mul_comm _ (2 ^ a), Nat.testBit_two_pow_mul, Nat.testBit_two_pow_mul, Nat.testBit_two_pow_sub_one]
  by_cases h1 : j < a
  · have : ¬ a ≤ j := by omega
    simp [h1, this]
  · have ha : a ≤ j := by omega
    by_cases h2 : j - a < b
    · simp [h1, ha, h2]
    · have : v.testBit (j - a) = false := Nat.testBit_lt_two_pow (Nat.lt_of_lt_of_le hv (Nat.pow_le_pow_right (by decide) (by omega)))
      simp [h1, ha, h2, this]
/-- x & (2^k - 1), for x in the range of a word. -/
theorem and_mask (x : Int) (k : Nat) (h0 : 0 ≤ x) (h1 : x ≤ 1099511627775) (hk : k ≤ 40) :
    bits .and .i64 x (2 ^ k - 1) = x % 2 ^ k := by
  obtain ⟨n, rfl⟩ := Int.eq_ofNat_of_zero_le h0
  have hp : 2 ^ k ≤ 2 ^ 40 := Nat.pow_le_pow_right (by decide) hk
  have hq : 0 < 2 ^ k := Nat.two_pow_pos k
  have e : ((2 : Int) ^ k - 1) = ((2 ^ k - 1 : Nat) : Int) := by
    rw [Int.ofNat_sub (by omega)]; simp
  rw [e, and_nat _ _ (by omega) (by omega), Nat.and_two_pow_sub_one_eq_mod]
  simp
theorem pow_le (k : Nat) (hk : k ≤ 40) : (1 : Int) ≤ 2 ^ k ∧ (2 : Int) ^ k ≤ 1099511627776 := by
  have hp : 2 ^ k ≤ 2 ^ 40 := Nat.pow_le_pow_right (by decide) hk
  have hq : 0 < 2 ^ k := Nat.two_pow_pos k
  have e : ((2 : Int) ^ k) = ((2 ^ k : Nat) : Int) := by simp
  rw [e]; omega
/-- 1 << k is 2^k, for k at most 40. -/
theorem wrap_pow (k : Nat) (hk : k ≤ 40) : IntKind.i64.wrap ((2 : Int) ^ k) = 2 ^ k := by
  have := pow_le k hk
  simp [IntKind.wrap, IntKind.bits, IntKind.signed]; omega
def wordB (w : Int) : Bool := decide (0 ≤ w ∧ w ≤ 1099511627775)
def validB (a b : Int) : Bool := decide (0 ≤ a ∧ a ≤ 40 ∧ 0 ≤ b ∧ a + b ≤ 40)
theorem wordB_t {w : Int} (h : wordB w = true) : 0 ≤ w ∧ w ≤ 1099511627775 := by simpa [wordB] using h
theorem wordB_f {w : Int} (h : wordB w = false) : ¬ (0 ≤ w ∧ w ≤ 1099511627775) := of_decide_eq_false h
theorem validB_t {a b : Int} (h : validB a b = true) : 0 ≤ a ∧ a ≤ 40 ∧ 0 ≤ b ∧ a + b ≤ 40 := by simpa [validB] using h
/-- The number in the field of b bits from bit a of x. -/
def fld (x a b : Int) : Int := x / 2 ^ a.toNat % 2 ^ b.toNat
theorem fld_rng (x a b : Int) (hb : b ≤ 40) : 0 ≤ fld x a b ∧ fld x a b < 2 ^ b.toNat ∧ fld x a b ≤ 1099511627775 := by
  have := pow_le b.toNat (by omega)
  have h1 : 0 ≤ fld x a b := Int.emod_nonneg _ (by omega)
  have h2 : fld x a b < 2 ^ b.toNat := Int.emod_lt_of_pos _ (by omega)
  omega
theorem w64_in (n : Int) (h : -9223372036854775808 ≤ n ∧ n ≤ 9223372036854775807) : RowKit.wrap64 n = n := by unfold RowKit.wrap64; omega
theorem wrap64_pow (k : Nat) (hk : k ≤ 40) : RowKit.wrap64 ((2 : Int) ^ k) = 2 ^ k := by
  have := pow_le k hk
  exact w64_in _ (by omega)
theorem mask_eq (x t b : Int) (hx0 : 0 ≤ x) (hx1 : x ≤ 1099511627775) (hb1 : b ≤ 40) :
    bits .and .i64 (x / 2 ^ t.toNat) (RowKit.wrap64 (RowKit.wrap64 (2 ^ b.toNat) - 1)) = fld x t b := by
  have h1 := pow_le b.toNat (by omega)
  rw [wrap64_pow b.toNat (by omega), w64_in _ (by omega)]
  have hq : (0 : Int) < 2 ^ t.toNat := Int.pow_pos (by decide)
  have h2 : 0 ≤ x / 2 ^ t.toNat := Int.ediv_nonneg hx0 (by omega)
  have h3 : x / 2 ^ t.toNat ≤ x := Int.ediv_le_self _ hx0
  exact and_mask _ _ h2 (by omega) (by omega)
/-- What Field returns. -/
def fieldS (x a b : Int) : Int := if wordB x && validB a b then fld x a b else 0
/-- What With returns. -/
def withS (x a b v : Int) : Int := if wordB x && validB a b && decide (0 ≤ v ∧ v < 2 ^ b.toNat) then x + (v - fld x a b) * 2 ^ a.toNat else x
theorem withS_no (x a b v : Int) (h : ¬ (0 ≤ v ∧ v < 2 ^ b.toNat)) : withS x a b v = x := by
  unfold withS; rw [if_neg]; simp only [Bool.and_eq_true, decide_eq_true_eq, not_and]; intro _ h1 h2; exact h ⟨h1, h2⟩
theorem withS_yes {x a b v : Int} (h1 : wordB x = true) (h2 : validB a b = true) (h3 : 0 ≤ v) (h4 : v < 2 ^ b.toNat) : withS x a b v = x + (v - fld x a b) * 2 ^ a.toNat := by
  unfold withS; rw [if_pos]; simp [h1, h2, h3, h4]
theorem shl_rng (v : Int) (t b : Nat) (h0 : 0 ≤ v) (h1 : v < 2 ^ b) (hab : t + b ≤ 40) : 0 ≤ v * 2 ^ t ∧ v * 2 ^ t ≤ 1099511627775 := by
  have hp := pow_le t (by omega)
  have hq := pow_le b (by omega)
  refine ⟨Int.mul_nonneg h0 (by omega), ?_⟩
  have h2 : v * 2 ^ t ≤ (2 ^ b - 1) * 2 ^ t := Int.mul_le_mul_of_nonneg_right (by omega) (by omega)
  have h3 : ((2 : Int) ^ b - 1) * 2 ^ t = 2 ^ (b + t) - 2 ^ t := by rw [Int.sub_mul, Int.one_mul, Int.pow_add]
  have h4 := (pow_le (b + t) (by omega)).2
  omega
/-- What With computes by bit operations is what it adds. -/
theorem set_eq (x t b v : Int) (hx0 : 0 ≤ x) (hx1 : x ≤ 1099511627775) (ht : 0 ≤ t) (hb : 0 ≤ b) (htb : t + b ≤ 40) (hv0 : 0 ≤ v) (hv1 : v < 2 ^ b.toNat) :
    bits .or .i64 (bits .andNot .i64 x (RowKit.wrap64 ((2 ^ b.toNat - 1) * 2 ^ t.toNat))) (RowKit.wrap64 (v * 2 ^ t.toNat)) = x + (v - fld x t b) * 2 ^ t.toNat := by
  obtain ⟨n, rfl⟩ := Int.eq_ofNat_of_zero_le hx0
  obtain ⟨T, rfl⟩ := Int.eq_ofNat_of_zero_le ht
  obtain ⟨B, rfl⟩ := Int.eq_ofNat_of_zero_le hb
  obtain ⟨V, rfl⟩ := Int.eq_ofNat_of_zero_le hv0
  unfold fld
  simp only [Int.toNat_natCast] at hv1 ⊢
  have hB := pow_le B (by omega)
  have r1 := shl_rng (V : Int) T B (by omega) hv1 (by omega)
  have r2 := shl_rng (2 ^ B - 1) T B (by omega) (by omega) (by omega)
  rw [w64_in _ (by omega), w64_in _ (by omega)]
  have e1 : ((2 : Int) ^ B - 1) * 2 ^ T = (((2 ^ B - 1) * 2 ^ T : Nat) : Int) := by
    rw [Int.natCast_mul, Int.ofNat_sub (Nat.two_pow_pos B)]; simp
  have e2 : (V : Int) * 2 ^ T = ((V * 2 ^ T : Nat) : Int) := by simp
  have hV : V < 2 ^ B := by
    have e3 : ((2 : Int) ^ B) = ((2 ^ B : Nat) : Int) := by simp
    rw [e3] at hv1; omega
  rw [e1] at r2; rw [e2] at r1
  rw [e1, e2, andNot_nat _ _ (by omega) (by omega), or_nat _ _ (Nat.lt_of_le_of_lt Nat.and_le_left (by omega)) (by omega), set_field n T B V (by omega) (by omega) hV]
  have en : n = 2 ^ T * (2 ^ B * (n / 2 ^ T / 2 ^ B) + n / 2 ^ T % 2 ^ B) + n % 2 ^ T := by
    rw [Nat.div_add_mod, Nat.div_add_mod]
  have ed : ((n : Int) / 2 ^ T % 2 ^ B) = ((n / 2 ^ T % 2 ^ B : Nat) : Int) := by simp
  rw [ed]
  generalize n / 2 ^ T % 2 ^ B = m at *
  generalize 2 ^ B * (n / 2 ^ T / 2 ^ B) = h at *
  generalize n % 2 ^ T = r at *
  have e4 : ((2 : Int) ^ T) = ((2 ^ T : Nat) : Int) := by simp
  rw [e4, Int.sub_mul]
  generalize 2 ^ T = P at *
  subst en
  rw [Nat.mul_add, Nat.mul_add]
  simp only [Int.natCast_add, Int.natCast_mul]
  rw [Int.mul_comm (V : Int), Int.mul_comm (m : Int)]
  omega
/-! What the other functions return. -/
def makeS (l g : Int) : Int := if 1 ≤ l ∧ l ≤ 4095 ∧ 1 ≤ g ∧ g ≤ 1048575 then l + g * 4096 else 0
def rightB (p : Int) : Bool := decide (p = 0 ∨ (0 ≤ p ∧ p ≤ 1099511627775 ∧ 0 < p % 4096 ∧ 0 < p / 4096 ∧ p / 4096 < 1048576))
def lineS (p : Int) : Int := if rightB p then p % 4096 else 0
def genS (p : Int) : Int := if rightB p then p / 4096 else 0
def packS (k c g : Int) : Int := if 0 ≤ k ∧ k ≤ 15 ∧ 0 ≤ c ∧ c ≤ 4 ∧ 0 ≤ g ∧ g ≤ 1048575 then k + c * 16 + g * 128 else 0
def formedB (h : Int) : Bool := decide (0 ≤ h ∧ h ≤ 1099511627775 ∧ h / 16 % 8 ≤ 4 ∧ h / 128 < 1048576)
def kindS (h : Int) : Int := if formedB h then h % 16 else 0
def classS (h : Int) : Int := if formedB h then h / 16 % 8 else 0
def generS (h : Int) : Int := if formedB h then h / 128 else 0
def nextS (g : Int) : Int := if g < 0 ∨ 1048575 ≤ g then 1 else g + 1
def linesS (c : Int) : Int := if c < 0 ∨ 4 < c then 0 else 2 ^ c.toNat
def checkS (p h : Int) : Int := if rightB p && decide (p ≠ 0) && formedB h then (if kindS h = 0 ∨ generS h ≠ genS p then 70 else 0) else 1
def chunkS (heap chunks line : Int) : Int := if line < heap ∨ heap + 16 * chunks ≤ line then -1 else (line - heap) / 16
theorem join_nat (a b k : Nat) (ha : a < 2 ^ k) : a ||| b * 2 ^ k = a + b * 2 ^ k := by
  rw [Nat.or_comm, nat_join k (b * 2 ^ k) a (Nat.mul_mod_left _ _) ha, Nat.add_comm]
theorem or_join (a b : Int) (k : Nat) (ha0 : 0 ≤ a) (ha : a < 2 ^ k) (hb0 : 0 ≤ b) (hk : k ≤ 40) (hb : b * 2 ^ k ≤ 1099511627775) : bits .or .i64 a (b * 2 ^ k) = a + b * 2 ^ k := by
  obtain ⟨A, rfl⟩ := Int.eq_ofNat_of_zero_le ha0
  obtain ⟨B, rfl⟩ := Int.eq_ofNat_of_zero_le hb0
  have e : ((B : Int) * 2 ^ k) = ((B * 2 ^ k : Nat) : Int) := by simp
  have hA : A < 2 ^ k := by
    have e3 : ((2 : Int) ^ k) = ((2 ^ k : Nat) : Int) := by simp
    rw [e3] at ha; omega
  have hp : 2 ^ k ≤ 2 ^ 40 := Nat.pow_le_pow_right (by decide) hk
  rw [e] at hb ⊢
  rw [or_nat _ _ (by omega) (by omega), join_nat A B k hA]
  simp

end Go.Proofs.YtcngblnkfiggjaaDoor.Rm
