/- Plain facts for the pointer laws: setting a field of a word, bit by bit; pointers and headers. No program in sight. -/
import Derived.Test.YtbmhgekeabodcaaDoorPlain
namespace Go.Proofs.YtbmhgekeabodcaaDoor.Ptr
open Go

/-- A number with v in the field of b bits from bit a. -/
def setN (n a b v : Nat) : Nat := 2 ^ a * (2 ^ b * (n / 2 ^ a / 2 ^ b) + v) + n % 2 ^ a
theorem setN_bit (n a b v j : Nat) (hv : v < 2 ^ b) : (setN n a b v).testBit j = if a ≤ j ∧ j < a + b then v.testBit (j - a) else n.testBit j := by
  have hlo : n % 2 ^ a < 2 ^ a := Nat.mod_lt _ (Nat.two_pow_pos a)
  have hmid : n / 2 ^ a % 2 ^ b < 2 ^ b := Nat.mod_lt _ (Nat.two_pow_pos b)
  have e2 : n.testBit j = if j < a then (n % 2 ^ a).testBit j else if j - a < b then (n / 2 ^ a % 2 ^ b).testBit (j - a) else (n / 2 ^ a / 2 ^ b).testBit (j - a - b) := by
    have en : n = 2 ^ a * (2 ^ b * (n / 2 ^ a / 2 ^ b) + n / 2 ^ a % 2 ^ b) + n % 2 ^ a := by
      rw [Nat.div_add_mod, Nat.div_add_mod]
    conv => lhs; rw [en]
    rw [Nat.testBit_two_pow_mul_add _ hlo, Nat.testBit_two_pow_mul_add _ hmid]
  unfold setN
  rw [Nat.testBit_two_pow_mul_add _ hlo, Nat.testBit_two_pow_mul_add _ hv, e2]
  by_cases h1 : j < a
  · rw [if_pos h1, if_neg (by omega), if_pos h1]
  · by_cases h2 : j - a < b
    · rw [if_neg h1, if_pos h2, if_pos (by omega)]
    · rw [if_neg h1, if_neg h2, if_neg (by omega), if_neg h1, if_neg h2]
theorem lt_of_bits (n k : Nat) (h : ∀ j, k ≤ j → n.testBit j = false) : n < 2 ^ k := Nat.lt_pow_two_of_testBit n h
theorem setN_lt (n a b v : Nat) (hn : n < 2 ^ 40) (hab : a + b ≤ 40) (hv : v < 2 ^ b) : setN n a b v < 2 ^ 40 := by
  apply lt_of_bits
  intro j hj
  rw [setN_bit n a b v j hv, if_neg (by omega)]
  exact Nat.testBit_lt_two_pow (Nat.lt_of_lt_of_le hn (Nat.pow_le_pow_right (by decide) hj))
theorem setN_comm (n a b v c d u : Nat) (hv : v < 2 ^ b) (hu : u < 2 ^ d) (hac : a + b ≤ c) : setN (setN n a b v) c d u = setN (setN n c d u) a b v := by
  apply Nat.eq_of_testBit_eq
  intro j
  rw [setN_bit _ _ _ _ _ hu, setN_bit _ _ _ _ _ hv, setN_bit _ _ _ _ _ hv, setN_bit _ _ _ _ _ hu]
  by_cases h1 : c ≤ j ∧ j < c + d
  · rw [if_pos h1, if_neg (by omega), if_pos h1]
  · rw [if_neg h1, if_neg h1]
theorem fieldN_bit (n a b j : Nat) : (n / 2 ^ a % 2 ^ b).testBit j = (decide (j < b) && n.testBit (a + j)) := by
  rw [Nat.testBit_mod_two_pow, Nat.testBit_div_two_pow, Nat.add_comm]
theorem setN_field (n a b v : Nat) (hv : v < 2 ^ b) : setN n a b v / 2 ^ a % 2 ^ b = v := by
  apply Nat.eq_of_testBit_eq
  intro j
  rw [fieldN_bit, setN_bit _ _ _ _ _ hv]
  by_cases h : j < b
  · rw [if_pos (by omega)]; simp [h]
  · simp only [h, decide_false, Bool.false_and]
    exact (Nat.testBit_lt_two_pow (Nat.lt_of_lt_of_le hv (Nat.pow_le_pow_right (by decide) (by omega)))).symm
theorem setN_field_other (n a b v c d : Nat) (hv : v < 2 ^ b) (h : a + b ≤ c ∨ c + d ≤ a) : setN n a b v / 2 ^ c % 2 ^ d = n / 2 ^ c % 2 ^ d := by
  apply Nat.eq_of_testBit_eq
  intro j
  rw [fieldN_bit, fieldN_bit, setN_bit _ _ _ _ _ hv]
  by_cases hj : j < d
  · rw [if_neg (by omega)]
  · simp [hj]

/-- With, in natural numbers. -/
theorem withS_nat (n a b v : Nat) (hn : n < 2 ^ 40) (hab : a + b ≤ 40) (hv : v < 2 ^ b) : withS (n : Int) a b v = (setN n a b v : Nat) := by
  have hw : wordB (n : Int) = true := by simp [wordB]; omega
  have hva : validB (a : Int) b = true := by simp [validB]; omega
  have hv' : (v : Int) < 2 ^ ((b : Int)).toNat := by
    have e3 : ((2 : Int) ^ b) = ((2 ^ b : Nat) : Int) := by simp
    rw [Int.toNat_natCast, e3]; omega
  rw [withS_yes hw hva (by omega) hv']
  unfold fld setN
  simp only [Int.toNat_natCast]
  have en : n = 2 ^ a * (2 ^ b * (n / 2 ^ a / 2 ^ b) + n / 2 ^ a % 2 ^ b) + n % 2 ^ a := by
    rw [Nat.div_add_mod, Nat.div_add_mod]
  have ed : ((n : Int) / 2 ^ a % 2 ^ b) = ((n / 2 ^ a % 2 ^ b : Nat) : Int) := by simp
  rw [ed]
  clear hw hva hv'
  generalize n / 2 ^ a % 2 ^ b = m at *
  generalize 2 ^ b * (n / 2 ^ a / 2 ^ b) = h at *
  generalize n % 2 ^ a = r at *
  have e4 : ((2 : Int) ^ a) = ((2 ^ a : Nat) : Int) := by simp
  rw [e4, Int.sub_mul]
  generalize 2 ^ a = P at *
  subst en
  rw [Nat.mul_add, Nat.mul_add]
  simp only [Int.natCast_add, Int.natCast_mul]
  rw [Int.mul_comm (v : Int), Int.mul_comm (m : Int)]
  omega
theorem fieldS_nat (n a b : Nat) (hn : n < 2 ^ 40) (hab : a + b ≤ 40) : fieldS (n : Int) a b = (n / 2 ^ a % 2 ^ b : Nat) := by
  have hw : wordB (n : Int) = true := by simp [wordB]; omega
  have hva : validB (a : Int) b = true := by simp [validB]; omega
  unfold fieldS fld
  rw [hw, hva]
  simp
/-- One bit of a word. -/
theorem bit_int (n i : Nat) : (n : Int) / 2 ^ i % 2 = ((n / 2 ^ i % 2 : Nat) : Int) := by simp

/-- All that the law on two fields asks: both orders, the range, both fields, and the other bits. -/
theorem apart (n a b v c d u : Nat) (hn : n < 2 ^ 40) (hab : a + b ≤ c) (hcd : c + d ≤ 40) (hv : v < 2 ^ b) (hu : u < 2 ^ d) :
    ∃ A : Nat, A < 2 ^ 40 ∧ withS (withS (n : Int) a b v) c d u = A ∧ withS (withS (n : Int) c d u) a b v = A ∧ fieldS (A : Int) a b = v ∧ fieldS (A : Int) c d = u ∧
      ∀ i : Nat, ¬ (a ≤ i ∧ i < a + b) → ¬ (c ≤ i ∧ i < c + d) → A / 2 ^ i % 2 = n / 2 ^ i % 2 := by
  have l1 := setN_lt n a b v hn (by omega) hv
  have l2 := setN_lt n c d u hn hcd hu
  have l3 := setN_lt (setN n a b v) c d u l1 hcd hu
  refine ⟨setN (setN n a b v) c d u, l3, ?_, ?_, ?_, ?_, ?_⟩
  · rw [withS_nat n a b v hn (by omega) hv, withS_nat _ c d u l1 hcd hu]
  · rw [withS_nat n c d u hn hcd hu, withS_nat _ a b v l2 (by omega) hv, setN_comm n a b v c d u hv hu hab]
  · rw [fieldS_nat _ a b l3 (by omega), setN_field_other _ c d u a b hu (by omega), setN_field n a b v hv]
  · rw [fieldS_nat _ c d l3 hcd, setN_field _ c d u hu]
  · intro i h1 h2
    have hb : (setN (setN n a b v) c d u).testBit i = n.testBit i := by
      rw [setN_bit _ _ _ _ _ hu, if_neg h2, setN_bit _ _ _ _ _ hv, if_neg h1]
    rw [Nat.testBit_eq_decide_div_mod_eq, Nat.testBit_eq_decide_div_mod_eq] at hb
    simp only [decide_eq_decide] at hb
    omega

/-! Pointers and headers. -/
theorem makeS_no {l g : Int} (h : ¬ (1 ≤ l ∧ l ≤ 4095 ∧ 1 ≤ g ∧ g ≤ 1048575)) : makeS l g = 0 := by unfold makeS; rw [if_neg h]
theorem makeS_yes {l g : Int} (h : 1 ≤ l ∧ l ≤ 4095 ∧ 1 ≤ g ∧ g ≤ 1048575) : makeS l g = l + g * 4096 := by unfold makeS; rw [if_pos h]
theorem packS_no {k c g : Int} (h : ¬ (0 ≤ k ∧ k ≤ 15 ∧ 0 ≤ c ∧ c ≤ 4 ∧ 0 ≤ g ∧ g ≤ 1048575)) : packS k c g = 0 := by unfold packS; rw [if_neg h]
theorem packS_yes {k c g : Int} (h : 0 ≤ k ∧ k ≤ 15 ∧ 0 ≤ c ∧ c ≤ 4 ∧ 0 ≤ g ∧ g ≤ 1048575) : packS k c g = k + c * 16 + g * 128 := by unfold packS; rw [if_pos h]
theorem make_parts {l g : Int} (h : 1 ≤ l ∧ l ≤ 4095 ∧ 1 ≤ g ∧ g ≤ 1048575) :
    0 < makeS l g ∧ makeS l g ≤ 1099511627775 ∧ rightB (makeS l g) = true ∧ lineS (makeS l g) = l ∧ genS (makeS l g) = g := by
  rw [makeS_yes h]
  have hr : rightB (l + g * 4096) = true := by simp [rightB]; omega
  refine ⟨by omega, by omega, hr, ?_, ?_⟩
  · unfold lineS; rw [hr]; simp only [if_true]; omega
  · unfold genS; rw [hr]; simp only [if_true]; omega
theorem pack_parts {k c g : Int} (h : 0 ≤ k ∧ k ≤ 15 ∧ 0 ≤ c ∧ c ≤ 4 ∧ 0 ≤ g ∧ g ≤ 1048575) :
    0 ≤ packS k c g ∧ packS k c g ≤ 1099511627775 ∧ formedB (packS k c g) = true ∧ kindS (packS k c g) = k ∧ classS (packS k c g) = c ∧ generS (packS k c g) = g := by
  rw [packS_yes h]
  have hf : formedB (k + c * 16 + g * 128) = true := by simp [formedB]; omega
  refine ⟨by omega, by omega, hf, ?_, ?_, ?_⟩
  · unfold kindS; rw [hf]; simp only [if_true]; omega
  · unfold classS; rw [hf]; simp only [if_true]; omega
  · unfold generS; rw [hf]; simp only [if_true]; omega
theorem next_rng {g : Int} (h : 1 ≤ g ∧ g ≤ 1048575) : 1 ≤ nextS g ∧ nextS g ≤ 1048575 ∧ nextS g ≠ g := by
  unfold nextS; split <;> omega
theorem next_inj {g o : Int} (h : 1 ≤ g ∧ g ≤ 1048575) (h' : 1 ≤ o ∧ o ≤ 1048575) (hn : o ≠ g) : nextS o ≠ nextS g := by
  unfold nextS; split <;> split <;> omega
theorem check_of {l g k c o : Int} (h : 1 ≤ l ∧ l ≤ 4095 ∧ 1 ≤ g ∧ g ≤ 1048575) (h' : 0 ≤ k ∧ k ≤ 15 ∧ 0 ≤ c ∧ c ≤ 4 ∧ 0 ≤ o ∧ o ≤ 1048575) :
    checkS (makeS l g) (packS k c o) = if k = 0 ∨ o ≠ g then 70 else 0 := by
  obtain ⟨p1, p2, p3, p4, p5⟩ := make_parts h
  obtain ⟨q1, q2, q3, q4, q5, q6⟩ := pack_parts h'
  unfold checkS
  rw [p3, q3, q4, q6, p5]
  have : decide (makeS l g ≠ 0) = true := by simp; omega
  rw [this]
  simp

end Go.Proofs.YtbmhgekeabodcaaDoor.Ptr
