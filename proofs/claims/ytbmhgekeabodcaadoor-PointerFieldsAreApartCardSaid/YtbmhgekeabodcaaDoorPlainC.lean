/- Plain facts for the pointer law on two fields: over integers. No program in sight. -/
import Derived.Test.YtbmhgekeabodcaaDoorPlainB
namespace Go.Proofs.YtbmhgekeabodcaaDoor.Ptr
open Go

theorem apart_int (x a b v c d u : Int) (hx0 : 0 ≤ x) (hx1 : x ≤ 1099511627775) (ha : 0 ≤ a) (hb : 0 ≤ b) (hab : a + b ≤ c) (hd : 0 ≤ d) (hcd : c + d ≤ 40)
    (hv0 : 0 ≤ v) (hv1 : v < 2 ^ b.toNat) (hu0 : 0 ≤ u) (hu1 : u < 2 ^ d.toNat) :
    ∃ A : Int, 0 ≤ A ∧ A ≤ 1099511627775 ∧ withS (withS x a b v) c d u = A ∧ withS (withS x c d u) a b v = A ∧ fieldS A a b = v ∧ fieldS A c d = u ∧
      ∀ i : Nat, ¬ (a ≤ i ∧ i < a + b) → ¬ (c ≤ i ∧ i < c + d) → bits .and .i64 (A / 2 ^ i) 1 = bits .and .i64 (x / 2 ^ i) 1 := by
  obtain ⟨n, rfl⟩ := Int.eq_ofNat_of_zero_le hx0
  obtain ⟨a, rfl⟩ := Int.eq_ofNat_of_zero_le ha
  obtain ⟨b, rfl⟩ := Int.eq_ofNat_of_zero_le hb
  obtain ⟨c, rfl⟩ := Int.eq_ofNat_of_zero_le (show 0 ≤ c by omega)
  obtain ⟨d, rfl⟩ := Int.eq_ofNat_of_zero_le hd
  obtain ⟨v, rfl⟩ := Int.eq_ofNat_of_zero_le hv0
  obtain ⟨u, rfl⟩ := Int.eq_ofNat_of_zero_le hu0
  have e : ∀ k : Nat, ((2 : Int) ^ k) = ((2 ^ k : Nat) : Int) := fun k => by simp
  rw [Int.toNat_natCast, e] at hv1 hu1
  obtain ⟨A, h1, h2, h3, h4, h5, h6⟩ := apart n a b v c d u (by omega) (by omega) (by omega) (by omega) (by omega)
  refine ⟨A, by omega, by omega, h2, h3, h4, h5, ?_⟩
  intro i k1 k2
  have h7 := h6 i (by omega) (by omega)
  have m : ∀ y : Nat, y < 2 ^ 40 → bits .and .i64 ((y : Int) / 2 ^ i) 1 = ((y / 2 ^ i % 2 : Nat) : Int) := by
    intro y hy
    have hq : (0 : Int) < 2 ^ i := Int.pow_pos (by decide)
    have r0 : 0 ≤ (y : Int) / 2 ^ i := Int.ediv_nonneg (by omega) (by omega)
    have r1 : (y : Int) / 2 ^ i ≤ y := Int.ediv_le_self _ (by omega)
    have := and_mask ((y : Int) / 2 ^ i) 1 r0 (by omega) (by omega)
    simp only [show (2 : Int) ^ 1 = 2 by decide, show (2 : Int) - 1 = 1 by decide] at this
    rw [this, bit_int]
  rw [m A h1, m n (by omega), h7]

end Go.Proofs.YtbmhgekeabodcaaDoor.Ptr
