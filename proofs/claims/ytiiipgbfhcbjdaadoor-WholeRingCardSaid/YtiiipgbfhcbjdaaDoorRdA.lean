/- What it is to be the float nearest to a number, told by rungs. -/
import Derived.Test.YtiiipgbfhcbjdaaDoorFlH
import Derived.Test.YtiiipgbfhcbjdaaDoorNmB
namespace TV
set_option exponentiation.threshold 3000

/-- The lowest bit of all floats. -/
def uu : Rat := (2 : Rat) ^ (-1074 : Int)
theorem uu_pos : 0 < uu := two_zpow_pos _

/-- r is the rung nearest to q, which is not below nought. -/
def RndQ (q : Rat) (r : Nat) : Prop :=
  (r < inf ∧ (2 * q < ((mag r + mag (r + 1) : Nat) : Rat) * uu ∨ (2 * q = ((mag r + mag (r + 1) : Nat) : Rat) * uu ∧ r % 2 = 0)) ∧
    (r = 0 ∨ ((mag (r - 1) + mag r : Nat) : Rat) * uu < 2 * q ∨ (((mag (r - 1) + mag r : Nat) : Rat) * uu = 2 * q ∧ r % 2 = 0))) ∨
  (r = inf ∧ ((mag (inf - 1) + mag inf : Nat) : Rat) * uu ≤ 2 * q)

theorem scale_uu (u : Nat) : uu = ((2 ^ u : Nat) : Rat) * (2 : Rat) ^ (-1074 - (u : Int)) := by
  unfold uu; rw [← two_zpow_nat, ← two_zpow_add]; congr 1; omega
theorem scale_lt {u A B : Nat} (h : A < B * 2 ^ u) : (A : Rat) * (2 : Rat) ^ (-1074 - (u : Int)) < (B : Rat) * uu := by
  rw [scale_uu u, ← Rat.mul_assoc, ← Rat.natCast_mul]
  exact Rat.mul_lt_mul_of_pos_right (Rat.natCast_lt_natCast.2 h) (two_zpow_pos _)
theorem scale_gt {u A B : Nat} (h : B * 2 ^ u < A) : (B : Rat) * uu < (A : Rat) * (2 : Rat) ^ (-1074 - (u : Int)) := by
  rw [scale_uu u, ← Rat.mul_assoc, ← Rat.natCast_mul]
  exact Rat.mul_lt_mul_of_pos_right (Rat.natCast_lt_natCast.2 h) (two_zpow_pos _)
theorem scale_eq {u A B : Nat} (h : A = B * 2 ^ u) : (A : Rat) * (2 : Rat) ^ (-1074 - (u : Int)) = (B : Rat) * uu := by
  rw [scale_uu u, ← Rat.mul_assoc, ← Rat.natCast_mul, h]

theorem near_q {u N r : Nat} (h : Near u N r) : RndQ ((N : Rat) * (2 : Rat) ^ (-1074 - (u : Int))) (min r inf) := by
  obtain ⟨⟨h1, h2⟩, h3⟩ := h
  have e : 2 * ((N : Rat) * (2 : Rat) ^ (-1074 - (u : Int))) = ((2 * N : Nat) : Rat) * (2 : Rat) ^ (-1074 - (u : Int)) := by
    rw [Rat.natCast_mul, ← Rat.mul_assoc]; rfl
  unfold RndQ
  rw [e]
  by_cases c : r < inf
  · rw [Nat.min_eq_left (by omega)]
    refine Or.inl ⟨c, ?_, ?_⟩
    · by_cases d : 2 * N = (mag r + mag (r + 1)) * 2 ^ u
      · exact Or.inr ⟨scale_eq d, h2 d⟩
      · exact Or.inl (scale_lt (by omega))
    · by_cases z : r = 0
      · exact Or.inl z
      · right
        obtain ⟨h4, h5⟩ := h3 (r - 1) (by omega)
        by_cases d : (mag (r - 1) + mag r) * 2 ^ u = 2 * N
        · exact Or.inr ⟨(scale_eq d.symm).symm, h5 d⟩
        · exact Or.inl (scale_gt (by omega))
  · rw [Nat.min_eq_right (by omega)]
    right
    refine ⟨rfl, ?_⟩
    have hp := inf_pos
    obtain ⟨h4, -⟩ := h3 (r - 1) (by omega)
    have m1 : mag (inf - 1) ≤ mag (r - 1) := mag_le (by omega)
    have m2 : mag inf ≤ mag r := mag_le (by omega)
    have h6 : (mag (inf - 1) + mag inf) * 2 ^ u ≤ 2 * N := Nat.le_trans (Nat.mul_le_mul_right _ (by omega)) h4
    by_cases d : (mag (inf - 1) + mag inf) * 2 ^ u = 2 * N
    · rw [scale_eq d.symm]; exact Rat.le_refl
    · exact Rat.le_of_lt (scale_gt (by omega))

/-- Half a place above the greatest float. -/
def gq : Rat := ((18014398509481983 : Nat) : Rat) * (2 : Rat) ^ (970 : Int)
theorem mag_max : mag (inf - 1) = 9007199254740991 * 2 ^ 2045 := by
  rw [← mag_at (k := 2045) (q := 9007199254740991) (Or.inr (by omega)) (by omega)]; congr 1
theorem mag_inf : mag inf = 9007199254740992 * 2 ^ 2045 := by
  have h : mag inf = 2 ^ (51 + 2047) := mag_p2 (i := 2047) (by omega)
  rw [h, show 51 + 2047 = 53 + 2045 by rfl, Nat.pow_add]
theorem great2 : ((mag (inf - 1) + mag inf : Nat) : Rat) * uu = 2 * gq := by
  rw [mag_max, mag_inf, ← Nat.add_mul, Rat.natCast_mul, ← two_zpow_nat]
  unfold uu gq
  rw [Rat.mul_assoc, ← two_zpow_add, show ((2045 : Nat) : Int) + -1074 = 1 + 970 by rfl, two_zpow_add]
  have : (2 : Rat) ^ (1 : Int) = 2 := by rw [Rat.zpow_one]
  rw [this, ← Rat.mul_assoc, Rat.mul_comm _ (2 : Rat), Rat.mul_assoc]
theorem inf_uu : (mag inf : Rat) * uu = (2 : Rat) ^ (1024 : Int) := by
  have h : mag inf = 2 ^ (51 + 2047) := mag_p2 (i := 2047) (by omega)
  rw [h, ← two_zpow_nat]; unfold uu; rw [← two_zpow_add]; rfl

theorem rs_lt {a b : Rat} : rs (a - b) < 0 ↔ a < b := by
  unfold rs
  by_cases h : a - b < 0
  · rw [if_pos h]; constructor
    · intro _; grind
    · intro _; decide
  · rw [if_neg h]; constructor
    · intro c; split at c <;> omega
    · intro c; grind
theorem rs_eq {a b : Rat} : rs (a - b) = 0 ↔ a = b := by
  unfold rs
  by_cases h : a - b < 0
  · rw [if_pos h]; constructor
    · intro c; omega
    · intro c; grind
  · rw [if_neg h]
    by_cases h2 : a - b = 0
    · rw [if_pos h2]; constructor
      · intro _; grind
      · intro _; rfl
    · rw [if_neg h2]; constructor
      · intro c; omega
      · intro c; grind
theorem rs_gt {a b : Rat} : 0 < rs (a - b) ↔ b < a := by
  unfold rs
  by_cases h : a - b < 0
  · rw [if_pos h]; constructor
    · intro c; omega
    · intro c; grind
  · rw [if_neg h]
    by_cases h2 : a - b = 0
    · rw [if_pos h2]; constructor
      · intro c; omega
      · intro c; grind
    · rw [if_neg h2]; constructor
      · intro c; grind
      · intro c; decide

/-- What is told of the two neighbours. -/
def dnq (r : Nat) : Rat := if r = 0 then -uu else (mag (r - 1) : Rat) * uu
theorem rnd_tests {q : Rat} {r : Nat} (hq : 0 ≤ q) (h : RndQ q r) (hr : r < inf) :
    q < gq ∧ (rs (2 * q - ((mag r : Rat) * uu + (mag (r + 1) : Rat) * uu)) < 0 ∨ (rs (2 * q - ((mag r : Rat) * uu + (mag (r + 1) : Rat) * uu)) = 0 ∧ r % 2 = 0)) ∧
      (0 < rs (2 * q - ((mag r : Rat) * uu + dnq r)) ∨ (rs (2 * q - ((mag r : Rat) * uu + dnq r)) = 0 ∧ r % 2 = 0)) := by
  rcases h with ⟨-, h1, h2⟩ | ⟨h1, -⟩
  · have e1 : (mag r : Rat) * uu + (mag (r + 1) : Rat) * uu = ((mag r + mag (r + 1) : Nat) : Rat) * uu := by rw [Rat.natCast_add, Rat.add_mul]
    have hm : mag r + mag (r + 1) ≤ mag (inf - 1) + mag inf := by
      have m1 : mag r ≤ mag (inf - 1) := mag_le (by omega)
      have m2 : mag (r + 1) ≤ mag inf := mag_le (by omega)
      omega
    refine ⟨?_, ?_, ?_⟩
    · have hle : ((mag r + mag (r + 1) : Nat) : Rat) * uu ≤ 2 * gq := by
        rw [← great2]; exact Rat.mul_le_mul_of_nonneg_right (Rat.natCast_le_natCast.2 hm) (Rat.le_of_lt uu_pos)
      rcases h1 with h1 | ⟨h1, hev⟩
      · grind
      · have hne : r ≠ inf - 1 := by intro hc; rw [hc] at hev; revert hev; decide
        have hlt : mag r + mag (r + 1) < mag (inf - 1) + mag inf := by
          have m1 : mag r < mag (inf - 1) := mag_lt (by omega)
          have m2 : mag (r + 1) ≤ mag inf := mag_le (by omega)
          omega
        have : ((mag r + mag (r + 1) : Nat) : Rat) * uu < 2 * gq := by
          rw [← great2]; exact Rat.mul_lt_mul_of_pos_right (Rat.natCast_lt_natCast.2 hlt) uu_pos
        grind
    · rw [e1, rs_lt, rs_eq]; exact h1
    · rw [rs_gt, rs_eq]
      unfold dnq
      by_cases z : r = 0
      · rw [if_pos z, z, mag_zero]
        left
        have := uu_pos
        grind
      · rw [if_neg z]
        have e2 : (mag r : Rat) * uu + (mag (r - 1) : Rat) * uu = ((mag (r - 1) + mag r : Nat) : Rat) * uu := by rw [Rat.natCast_add, Rat.add_mul]; grind
        rw [e2]
        rcases h2 with h2 | h2 | ⟨h2, h3⟩
        · exact absurd h2 z
        · exact Or.inl h2
        · exact Or.inr ⟨h2.symm, h3⟩
  · omega
theorem rnd_inf {q : Rat} (h : RndQ q inf) : gq ≤ q := by
  rcases h with ⟨h1, -⟩ | ⟨-, h1⟩
  · omega
  · rw [great2] at h1; grind
end TV
