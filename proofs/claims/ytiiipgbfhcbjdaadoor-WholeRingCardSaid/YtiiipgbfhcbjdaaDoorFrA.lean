/- What math.Frexp computes of a positive finite float, and its significand as a whole number. -/
import Derived.Test.YtiiipgbfhcbjdaaDoorFlH
import Derived.Test.YtiiipgbfhcbjdaaDoorNmA
import Derived.Laws.BitsAllLaws
import Derived.Laws.FloatArith
namespace TV
set_option exponentiation.threshold 3000

/-- The bits of a positive float made normal. -/
def frM (r : Nat) : Nat := if r < 4503599627370496 then fmul r 4841369599423283200 else r
def frS (r : Nat) : Nat := if r < 4503599627370496 then 52 else 0

theorem frM_facts {r : Nat} (h0 : 0 < r) (h : r < inf) :
    (r < 4503599627370496 → Ieee.double.mul r 4841369599423283200 = some (frM r)) ∧ 4503599627370496 ≤ frM r ∧ frM r < inf ∧ mag (frM r) = mag r * 2 ^ frS r := by
  unfold frM frS
  by_cases c : r < 4503599627370496
  · rw [if_pos c, if_pos c]
    have hr : r < 9223372036854775808 := by omega
    obtain ⟨s, hs⟩ := mag_of_parts 52 r (by omega)
    have h1 : mag r = r := mag_small (by omega)
    have hC : mag (rung 4841369599423283200) = 2 ^ 52 * 2 ^ 1074 := by
      rw [rung_small (by omega), ← Nat.pow_add]
      exact mag_p2 (i := 1075) (by omega)
    have hp : mag (rung r) * mag (rung 4841369599423283200) = mag s * 2 ^ 1074 := by rw [hC, rung_small hr, h1, ← hs, Nat.mul_assoc]
    have hlo : 4503599627370496 ≤ s := by
      apply le_of_mag
      rw [mag_small (by omega), ← hs, e52]
      exact Nat.le_mul_of_pos_left _ h0
    have hhi : s < p2 53 := by
      apply lt_of_mag
      rw [← hs, mag_p2 (by omega), show 51 + 53 = 52 + 52 by rfl, Nat.pow_add]
      rw [e52] at c
      exact Nat.mul_lt_mul_of_pos_right c (Nat.pow_pos (by omega))
    have hsi : s < inf := Nat.lt_trans hhi (p2_lt (by omega))
    have hm : Ieee.double.mul r 4841369599423283200 = some s := by
      rw [mul_fin (by rw [rung_small hr]; exact h) (by rw [rung_small (by omega)]; decide), hp, rnd_exact, sgn_small hr, sgn_small (by omega), Nat.min_eq_left (by omega)]
      rfl
    have hf : fmul r 4841369599423283200 = s := by unfold fmul; rw [hm]; rfl
    rw [hf]
    exact ⟨fun _ => hm, hlo, hsi, by rw [h1, ← hs]⟩
  · rw [if_neg c, if_neg c]
    exact ⟨fun e => absurd e c, by omega, h, by rw [Nat.pow_zero, Nat.mul_one]⟩

def frF (r : Nat) : Nat := 4602678819172646912 + frM r % 4503599627370496
def frE (r : Nat) : Int := (frM r / 4503599627370496 : Nat) - 1022 - (frS r : Int)
/-- The significand as a whole number. -/
def frQ (r : Nat) : Nat := 4503599627370496 + frM r % 4503599627370496
def frP (r : Nat) : Nat := 4841369599423283200 + frM r % 4503599627370496

theorem frP_mul (r : Nat) : Ieee.double.mul (frF r) 4845873199050653696 = some (frP r) := by
  have hm : frM r % 4503599627370496 < 4503599627370496 := Nat.mod_lt _ (by omega)
  have hF : frF r < 9223372036854775808 := by unfold frF; omega
  have a1 : mag (frF r) = frQ r * 2 ^ 1021 := by
    rw [← mag_at (k := 1021) (q := frQ r) (Or.inr (by unfold frQ; omega)) (by unfold frQ; omega)]
    congr 1; unfold frF frQ; omega
  have a2 : mag 4845873199050653696 = 2 ^ 1127 := mag_p2 (i := 1076) (by omega)
  have a3 : mag (frP r) = frQ r * 2 ^ 1074 := by
    rw [← mag_at (k := 1074) (q := frQ r) (Or.inr (by unfold frQ; omega)) (by unfold frQ; omega)]
    congr 1; unfold frP frQ; omega
  rw [mul_fin (by rw [rung_small hF]; unfold frF inf; omega) (by rw [rung_small (by omega)]; decide), rung_small hF, rung_small (by omega), a1, a2, sgn_small hF, sgn_small (by omega)]
  rw [show frQ r * 2 ^ 1021 * 2 ^ 1127 = mag (frP r) * 2 ^ 1074 by rw [a3, Nat.mul_assoc, Nat.mul_assoc, ← Nat.pow_add], rnd_exact, Nat.min_eq_left (by unfold frP inf; omega)]
  rfl

theorem cut_none (neg : Bool) (n : Nat) : Ieee.Toward.zero.cut neg n 0 = n := by
  unfold Ieee.Toward.cut; simp

theorem frP_int (r : Nat) : Go.floatToIntVal .f64 (frP r) .u64 = some (frQ r : Int) := by
  have hm : frM r % 4503599627370496 < 4503599627370496 := Nat.mod_lt _ (by omega)
  have hr : Ieee.double.read (frP r) = .number false (frQ r) 0 := by
    unfold Ieee.Format.read
    simp only [signWeight_double, binade_double, infRung_double, leastPlace_double]
    have e : frP r % 9223372036854775808 = frP r := Nat.mod_eq_of_lt (by unfold frP; omega)
    rw [e, if_neg (by unfold frP; omega), if_pos (by unfold frP; omega)]
    have e1 : frP r / 9223372036854775808 = 0 := Nat.div_eq_of_lt (by unfold frP; omega)
    have e2 : frP r % 4503599627370496 = frM r % 4503599627370496 := by unfold frP; omega
    have e3 : frP r / 4503599627370496 = 1075 := by unfold frP; omega
    rw [e1, e2, e3]
    unfold frQ
    rfl
  unfold Go.floatToIntVal
  have hd : (Go.FloatKind.f64.decode (frP r)).toInt .zero = some (frQ r : Int) := by
    change (Ieee.double.read (frP r)).toInt .zero = _
    rw [hr]
    unfold Ieee.Datum.toInt Ieee.Datum.integral
    simp only [Int.toNat_zero, Nat.shiftLeft_zero, Int.neg_zero, cut_none]
    simp [Ieee.signed]
  rw [hd]
  have h1 : (Go.IntKind.u64).min ≤ (frQ r : Int) ∧ (frQ r : Int) ≤ (Go.IntKind.u64).max := by
    have a : (Go.IntKind.u64).min = 0 := by decide
    have b : (Go.IntKind.u64).max = 18446744073709551615 := by decide
    rw [a, b]; unfold frQ; omega
  simp only [if_pos h1]

/-- What Frexp tells is the float. -/
theorem fr_value {r : Nat} (h0 : 0 < r) (h : r < inf) : ((frQ r : Nat) : Rat) * (2 : Rat) ^ (frE r - 53) = (mag r : Rat) * (2 : Rat) ^ (-1074 : Int) := by
  obtain ⟨-, h1, h2, h3⟩ := frM_facts h0 h
  have e : frM r / 4503599627370496 = (frM r / 4503599627370496 - 1) + 1 := by omega
  have h4 : mag (frM r) = frQ r * 2 ^ (frM r / 4503599627370496 - 1) := by
    unfold mag; rw [if_neg (by omega)]; rfl
  rw [h4] at h3
  have h5 : ((frQ r : Nat) : Rat) * ((2 ^ (frM r / 4503599627370496 - 1) : Nat) : Rat) = (mag r : Rat) * ((2 ^ frS r : Nat) : Rat) := by
    rw [← Rat.natCast_mul, ← Rat.natCast_mul, h3]
  rw [← two_zpow_nat, ← two_zpow_nat] at h5
  have h6 : frE r - 53 = ((frM r / 4503599627370496 - 1 : Nat) : Int) + (-(frS r : Int) + -1074) := by unfold frE; omega
  rw [h6, two_zpow_add, two_zpow_add, ← Rat.mul_assoc, h5, Rat.mul_assoc, ← Rat.mul_assoc ((2:Rat) ^ (frS r : Int)), ← two_zpow_add, Int.add_right_neg, Rat.zpow_zero, Rat.one_mul]

theorem clear_exp {M : Nat} (h : M < 9223372036854775808) : Go.bits .andNot .u64 (M : Int) 9218868437227405312 = ((M % 4503599627370496 : Nat) : Int) := by
  have := Go.u64_andNot_nat M 9218868437227405312 (by omega) (by omega)
  rw [show ((9218868437227405312 : Nat) : Int) = 9218868437227405312 by rfl] at this
  rw [this]
  congr 1
  have e : (18446744073709551615 - 9218868437227405312 : Nat) = 2 ^ 63 * 1 ||| (2 ^ 52 - 1) := by
    rw [← Nat.two_pow_add_eq_or_of_lt (by omega) 1]
  rw [e, Nat.and_or_distrib_left, Nat.and_two_pow_sub_one_eq_mod, Nat.mul_one, ← e52]
  have z : M &&& 2 ^ 63 = 0 := by
    apply Nat.eq_of_testBit_eq
    intro i
    rw [Nat.testBit_and, Nat.testBit_two_pow, Nat.zero_testBit]
    by_cases c : 63 = i
    · subst c; rw [Nat.testBit_lt_two_pow (by omega)]; rfl
    · simp [c]
  rw [z, Nat.zero_or]

theorem set_exp {m : Nat} (h : m < 4503599627370496) : Go.bits .or .u64 (m : Int) 4602678819172646912 = ((4602678819172646912 + m : Nat) : Int) := by
  have := Go.u64_or_nat m 4602678819172646912 (by omega) (by omega)
  rw [show ((4602678819172646912 : Nat) : Int) = 4602678819172646912 by rfl] at this
  rw [this]
  congr 1
  have := Nat.two_pow_add_eq_or_of_lt (i := 52) (b := m) (by omega) 1022
  rw [show 2 ^ 52 * 1022 = 4602678819172646912 by rfl] at this
  rw [this, Nat.or_comm]

theorem get_exp {M : Nat} (h : M < 9223372036854775808) : Go.bits .and .u64 ((M : Int) / 4503599627370496) 2047 = ((M / 4503599627370496 : Nat) : Int) := by
  have := Go.u64_and_nat (M / 4503599627370496) 2047 (by omega) (by omega)
  rw [show ((2047 : Nat) : Int) = 2047 by rfl, show ((M / 4503599627370496 : Nat) : Int) = (M : Int) / 4503599627370496 by omega] at this
  rw [this, show (2047 : Nat) = 2 ^ 11 - 1 by rfl, Nat.and_two_pow_sub_one_eq_mod, Nat.mod_eq_of_lt (by omega)]
end TV
