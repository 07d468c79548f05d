/- Which coordinates may be: at most 2^100, and whole multiples of 2^-100. Plain numbers, no program. -/
import Derived.Test.YtiihokgjplpceaaDoorPuA
import Derived.Test.YtiihokgjplpceaaDoorRfF
namespace Go.Proofs.YtiihokgjplpceaaDoor
open TV
set_option linter.unusedVariables false

def C100 : Nat := 5057542381537067008
def C200 : Nat := 5507902344274116608
/-- 2^-100, in units of 2^-1074. -/
def uL : Nat := 2 ^ (uE - 100)
theorem uL_pos : 0 < uL := Nat.two_pow_pos _
theorem uW_uL : uW = 2 ^ 100 * uL := by
  unfold uW uL
  rw [← Nat.pow_add]
  congr 1
theorem mag_C100 : mag C100 = 2 ^ 100 * uW := by
  have h := mag_at (k := uE + 48) (q := 4503599627370496) (Or.inr (by omega)) (by omega)
  have h2 : (uE + 48) * 4503599627370496 + 4503599627370496 = C100 := by decide
  rw [h2, Nat.pow_add, show (2 : Nat) ^ uE = uW from rfl] at h
  rw [h, Nat.mul_comm uW, ← Nat.mul_assoc]
theorem mag_C200 : mag C200 = 2 ^ 100 * (2 ^ 100 * uW) := by
  have h := mag_at (k := uE + 148) (q := 4503599627370496) (Or.inr (by omega)) (by omega)
  have h2 : (uE + 148) * 4503599627370496 + 4503599627370496 = C200 := by decide
  rw [h2, Nat.pow_add, show (2 : Nat) ^ uE = uW from rfl] at h
  rw [h, Nat.mul_comm uW, ← Nat.mul_assoc, ← Nat.mul_assoc]
theorem C100_inf : C100 < inf := by decide
theorem C200_inf : C200 < inf := by decide
theorem fv_C100 : fv C100 = (2 ^ 100 : Int) * (uW : Int) := by
  rw [fv_pos_rung _ (by decide), mag_C100, Int.natCast_mul]; rfl

/-- May a coordinate be? -/
def mayB (x : Nat) : Bool := decide (rung x ≤ C100) && decide (uL ∣ mag (rung x))

theorem may_step {x : Nat} (h : rung x ≤ C100) :
    Ieee.double.mul x C100 = some (fmul x C100) ∧ fmul x C100 < 18446744073709551616 ∧ rung (fmul x C100) < inf ∧ feq (fmul x C100) (trF (fmul x C100)) = decide (uL ∣ mag (rung x)) := by
  have hi := C100_inf
  have hx : rung x < inf := by omega
  have hm : mag (rung x) ≤ 2 ^ 100 * uW := by rw [← mag_C100]; exact mag_le h
  obtain ⟨h1, h2, h3, h4⟩ := fmul_val (k := 0) (j := uE) (a := fv x) (b := 2 ^ 100) hx (show rung C100 < inf by decide) C200_inf (by simp) fv_C100 (by rfl) (by
    rw [Int.natAbs_mul, fv_natAbs, mag_C200, show ((2 : Int) ^ 100).natAbs = 2 ^ 100 by decide, Nat.mul_comm]
    exact Nat.mul_le_mul_left _ hm)
  have h5 : Rn (fv x * 2 ^ 100) = fv x * 2 ^ 100 := by
    have := Rn_pow (fv x) 100
    rw [Rn_fix (Rep_fv x)] at this
    simpa using this
  have h6 : rung (fmul x C100) < inf := Nat.lt_of_le_of_lt h3 C200_inf
  refine ⟨h1, h2, h6, ?_⟩
  rw [trF_feq h6]
  congr 1
  rw [← fv_natAbs, h4, h5, Int.natAbs_mul, fv_natAbs, uW_uL, show ((2 : Int) ^ 100).natAbs = 2 ^ 100 by decide, Nat.mul_comm (mag _)]
  exact propext (Nat.mul_dvd_mul_iff_left (by decide))

theorem ov_abs {x : Nat} (h : rung x < inf) : (if ov x < 0 then -ov x else ov x) = (mag (rung x) : Rat) * (2 : Rat) ^ (-1074 : Int) := by
  have hp := two_zpow_pos (-1074)
  unfold ov
  rw [if_pos h]
  unfold fv sm
  have hn : (0 : Rat) ≤ ((mag (rung x) : Nat) : Rat) := by rw [← Rat.intCast_natCast]; exact_mod_cast Int.natCast_nonneg _
  have h0 : 0 ≤ ((mag (rung x) : Nat) : Rat) * (2 : Rat) ^ (-1074 : Int) := Rat.mul_nonneg hn (Rat.le_of_lt hp)
  generalize (2 : Rat) ^ (-1074 : Int) = u at *
  cases hs : sgn x
  · simp only [Bool.false_eq_true, if_false, Rat.intCast_natCast]
    rw [if_neg (Rat.not_lt.2 h0)]
  · simp only [if_true, Rat.intCast_neg, Rat.intCast_natCast, Rat.neg_mul, Rat.neg_neg]
    generalize ((mag (rung x) : Nat) : Rat) * u = z at *
    by_cases c : -z < 0
    · rw [if_pos c]
    · rw [if_neg c]
      grind

theorem uW_rat : ((uW : Nat) : Rat) * (2 : Rat) ^ (-1074 : Int) = 1 := by
  unfold uW
  rw [← two_zpow_nat, ← two_zpow_add]
  have : ((uE : Nat) : Int) + -1074 = 0 := by have := uE_eq; omega
  rw [this]; rfl
theorem uL_rat : ((uL : Nat) : Rat) * (2 : Rat) ^ (-1074 : Int) = (2 : Rat) ^ (-100 : Int) := by
  unfold uL
  rw [← two_zpow_nat, ← two_zpow_add]
  congr 1

theorem mul_right_cancel_pos {a b u : Rat} (hu : 0 < u) (h : a * u = b * u) : a = b := by
  have : u ≠ 0 := by intro h0; rw [h0] at hu; exact absurd hu (by decide)
  grind

theorem ov_le {x : Nat} (h : rung x < inf) : ((if ov x < 0 then -ov x else ov x) ≤ 2 ^ 100) ↔ rung x ≤ C100 := by
  rw [ov_abs h]
  have hp := two_zpow_pos (-1074)
  have e : (2 : Rat) ^ 100 = ((mag C100 : Nat) : Rat) * (2 : Rat) ^ (-1074 : Int) := by
    rw [mag_C100]
    have h1 := uW_rat
    generalize (2 : Rat) ^ (-1074 : Int) = u at *
    generalize uW = z at *
    have : ((2 ^ 100 * z : Nat) : Rat) = (2 : Rat) ^ 100 * (z : Rat) := by push_cast; rfl
    rw [this, Rat.mul_assoc, h1, Rat.mul_one]
  rw [e]
  constructor
  · intro hle
    apply Classical.byContradiction
    intro hc
    have h1 : mag C100 < mag (rung x) := mag_lt (by omega)
    have h2 : ((mag C100 : Nat) : Rat) < ((mag (rung x) : Nat) : Rat) := by exact_mod_cast h1
    have := Rat.mul_lt_mul_of_pos_right h2 hp
    exact absurd hle (Rat.not_le.2 this)
  · intro hle
    have h1 : mag (rung x) ≤ mag C100 := mag_le hle
    have h2 : ((mag (rung x) : Nat) : Rat) ≤ ((mag C100 : Nat) : Rat) := by exact_mod_cast h1
    exact Rat.mul_le_mul_of_nonneg_right h2 (Rat.le_of_lt hp)

theorem low_may {x : Nat} {l : Int} (h : rung x < inf) (hl : LowOf (ov x) l) : (-100 ≤ l) ↔ uL ∣ mag (rung x) := by
  obtain ⟨m, hm, e⟩ := hl
  unfold ov at e
  rw [if_pos h] at e
  rw [← fv_natAbs, ← Int.ofNat_dvd_left]
  have hp := two_zpow_pos (-1074)
  constructor
  · intro hle
    obtain ⟨t, ht⟩ : ∃ t : Nat, l = t + -100 := ⟨(l + 100).toNat, by omega⟩
    rw [ht, two_zpow_add, ← uL_rat, two_zpow_nat, ← Rat.mul_assoc, ← Rat.mul_assoc] at e
    have e2 := mul_right_cancel_pos hp e
    refine ⟨m * 2 ^ t, ?_⟩
    have e3 : ((fv x : Int) : Rat) = (((uL : Int) * (m * 2 ^ t) : Int) : Rat) := by
      rw [e2]; push_cast; grind
    exact_mod_cast e3
  · rintro ⟨c, hc⟩
    apply Classical.byContradiction
    intro hlt
    obtain ⟨t, ht⟩ : ∃ t : Nat, (-100 : Int) = ((t + 1 : Nat) : Int) + l := ⟨(-100 - l - 1).toNat, by omega⟩
    rw [hc, Rat.intCast_mul, Rat.intCast_natCast, Rat.mul_comm (uL : Rat), Rat.mul_assoc, uL_rat, ht, two_zpow_add, two_zpow_nat, ← Rat.mul_assoc] at e
    have e2 := mul_right_cancel_pos (two_zpow_pos l) e
    have e3 : (((c * 2 ^ (t + 1) : Int)) : Rat) = ((m : Int) : Rat) := by rw [← e2]; push_cast; rfl
    have e4 : c * 2 ^ (t + 1) = m := by exact_mod_cast e3
    rw [Int.pow_succ, ← Int.mul_assoc] at e4
    omega

end Go.Proofs.YtiihokgjplpceaaDoor
