/- Texts of one kind, joined. -/
import Derived.Test.YtiihokgjplpceaaDoorPuA
import Derived.Laws.BitsAllLaws
import Derived.Laws.FloatArith

section
/- What math.Frexp computes of a positive finite float, and its significand as a whole number. -/
namespace TV
set_option exponentiation.threshold 3000

/-- The bits of a positive float made normal. -/
def frM (r : Nat) : Nat := if r < 4503599627370496 then fmul r 4841369599423283200 else r
def frS (r : Nat) : Nat := if r < 4503599627370496 then 52 else 0

theorem frM_facts {r : Nat} (h0 : 0 < r) (h : r < inf) :
    (r < 4503599627370496 → Ieee.double.mul r 4841369599423283200 = some (frM r)) ∧ 4503599627370496 ≤ frM r ∧ frM r < inf ∧ mag (frM r) = mag r * 2 ^ frS r := by
  unfold frM frS
  by_cases c : r < 4503599627370496
  · rw [if_pos c, if_pos c]
    have hr : r < 9223372036854775808 := by omega
    obtain ⟨s, hs⟩ := mag_of_parts 52 r (by omega)
    have h1 : mag r = r := mag_small (by omega)
    have hC : mag (rung 4841369599423283200) = 2 ^ 52 * 2 ^ 1074 := by
      rw [rung_small (by omega), ← Nat.pow_add]
      exact mag_p2 (i := 1075) (by omega)
    have hp : mag (rung r) * mag (rung 4841369599423283200) = mag s * 2 ^ 1074 := by rw [hC, rung_small hr, h1, ← hs, Nat.mul_assoc]
    have hlo : 4503599627370496 ≤ s := by
      apply le_of_mag
      rw [mag_small (by omega), ← hs, e52]
      exact Nat.le_mul_of_pos_left _ h0
    have hhi : s < p2 53 := by
      apply lt_of_mag
      rw [← hs, mag_p2 (by omega), show 51 + 53 = 52 + 52 by rfl, Nat.pow_add]
      rw [e52] at c
      exact Nat.mul_lt_mul_of_pos_right c (Nat.pow_pos (by omega))
    have hsi : s < inf := Nat.lt_trans hhi (p2_lt (by omega))
    have hm : Ieee.double.mul r 4841369599423283200 = some s := by
      rw [mul_fin (by rw [rung_small hr]; exact h) (by rw [rung_small (by omega)]; decide), hp, rnd_exact, sgn_small hr, sgn_small (by omega), Nat.min_eq_left (by omega)]
      rfl
    have hf : fmul r 4841369599423283200 = s := by unfold fmul; rw [hm]; rfl
    rw [hf]
    exact ⟨fun _ => hm, hlo, hsi, by rw [h1, ← hs]⟩
  · rw [if_neg c, if_neg c]
    exact ⟨fun e => absurd e c, by omega, h, by rw [Nat.pow_zero, Nat.mul_one]⟩

def frF (r : Nat) : Nat := 4602678819172646912 + frM r % 4503599627370496
def frE (r : Nat) : Int := (frM r / 4503599627370496 : Nat) - 1022 - (frS r : Int)
/-- The significand as a whole number. -/
def frQ (r : Nat) : Nat := 4503599627370496 + frM r % 4503599627370496
def frP (r : Nat) : Nat := 4841369599423283200 + frM r % 4503599627370496

theorem frP_mul (r : Nat) : Ieee.double.mul (frF r) 4845873199050653696 = some (frP r) := by
  have hm : frM r % 4503599627370496 < 4503599627370496 := Nat.mod_lt _ (by omega)
  have hF : frF r < 9223372036854775808 := by unfold frF; omega
  have a1 : mag (frF r) = frQ r * 2 ^ 1021 := by
    rw [← mag_at (k := 1021) (q := frQ r) (Or.inr (by unfold frQ; omega)) (by unfold frQ; omega)]
    congr 1; unfold frF frQ; omega
  have a2 : mag 4845873199050653696 = 2 ^ 1127 := mag_p2 (i := 1076) (by omega)
  have a3 : mag (frP r) = frQ r * 2 ^ 1074 := by
    rw [← mag_at (k := 1074) (q := frQ r) (Or.inr (by unfold frQ; omega)) (by unfold frQ; omega)]
    congr 1; unfold frP frQ; omega
  rw [mul_fin (by rw [rung_small hF]; unfold frF inf; omega) (by rw [rung_small (by omega)]; decide), rung_small hF, rung_small (by omega), a1, a2, sgn_small hF, sgn_small (by omega)]
  rw [show frQ r * 2 ^ 1021 * 2 ^ 1127 = mag (frP r) * 2 ^ 1074 by rw [a3, Nat.mul_assoc, Nat.mul_assoc, ← Nat.pow_add], rnd_exact, Nat.min_eq_left (by unfold frP inf; omega)]
  rfl

theorem cut_none (neg : Bool) (n : Nat) : Ieee.Toward.zero.cut neg n 0 = n := by
  unfold Ieee.Toward.cut; simp

theorem frP_int (r : Nat) : Go.floatToIntVal .f64 (frP r) .u64 = some (frQ r : Int) := by
  have hm : frM r % 4503599627370496 < 4503599627370496 := Nat.mod_lt _ (by omega)
  have hr : Ieee.double.read (frP r) = .number false (frQ r) 0 := by
    unfold Ieee.Format.read
    simp only [signWeight_double, binade_double, infRung_double, leastPlace_double]
    have e : frP r % 9223372036854775808 = frP r := Nat.mod_eq_of_lt (by unfold frP; omega)
    rw [e, if_neg (by unfold frP; omega), if_pos (by unfold frP; omega)]
    have e1 : frP r / 9223372036854775808 = 0 := Nat.div_eq_of_lt (by unfold frP; omega)
    have e2 : frP r % 4503599627370496 = frM r % 4503599627370496 := by unfold frP; omega
    have e3 : frP r / 4503599627370496 = 1075 := by unfold frP; omega
    rw [e1, e2, e3]
    unfold frQ
    rfl
  unfold Go.floatToIntVal
  have hd : (Go.FloatKind.f64.decode (frP r)).toInt .zero = some (frQ r : Int) := by
    change (Ieee.double.read (frP r)).toInt .zero = _
    rw [hr]
    unfold Ieee.Datum.toInt Ieee.Datum.integral
    simp only [Int.toNat_zero, Nat.shiftLeft_zero, Int.neg_zero, cut_none]
    simp [Ieee.signed]
  rw [hd]
  have h1 : (Go.IntKind.u64).min ≤ (frQ r : Int) ∧ (frQ r : Int) ≤ (Go.IntKind.u64).max := by
    have a : (Go.IntKind.u64).min = 0 := by decide
    have b : (Go.IntKind.u64).max = 18446744073709551615 := by decide
    rw [a, b]; unfold frQ; omega
  simp only [if_pos h1]

/-- What Frexp tells is the float. -/
theorem fr_value {r : Nat} (h0 : 0 < r) (h : r < inf) : ((frQ r : Nat) : Rat) * (2 : Rat) ^ (frE r - 53) = (mag r : Rat) * (2 : Rat) ^ (-1074 : Int) := by
  obtain ⟨-, h1, h2, h3⟩ := frM_facts h0 h
  have e : frM r / 4503599627370496 = (frM r / 4503599627370496 - 1) + 1 := by omega
  have h4 : mag (frM r) = frQ r * 2 ^ (frM r / 4503599627370496 - 1) := by
    unfold mag; rw [if_neg (by omega)]; rfl
  rw [h4] at h3
  have h5 : ((frQ r : Nat) : Rat) * ((2 ^ (frM r / 4503599627370496 - 1) : Nat) : Rat) = (mag r : Rat) * ((2 ^ frS r : Nat) : Rat) := by
    rw [← Rat.natCast_mul, ← Rat.natCast_mul, h3]
  rw [← two_zpow_nat, ← two_zpow_nat] at h5
  have h6 : frE r - 53 = ((frM r / 4503599627370496 - 1 : Nat) : Int) + (-(frS r : Int) + -1074) := by unfold frE; omega
  rw [h6, two_zpow_add, two_zpow_add, ← Rat.mul_assoc, h5, Rat.mul_assoc, ← Rat.mul_assoc ((2:Rat) ^ (frS r : Int)), ← two_zpow_add, Int.add_right_neg, Rat.zpow_zero, Rat.one_mul]

theorem clear_exp {M : Nat} (h : M < 9223372036854775808) : Go.bits .andNot .u64 (M : Int) 9218868437227405312 = ((M % 4503599627370496 : Nat) : Int) := by
  have := Go.u64_andNot_nat M 9218868437227405312 (by omega) (by omega)
  rw [show ((9218868437227405312 : Nat) : Int) = 9218868437227405312 by rfl] at this
  rw [this]
  congr 1
  have e : (18446744073709551615 - 9218868437227405312 : Nat) = 2 ^ 63 * 1 ||| (2 ^ 52 - 1) := by
    rw [← Nat.two_pow_add_eq_or_of_lt (by omega) 1]
  rw [e, Nat.and_or_distrib_left, Nat.and_two_pow_sub_one_eq_mod, Nat.mul_one, ← e52]
  have z : M &&& 2 ^ 63 = 0 := by
    apply Nat.eq_of_testBit_eq
    intro i
    rw [Nat.testBit_and, Nat.testBit_two_pow, Nat.zero_testBit]
    by_cases c : 63 = i
    · subst c; rw [Nat.testBit_lt_two_pow (by omega)]; rfl
    · simp [c]
  rw [z, Nat.zero_or]

theorem set_exp {m : Nat} (h : m < 4503599627370496) : Go.bits .or .u64 (m : Int) 4602678819172646912 = ((4602678819172646912 + m : Nat) : Int) := by
  have := Go.u64_or_nat m 4602678819172646912 (by omega) (by omega)
  rw [show ((4602678819172646912 : Nat) : Int) = 4602678819172646912 by rfl] at this
  rw [this]
  congr 1
  have := Nat.two_pow_add_eq_or_of_lt (i := 52) (b := m) (by omega) 1022
  rw [show 2 ^ 52 * 1022 = 4602678819172646912 by rfl] at this
  rw [this, Nat.or_comm]

theorem get_exp {M : Nat} (h : M < 9223372036854775808) : Go.bits .and .u64 ((M : Int) / 4503599627370496) 2047 = ((M / 4503599627370496 : Nat) : Int) := by
  have := Go.u64_and_nat (M / 4503599627370496) 2047 (by omega) (by omega)
  rw [show ((2047 : Nat) : Int) = 2047 by rfl, show ((M / 4503599627370496 : Nat) : Int) = (M : Int) / 4503599627370496 by omega] at this
  rw [this, show (2047 : Nat) = 2 ^ 11 - 1 by rfl, Nat.and_two_pow_sub_one_eq_mod, Nat.mod_eq_of_lt (by omega)]
end TV
end

section
/- What math.Ldexp computes: a float times a power of two, rounded once. -/
namespace TV
set_option exponentiation.threshold 3000

/-- The rung nearest to r times 2^k. -/
def ldN (r : Nat) (k : Int) : Nat := rndAt (-k).toNat (mag r * 2 ^ k.toNat)
def ldR (r : Nat) (k : Int) : Nat := min (ldN r k) inf
/-- What Ldexp answers of a finite float. -/
def ldx (x : Nat) (k : Int) : Nat := flo (sgn x) (ldR (rung x) k)

theorem ldR_near (r : Nat) (k : Int) : RndQ ((mag r : Rat) * uu * (2 : Rat) ^ k) (ldR r k) := by
  have h := near_q (near_rnd (-k).toNat (mag r * 2 ^ k.toNat))
  have e : ((mag r * 2 ^ k.toNat : Nat) : Rat) * (2 : Rat) ^ (-1074 - ((-k).toNat : Int)) = (mag r : Rat) * uu * (2 : Rat) ^ k := by
    rw [Rat.natCast_mul, ← two_zpow_nat, Rat.mul_assoc, ← two_zpow_add]
    unfold uu
    rw [Rat.mul_assoc, ← two_zpow_add]
    congr 2; omega
  rw [e] at h
  exact h

theorem ldR_lt (r : Nat) (k : Int) : ldR r k < 9223372036854775808 := min_inf_lt _
theorem ldx_lt (x : Nat) (k : Int) : ldx x k < 18446744073709551616 := flo_lt (ldR_lt _ _)
theorem rung_ldx (x : Nat) (k : Int) : rung (ldx x k) = ldR (rung x) k := rung_flo (ldR_lt _ _)
theorem sgn_ldx (x : Nat) (k : Int) : sgn (ldx x k) = sgn x := sgn_flo (ldR_lt _ _)

theorem rnd_zero (u : Nat) : rndAt u 0 = 0 := by
  apply rnd_of_near
  refine ⟨⟨by simp, fun _ => rfl⟩, fun s h => by omega⟩
theorem ldR_zero (k : Int) : ldR 0 k = 0 := by
  unfold ldR ldN
  rw [mag_zero, Nat.zero_mul, rnd_zero]; rfl
theorem ldx_zero {x : Nat} (hx : x < 18446744073709551616) (h : rung x = 0) (k : Int) : ldx x k = x := by
  unfold ldx
  rw [h, ldR_zero]
  have := flo_eta hx
  rw [h] at this; exact this

theorem ldN_eq {r q k0 S : Nat} {k j : Int} (h : mag r * 2 ^ S = q * 2 ^ k0) (hj : j = (k0 : Int) - S + k) : ldN r k = rndAt (-j).toNat (q * 2 ^ j.toNat) := by
  unfold ldN
  obtain ⟨a, ha⟩ : ∃ a, a = k.toNat := ⟨_, rfl⟩
  obtain ⟨b, hb⟩ : ∃ b, b = (-k).toNat := ⟨_, rfl⟩
  obtain ⟨c, hc⟩ : ∃ c, c = j.toNat := ⟨_, rfl⟩
  obtain ⟨d, hd⟩ : ∃ d, d = (-j).toNat := ⟨_, rfl⟩
  rw [← ha, ← hb, ← hc, ← hd]
  obtain ⟨t, ht⟩ : ∃ t : Nat, b + S = d + t := ⟨b + S - d, by omega⟩
  have ht2 : k0 + a = c + t := by omega
  rw [← rnd_scale b (mag r * 2 ^ a) S, ht, show mag r * 2 ^ a * 2 ^ S = q * 2 ^ c * 2 ^ t by
    rw [Nat.mul_right_comm, h, Nat.mul_assoc, ← Nat.pow_add, ht2, Nat.pow_add, ← Nat.mul_assoc], rnd_scale]

theorem rnd_under {n q : Nat} (hn : 54 ≤ n) (hq : q < 9007199254740992) : rndAt n q = 0 := by
  apply rnd_of_near
  have h := Nat.pow_le_pow_right (n := 2) (by omega) hn
  have e : (2 : Nat) ^ 54 = 18014398509481984 := by decide
  have m1 : mag (0 + 1) = 1 := mag_small (by omega)
  refine ⟨⟨?_, fun _ => rfl⟩, fun s h => by omega⟩
  rw [mag_zero, m1, Nat.zero_add, Nat.one_mul]
  omega

/-- A positive float's parts. -/
theorem mag_at_parts {M : Nat} (h : 4503599627370496 ≤ M) : mag M = (4503599627370496 + M % 4503599627370496) * 2 ^ (M / 4503599627370496 - 1) := by
  unfold mag; rw [if_neg (by omega)]

section
variable {r M S : Nat} {k : Int}

theorem ld_under (h1 : 4503599627370496 ≤ M) (hm : mag M = mag r * 2 ^ S) (h : k - S + (M / 4503599627370496 : Nat) - 1023 < -1075) : ldR r k = 0 := by
  unfold ldR
  have hp := mag_at_parts h1
  rw [ldN_eq (hm.symm.trans hp) rfl]
  have hl := Nat.mod_lt M (show 0 < 4503599627370496 by omega)
  have e : (((M / 4503599627370496 - 1 : Nat) : Int) - S + k).toNat = 0 := by omega
  rw [e, Nat.pow_zero, Nat.mul_one, rnd_under (by omega) (by omega)]; rfl

theorem ld_over (h1 : 4503599627370496 ≤ M) (hm : mag M = mag r * 2 ^ S) (h : 1023 < k - S + (M / 4503599627370496 : Nat) - 1023) : ldR r k = inf := by
  unfold ldR
  have hp := mag_at_parts h1
  rw [ldN_eq (hm.symm.trans hp) rfl]
  have hl := Nat.mod_lt M (show 0 < 4503599627370496 by omega)
  have e : (-(((M / 4503599627370496 - 1 : Nat) : Int) - S + k)).toNat = 0 := by omega
  rw [e]
  obtain ⟨j, hj⟩ : ∃ j, j = (((M / 4503599627370496 - 1 : Nat) : Int) - S + k).toNat := ⟨_, rfl⟩
  have hj2 : 2046 ≤ j := by omega
  rw [← hj, ← mag_at (k := j) (q := 4503599627370496 + M % 4503599627370496) (Or.inr (by omega)) (by omega), rnd_exact0]
  exact Nat.min_eq_right (by rw [inf_eq]; omega)

theorem ld_nor (h1 : 4503599627370496 ≤ M) (hm : mag M = mag r * 2 ^ S) {F : Nat} (hF : (F : Int) = k - S + (M / 4503599627370496 : Nat)) (f1 : 1 ≤ F) (f2 : F ≤ 2046) (s : Bool) :
    Ieee.double.mul 4607182418800017408 (flo s (4503599627370496 * F + M % 4503599627370496)) = some (flo s (ldR r k)) := by
  have hp := mag_at_parts h1
  have hl := Nat.mod_lt M (show 0 < 4503599627370496 by omega)
  have hx : 4503599627370496 * F + M % 4503599627370496 < inf := by rw [inf_eq]; omega
  have hx2 : 4503599627370496 * F + M % 4503599627370496 < 9223372036854775808 := Nat.lt_trans hx inf_lt
  have e1 : 4503599627370496 * F + M % 4503599627370496 = (F - 1) * 4503599627370496 + (4503599627370496 + M % 4503599627370496) := by omega
  have em : mag (4503599627370496 * F + M % 4503599627370496) = (4503599627370496 + M % 4503599627370496) * 2 ^ (F - 1) := by
    rw [e1, mag_at (Or.inr (by omega)) (by omega)]
  have eo : mag 4607182418800017408 = 2 ^ 1074 := mag_p2 (i := 1023) (by omega)
  rw [mul_fin (by rw [rung_small (by omega)]; decide) (by rw [rung_flo hx2]; exact hx), rung_small (by omega), rung_flo hx2, eo, sgn_small (by omega), sgn_flo hx2, Bool.false_xor, Nat.mul_comm, rnd_exact]
  unfold ldR
  rw [ldN_eq (hm.symm.trans hp) rfl]
  have g1 : (-(((M / 4503599627370496 - 1 : Nat) : Int) - S + k)).toNat = 0 := by omega
  have g2 : (((M / 4503599627370496 - 1 : Nat) : Int) - S + k).toNat = F - 1 := by omega
  rw [g1, g2, ← em, rnd_exact0]

theorem ld_den (h1 : 4503599627370496 ≤ M) (hm : mag M = mag r * 2 ^ S) {F : Nat} (hF : (F : Int) = k - S + (M / 4503599627370496 : Nat) + 53) (f1 : 1 ≤ F) (f2 : F ≤ 53) (s : Bool) :
    Ieee.double.mul 4368491638549381120 (flo s (4503599627370496 * F + M % 4503599627370496)) = some (flo s (ldR r k)) := by
  have hp := mag_at_parts h1
  have hl := Nat.mod_lt M (show 0 < 4503599627370496 by omega)
  have hx : 4503599627370496 * F + M % 4503599627370496 < inf := by rw [inf_eq]; omega
  have hx2 : 4503599627370496 * F + M % 4503599627370496 < 9223372036854775808 := Nat.lt_trans hx inf_lt
  have e1 : 4503599627370496 * F + M % 4503599627370496 = (F - 1) * 4503599627370496 + (4503599627370496 + M % 4503599627370496) := by omega
  have em : mag (4503599627370496 * F + M % 4503599627370496) = (4503599627370496 + M % 4503599627370496) * 2 ^ (F - 1) := by
    rw [e1, mag_at (Or.inr (by omega)) (by omega)]
  have eo : mag 4368491638549381120 = 2 ^ 1021 := mag_p2 (i := 970) (by omega)
  rw [mul_fin (by rw [rung_small (by omega)]; decide) (by rw [rung_flo hx2]; exact hx), rung_small (by omega), rung_flo hx2, eo, em, sgn_small (by omega), sgn_flo hx2, Bool.false_xor]
  unfold ldR
  rw [ldN_eq (hm.symm.trans hp) rfl]
  have g2 : (((M / 4503599627370496 - 1 : Nat) : Int) - S + k).toNat = 0 := by omega
  obtain ⟨n, hn⟩ : ∃ n, n = (-(((M / 4503599627370496 - 1 : Nat) : Int) - S + k)).toNat := ⟨_, rfl⟩
  rw [g2, ← hn, Nat.pow_zero, Nat.mul_one]
  have hn2 : n = 54 - F := by omega
  rw [← rnd_scale n _ (1074 - n), show n + (1074 - n) = 1074 by omega, Nat.mul_comm, Nat.mul_assoc, ← Nat.pow_add, show F - 1 + 1021 = 1074 - n by omega]
end

/-- Normalize, of either sign. -/
theorem norm_mul {x : Nat} (h0 : 0 < rung x) (c : rung x < 4503599627370496) : Ieee.double.mul x 4841369599423283200 = some (flo (sgn x) (frM (rung x))) := by
  have hi := inf_eq
  have hr : rung x < 9223372036854775808 := by omega
  obtain ⟨f1, f2, f3, -⟩ := frM_facts h0 (show rung x < inf by omega)
  have := f1 c
  rw [mul_fin (by rw [rung_small hr]; omega) (by rw [rung_small (by omega)]; decide), rung_small hr, sgn_small hr, sgn_small (by omega)] at this
  rw [mul_fin (by omega) (by rw [rung_small (by omega)]; decide), sgn_small (r := 4841369599423283200) (by omega)]
  generalize min (rndAt 1074 (mag (rung x) * mag (rung 4841369599423283200))) inf = X at this ⊢
  have e : X = frM (rung x) := by
    have := Option.some.inj this
    simpa [flo] using this
  rw [e, Bool.xor_false]

theorem and_pow (n i : Nat) : n &&& 2 ^ i = n / 2 ^ i % 2 * 2 ^ i := by
  apply Nat.eq_of_testBit_eq
  intro j
  rw [Nat.testBit_and, Nat.testBit_two_pow]
  by_cases c : i = j
  · subst c
    rw [decide_eq_true rfl, Bool.and_true]
    have := Nat.testBit_mul_two_pow (n / 2 ^ i % 2) i i
    rw [this, decide_eq_true (Nat.le_refl i), Bool.true_and, Nat.sub_self, Nat.testBit_zero, Nat.testBit_eq_decide_div_mod_eq]
    congr 1; simp
  · rw [decide_eq_false c, Bool.and_false]
    rw [Nat.testBit_mul_two_pow]
    by_cases d : i ≤ j
    · rw [decide_eq_true d, Bool.true_and]
      symm
      apply Nat.testBit_lt_two_pow
      have h1 : n / 2 ^ i % 2 < 2 := Nat.mod_lt _ (by omega)
      have h2 : 2 ^ 1 ≤ 2 ^ (j - i) := Nat.pow_le_pow_right (by omega) (by omega)
      omega
    · rw [decide_eq_false d, Bool.false_and]

theorem and_sign (s : Bool) {m : Nat} (h : m < 9223372036854775808) : Go.bits .and .u64 ((flo s m : Nat) : Int) 9223372036854775808 = ((flo s 0 : Nat) : Int) := by
  have hb := flo_lt (s := s) h
  have := Go.u64_and_nat (flo s m) 9223372036854775808 hb (by omega)
  rw [show ((9223372036854775808 : Nat) : Int) = 9223372036854775808 by rfl] at this
  rw [this, show (9223372036854775808 : Nat) = 2 ^ 63 by decide, and_pow]
  unfold flo
  cases s
  · simp only [Bool.false_eq_true, if_false]
    rw [Nat.div_eq_of_lt (by omega)]
  · simp only [if_true]
    rw [show (9223372036854775808 + m) / 2 ^ 63 = 1 by omega]

theorem clear_exp_s (s : Bool) {M : Nat} (h : M < 9223372036854775808) : Go.bits .andNot .u64 ((flo s M : Nat) : Int) 9218868437227405312 = ((flo s (M % 4503599627370496) : Nat) : Int) := by
  have hb := flo_lt (s := s) h
  have := Go.u64_andNot_nat (flo s M) 9218868437227405312 hb (by omega)
  rw [show ((9218868437227405312 : Nat) : Int) = 9218868437227405312 by rfl] at this
  rw [this]
  congr 1
  have e : (18446744073709551615 - 9218868437227405312 : Nat) = 2 ^ 63 * 1 ||| (2 ^ 52 - 1) := by
    rw [← Nat.two_pow_add_eq_or_of_lt (by omega) 1]
  rw [e, Nat.and_or_distrib_left, Nat.and_two_pow_sub_one_eq_mod, Nat.mul_one, and_pow, ← e52]
  unfold flo
  cases s
  · simp only [Bool.false_eq_true, if_false]
    rw [Nat.div_eq_of_lt (by omega)]
    show 0 * 2 ^ 63 ||| _ = _
    rw [Nat.zero_mul, Nat.zero_or]
  · simp only [if_true]
    rw [show (9223372036854775808 + M) / 2 ^ 63 = 1 by omega]
    show 1 * 2 ^ 63 ||| _ = _
    have hm : (9223372036854775808 + M) % 4503599627370496 = M % 4503599627370496 := by omega
    rw [hm, Nat.mul_comm, ← Nat.two_pow_add_eq_or_of_lt (by omega) 1]

theorem set_exp_s (s : Bool) {m F : Nat} (h : m < 4503599627370496) (hF : F ≤ 2046) : Go.bits .or .u64 ((flo s m : Nat) : Int) ((4503599627370496 * F : Nat) : Int) = ((flo s (4503599627370496 * F + m) : Nat) : Int) := by
  have hb := flo_lt (s := s) (r := m) (by omega)
  have := Go.u64_or_nat (flo s m) (4503599627370496 * F) hb (by omega)
  rw [this]
  congr 1
  have e2 := Nat.two_pow_add_eq_or_of_lt (i := 52) (b := m) (by omega) F
  rw [show (2 : Nat) ^ 52 = 4503599627370496 by decide] at e2
  unfold flo
  cases s
  · simp only [Bool.false_eq_true, if_false]
    rw [Nat.or_comm, ← e2]
  · simp only [if_true]
    have e3 := Nat.two_pow_add_eq_or_of_lt (i := 63) (b := m) (by omega) 1
    have e4 := Nat.two_pow_add_eq_or_of_lt (i := 63) (b := 4503599627370496 * F + m) (by omega) 1
    rw [show (2 : Nat) ^ 63 * 1 = 9223372036854775808 by decide] at e3 e4
    rw [e4, e3, e2, Nat.or_assoc, Nat.or_comm m]

theorem get_exp_s (s : Bool) {M : Nat} (h : M < 9223372036854775808) : Go.bits .and .u64 (((flo s M : Nat) : Int) / 4503599627370496) 2047 = ((M / 4503599627370496 : Nat) : Int) := by
  have hb := flo_lt (s := s) h
  have := Go.u64_and_nat (flo s M / 4503599627370496) 2047 (by omega) (by omega)
  rw [show ((2047 : Nat) : Int) = 2047 by rfl, show ((flo s M / 4503599627370496 : Nat) : Int) = ((flo s M : Nat) : Int) / 4503599627370496 by omega] at this
  rw [this, show (2047 : Nat) = 2 ^ 11 - 1 by rfl, Nat.and_two_pow_sub_one_eq_mod]
  congr 1
  unfold flo
  cases s
  · simp only [Bool.false_eq_true, if_false]; omega
  · simp only [if_true]; omega

theorem flt_s (s : Bool) {M : Nat} (h0 : 0 < M) (h : M < inf) : (Ieee.double.order (flo s M) 0 == some .lt) = s := by
  have hi := inf_eq
  have h2 : M < 9223372036854775808 := by omega
  have := flt_fin (x := flo s M) (y := 0) (by rw [rung_flo h2]; exact h) (by decide)
  refine this.trans ?_
  rw [fv_flo h2]
  have hm : 0 < mag M := by have := mag_lt h0; rw [mag_zero] at this; exact this
  have z : fv 0 = 0 := by decide
  rw [z]
  unfold sm
  cases s
  · simp only [Bool.false_eq_true, if_false]; exact decide_eq_false (by omega)
  · simp only [if_true]; exact decide_eq_true (by omega)
end TV
namespace TV
set_option exponentiation.threshold 3000

/-- A whole number below 2^53 and a place: what Ldexp answers of it is just their product. -/
theorem ldR_int {r n g : Nat} {E : Int} (hm : mag r = n * 2 ^ 1074) (hn : n ≤ 9007199254740992) (hg : (g : Int) = E + 1074) (h : g = 0 ∨ 4503599627370496 ≤ n) : ldR r E = min (g * 4503599627370496 + n) inf := by
  unfold ldR ldN
  have e : mag r * 2 ^ E.toNat = mag (g * 4503599627370496 + n) * 2 ^ (-E).toNat := by
    rw [hm, mag_at h hn, Nat.mul_assoc, Nat.mul_assoc, ← Nat.pow_add, ← Nat.pow_add]
    congr 2; omega
  rw [e, rnd_exact]

/-- A whole number up to 2^53 as a float. -/
theorem flt_nat {n : Nat} (h1 : 1 ≤ n) (hn : n ≤ 9007199254740992) : ∃ r, Ieee.double.write (.number false n 0) = r ∧ mag r = n * 2 ^ 1074 ∧ 0 < r ∧ r < inf := by
  obtain ⟨k, q, hq1, hq2, hk1, hk, he⟩ : ∃ k q : Nat, 4503599627370496 ≤ q ∧ q ≤ 9007199254740992 ∧ 1 ≤ k ∧ k ≤ 1074 ∧ n * 2 ^ 1074 = q * 2 ^ k := by
    by_cases c : 4503599627370496 ≤ n
    · exact ⟨1074, n, c, hn, by omega, Nat.le_refl _, rfl⟩
    · have hl : n.log2 < 52 := (Nat.log2_lt (by omega)).2 (by rw [← e52]; omega)
      have g1 : 2 ^ n.log2 ≤ n := Nat.log2_self_le (by omega)
      have g2 : n < 2 ^ (n.log2 + 1) := Nat.lt_log2_self
      have g3 : 2 ^ n.log2 * 2 ^ (52 - n.log2) = 4503599627370496 := by rw [← Nat.pow_add, e52]; congr 1; omega
      have g4 : 2 ^ (n.log2 + 1) * 2 ^ (52 - n.log2) = 9007199254740992 := by rw [← Nat.pow_add, e53]; congr 1; omega
      refine ⟨1022 + n.log2, n * 2 ^ (52 - n.log2), ?_, ?_, by omega, by omega, ?_⟩
      · rw [← g3]; exact Nat.mul_le_mul_right _ g1
      · rw [← g4]; exact Nat.mul_le_mul_right _ (Nat.le_of_lt g2)
      · rw [Nat.mul_assoc, ← Nat.pow_add]; congr 2; omega
  have hM : mag (k * 4503599627370496 + q) = n * 2 ^ 1074 := by rw [mag_at (Or.inr hq1) hq2, he]
  refine ⟨k * 4503599627370496 + q, ?_, hM, by omega, by rw [inf_eq]; omega⟩
  rw [write_num _ _ _ (by omega)]
  rw [show ((0 : Int) + 1074).toNat = 1074 by decide, ← hM, rnd_exact0, Nat.min_eq_left (by rw [inf_eq]; omega)]
  rfl

/-- The nearest float of M 2^(low-c), where M has its highest bit at c + 63. -/
theorem W.float_near {m c t g : Nat} {low : Int} (h1 : 2 ^ (c + 63) ≤ m) (h2 : m < 2 ^ (c + 64)) (ht : (t : Int) = max 11 (-1074 - low)) (hg : (g : Int) = low + t + 1074) :
    RndQ ((m : Rat) * (2 : Rat) ^ (low - c)) (min (g * 4503599627370496 + cutE m (c + t)) inf) := by
  obtain ⟨s, hs⟩ : ∃ s : Nat, s = (low + 1074 - c).toNat := ⟨_, rfl⟩
  obtain ⟨u, hu⟩ : ∃ u : Nat, (u : Int) = s + c - low - 1074 := ⟨(s + c - low - 1074).toNat, by omega⟩
  have hm0 : m ≠ 0 := by have := Nat.two_pow_pos (c + 63); omega
  have hlog : m.log2 = c + 63 := by
    apply Nat.le_antisymm
    · have := (Nat.log2_lt (k := c + 64) hm0).2 h2; omega
    · exact (Nat.le_log2 hm0).2 h1
  have hn := near_q (near_rnd u (m * 2 ^ s))
  have e1 : rndAt u (m * 2 ^ s) = g * 4503599627370496 + cutE m (c + t) := by
    unfold rndAt
    rw [log2_mul_pow m s hm0, hlog]
    have e : max (c + 63 + s - 52) u = (c + t) + s := by omega
    rw [e, cutE_scale]
    congr 2; omega
  have e2 : ((m * 2 ^ s : Nat) : Rat) * (2 : Rat) ^ (-1074 - (u : Int)) = (m : Rat) * (2 : Rat) ^ (low - c) := by
    rw [Rat.natCast_mul, ← two_zpow_nat, Rat.mul_assoc, ← two_zpow_add]
    congr 2; omega
  rw [e1, e2] at hn
  exact hn

/-- The bits that stay, with those that go. -/
theorem W.float_cut {m c t U : Nat} (hU : U = m / 2 ^ c) (ht : 1 ≤ t) :
    cutE m (c + t) = U / 2 ^ t + (if 2 ^ (t - 1) < U % 2 ^ t ∨ (U % 2 ^ t = 2 ^ (t - 1) ∧ (m % 2 ^ c ≠ 0 ∨ U / 2 ^ t % 2 = 1)) then 1 else 0) := by
  unfold cutE
  have e1 : m / 2 ^ (c + t) = U / 2 ^ t := by rw [hU, Nat.pow_add, Nat.div_div_eq_div_mul]
  obtain ⟨R, hR⟩ : ∃ R, R = m % 2 ^ c := ⟨_, rfl⟩
  obtain ⟨P, hP⟩ : ∃ P, P = 2 ^ c := ⟨_, rfl⟩
  have hP0 : 0 < P := by rw [hP]; exact Nat.two_pow_pos _
  have hRP : R < P := by rw [hR, hP]; exact Nat.mod_lt _ (Nat.two_pow_pos _)
  have e2 : m % 2 ^ (c + t) = P * (U % 2 ^ t) + R := by
    rw [Nat.pow_add, Nat.mod_mul, ← hU, ← hR, ← hP, Nat.add_comm]
  obtain ⟨H, hH⟩ : ∃ H, H = 2 ^ (t - 1) := ⟨_, rfl⟩
  have e3 : 2 ^ (c + t) = P * H * 2 := by
    rw [hP, hH, Nat.mul_assoc, ← Nat.pow_succ, ← Nat.pow_add]; congr 1; omega
  rw [e1, e2, e3, ← hR, ← hH]
  obtain ⟨G, hG⟩ : ∃ G, G = U % 2 ^ t := ⟨_, rfl⟩
  obtain ⟨K, hK⟩ : ∃ K, K = U / 2 ^ t := ⟨_, rfl⟩
  rw [← hG, ← hK]
  congr 1
  have hiff : (P * H * 2 < 2 * (P * G + R) ∨ P * H * 2 = 2 * (P * G + R) ∧ K % 2 = 1) ↔ (H < G ∨ G = H ∧ (R ≠ 0 ∨ K % 2 = 1)) := by
    rcases Nat.lt_trichotomy H G with c1 | c1 | c1
    · have : P * (H + 1) ≤ P * G := Nat.mul_le_mul_left _ c1
      rw [Nat.mul_add, Nat.mul_one] at this
      exact ⟨fun _ => Or.inl c1, fun _ => Or.inl (by omega)⟩
    · subst c1
      by_cases hR0 : R = 0
      · subst hR0
        constructor
        · rintro (h | ⟨-, h⟩)
          · omega
          · exact Or.inr ⟨rfl, Or.inr h⟩
        · rintro (h | ⟨-, h | h⟩)
          · omega
          · exact absurd rfl h
          · exact Or.inr ⟨by omega, h⟩
      · exact ⟨fun _ => Or.inr ⟨rfl, Or.inl hR0⟩, fun _ => Or.inl (by omega)⟩
    · have : P * (G + 1) ≤ P * H := Nat.mul_le_mul_left _ c1
      rw [Nat.mul_add, Nat.mul_one] at this
      constructor
      · rintro (h | ⟨h, -⟩) <;> omega
      · rintro (h | ⟨h, -⟩) <;> omega
  simp only [hiff]

theorem W.float_far {m c t : Nat} (h : m < 2 ^ (c + 64)) (ht : 65 ≤ t) : cutE m (c + t) = 0 := by
  unfold cutE
  have h1 : 2 ^ (c + 65) ≤ 2 ^ (c + t) := Nat.pow_le_pow_right (by omega) (by omega)
  have h2 : 2 ^ (c + 65) = 2 ^ (c + 64) * 2 := by rw [← Nat.pow_succ]
  rw [Nat.div_eq_of_lt (by omega), Nat.mod_eq_of_lt (by omega), if_neg (by omega)]

/-- The bits that stay are at most 53. -/
theorem W.cut_bound {m c t : Nat} (h2 : m < 2 ^ (c + 64)) (ht : 11 ≤ t) : cutE m (c + t) ≤ 9007199254740992 := by
  have h3 : m / 2 ^ (c + t) < 9007199254740992 := by
    apply Nat.div_lt_of_lt_mul
    refine Nat.lt_of_lt_of_le h2 ?_
    rw [e53, ← Nat.pow_add]
    exact Nat.pow_le_pow_right (by omega) (by omega)
  unfold cutE
  split <;> omega
theorem W.cut_low {m c : Nat} (h1 : 2 ^ (c + 63) ≤ m) : 4503599627370496 ≤ cutE m (c + 11) := by
  have h3 : 4503599627370496 ≤ m / 2 ^ (c + 11) := by
    rw [Nat.le_div_iff_mul_le (Nat.two_pow_pos _), e52, ← Nat.pow_add]
    refine Nat.le_trans (Nat.pow_le_pow_right (by omega) (by omega)) h1
  unfold cutE
  omega
end TV
end
