/- Rungs of floats: the magnitudes that a double has, numbered upwards without end; rounding to the nearest rung. Plain numbers, no program. -/
import Ieee.Arith
namespace TV

/-- The magnitude at a rung, in units of 2^-1074. -/
def mag (r : Nat) : Nat := if r < 4503599627370496 then r else (4503599627370496 + r % 4503599627370496) * 2 ^ (r / 4503599627370496 - 1)

theorem mag_succ (r : Nat) : mag (r + 1) = mag r + 2 ^ (r / 4503599627370496 - 1) := by
  unfold mag
  by_cases h : r + 1 < 4503599627370496
  · have : r / 4503599627370496 = 0 := by omega
    rw [if_pos h, if_pos (by omega), this]
  · rw [if_neg h]
    by_cases h2 : r < 4503599627370496
    · have h3 : r = 4503599627370495 := by omega
      subst h3; rfl
    · rw [if_neg h2]
      by_cases h4 : r % 4503599627370496 = 4503599627370495
      · have e1 : (r + 1) % 4503599627370496 = 0 := by omega
        have e2 : (r + 1) / 4503599627370496 - 1 = (r / 4503599627370496 - 1) + 1 := by omega
        rw [e1, e2, h4, Nat.pow_succ]
        generalize 2 ^ (r / 4503599627370496 - 1) = p
        omega
      · have e1 : (r + 1) % 4503599627370496 = r % 4503599627370496 + 1 := by omega
        have e2 : (r + 1) / 4503599627370496 = r / 4503599627370496 := by omega
        rw [e1, e2, ← Nat.add_assoc, Nat.add_mul _ 1, Nat.one_mul]

theorem mag_lt_succ (r : Nat) : mag r < mag (r + 1) := by
  rw [mag_succ]; have := Nat.two_pow_pos (r / 4503599627370496 - 1); omega

theorem mag_lt {r s : Nat} (h : r < s) : mag r < mag s := by
  induction s with
  | zero => omega
  | succ s ih =>
    by_cases e : r = s
    · subst e; exact mag_lt_succ r
    · exact Nat.lt_trans (ih (by omega)) (mag_lt_succ s)

theorem mag_le {r s : Nat} (h : r ≤ s) : mag r ≤ mag s := by
  by_cases e : r = s
  · rw [e]; exact Nat.le_refl _
  · exact Nat.le_of_lt (mag_lt (by omega))

theorem mag_inj {r s : Nat} (h : mag r = mag s) : r = s := by
  by_cases a : r < s
  · have := mag_lt a; omega
  · by_cases b : s < r
    · have := mag_lt b; omega
    · omega

theorem lt_of_mag {r s : Nat} (h : mag r < mag s) : r < s := by
  by_cases a : r < s
  · exact a
  · have := mag_le (Nat.le_of_not_lt a); omega

theorem le_of_mag {r s : Nat} (h : mag r ≤ mag s) : r ≤ s := by
  by_cases a : r ≤ s
  · exact a
  · have := mag_lt (Nat.lt_of_not_le a); omega

theorem mag_zero : mag 0 = 0 := rfl
theorem mag_small {r : Nat} (h : r ≤ 9007199254740992) : mag r = r := by
  unfold mag
  by_cases a : r < 4503599627370496
  · rw [if_pos a]
  · rw [if_neg a]
    by_cases b : r = 9007199254740992
    · subst b; rfl
    · have e1 : r / 4503599627370496 - 1 = 0 := by omega
      rw [e1]; omega

theorem e52 : (4503599627370496 : Nat) = 2 ^ 52 := by decide
theorem e53 : (9007199254740992 : Nat) = 2 ^ 53 := by decide

theorem mag_at {k q : Nat} (h : k = 0 ∨ 4503599627370496 ≤ q) (hq : q ≤ 9007199254740992) : mag (k * 4503599627370496 + q) = q * 2 ^ k := by
  by_cases h0 : k = 0
  · subst h0; simp [mag_small hq]
  · have h1 : 4503599627370496 ≤ q := by omega
    unfold mag
    rw [if_neg (by omega)]
    by_cases b : q = 9007199254740992
    · subst b
      have e1 : (k * 4503599627370496 + 9007199254740992) % 4503599627370496 = 0 := by omega
      have e2 : (k * 4503599627370496 + 9007199254740992) / 4503599627370496 - 1 = k + 1 := by omega
      rw [e1, e2, Nat.pow_succ]; omega
    · have e1 : (k * 4503599627370496 + q) % 4503599627370496 = q - 4503599627370496 := by omega
      have e2 : (k * 4503599627370496 + q) / 4503599627370496 - 1 = k := by omega
      rw [e1, e2, show 4503599627370496 + (q - 4503599627370496) = q by omega]

/-- 'n / 2^e' to the nearest, ties to even. -/
def cutE (n e : Nat) : Nat := n / 2 ^ e + (if 2 ^ e < 2 * (n % 2 ^ e) ∨ (2 ^ e = 2 * (n % 2 ^ e) ∧ n / 2 ^ e % 2 = 1) then 1 else 0)

/-- The rung nearest to N / 2^u units. -/
def rndAt (u N : Nat) : Nat := (max (N.log2 - 52) u - u) * 4503599627370496 + cutE N (max (N.log2 - 52) u)

/-- 'r' is the rung nearest to N / 2^u units, the even one of two. -/
def Near (u N r : Nat) : Prop :=
  (2 * N ≤ (mag r + mag (r + 1)) * 2 ^ u ∧ (2 * N = (mag r + mag (r + 1)) * 2 ^ u → r % 2 = 0)) ∧
  (∀ s, r = s + 1 → (mag s + mag r) * 2 ^ u ≤ 2 * N ∧ ((mag s + mag r) * 2 ^ u = 2 * N → r % 2 = 0))

theorem rnd_parts (u N : Nat) : ∃ e q, e = max (N.log2 - 52) u ∧ q = N / 2 ^ e ∧ u ≤ e ∧ q < 9007199254740992 ∧ (e - u = 0 ∨ 4503599627370496 ≤ q) := by
  refine ⟨_, _, rfl, rfl, by omega, ?_, ?_⟩
  · apply Nat.div_lt_of_lt_mul
    have h : N < 2 ^ (N.log2 + 1) := Nat.lt_log2_self
    refine Nat.lt_of_lt_of_le h ?_
    rw [e53, ← Nat.pow_add]
    exact Nat.pow_le_pow_right (by omega) (by omega)
  · by_cases h : N.log2 - 52 ≤ u
    · left; omega
    · right
      have e1 : max (N.log2 - 52) u = N.log2 - 52 := by omega
      rw [e1, Nat.le_div_iff_mul_le (Nat.two_pow_pos _)]
      rw [e52, ← Nat.pow_add]
      rw [show 52 + (N.log2 - 52) = N.log2 by omega]
      exact Nat.log2_self_le (by intro h0; subst h0; simp at h)

theorem near_rnd (u N : Nat) : Near u N (rndAt u N) := by
  obtain ⟨e, q, he, hq, hu, hq53, hcase⟩ := rnd_parts u N
  obtain ⟨r0, hr0⟩ : ∃ r0, r0 = (e - u) * 4503599627370496 + q := ⟨_, rfl⟩
  have hr : rndAt u N = r0 + (if 2 ^ e < 2 * (N % 2 ^ e) ∨ (2 ^ e = 2 * (N % 2 ^ e) ∧ q % 2 = 1) then 1 else 0) := by
    unfold rndAt cutE; rw [← he, ← hq, hr0, Nat.add_assoc]
  have hm0 : mag r0 * 2 ^ u = q * 2 ^ e := by
    rw [hr0, mag_at hcase (by omega), Nat.mul_assoc, ← Nat.pow_add]; congr 2; omega
  have hm1 : mag (r0 + 1) * 2 ^ u = (q + 1) * 2 ^ e := by
    rw [hr0, Nat.add_assoc, mag_at (by omega) (by omega), Nat.mul_assoc, ← Nat.pow_add]; congr 2; omega
  have hd : q * 2 ^ e + N % 2 ^ e = N := by rw [hq, Nat.mul_comm]; exact Nat.div_add_mod N _
  have hlt : N % 2 ^ e < 2 ^ e := Nat.mod_lt _ (Nat.two_pow_pos _)
  have hpar : r0 % 2 = q % 2 := by omega
  rw [hr]
  clear hr0
  rw [Nat.add_mul, Nat.one_mul] at hm1
  generalize hrest : N % 2 ^ e = rest at hd hlt
  generalize hp : 2 ^ e = p at hd hlt hm0 hm1
  generalize hqp : q * p = qp at hd hm0 hm1
  split
  · rename_i hup
    have hs := Nat.mul_lt_mul_of_pos_right (mag_lt_succ (r0 + 1)) (Nat.two_pow_pos u)
    refine ⟨⟨?_, ?_⟩, ?_⟩
    · rw [Nat.add_mul]; omega
    · rw [Nat.add_mul]; omega
    · intro s hs'
      obtain rfl : s = r0 := by omega
      rw [Nat.add_mul]
      refine ⟨by omega, by omega⟩
  · rename_i hup
    refine ⟨⟨?_, ?_⟩, ?_⟩
    · simp only [Nat.add_zero]; rw [Nat.add_mul]; omega
    · simp only [Nat.add_zero]; rw [Nat.add_mul]; omega
    · intro s hs'
      simp only [Nat.add_zero] at hs' ⊢
      have hs := Nat.mul_lt_mul_of_pos_right (mag_lt_succ s) (Nat.two_pow_pos u)
      rw [← hs'] at hs
      rw [Nat.add_mul]
      refine ⟨by omega, by omega⟩

theorem near_le {u N M r s : Nat} (h : Near u N r) (h' : Near u M s) (hNM : N ≤ M) : r ≤ s := by
  apply Nat.le_of_not_lt
  intro hlt
  obtain ⟨r', rfl⟩ : ∃ r', r = r' + 1 := ⟨r - 1, by omega⟩
  obtain ⟨h1, h2⟩ := h.2 r' rfl
  obtain ⟨h3, h4⟩ := h'.1
  have m1 : mag s ≤ mag r' := mag_le (by omega)
  have m2 : mag (s + 1) ≤ mag (r' + 1) := mag_le (by omega)
  have m3 : (mag s + mag (s + 1)) * 2 ^ u ≤ (mag r' + mag (r' + 1)) * 2 ^ u := Nat.mul_le_mul_right _ (by omega)
  have e1 : (mag s + mag (s + 1)) * 2 ^ u = (mag r' + mag (r' + 1)) * 2 ^ u := by omega
  have e2 := Nat.eq_of_mul_eq_mul_right (Nat.two_pow_pos u) e1
  have e3 : s = r' := mag_inj (by omega)
  subst e3
  have := h2 (by omega)
  have := h4 (by omega)
  omega

theorem near_unique {u N r s : Nat} (h : Near u N r) (h' : Near u N s) : r = s :=
  Nat.le_antisymm (near_le h h' (Nat.le_refl _)) (near_le h' h (Nat.le_refl _))

theorem rnd_of_near {u N r : Nat} (h : Near u N r) : rndAt u N = r := near_unique (near_rnd u N) h

theorem rnd_mono {u N M : Nat} (h : N ≤ M) : rndAt u N ≤ rndAt u M := near_le (near_rnd _ _) (near_rnd _ _) h

theorem near_exact (u s : Nat) : Near u (mag s * 2 ^ u) s := by
  have h1 := Nat.mul_lt_mul_of_pos_right (mag_lt_succ s) (Nat.two_pow_pos u)
  refine ⟨⟨by rw [Nat.add_mul]; omega, by rw [Nat.add_mul]; omega⟩, ?_⟩
  intro t ht
  have h2 := Nat.mul_lt_mul_of_pos_right (mag_lt_succ t) (Nat.two_pow_pos u)
  rw [← ht] at h2
  rw [Nat.add_mul]
  exact ⟨by omega, by omega⟩

theorem rnd_exact (u s : Nat) : rndAt u (mag s * 2 ^ u) = s := rnd_of_near (near_exact u s)
theorem rnd_exact0 (s : Nat) : rndAt 0 (mag s) = s := by have := rnd_exact 0 s; simpa using this

theorem rnd_scale (u N k : Nat) : rndAt (u + k) (N * 2 ^ k) = rndAt u N := by
  apply rnd_of_near
  obtain ⟨⟨h1, h2⟩, h3⟩ := near_rnd u N
  have hp := Nat.two_pow_pos k
  refine ⟨⟨?_, ?_⟩, ?_⟩
  · rw [Nat.pow_add, ← Nat.mul_assoc, ← Nat.mul_assoc]; exact Nat.mul_le_mul_right _ h1
  · rw [Nat.pow_add, ← Nat.mul_assoc, ← Nat.mul_assoc]; intro h; exact h2 (Nat.eq_of_mul_eq_mul_right hp h)
  · intro s hs
    obtain ⟨h4, h5⟩ := h3 s hs
    rw [Nat.pow_add, ← Nat.mul_assoc, ← Nat.mul_assoc]
    exact ⟨Nat.mul_le_mul_right _ h4, fun h => h5 (Nat.eq_of_mul_eq_mul_right hp h)⟩

theorem cutE_scale (a e t : Nat) : cutE (a * 2 ^ t) (e + t) = cutE a e := by
  unfold cutE
  have hp := Nat.two_pow_pos t
  rw [Nat.pow_add, Nat.mul_div_mul_right _ _ hp, Nat.mul_mod_mul_right]
  have h1 : (2 ^ e * 2 ^ t < 2 * (a % 2 ^ e * 2 ^ t)) ↔ (2 ^ e < 2 * (a % 2 ^ e)) := by
    rw [← Nat.mul_assoc]; exact ⟨fun h => Nat.lt_of_mul_lt_mul_right h, fun h => Nat.mul_lt_mul_of_pos_right h hp⟩
  have h2 : (2 ^ e * 2 ^ t = 2 * (a % 2 ^ e * 2 ^ t)) ↔ (2 ^ e = 2 * (a % 2 ^ e)) := by
    rw [← Nat.mul_assoc]; exact ⟨fun h => Nat.eq_of_mul_eq_mul_right hp h, fun h => congrArg (· * 2 ^ t) h⟩
  simp only [h1, h2]

theorem cutE_zero (a : Nat) : cutE a 0 = a := by
  unfold cutE; rw [Nat.pow_zero, Nat.div_one, Nat.mod_one, if_neg (by omega)]; omega

theorem cut_even (neg : Bool) (n drop : Nat) : Ieee.Toward.even.cut neg n drop = cutE n drop := by
  unfold Ieee.Toward.cut cutE
  simp only [Nat.one_shiftLeft]
  by_cases h : drop ≤ n.log2 + 2
  · rw [Nat.min_eq_left h]
    congr 1
    by_cases a : 2 ^ drop < 2 * (n % 2 ^ drop)
    · simp [a]
    · by_cases b : 2 ^ drop = 2 * (n % 2 ^ drop)
      · by_cases c : n / 2 ^ drop % 2 = 1 <;> simp [← b, c]
      · simp [a, b]
  · rw [Nat.min_eq_right (by omega)]
    have hn : n < 2 ^ (n.log2 + 1) := Nat.lt_log2_self
    have h2 : 2 ^ (n.log2 + 2) = 2 * 2 ^ (n.log2 + 1) := by rw [Nat.pow_succ, Nat.mul_comm]
    have h3 : 2 ^ (n.log2 + 2) ≤ 2 ^ drop := Nat.pow_le_pow_right (by omega) (by omega)
    rw [Nat.div_eq_of_lt (show n < 2 ^ (n.log2 + 2) by omega), Nat.mod_eq_of_lt (show n < 2 ^ (n.log2 + 2) by omega),
      Nat.div_eq_of_lt (show n < 2 ^ drop by omega), Nat.mod_eq_of_lt (show n < 2 ^ drop by omega), if_neg (by omega)]
    have a : ¬ 2 ^ (n.log2 + 2) < 2 * n := by omega
    have b : ¬ 2 ^ (n.log2 + 2) = 2 * n := by omega
    simp [a]

theorem log2_mul_pow (m t : Nat) (h : m ≠ 0) : (m * 2 ^ t).log2 = m.log2 + t := by
  have h1 := Nat.log2_self_le h
  have h2 : m < 2 ^ (m.log2 + 1) := Nat.lt_log2_self
  have hp := Nat.two_pow_pos t
  rw [Nat.log2_eq_iff (by have := Nat.mul_pos (Nat.pos_of_ne_zero h) hp; omega)]
  refine ⟨?_, ?_⟩
  · rw [Nat.pow_add]; exact Nat.mul_le_mul_right _ h1
  · rw [show m.log2 + t + 1 = (m.log2 + 1) + t by omega, Nat.pow_add]; exact Nat.mul_lt_mul_of_pos_right h2 hp

theorem leastPlace_double : Ieee.double.leastPlace = -1074 := by decide
theorem binade_double : Ieee.double.binade = 4503599627370496 := by decide
theorem infRung_double : Ieee.double.infRung = 9218868437227405312 := by decide
theorem signWeight_double : Ieee.double.signWeight = 9223372036854775808 := by decide

theorem nearest_eq (neg : Bool) (m u : Nat) (place : Int) (h : 0 ≤ place + 1074 + u) :
    Ieee.double.nearest neg m place = Ieee.double.word neg (min (rndAt u (m * 2 ^ (place + 1074 + u).toNat)) 9218868437227405312) := by
  unfold Ieee.Format.nearest
  by_cases h0 : m = 0
  · subst h0; simp [rndAt, cutE]
  · rw [if_neg h0]
    simp only [leastPlace_double, binade_double, infRung_double, show Ieee.double.fractionBits = 52 from rfl]
    refine congrArg (fun z => Ieee.double.word neg (min z 9218868437227405312)) ?_
    obtain ⟨t, ht⟩ : ∃ t : Nat, place + 1074 + u = t := ⟨_, (Int.toNat_of_nonneg h).symm⟩
    rw [ht, Int.toNat_natCast]
    unfold rndAt
    rw [log2_mul_pow m t h0]
    generalize hl : m.log2 = l
    obtain ⟨e, he⟩ : ∃ e, e = max (l + t - 52) u := ⟨_, rfl⟩
    rw [← he]
    have hlast : max (place + ↑l - ↑(52:Nat)) (-1074) = (e : Int) - 1074 - u := by omega
    rw [hlast]
    have e1 : ((e : Int) - 1074 - u - -1074).toNat = e - u := by omega
    rw [e1]
    congr 1
    rw [cut_even, Nat.shiftLeft_eq]
    by_cases hc : e ≤ t
    · have e2 : (place - ((e : Int) - 1074 - u)).toNat = t - e := by omega
      have e3 : ((e : Int) - 1074 - u - place).toNat = 0 := by omega
      rw [e2, e3, cutE_zero]
      have := cutE_scale (m * 2 ^ (t - e)) 0 e
      rw [cutE_zero, Nat.zero_add, Nat.mul_assoc, ← Nat.pow_add, show t - e + e = t by omega] at this
      exact this.symm
    · have e2 : (place - ((e : Int) - 1074 - u)).toNat = 0 := by omega
      have e3 : ((e : Int) - 1074 - u - place).toNat = e - t := by omega
      rw [e2, e3, Nat.pow_zero, Nat.mul_one]
      have := cutE_scale m (e - t) t
      rw [show e - t + t = e by omega] at this
      exact this.symm

/-! The bits of doubles: sign, rung, value in units of 2^-1074. -/
def inf : Nat := 9218868437227405312
def sgn (b : Nat) : Bool := b / 9223372036854775808 % 2 == 1
def rung (b : Nat) : Nat := b % 9223372036854775808
def sm (s : Bool) (n : Nat) : Int := if s then -(n : Int) else n
def fv (b : Nat) : Int := sm (sgn b) (mag (rung b))
def flo (s : Bool) (r : Nat) : Nat := if s then 9223372036854775808 + r else r

theorem word_flo (s : Bool) (r : Nat) : Ieee.double.word s r = flo s r := by
  unfold Ieee.Format.word flo; rw [signWeight_double]

theorem sgn_flo {s : Bool} {r : Nat} (h : r < 9223372036854775808) : sgn (flo s r) = s := by
  unfold sgn flo; cases s
  · simp only [Bool.false_eq_true, if_false]; rw [Nat.div_eq_of_lt h]; rfl
  · simp only [if_true]
    have : (9223372036854775808 + r) / 9223372036854775808 % 2 = 1 := by omega
    rw [this]; rfl
theorem rung_flo {s : Bool} {r : Nat} (h : r < 9223372036854775808) : rung (flo s r) = r := by
  unfold rung flo; cases s <;> simp only [Bool.false_eq_true, if_false, if_true] <;> omega
theorem flo_lt {s : Bool} {r : Nat} (h : r < 9223372036854775808) : flo s r < 18446744073709551616 := by
  unfold flo; split <;> omega
theorem fv_flo {s : Bool} {r : Nat} (h : r < 9223372036854775808) : fv (flo s r) = sm s (mag r) := by
  unfold fv; rw [sgn_flo h, rung_flo h]
theorem flo_eta {b : Nat} (h : b < 18446744073709551616) : flo (sgn b) (rung b) = b := by
  unfold flo sgn rung
  by_cases c : b / 9223372036854775808 % 2 = 1
  · rw [c]; simp only [beq_self_eq_true, if_true]; omega
  · rw [if_neg (by simpa using c)]; omega
theorem inf_lt : inf < 9223372036854775808 := by decide
theorem min_inf_lt (r : Nat) : min r inf < 9223372036854775808 := by have := inf_lt; omega

theorem sm_natAbs (s : Bool) (n : Nat) : (sm s n).natAbs = n := by unfold sm; cases s <;> simp
theorem fv_natAbs (b : Nat) : (fv b).natAbs = mag (rung b) := sm_natAbs _ _

theorem signed_mul (s : Bool) (m t k : Nat) : Ieee.signed s m t * ((2 ^ k : Nat) : Int) = sm s (m * 2 ^ (t + k)) := by
  unfold Ieee.signed sm
  simp only [Nat.shiftLeft_eq]
  rw [Nat.pow_add, ← Nat.mul_assoc]
  cases s <;> simp [Int.neg_mul]

theorem read_fin {b : Nat} (h : rung b < inf) : ∃ m, ∃ k : Nat, Ieee.double.read b = .number (sgn b) m (-1074 + (k : Int)) ∧ m * 2 ^ k = mag (rung b) := by
  unfold Ieee.Format.read
  simp only [signWeight_double, binade_double, infRung_double, leastPlace_double]
  change b % 9223372036854775808 < 9218868437227405312 at h
  unfold mag rung
  by_cases c : b % 9223372036854775808 < 4503599627370496
  · rw [if_pos c, if_pos c]
    exact ⟨b % 9223372036854775808, 0, by simp [sgn], by simp⟩
  · rw [if_neg c, if_neg c, if_pos h]
    exact ⟨_, _, rfl, rfl⟩

theorem read_inf {b : Nat} (h : rung b = inf) : Ieee.double.read b = .infinity (sgn b) := by
  unfold Ieee.Format.read
  simp only [signWeight_double, binade_double, infRung_double, leastPlace_double]
  change b % 9223372036854775808 = 9218868437227405312 at h
  rw [h]; rfl

theorem read_nan {b : Nat} (h : inf < rung b) : ∃ n, Ieee.double.read b = .nan (sgn b) n := by
  unfold Ieee.Format.read
  simp only [signWeight_double, binade_double, infRung_double, leastPlace_double]
  change 9218868437227405312 < b % 9223372036854775808 at h
  rw [if_neg (by omega), if_neg (by omega), if_neg (by omega)]
  exact ⟨_, rfl⟩

theorem sum_write (s t : Bool) (m n i j : Nat) :
    (Ieee.Datum.sum (.number s m (-1074 + (i : Int))) (.number t n (-1074 + (j : Int)))).map Ieee.double.write =
      some (flo (if sm s (m * 2 ^ i) + sm t (n * 2 ^ j) = 0 then s && t else decide (sm s (m * 2 ^ i) + sm t (n * 2 ^ j) < 0))
        (min (rndAt 0 (sm s (m * 2 ^ i) + sm t (n * 2 ^ j)).natAbs) inf)) := by
  unfold Ieee.Datum.sum
  simp only [Option.map_some]
  unfold Ieee.Format.write
  simp only
  obtain ⟨k, hk⟩ : ∃ k : Nat, min (-1074 + (i : Int)) (-1074 + (j : Int)) = -1074 + k := ⟨min i j, by omega⟩
  have hki : k ≤ i := by omega
  have hkj : k ≤ j := by omega
  rw [hk]
  have e1 : ((-1074 + (i : Int)) - (-1074 + (k : Int))).toNat = i - k := by omega
  have e2 : ((-1074 + (j : Int)) - (-1074 + (k : Int))).toNat = j - k := by omega
  rw [e1, e2, nearest_eq _ _ 0 _ (by omega)]
  have e3 : (-1074 + (k : Int) + 1074 + ((0 : Nat) : Int)).toNat = k := by omega
  rw [e3, word_flo]
  have h1 := signed_mul s m (i - k) k
  have h2 := signed_mul t n (j - k) k
  rw [show i - k + k = i by omega] at h1
  rw [show j - k + k = j by omega] at h2
  rw [← h1, ← h2, ← Int.add_mul]
  generalize Ieee.signed s m (i - k) + Ieee.signed t n (j - k) = T
  have hp : (0 : Int) < ((2 ^ k : Nat) : Int) := by exact_mod_cast Nat.two_pow_pos k
  rw [Int.natAbs_mul, Int.natAbs_natCast]
  have z1 : T * ((2 ^ k : Nat) : Int) = 0 ↔ T = 0 := by
    constructor
    · intro h; rcases Int.mul_eq_zero.1 h with h | h
      · exact h
      · omega
    · intro h; rw [h, Int.zero_mul]
  have z2 : T * ((2 ^ k : Nat) : Int) < 0 ↔ T < 0 := by
    constructor
    · intro h; apply Int.lt_of_not_ge; intro h'; have := Int.mul_nonneg h' (Int.le_of_lt hp); omega
    · intro h; exact Int.mul_neg_of_neg_of_pos h hp
  simp only [z1, z2]
  by_cases c : T = 0 <;> simp [c, inf]

theorem add_fin {x y : Nat} (hx : rung x < inf) (hy : rung y < inf) :
    Ieee.double.add x y = some (flo (if fv x + fv y = 0 then sgn x && sgn y else decide (fv x + fv y < 0)) (min (rndAt 0 (fv x + fv y).natAbs) inf)) := by
  obtain ⟨m, i, h1, h2⟩ := read_fin hx
  obtain ⟨n, j, h3, h4⟩ := read_fin hy
  unfold Ieee.Format.add fv
  rw [h1, h3, sum_write, h2, h4]

theorem sub_fin {x y : Nat} (hx : rung x < inf) (hy : rung y < inf) :
    Ieee.double.sub x y = some (flo (if fv x - fv y = 0 then sgn x && !sgn y else decide (fv x - fv y < 0)) (min (rndAt 0 (fv x - fv y).natAbs) inf)) := by
  obtain ⟨m, i, h1, h2⟩ := read_fin hx
  obtain ⟨n, j, h3, h4⟩ := read_fin hy
  unfold Ieee.Format.sub
  rw [h1, h3]
  unfold Ieee.Datum.opposite
  simp only
  rw [sum_write, h2, h4]
  have e : sm (!sgn y) (mag (rung y)) = - fv y := by unfold fv sm; cases sgn y <;> simp
  rw [e, ← Int.sub_eq_add_neg]
  rfl

theorem mul_fin {x y : Nat} (hx : rung x < inf) (hy : rung y < inf) :
    Ieee.double.mul x y = some (flo (sgn x ^^ sgn y) (min (rndAt 1074 (mag (rung x) * mag (rung y))) inf)) := by
  obtain ⟨m, i, h1, h2⟩ := read_fin hx
  obtain ⟨n, j, h3, h4⟩ := read_fin hy
  unfold Ieee.Format.mul
  rw [h1, h3]
  unfold Ieee.Datum.product
  simp only [Option.map_some]
  unfold Ieee.Format.write
  simp only
  rw [nearest_eq _ _ 1074 _ (by omega), word_flo]
  have e3 : (-1074 + (i : Int) + (-1074 + (j : Int)) + 1074 + ((1074 : Nat) : Int)).toNat = i + j := by omega
  rw [e3, ← h2, ← h4, Nat.pow_add]
  rw [show m * n * (2 ^ i * 2 ^ j) = m * 2 ^ i * (n * 2 ^ j) by ac_rfl]
  rfl

theorem order_fin {x y : Nat} (hx : rung x < inf) (hy : rung y < inf) : Ieee.double.order x y = some (compare (fv x) (fv y)) := by
  obtain ⟨m, i, h1, h2⟩ := read_fin hx
  obtain ⟨n, j, h3, h4⟩ := read_fin hy
  unfold Ieee.Format.order
  rw [h1, h3]
  unfold Ieee.Datum.order
  simp only
  obtain ⟨k, hk⟩ : ∃ k : Nat, min (-1074 + (i : Int)) (-1074 + (j : Int)) = -1074 + k := ⟨min i j, by omega⟩
  have hki : k ≤ i := by omega
  have hkj : k ≤ j := by omega
  rw [hk]
  have e1 : ((-1074 + (i : Int)) - (-1074 + (k : Int))).toNat = i - k := by omega
  have e2 : ((-1074 + (j : Int)) - (-1074 + (k : Int))).toNat = j - k := by omega
  rw [e1, e2]
  have g1 := signed_mul (sgn x) m (i - k) k
  have g2 := signed_mul (sgn y) n (j - k) k
  rw [show i - k + k = i by omega, h2] at g1
  rw [show j - k + k = j by omega, h4] at g2
  unfold fv
  rw [← g1, ← g2]
  generalize Ieee.signed (sgn x) m (i - k) = A
  generalize Ieee.signed (sgn y) n (j - k) = B
  have hp : (0 : Int) < ((2 ^ k : Nat) : Int) := by exact_mod_cast Nat.two_pow_pos k
  generalize ((2 ^ k : Nat) : Int) = p at hp
  congr 1
  have l1 : A < B ↔ A * p < B * p := ⟨fun h => Int.mul_lt_mul_of_pos_right h hp, fun h => Int.lt_of_mul_lt_mul_right h (Int.le_of_lt hp)⟩
  have l2 : A = B ↔ A * p = B * p := ⟨fun h => by rw [h], fun h => Int.eq_of_mul_eq_mul_right (by omega) h⟩
  simp only [compare, compareOfLessAndEq, l1, l2]

theorem order_nan_left {x y : Nat} (h : inf < rung x) : Ieee.double.order x y = none := by
  obtain ⟨n, hn⟩ := read_nan h
  unfold Ieee.Format.order; rw [hn]; rfl
theorem order_nan_right {x y : Nat} (h : inf < rung y) : Ieee.double.order x y = none := by
  obtain ⟨n, hn⟩ := read_nan h
  unfold Ieee.Format.order; rw [hn]; unfold Ieee.Datum.order; cases Ieee.double.read x <;> rfl

theorem order_inf_fin {x y : Nat} (hx : rung x = inf) (hy : rung y < inf) : Ieee.double.order x y = some (if sgn x then .lt else .gt) := by
  obtain ⟨n, j, h3, h4⟩ := read_fin hy
  unfold Ieee.Format.order; rw [read_inf hx, h3]; rfl
theorem order_fin_inf {x y : Nat} (hx : rung x < inf) (hy : rung y = inf) : Ieee.double.order x y = some (if sgn y then .gt else .lt) := by
  obtain ⟨n, j, h3, h4⟩ := read_fin hx
  unfold Ieee.Format.order; rw [read_inf hy, h3]; rfl
theorem order_inf_inf {x y : Nat} (hx : rung x = inf) (hy : rung y = inf) : Ieee.double.order x y = some (compare (sgn y).toNat (sgn x).toNat) := by
  unfold Ieee.Format.order; rw [read_inf hx, read_inf hy]; rfl

theorem sub_inf_inf {x y : Nat} (hx : rung x = inf) (hy : rung y = inf) (h : sgn x = sgn y) : Ieee.double.sub x y = none := by
  unfold Ieee.Format.sub; rw [read_inf hx, read_inf hy]
  unfold Ieee.Datum.opposite Ieee.Datum.sum
  simp only; rw [h]; cases sgn y <;> rfl
theorem sub_nan_left {x y : Nat} (h : inf < rung x) : Ieee.double.sub x y = none := by
  obtain ⟨n, hn⟩ := read_nan h
  unfold Ieee.Format.sub; rw [hn]; rfl

end TV
