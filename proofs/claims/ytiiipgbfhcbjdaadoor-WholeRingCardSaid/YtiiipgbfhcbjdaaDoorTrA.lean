/- Whole floats: a float cut to a whole one, a whole number as a float. Plain numbers, no program. -/
import Derived.Test.YtiiipgbfhcbjdaaDoorFlE
namespace TV

/-- The unit, in units of 2^-1074. -/
def uE : Nat := 1074
theorem uE_eq : uE = 1074 := rfl
def uW : Nat := 2 ^ uE
theorem uW_pos : 0 < uW := Nat.two_pow_pos _

/-- The float cut to a whole one. -/
def trF (x : Nat) : Nat := Ieee.double.write ((Ieee.double.read x).integral .zero)

theorem write_num (s : Bool) (m : Nat) (place : Int) (h : 0 ≤ place + 1074) : Ieee.double.write (.number s m place) = flo s (min (rndAt 0 (m * 2 ^ (place + 1074).toNat)) inf) := by
  have := nearest_eq s m 0 place (by simpa using h)
  rw [word_flo] at this
  simpa [Ieee.Format.write, inf] using this

theorem cut_zero (s : Bool) (n drop : Nat) : Ieee.Toward.zero.cut s n drop = n / 2 ^ drop := by
  simp only [Ieee.Toward.cut, Bool.toNat_false, Nat.add_zero, Nat.one_shiftLeft]
  by_cases h : drop ≤ n.log2 + 2
  · rw [Nat.min_eq_left h]
  · rw [Nat.min_eq_right (by omega)]
    have h1 : n < 2 ^ (n.log2 + 1) := Nat.lt_log2_self
    have h2 : 2 ^ (n.log2 + 1) ≤ 2 ^ (n.log2 + 2) := Nat.pow_le_pow_right (by omega) (by omega)
    have h3 : 2 ^ (n.log2 + 2) ≤ 2 ^ drop := Nat.pow_le_pow_right (by omega) (by omega)
    rw [Nat.div_eq_of_lt (by omega), Nat.div_eq_of_lt (by omega)]

theorem trF_fin {x : Nat} (hx : rung x < inf) : trF x = flo (sgn x) (min (rndAt 0 (mag (rung x) / uW * uW)) inf) := by
  obtain ⟨m, k, h1, h2⟩ := read_fin hx
  unfold trF
  rw [h1]
  simp only [Ieee.Datum.integral]
  rw [write_num _ _ _ (by omega), cut_zero]
  refine congrArg (fun z => flo (sgn x) (min (rndAt 0 z) inf)) ?_
  rw [← h2, Nat.shiftLeft_eq]
  have hu : ((0 : Int) + 1074).toNat = uE := by decide
  rw [hu, show (2 : Nat) ^ uE = uW from rfl]
  refine congrArg (fun z => z * uW) ?_
  have hE := uE_eq
  by_cases c : uE ≤ k
  · obtain ⟨j, rfl⟩ : ∃ j, k = uE + j := ⟨k - uE, by omega⟩
    have e1 : (-1074 + ((uE + j : Nat) : Int)).toNat = j := by omega
    have e2 : (-(-1074 + ((uE + j : Nat) : Int))).toNat = 0 := by omega
    rw [e1, e2, Nat.pow_zero, Nat.div_one, Nat.pow_add, show (2 : Nat) ^ uE = uW from rfl]
    rw [show m * (uW * 2 ^ j) = (m * 2 ^ j) * uW by rw [Nat.mul_left_comm, Nat.mul_comm], Nat.mul_div_cancel _ uW_pos]
  · obtain ⟨j, hj⟩ : ∃ j, uE = k + j := ⟨uE - k, by omega⟩
    have e1 : (-1074 + ((k : Nat) : Int)).toNat = 0 := by omega
    have e2 : (-(-1074 + ((k : Nat) : Int))).toNat = j := by omega
    rw [e1, e2, Nat.pow_zero, Nat.mul_one]
    have : uW = 2 ^ j * 2 ^ k := by unfold uW; rw [← Nat.pow_add]; congr 1; omega
    rw [this, Nat.mul_div_mul_right _ _ (Nat.two_pow_pos k)]

/-- A whole multiple of the unit below a float is a float. -/
theorem floor_rep (r : Nat) : ∃ t, mag r / uW * uW = mag t := by
  obtain ⟨q, k, h1, h2⟩ := mag_parts r
  by_cases c : uE ≤ k
  · refine ⟨r, ?_⟩
    obtain ⟨j, rfl⟩ : ∃ j, k = uE + j := ⟨k - uE, by omega⟩
    rw [h1, Nat.pow_add, show (2 : Nat) ^ uE = uW from rfl]
    rw [show q * (uW * 2 ^ j) = (q * 2 ^ j) * uW by rw [Nat.mul_left_comm, Nat.mul_comm], Nat.mul_div_cancel _ uW_pos]
  · obtain ⟨t, ht⟩ := mag_of_parts uE (mag r / uW) (by
      have hj : uW = 2 ^ (uE - k) * 2 ^ k := by unfold uW; rw [← Nat.pow_add]; congr 1; omega
      rw [h1, hj, Nat.mul_div_mul_right _ _ (Nat.two_pow_pos k)]
      exact Nat.le_trans (Nat.div_le_self _ _) (by omega))
    exact ⟨t, ht⟩

theorem trF_val {x : Nat} (hx : rung x < inf) : sgn (trF x) = sgn x ∧ rung (trF x) < inf ∧ trF x < 18446744073709551616 ∧ mag (rung (trF x)) = mag (rung x) / uW * uW := by
  obtain ⟨t, ht⟩ := floor_rep (rung x)
  have hle : mag t ≤ mag (rung x) := by rw [← ht]; exact Nat.div_mul_le_self _ _
  have htx : t ≤ rung x := le_of_mag hle
  have hl := inf_lt
  rw [trF_fin hx, ht, rnd_exact0, Nat.min_eq_left (by omega)]
  exact ⟨sgn_flo (by omega), by rw [rung_flo (by omega)]; omega, flo_lt (by omega), by rw [rung_flo (by omega)]⟩

/-- A float is its own whole part just if it is whole. -/
theorem trF_feq {x : Nat} (hx : rung x < inf) : feq x (trF x) = decide (uW ∣ mag (rung x)) := by
  obtain ⟨h1, h2, h3, h4⟩ := trF_val hx
  rw [feq_fin hx h2]
  congr 1
  unfold fv
  rw [h1, h4]
  have : (mag (rung x) = mag (rung x) / uW * uW) ↔ uW ∣ mag (rung x) := by
    constructor
    · intro h; exact ⟨mag (rung x) / uW, by rw [Nat.mul_comm]; exact h⟩
    · rintro ⟨z, hz⟩; rw [hz, Nat.mul_div_cancel_left _ uW_pos, Nat.mul_comm]
  rw [← this]
  unfold sm
  generalize mag (rung x) / uW * uW = z
  cases sgn x <;> simp <;> omega

/-- A whole number as a float. -/
def ofI (n : Int) : Nat := Ieee.double.write (.number (decide (n < 0)) n.natAbs 0)

/-- A float of this whole value. -/
def Iv (x : Nat) (n : Int) : Prop := x < 18446744073709551616 ∧ rung x < inf ∧ fv x = n * (uW : Int)

def M53 : Nat := 4845873199050653696
theorem M53_inf : M53 < inf := by decide
theorem mag_M53 : mag M53 = 9007199254740992 * uW := by
  have h := mag_at (k := uE) (q := 9007199254740992) (Or.inr (by omega)) (Nat.le_refl _)
  have h2 : uE * 4503599627370496 + 9007199254740992 = M53 := by decide
  rw [h2, show (2 : Nat) ^ uE = uW from rfl] at h
  exact h
theorem iv_rep {n : Int} (h : n.natAbs ≤ 9007199254740992) : Rep (n * (uW : Int)) := Rep_mk (k := uE) (m := n) rfl h
theorem iv_abs {n : Int} (h : n.natAbs ≤ 9007199254740992) : (n * (uW : Int)).natAbs ≤ mag M53 := by
  rw [mag_M53, Int.natAbs_mul, Int.natAbs_natCast]; exact Nat.mul_le_mul_right _ h

theorem Iv.add {x y : Nat} {n m : Int} (hx : Iv x n) (hy : Iv y m) (h : (n + m).natAbs ≤ 9007199254740992) : (Ieee.double.add x y).isSome = true ∧ Ieee.double.add x y = some (fadd x y) ∧ Iv (fadd x y) (n + m) := by
  have e : fv x + fv y = (n + m) * (uW : Int) := by rw [hx.2.2, hy.2.2, Int.add_mul]
  obtain ⟨h1, h2, h3, h4⟩ := fadd_val hx.2.1 hy.2.1 M53_inf (by rw [e]; exact iv_abs h)
  refine ⟨by rw [h1]; rfl, h1, h2, Nat.lt_of_le_of_lt h3 M53_inf, ?_⟩
  rw [h4, e, Rn_fix (iv_rep h)]
theorem Iv.sub {x y : Nat} {n m : Int} (hx : Iv x n) (hy : Iv y m) (h : (n - m).natAbs ≤ 9007199254740992) : (Ieee.double.sub x y).isSome = true ∧ Ieee.double.sub x y = some (fsub x y) ∧ Iv (fsub x y) (n - m) := by
  have e : fv x - fv y = (n - m) * (uW : Int) := by rw [hx.2.2, hy.2.2, Int.sub_mul]
  obtain ⟨h1, h2, h3, h4⟩ := fsub_val hx.2.1 hy.2.1 M53_inf (by rw [e]; exact iv_abs h)
  refine ⟨by rw [h1]; rfl, h1, h2, Nat.lt_of_le_of_lt h3 M53_inf, ?_⟩
  rw [h4, e, Rn_fix (iv_rep h)]
theorem Iv.mul {x y : Nat} {n m : Int} (hx : Iv x n) (hy : Iv y m) (h : (n * m).natAbs ≤ 9007199254740992) : (Ieee.double.mul x y).isSome = true ∧ Ieee.double.mul x y = some (fmul x y) ∧ Iv (fmul x y) (n * m) := by
  have e : n * (m * (uW : Int)) = (n * m) * (uW : Int) := by rw [Int.mul_assoc]
  obtain ⟨h1, h2, h3, h4⟩ := fmul_val (k := uE) (j := 0) (a := n) (b := m * (uW : Int)) hx.2.1 hy.2.1 M53_inf hx.2.2 (by rw [hy.2.2]; simp) rfl (by rw [e]; exact iv_abs h)
  refine ⟨by rw [h1]; rfl, h1, h2, Nat.lt_of_le_of_lt h3 M53_inf, ?_⟩
  rw [h4, e, Rn_fix (iv_rep h)]
theorem Iv.neg {x : Nat} {n : Int} (hx : Iv x n) : Iv (fneg x) (-n) := by
  refine ⟨fneg_lt hx.1, by rw [rung_fneg hx.1]; exact hx.2.1, by rw [fv_fneg hx.1, hx.2.2, Int.neg_mul]⟩
theorem Iv.mag {x : Nat} {n : Int} (hx : Iv x n) : mag (rung x) = n.natAbs * uW := by
  rw [← fv_natAbs, hx.2.2, Int.natAbs_mul, Int.natAbs_natCast]
theorem Iv.rung_lt {x : Nat} {n : Int} (hx : Iv x n) : rung x < inf := hx.2.1
theorem Iv.abs {x : Nat} {n : Int} (hx : Iv x n) : Iv (rung x) (n.natAbs : Int) := by
  have hi := inf_lt
  have hr := hx.2.1
  refine ⟨by omega, by rw [rung_small (by omega)]; exact hr, ?_⟩
  rw [fv_pos_rung _ (by omega), hx.mag, Int.natCast_mul]
theorem iv_ofI {n : Int} (h : n.natAbs ≤ 9007199254740992) : Iv (ofI n) n := by
  unfold ofI
  obtain ⟨r, hr⟩ := mag_of_parts uE n.natAbs h
  rw [show (2 : Nat) ^ uE = uW from rfl] at hr
  have hu : ((0 : Int) + 1074).toNat = uE := by decide
  have hl := inf_lt
  have hm : r ≤ M53 := le_of_mag (by rw [← hr, mag_M53]; exact Nat.mul_le_mul_right _ h)
  have hM := M53_inf
  rw [write_num _ _ _ (by omega), hu, show (2 : Nat) ^ uE = uW from rfl, hr, rnd_exact0, Nat.min_eq_left (by omega)]
  refine ⟨flo_lt (by omega), by rw [rung_flo (by omega)]; omega, ?_⟩
  rw [fv_flo (by omega), ← hr]
  unfold sm
  by_cases c : n < 0
  · rw [decide_eq_true c, if_pos rfl, Int.natCast_mul, show ((n.natAbs : Nat) : Int) = -n by omega, Int.neg_mul, Int.neg_neg]
  · rw [decide_eq_false c, if_neg (by simp), Int.natCast_mul, show ((n.natAbs : Nat) : Int) = n by omega]
theorem Iv.feq {x y : Nat} {n m : Int} (hx : Iv x n) (hy : Iv y m) : feq x y = decide (n = m) := by
  rw [feq_fin hx.2.1 hy.2.1, hx.2.2, hy.2.2]
  have hu : (uW : Int) ≠ 0 := by have := uW_pos; omega
  congr 1
  exact propext ⟨fun h => Int.eq_of_mul_eq_mul_right hu h, fun h => by rw [h]⟩

end TV
