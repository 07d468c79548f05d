/- Powers of two as floats: doubled and halved. -/
import Derived.Test.YtiiipgbfhcbjdaaDoorFlE
namespace TV

set_option exponentiation.threshold 3000

/-- The float 2^(i - 1023). -/
def p2 (i : Nat) : Nat := i * 4503599627370496

theorem mag_p2 {i : Nat} (h : 1 ≤ i) : mag (p2 i) = 2 ^ (51 + i) := by
  have := mag_at (k := i - 1) (q := 4503599627370496) (Or.inr (Nat.le_refl _)) (by omega)
  have e : p2 i = (i - 1) * 4503599627370496 + 4503599627370496 := by unfold p2; omega
  have e2 : (4503599627370496 : Nat) * 2 ^ (i - 1) = 2 ^ (51 + i) := by
    rw [e52, ← Nat.pow_add, show 52 + (i - 1) = 51 + i by omega]
  exact (congrArg mag e).trans (this.trans e2)

theorem p2_lt {i : Nat} (h : i ≤ 2046) : p2 i < inf := by unfold p2 inf; omega

theorem read_p2 {i : Nat} (h1 : 1 ≤ i) (h : i ≤ 2046) : Ieee.double.read (p2 i) = .number false 4503599627370496 (-1074 + ((i - 1 : Nat) : Int)) := by
  unfold Ieee.Format.read
  simp only [signWeight_double, binade_double, infRung_double, leastPlace_double]
  unfold p2
  have e1 : i * 4503599627370496 / 9223372036854775808 % 2 = 0 := by omega
  have e2 : i * 4503599627370496 % 9223372036854775808 = i * 4503599627370496 := by omega
  rw [e1, e2, if_neg (by omega), if_pos (by omega)]
  have e3 : i * 4503599627370496 % 4503599627370496 = 0 := by omega
  have e4 : i * 4503599627370496 / 4503599627370496 = i := by omega
  rw [e3, e4]; rfl

theorem double_p2 {i : Nat} (h1 : 1 ≤ i) (h : i ≤ 2045) : Ieee.double.mul (p2 i) 4611686018427387904 = some (p2 (i + 1)) := by
  have hl := inf_lt
  have a1 := p2_lt (i := i) (by omega)
  have a2 := p2_lt (i := i + 1) (by omega)
  have r1 := rung_small (r := p2 i) (by omega)
  rw [mul_fin (by omega) (by decide), r1, show rung 4611686018427387904 = p2 1024 by decide, mag_p2 h1, mag_p2 (by omega), ← Nat.pow_add]
  have e : 2 ^ (51 + i + (51 + 1024)) = mag (p2 (i + 1)) * 2 ^ 1074 := by rw [mag_p2 (by omega), ← Nat.pow_add, show 51 + i + (51 + 1024) = 51 + (i + 1) + 1074 by omega]
  rw [e, rnd_exact, Nat.min_eq_left (by omega), sgn_small (by omega)]
  rfl

theorem halve_p2 {i : Nat} (h1 : 2 ≤ i) (h : i ≤ 2046) : Ieee.double.div (p2 i) 4611686018427387904 = some (p2 (i - 1)) := by
  have hl := inf_lt
  have a2 := p2_lt (i := i - 1) (by omega)
  unfold Ieee.Format.div
  rw [read_p2 (by omega) h, show (4611686018427387904 : Nat) = p2 1024 by decide, read_p2 (by omega) (by omega)]
  unfold Ieee.Datum.quotient
  dsimp only
  rw [if_neg (by omega)]
  simp only [Option.map_some]
  unfold Ieee.Format.write
  simp only
  have l : Nat.log2 4503599627370496 = 52 := by decide
  rw [l, show Ieee.double.fractionBits = 52 from rfl]
  rw [nearest_eq _ _ 1074 _ (by omega), word_flo]
  have e1 : (2 * (4503599627370496 <<< (52 + 2 + 52 - 52) / 4503599627370496) + (4503599627370496 <<< (52 + 2 + 52 - 52) % 4503599627370496 != 0).toNat) = 2 ^ 55 := by decide
  rw [e1, ← Nat.pow_add]
  have e2 : 2 ^ (55 + (-1074 + ((i - 1 : Nat) : Int) - (-1074 + ((1024 - 1 : Nat) : Int)) - ((52 + 2 + 52 - 52 : Nat) : Int) - 1 + 1074 + ((1074 : Nat) : Int)).toNat) = mag (p2 (i - 1)) * 2 ^ 1074 := by
    rw [mag_p2 (by omega), ← Nat.pow_add]; congr 1; omega
  have hi := inf_eq
  rw [e2, rnd_exact, Nat.min_eq_left (by omega)]
  rfl

def fdiv (x y : Nat) : Nat := (Ieee.double.div x y).getD 0
theorem fmul_p2 {i : Nat} (h1 : 1 ≤ i) (h : i ≤ 2045) : fmul (p2 i) 4611686018427387904 = p2 (i + 1) := by unfold fmul; rw [double_p2 h1 h]; rfl
theorem fdiv_p2 {i : Nat} (h1 : 2 ≤ i) (h : i ≤ 2046) : fdiv (p2 i) 4611686018427387904 = p2 (i - 1) := by unfold fdiv; rw [halve_p2 h1 h]; rfl

/-! A float's magnitude, as the references reckon it (of -0: -0). -/
def sizeF (x : Nat) : Nat := if flt x 0 then fneg x else x

theorem sizeF_lt {x : Nat} (h : x < 18446744073709551616) : sizeF x < 18446744073709551616 := by
  unfold sizeF; split
  · exact fneg_lt h
  · exact h
theorem rung_sizeF {x : Nat} (h : x < 18446744073709551616) : rung (sizeF x) = rung x := by
  unfold sizeF; split
  · exact rung_fneg h
  · rfl
theorem fv_nonneg {x : Nat} (h : sgn x = false) : 0 ≤ fv x := by unfold fv sm; rw [h]; simp
theorem fv_nonpos {x : Nat} (h : sgn x = true) : fv x ≤ 0 := by unfold fv sm; rw [h]; simp
theorem fv_sizeF {x : Nat} (h : x < 18446744073709551616) (hf : rung x < inf) : fv (sizeF x) = mag (rung x) := by
  unfold sizeF
  rw [flt_fin hf (by decide), show fv 0 = 0 by decide]
  have := fv_natAbs x
  by_cases c : fv x < 0
  · simp only [c, decide_true, if_true]; rw [fv_fneg h]; omega
  · simp only [c, decide_false, Bool.false_eq_true, if_false]; omega
theorem sgn_sizeF_inf {x : Nat} (h : x < 18446744073709551616) (hf : rung x = inf) : sgn (sizeF x) = false := by
  unfold sizeF
  rw [flt_zero_inf hf]
  cases c : sgn x
  · simpa using c
  · simp only [if_true]; rw [sgn_fneg h, c]; rfl

theorem size_le {x C : Nat} (h : x < 18446744073709551616) (hC : C < inf) :
    (Ieee.double.order x x == some .eq && (Ieee.double.order (sizeF x) C == some .lt || Ieee.double.order (sizeF x) C == some .eq)) = decide (rung x ≤ C) := by
  have hl := inf_lt
  have hs := feq_self x
  unfold feq at hs
  rw [hs]
  have hr := rung_sizeF h
  have hC' := rung_small (show C < 9223372036854775808 by omega)
  by_cases a : rung x < inf
  · rw [order_fin (by omega) (by omega), cmp_lt, cmp_eq, fv_sizeF h a, fv_pos_rung C (by omega)]
    have : rung x ≤ inf := by omega
    simp only [this, decide_true, Bool.true_and]
    by_cases c : rung x < C
    · have := mag_lt c
      rw [decide_eq_true (show (mag (rung x) : Int) < mag C by omega), decide_eq_true (show rung x ≤ C by omega)]; rfl
    · by_cases c2 : rung x = C
      · rw [c2]; simp
      · have := mag_lt (show C < rung x by omega)
        rw [decide_eq_false (by omega), decide_eq_false (by omega), decide_eq_false (by omega)]; rfl
  · by_cases b : rung x = inf
    · rw [order_inf_fin (by omega) (by omega), sgn_sizeF_inf h b]; simp; omega
    · rw [decide_eq_false (by omega), decide_eq_false (by omega)]; rfl

theorem size_ge {x C : Nat} (h : x < 18446744073709551616) (hC : C < inf) :
    (Ieee.double.order x x == some .eq && (Ieee.double.order (sizeF x) C == some .gt || Ieee.double.order (sizeF x) C == some .eq)) = decide (C ≤ rung x ∧ rung x ≤ inf) := by
  have hl := inf_lt
  have hs := feq_self x
  unfold feq at hs
  rw [hs]
  have hr := rung_sizeF h
  have hC' := rung_small (show C < 9223372036854775808 by omega)
  by_cases a : rung x < inf
  · rw [order_fin (by omega) (by omega), cmp_gt, cmp_eq, fv_sizeF h a, fv_pos_rung C (by omega)]
    have : rung x ≤ inf := by omega
    simp only [this, decide_true, Bool.true_and, and_true]
    by_cases c : C < rung x
    · have := mag_lt c
      rw [decide_eq_true (show (mag C : Int) < mag (rung x) by omega), decide_eq_true (show C ≤ rung x by omega)]; rfl
    · by_cases c2 : rung x = C
      · rw [c2]; simp
      · have := mag_lt (show rung x < C by omega)
        rw [decide_eq_false (by omega), decide_eq_false (by omega), decide_eq_false (by omega)]; rfl
  · by_cases b : rung x = inf
    · rw [order_inf_fin (by omega) (by omega), sgn_sizeF_inf h b]; simp; omega
    · rw [decide_eq_false (by omega), decide_eq_false (by omega)]; rfl

theorem inf_pos : 0 < inf := by decide
theorem fv_zero_of {x : Nat} (h : rung x = 0) : fv x = 0 := by unfold fv sm; rw [h, mag_zero]; cases sgn x <;> simp

theorem mul_zero_left {x y : Nat} (hx : rung x = 0) (hy : rung y < inf) : Ieee.double.mul x y = some (fmul x y) ∧ rung (fmul x y) = 0 ∧ fmul x y < 18446744073709551616 := by
  have h : Ieee.double.mul x y = some (flo (sgn x ^^ sgn y) 0) := by
    rw [mul_fin (by have := inf_pos; omega) hy, hx, mag_zero, Nat.zero_mul]
    rw [show rndAt 1074 0 = 0 by decide]; rfl
  unfold fmul
  rw [h]
  exact ⟨rfl, rung_flo (by omega), flo_lt (by omega)⟩
theorem mul_zero_right {x y : Nat} (hx : rung x < inf) (hy : rung y = 0) : Ieee.double.mul x y = some (fmul x y) ∧ rung (fmul x y) = 0 ∧ fmul x y < 18446744073709551616 := by
  have h : Ieee.double.mul x y = some (flo (sgn x ^^ sgn y) 0) := by
    rw [mul_fin hx (by have := inf_pos; omega), hy, mag_zero, Nat.mul_zero]
    rw [show rndAt 1074 0 = 0 by decide]; rfl
  unfold fmul
  rw [h]
  exact ⟨rfl, rung_flo (by omega), flo_lt (by omega)⟩
theorem sub_zero_zero {x y : Nat} (hx : rung x = 0) (hy : rung y = 0) : Ieee.double.sub x y = some (fsub x y) ∧ rung (fsub x y) = 0 ∧ fsub x y < 18446744073709551616 := by
  have := inf_pos
  obtain ⟨a1, a2, a3, a4⟩ := fsub_val (x := x) (y := y) (M := 0) (by omega) (by omega) (by omega) (by rw [fv_zero_of hx, fv_zero_of hy]; decide)
  exact ⟨a1, by omega, a2⟩

/-- The halves of a safe float. -/
theorem split_safe {x : Nat} (h : safeB x = true) :
    Ieee.double.mul 4728779608772575232 x = some (spC x) ∧ Ieee.double.sub (spC x) x = some (fsub (spC x) x) ∧ Ieee.double.sub (spC x) (fsub (spC x) x) = some (spHi x) ∧
    Ieee.double.sub x (spHi x) = some (spLo x) ∧ spHi x < 18446744073709551616 ∧ spLo x < 18446744073709551616 ∧ rung (spHi x) ≤ 8696450880452427776 ∧ rung (spLo x) ≤ 8696450880452427776 ∧
    fv (spHi x) + fv (spLo x) = fv x ∧ (rung x = 0 → rung (spHi x) = 0 ∧ rung (spLo x) = 0) := by
  rcases of_decide_eq_true h with h0 | ⟨h1, h2⟩
  · obtain ⟨a1, a2, a3⟩ := mul_zero_right (x := 4728779608772575232) (y := x) (by decide) h0
    obtain ⟨b1, b2, b3⟩ := sub_zero_zero a2 h0
    obtain ⟨c1, c2, c3⟩ := sub_zero_zero a2 b2
    obtain ⟨d1, d2, d3⟩ := sub_zero_zero h0 c2
    refine ⟨a1, b1, c1, d1, c3, d3, ?_, ?_, ?_, fun _ => ⟨c2, d2⟩⟩
    · change rung (fsub (fmul 4728779608772575232 x) (fsub (fmul 4728779608772575232 x) x)) ≤ _; omega
    · change rung (fsub x (fsub (fmul 4728779608772575232 x) (fsub (fmul 4728779608772575232 x) x))) ≤ _; omega
    · rw [fv_zero_of (x := spHi x) c2, fv_zero_of (x := spLo x) d2, fv_zero_of h0]; rfl
  · obtain ⟨a1, a2, a3, a4, a5, a6, a7, a8, m, p, q, e, b1, b2, b3, b4, -⟩ := split_facts h1 h2
    exact ⟨a1, a2, a3, a4, a5, a6, a7, a8, by rw [b1, b2, b3, b4, Int.add_mul], fun h0 => by omega⟩

/-- The product of two safe floats, and what is rounded off. -/
structure ProdFacts (x y : Nat) : Prop where
  m1 : Ieee.double.mul x y = some (fmul x y)
  m2 : Ieee.double.mul (spHi x) (spHi y) = some (fmul (spHi x) (spHi y))
  d1 : Ieee.double.sub (fmul x y) (fmul (spHi x) (spHi y)) = some (prE1 x y)
  m3 : Ieee.double.mul (spLo x) (spHi y) = some (fmul (spLo x) (spHi y))
  d2 : Ieee.double.sub (prE1 x y) (fmul (spLo x) (spHi y)) = some (prE2 x y)
  m4 : Ieee.double.mul (spHi x) (spLo y) = some (fmul (spHi x) (spLo y))
  d3 : Ieee.double.sub (prE2 x y) (fmul (spHi x) (spLo y)) = some (prE3 x y)
  m5 : Ieee.double.mul (spLo x) (spLo y) = some (fmul (spLo x) (spLo y))
  d4 : Ieee.double.sub (fmul (spLo x) (spLo y)) (prE3 x y) = some (prodLo x y)
  l1 : fmul x y < 18446744073709551616
  l2 : prodLo x y < 18446744073709551616
  r1 : rung (fmul x y) ≤ 8696450880452427776
  r2 : rung (prodLo x y) ≤ 8696450880452427776
  v : ∃ t : Int, fv x * fv y = t * ((2 ^ 1074 : Nat) : Int) ∧ fv (fmul x y) = Rn t ∧ fv (prodLo x y) = t - Rn t
  v2 : fv (fmul (spHi x) (spHi y)) * ((2 ^ 1074 : Nat) : Int) = fv (spHi x) * fv (spHi y)
  v3 : fv (fmul (spLo x) (spHi y)) * ((2 ^ 1074 : Nat) : Int) = fv (spLo x) * fv (spHi y)
  v4 : fv (fmul (spHi x) (spLo y)) * ((2 ^ 1074 : Nat) : Int) = fv (spHi x) * fv (spLo y)
  v5 : fv (fmul (spLo x) (spLo y)) * ((2 ^ 1074 : Nat) : Int) = fv (spLo x) * fv (spLo y)

theorem prod_safe {x y : Nat} (hx : safeB x = true) (hy : safeB y = true) : ProdFacts x y := by
  have hi := inf_eq
  obtain ⟨-, -, -, -, sx1, sx2, sx3, sx4, sx5, sx6⟩ := split_safe hx
  obtain ⟨-, -, -, -, sy1, sy2, sy3, sy4, sy5, sy6⟩ := split_safe hy
  have fx : rung x < inf := by rcases of_decide_eq_true hx with h | h <;> omega
  have fy : rung y < inf := by rcases of_decide_eq_true hy with h | h <;> omega
  -- one of both is 0
  have zero : (rung (fmul x y) = 0 ∧ Ieee.double.mul x y = some (fmul x y) ∧ fmul x y < 18446744073709551616) →
      (rung (fmul (spHi x) (spHi y)) = 0 ∧ Ieee.double.mul (spHi x) (spHi y) = some (fmul (spHi x) (spHi y))) → (rung (fmul (spLo x) (spHi y)) = 0 ∧ Ieee.double.mul (spLo x) (spHi y) = some (fmul (spLo x) (spHi y))) →
      (rung (fmul (spHi x) (spLo y)) = 0 ∧ Ieee.double.mul (spHi x) (spLo y) = some (fmul (spHi x) (spLo y))) → (rung (fmul (spLo x) (spLo y)) = 0 ∧ Ieee.double.mul (spLo x) (spLo y) = some (fmul (spLo x) (spLo y))) →
      fv x * fv y = 0 → fv (spHi x) * fv (spHi y) = 0 → fv (spLo x) * fv (spHi y) = 0 → fv (spHi x) * fv (spLo y) = 0 → fv (spLo x) * fv (spLo y) = 0 → ProdFacts x y := by
    intro ⟨a1, a2, a5⟩ ⟨b1, b2⟩ ⟨c1, c2⟩ ⟨d1, d2⟩ ⟨e1, e2⟩ z0 z1 z2 z3 z4
    obtain ⟨f1, f2, f3⟩ := sub_zero_zero a1 b1
    obtain ⟨g1, g2, g3⟩ := sub_zero_zero (x := prE1 x y) f2 c1
    obtain ⟨h1, h2, h3⟩ := sub_zero_zero (x := prE2 x y) g2 d1
    obtain ⟨i1, i2, i3⟩ := sub_zero_zero (y := prE3 x y) e1 h2
    refine ⟨a2, b2, f1, c2, g1, d2, h1, e2, i1, a5, i3, by omega, by change rung (fsub (fmul (spLo x) (spLo y)) (prE3 x y)) ≤ _; omega, ⟨0, by rw [z0, Int.zero_mul], ?_, ?_⟩, ?_, ?_, ?_, ?_⟩
    · rw [fv_zero_of a1, Rn_zero]
    · rw [fv_zero_of (x := prodLo x y) i2, Rn_zero]; rfl
    · rw [fv_zero_of b1, z1, Int.zero_mul]
    · rw [fv_zero_of c1, z2, Int.zero_mul]
    · rw [fv_zero_of d1, z3, Int.zero_mul]
    · rw [fv_zero_of e1, z4, Int.zero_mul]
  rcases of_decide_eq_true hx with h0 | ⟨hx1, hx2⟩
  · obtain ⟨p1, p2⟩ := sx6 h0
    obtain ⟨a1, a2, a3⟩ := mul_zero_left h0 fy
    obtain ⟨b1, b2, b3⟩ := mul_zero_left (y := spHi y) p1 (by omega)
    obtain ⟨c1, c2, c3⟩ := mul_zero_left (y := spHi y) p2 (by omega)
    obtain ⟨d1, d2, d3⟩ := mul_zero_left (y := spLo y) p1 (by omega)
    obtain ⟨e1, e2, e3⟩ := mul_zero_left (y := spLo y) p2 (by omega)
    exact zero ⟨a2, a1, a3⟩ ⟨b2, b1⟩ ⟨c2, c1⟩ ⟨d2, d1⟩ ⟨e2, e1⟩ (by rw [fv_zero_of h0, Int.zero_mul]) (by rw [fv_zero_of p1, Int.zero_mul]) (by rw [fv_zero_of p2, Int.zero_mul]) (by rw [fv_zero_of p1, Int.zero_mul]) (by rw [fv_zero_of p2, Int.zero_mul])
  · rcases of_decide_eq_true hy with h0 | ⟨hy1, hy2⟩
    · obtain ⟨p1, p2⟩ := sy6 h0
      obtain ⟨a1, a2, a3⟩ := mul_zero_right fx h0
      obtain ⟨b1, b2, b3⟩ := mul_zero_right (x := spHi x) (by omega) p1
      obtain ⟨c1, c2, c3⟩ := mul_zero_right (x := spLo x) (by omega) p1
      obtain ⟨d1, d2, d3⟩ := mul_zero_right (x := spHi x) (by omega) p2
      obtain ⟨e1, e2, e3⟩ := mul_zero_right (x := spLo x) (by omega) p2
      exact zero ⟨a2, a1, a3⟩ ⟨b2, b1⟩ ⟨c2, c1⟩ ⟨d2, d1⟩ ⟨e2, e1⟩ (by rw [fv_zero_of h0, Int.mul_zero]) (by rw [fv_zero_of p1, Int.mul_zero]) (by rw [fv_zero_of p1, Int.mul_zero]) (by rw [fv_zero_of p2, Int.mul_zero]) (by rw [fv_zero_of p2, Int.mul_zero])
    · obtain ⟨a, b, s, k0, k1, k2, k3, k4, A1, B1, F1, C1, G1, D1, H1, E1, I1, A2, I2, A3, I3, V1, V2, V3, V4, V5, V6⟩ := prod_facts hx1 hx2 hy1 hy2
      exact ⟨A1, B1, F1, C1, G1, D1, H1, E1, I1, A2, I2, A3, I3, ⟨_, k0, V1, V2⟩, V3, V4, V5, V6⟩

/-! Sums and products of any two floats: 0, 0 of those that are not tame, or not safe. -/
def sHi (a b : Nat) : Nat := if tameB a && tameB b then fadd a b else 0
def sLo (a b : Nat) : Nat := if tameB a && tameB b then sumLo a b else 0
def pHi (a b : Nat) : Nat := if safeB a && safeB b then fmul a b else 0
def pLo (a b : Nat) : Nat := if safeB a && safeB b then prodLo a b else 0
/-- The sum, or 0. -/
def sVal (a b : Nat) : Int := if tameB a && tameB b then fv a + fv b else 0

theorem tame_neg {x : Nat} (h : x < 18446744073709551616) : tameB (fneg x) = tameB x := by unfold tameB; rw [rung_fneg h]
theorem safe_neg {x : Nat} (h : x < 18446744073709551616) : safeB (fneg x) = safeB x := by unfold safeB; rw [rung_fneg h]

theorem s_any (a b : Nat) : sHi a b < 18446744073709551616 ∧ sLo a b < 18446744073709551616 ∧ rung (sHi a b) ≤ 9119789245425254400 ∧ rung (sLo a b) ≤ 9119789245425254400 ∧
    fv (sHi a b) = Rn (sVal a b) ∧ fv (sLo a b) = sVal a b - Rn (sVal a b) := by
  unfold sHi sLo sVal
  by_cases h : (tameB a && tameB b) = true
  · simp only [h, if_true]
    have h' := h
    rw [Bool.and_eq_true] at h'
    obtain ⟨-, -, -, -, -, -, l1, r1, v1, l2, r2, v2⟩ := sum_facts (of_decide_eq_true h'.1) (of_decide_eq_true h'.2)
    exact ⟨l1, l2, by omega, r2, v1, v2⟩
  · simp only [h, Bool.false_eq_true, if_false]
    decide

/-- The product in units squared. -/
def pVal (a b : Nat) : Int := if safeB a && safeB b then fv a * fv b else 0

theorem p_any (a b : Nat) : pHi a b < 18446744073709551616 ∧ pLo a b < 18446744073709551616 ∧ rung (pHi a b) ≤ 9119789245425254400 ∧ rung (pLo a b) ≤ 9119789245425254400 ∧
    ∃ t : Int, pVal a b = t * ((2 ^ 1074 : Nat) : Int) ∧ fv (pHi a b) = Rn t ∧ fv (pLo a b) = t - Rn t := by
  unfold pHi pLo pVal
  by_cases h : (safeB a && safeB b) = true
  · simp only [h, if_true]
    have h' := h
    rw [Bool.and_eq_true] at h'
    have hp := prod_safe h'.1 h'.2
    obtain ⟨t, h1, h2, h3⟩ := hp.v
    exact ⟨hp.l1, hp.l2, by have := hp.r1; omega, by have := hp.r2; omega, t, h1, h2, h3⟩
  · simp only [h, Bool.false_eq_true, if_false]
    exact ⟨by decide, by decide, by decide, by decide, 0, by simp, by decide, by decide⟩

theorem order_of_fv {x y : Nat} (hx : rung x < inf) (hy : rung y < inf) (h : fv x = fv y) : Ieee.double.order x y = some .eq := by
  rw [order_fin hx hy, h]; congr 1; exact Std.ReflCmp.compare_self

/-- What is rounded off is not seen. -/
theorem unseen {h l : Nat} {t : Int} (rh : rung h ≤ 9119789245425254400) (rl : rung l ≤ 9119789245425254400) (vh : fv h = Rn t) (vl : fv l = t - Rn t) :
    (Ieee.double.add h l).isSome = true ∧ Ieee.double.order (fadd h l) h = some .eq := by
  have hi := inf_eq
  have m0 := mag_le rh
  have m1 := mag_le rl
  rw [← fv_natAbs] at m0 m1
  have d2 : mag 9124292845052624896 = 2 * mag 9119789245425254400 := mag_double (r := 9119789245425254400) (by omega)
  obtain ⟨a1, a2, a3, a4⟩ := fadd_val (x := h) (y := l) (M := 9124292845052624896) (by omega) (by omega) (by omega) (by omega)
  refine ⟨by rw [a1]; rfl, order_of_fv (by omega) (by omega) ?_⟩
  rw [a4, vh, vl, show Rn t + (t - Rn t) = t by omega]

theorem sVal_comm (a b : Nat) : sVal a b = sVal b a := by unfold sVal; rw [Bool.and_comm, Int.add_comm]
theorem pVal_comm (a b : Nat) : pVal a b = pVal b a := by unfold pVal; rw [Bool.and_comm, Int.mul_comm]
theorem sVal_neg {a b : Nat} (ha : a < 18446744073709551616) (hb : b < 18446744073709551616) : sVal (fneg a) (fneg b) = - sVal a b := by
  unfold sVal; rw [tame_neg ha, tame_neg hb, fv_fneg ha, fv_fneg hb]; split <;> omega
theorem sVal_diff {a b : Nat} (ha : a < 18446744073709551616) (hb : b < 18446744073709551616) : sVal a (fneg b) = - sVal b (fneg a) := by
  unfold sVal; rw [tame_neg ha, tame_neg hb, fv_fneg ha, fv_fneg hb, Bool.and_comm]; split <;> omega
theorem pVal_neg {a b : Nat} (ha : a < 18446744073709551616) : pVal (fneg a) b = - pVal a b := by
  unfold pVal; rw [safe_neg ha, fv_fneg ha, Int.neg_mul]; split <;> omega

theorem units_inj {t u : Int} (h : t * ((2 ^ 1074 : Nat) : Int) = u * ((2 ^ 1074 : Nat) : Int)) : t = u := by
  have hp : (0 : Int) < ((2 ^ 1074 : Nat) : Int) := by exact_mod_cast Nat.two_pow_pos 1074
  exact Int.eq_of_mul_eq_mul_right (by omega) h

/-- Sums turned about. -/
theorem s_comm (a b : Nat) : Ieee.double.order (sHi a b) (sHi b a) = some .eq ∧ Ieee.double.order (sLo a b) (sLo b a) = some .eq := by
  have hi := inf_eq
  obtain ⟨-, -, r1, r2, v1, v2⟩ := s_any a b
  obtain ⟨-, -, r3, r4, v3, v4⟩ := s_any b a
  rw [sVal_comm] at v3 v4
  exact ⟨order_of_fv (by omega) (by omega) (by omega), order_of_fv (by omega) (by omega) (by omega)⟩
theorem s_neg {a b : Nat} (ha : a < 18446744073709551616) (hb : b < 18446744073709551616) :
    Ieee.double.order (sHi (fneg a) (fneg b)) (fneg (sHi a b)) = some .eq ∧ Ieee.double.order (sLo (fneg a) (fneg b)) (fneg (sLo a b)) = some .eq := by
  have hi := inf_eq
  obtain ⟨l1, l2, r1, r2, v1, v2⟩ := s_any a b
  obtain ⟨-, -, r3, r4, v3, v4⟩ := s_any (fneg a) (fneg b)
  rw [sVal_neg ha hb, Rn_neg] at v3 v4
  refine ⟨order_of_fv (by omega) (by rw [rung_fneg l1]; omega) (by rw [fv_fneg l1]; omega), order_of_fv (by omega) (by rw [rung_fneg l2]; omega) (by rw [fv_fneg l2]; omega)⟩
theorem d_neg {a b : Nat} (ha : a < 18446744073709551616) (hb : b < 18446744073709551616) :
    Ieee.double.order (sHi a (fneg b)) (fneg (sHi b (fneg a))) = some .eq ∧ Ieee.double.order (sLo a (fneg b)) (fneg (sLo b (fneg a))) = some .eq := by
  have hi := inf_eq
  obtain ⟨-, -, r1, r2, v1, v2⟩ := s_any a (fneg b)
  obtain ⟨l1, l2, r3, r4, v3, v4⟩ := s_any b (fneg a)
  rw [sVal_diff ha hb, Rn_neg] at v1 v2
  refine ⟨order_of_fv (by omega) (by rw [rung_fneg l1]; omega) (by rw [fv_fneg l1]; omega), order_of_fv (by omega) (by rw [rung_fneg l2]; omega) (by rw [fv_fneg l2]; omega)⟩
theorem p_comm (a b : Nat) : Ieee.double.order (pHi a b) (pHi b a) = some .eq ∧ Ieee.double.order (pLo a b) (pLo b a) = some .eq := by
  have hi := inf_eq
  obtain ⟨-, -, r1, r2, t, e1, v1, v2⟩ := p_any a b
  obtain ⟨-, -, r3, r4, u, e2, v3, v4⟩ := p_any b a
  have : t = u := units_inj (by rw [← e1, ← e2, pVal_comm])
  subst this
  exact ⟨order_of_fv (by omega) (by omega) (by omega), order_of_fv (by omega) (by omega) (by omega)⟩
theorem p_neg {a b : Nat} (ha : a < 18446744073709551616) :
    Ieee.double.order (pHi (fneg a) b) (fneg (pHi a b)) = some .eq ∧ Ieee.double.order (pLo (fneg a) b) (fneg (pLo a b)) = some .eq := by
  have hi := inf_eq
  obtain ⟨l1, l2, r1, r2, t, e1, v1, v2⟩ := p_any a b
  obtain ⟨-, -, r3, r4, u, e2, v3, v4⟩ := p_any (fneg a) b
  have : u = -t := units_inj (by rw [Int.neg_mul, ← e1, ← e2, pVal_neg ha])
  subst this
  rw [Rn_neg] at v3 v4
  exact ⟨order_of_fv (by omega) (by rw [rung_fneg l1]; omega) (by rw [fv_fneg l1]; omega), order_of_fv (by omega) (by rw [rung_fneg l2]; omega) (by rw [fv_fneg l2]; omega)⟩

end TV
