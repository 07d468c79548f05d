/- The float nearest to a sum, a difference, a product of two floats is what the language reckons. -/
import Derived.Test.YtjogclokjonkeaaDoorNwE
namespace Go.Proofs.YtjogclokjonkeaaDoor
open Go.RowKit TV
set_option linter.unusedVariables false
set_option exponentiation.threshold 3000

theorem rnd_nought (u : Nat) : rndAt u 0 = 0 := by
  obtain ⟨-, h3⟩ := near_rnd u 0
  rcases Nat.eq_zero_or_pos (rndAt u 0) with h | h
  · exact h
  · obtain ⟨s, hs⟩ : ∃ s, rndAt u 0 = s + 1 := ⟨rndAt u 0 - 1, by omega⟩
    have h4 := (h3 s hs).1
    have h5 := mag_lt (show s < s + 1 by omega)
    rw [hs] at h4
    have h6 : 0 < (mag s + mag (s + 1)) * 2 ^ u := Nat.mul_pos (by omega) (Nat.two_pow_pos u)
    omega

theorem flo_gen {n : Int} {u : Nat} {q : Rat} {s : Bool} (hq : q = (n : Rat) * (2 : Rat) ^ (-1074 - (u : Int))) (hs : n ≠ 0 → s = decide (n < 0)) : FloOf q (flo s (min (rndAt u n.natAbs) inf)) := by
  have hp := two_zpow_pos (-1074 - (u : Int))
  by_cases h0 : n = 0
  · have e : q = 0 := by rw [hq, h0]; simp
    rw [h0, e, Int.natAbs_zero, rnd_nought]
    refine ⟨flo_lt (by decide), Or.inl (rung_flo (by decide)), ?_⟩
    rw [rung_flo (by decide), if_neg (by decide)]
    exact FloOf.zero.2.2
  · have hR := near_q (near_rnd u n.natAbs)
    have hN : 0 < ((n.natAbs : Nat) : Rat) * (2 : Rat) ^ (-1074 - (u : Int)) := Rat.mul_pos (by exact_mod_cast Int.natAbs_pos.2 h0) hp
    have := FloOf.mk s hN (min_inf_lt _) hR
    rw [hs h0] at this ⊢
    have e : (if decide (n < 0) = true then -(((n.natAbs : Nat) : Rat) * (2 : Rat) ^ (-1074 - (u : Int))) else ((n.natAbs : Nat) : Rat) * (2 : Rat) ^ (-1074 - (u : Int))) = q := by
      rw [hq]
      by_cases c : n < 0
      · rw [decide_eq_true c, if_pos rfl, ← Rat.neg_mul]
        congr 1
        rw [show ((n.natAbs : Nat) : Rat) = ((-n : Int) : Rat) by rw [show (-n : Int) = ((n.natAbs : Nat) : Int) by omega]; rfl]
        push_cast; grind
      · rw [decide_eq_false c, if_neg (by simp)]
        congr 1
        conv => rhs; rw [show n = ((n.natAbs : Nat) : Int) by omega]
        rfl
    rw [e] at this; exact this
theorem fr_add (a b : Nat) : fr a + fr b = ((fv a + fv b : Int) : Rat) * (2 : Rat) ^ (-1074 - ((0 : Nat) : Int)) := by
  unfold fr; rw [← Rat.add_mul, ← Rat.intCast_add]; rfl
theorem fr_sub (a b : Nat) : fr a - fr b = ((fv a - fv b : Int) : Rat) * (2 : Rat) ^ (-1074 - ((0 : Nat) : Int)) := by
  unfold fr; rw [Rat.intCast_sub]; change _ = _ * (2 : Rat) ^ (-1074 : Int); grind
theorem fr_mul (a b : Nat) : fr a * fr b = ((fv a * fv b : Int) : Rat) * (2 : Rat) ^ (-1074 - ((1074 : Nat) : Int)) := by
  unfold fr; rw [Rat.intCast_mul, show (-1074 - ((1074 : Nat) : Int)) = -1074 + -1074 by decide, two_zpow_add]; grind
theorem flo_add {a b : Nat} (ha : rung a < inf) (hb : rung b < inf) : (Ieee.double.add a b).isSome = true ∧ FloOf (fr a + fr b) (fadd a b) := by
  have h := add_fin ha hb
  refine ⟨by rw [h]; rfl, ?_⟩
  unfold fadd
  rw [h]
  exact flo_gen (fr_add a b) (fun h0 => by rw [if_neg h0])
theorem flo_sub {a b : Nat} (ha : rung a < inf) (hb : rung b < inf) : (Ieee.double.sub a b).isSome = true ∧ FloOf (fr a - fr b) (fsub a b) := by
  have h := sub_fin ha hb
  refine ⟨by rw [h]; rfl, ?_⟩
  unfold fsub
  rw [h]
  exact flo_gen (fr_sub a b) (fun h0 => by rw [if_neg h0])
theorem flo_mul {a b : Nat} (ha : rung a < inf) (hb : rung b < inf) : (Ieee.double.mul a b).isSome = true ∧ FloOf (fr a * fr b) (fmul a b) := by
  have h := mul_fin ha hb
  refine ⟨by rw [h]; rfl, ?_⟩
  unfold fmul
  rw [h]
  have e : mag (rung a) * mag (rung b) = (fv a * fv b).natAbs := by rw [Int.natAbs_mul, fv_natAbs, fv_natAbs]
  show FloOf _ (flo (sgn a ^^ sgn b) (min (rndAt 1074 (mag (rung a) * mag (rung b))) inf))
  rw [e]
  refine flo_gen (fr_mul a b) (fun h0 => ?_)
  have ha0 : fv a ≠ 0 := fun h => h0 (by rw [h, Int.zero_mul])
  have hb0 : fv b ≠ 0 := fun h => h0 (by rw [h, Int.mul_zero])
  have hA : ∀ x, fv x ≠ 0 → sgn x = decide (fv x < 0) := by
    intro x hx
    unfold fv sm at hx ⊢
    cases sgn x
    · simp at hx ⊢
    · simp at hx ⊢; omega
  rw [hA a ha0, hA b hb0]
  rcases Int.lt_or_gt_of_ne ha0 with h1 | h1 <;> rcases Int.lt_or_gt_of_ne hb0 with h2 | h2
  · rw [decide_eq_true h1, decide_eq_true h2, decide_eq_false (by have := Int.mul_pos_of_neg_of_neg h1 h2; omega)]; rfl
  · rw [decide_eq_true h1, decide_eq_false (by omega), decide_eq_true (Int.mul_neg_of_neg_of_pos h1 h2)]; rfl
  · rw [decide_eq_false (by omega), decide_eq_true h2, decide_eq_true (Int.mul_neg_of_pos_of_neg h1 h2)]; rfl
  · rw [decide_eq_false (by omega), decide_eq_false (by omega), decide_eq_false (by have := Int.mul_pos h1 h2; omega)]; rfl
end Go.Proofs.YtjogclokjonkeaaDoor
