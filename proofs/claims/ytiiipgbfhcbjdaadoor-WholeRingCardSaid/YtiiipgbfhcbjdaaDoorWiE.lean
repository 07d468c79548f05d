/- The nearest float, its order. Plain numbers. -/
import Derived.Test.YtiiipgbfhcbjdaaDoorWiA
import Derived.Test.YtiiipgbfhcbjdaaDoorWhJ
namespace TV
set_option exponentiation.threshold 3000

theorem RndQ.le_inf {q : Rat} {r : Nat} (h : RndQ q r) : r ≤ inf := by
  rcases h with ⟨h, -⟩ | ⟨h, -⟩ <;> omega
/-- What is greater has no lesser rung. -/
theorem RndQ.mono {p q : Rat} {r s : Nat} (hp : RndQ p r) (hq : RndQ q s) (h : p ≤ q) : r ≤ s := by
  apply Classical.byContradiction
  intro hn
  have hi := inf_eq
  have hri := hp.le_inf
  obtain ⟨t, rfl⟩ : ∃ t, r = t + 1 := ⟨r - 1, by omega⟩
  have hup : 2 * q < ((mag s + mag (s + 1) : Nat) : Rat) * uu ∨ (2 * q = ((mag s + mag (s + 1) : Nat) : Rat) * uu ∧ s % 2 = 0) := by
    rcases hq with ⟨-, h, -⟩ | ⟨h, -⟩
    · exact h
    · omega
  have hlo : ((mag t + mag (t + 1) : Nat) : Rat) * uu < 2 * p ∨ (((mag t + mag (t + 1) : Nat) : Rat) * uu = 2 * p ∧ ((t + 1) % 2 = 0 ∨ t + 1 = inf)) := by
    rcases hp with ⟨-, -, h⟩ | ⟨h1, h2⟩
    · rcases h with h | h | ⟨h, h'⟩
      · omega
      · exact Or.inl h
      · exact Or.inr ⟨h, Or.inl h'⟩
    · have e : inf - 1 = t := by omega
      rw [e, ← h1] at h2
      rcases Rat.le_iff_lt_or_eq.1 h2 with h | h
      · exact Or.inl h
      · exact Or.inr ⟨h, Or.inr h1⟩
  have hpar : s % 2 = 0 → s = t → ((t + 1) % 2 = 0 ∨ t + 1 = inf) → False := by
    intro a b c
    rcases c with c | c
    · omega
    · rw [hi] at c; omega
  have hm : mag s + mag (s + 1) ≤ mag t + mag (t + 1) := by
    have m1 : mag s ≤ mag t := mag_le (by omega)
    have m2 : mag (s + 1) ≤ mag (t + 1) := mag_le (by omega)
    omega
  have hm2 : s ≠ t → mag s + mag (s + 1) < mag t + mag (t + 1) := by
    intro hne
    have m1 : mag s < mag t := mag_lt (by omega)
    have m2 : mag (s + 1) ≤ mag (t + 1) := mag_le (by omega)
    omega
  have hu := uu_pos
  obtain ⟨A, hA⟩ : ∃ A : Rat, A = ((mag s + mag (s + 1) : Nat) : Rat) * uu := ⟨_, rfl⟩
  obtain ⟨B, hB⟩ : ∃ B : Rat, B = ((mag t + mag (t + 1) : Nat) : Rat) * uu := ⟨_, rfl⟩
  have hAB : A ≤ B := by rw [hA, hB]; exact Rat.mul_le_mul_of_nonneg_right (Rat.natCast_le_natCast.2 hm) (Rat.le_of_lt hu)
  have hAB2 : s ≠ t → A < B := by intro hne; rw [hA, hB]; exact Rat.mul_lt_mul_of_pos_right (Rat.natCast_lt_natCast.2 (hm2 hne)) hu
  rw [← hA] at hup
  rw [← hB] at hlo
  have h2 : 2 * p ≤ 2 * q := by grind
  rcases hup with h3 | ⟨h3, h4⟩
  · rcases hlo with h5 | ⟨h5, -⟩ <;> grind
  · rcases hlo with h5 | ⟨h5, h6⟩
    · grind
    · by_cases c : s = t
      · exact hpar h4 c h6
      · have := hAB2 c; grind
theorem RndQ.uniq {q : Rat} {r s : Nat} (hp : RndQ q r) (hq : RndQ q s) : r = s := Nat.le_antisymm (hp.mono hq Rat.le_refl) (hq.mono hp Rat.le_refl)
theorem RndQ.exact {r : Nat} (h : r < inf) : RndQ ((mag r : Rat) * uu) r := by
  have h1 := near_q (near_exact 0 r)
  rw [Nat.min_eq_left (Nat.le_of_lt h)] at h1
  have e : ((mag r * 2 ^ 0 : Nat) : Rat) * (2 : Rat) ^ (-1074 - ((0 : Nat) : Int)) = (mag r : Rat) * uu := by unfold uu; simp
  rw [e] at h1; exact h1

/-- Floats that are numbers or infinite stand as their values do. -/
theorem order_le {x y : Nat} (hx : rung x ≤ inf) (hy : rung y ≤ inf) : Ieee.double.order x y = some (compare (fv x) (fv y)) := by
  have key : ∀ {a b : Nat}, rung a < inf → rung b = inf → (sgn b = true → fv b < fv a) ∧ (sgn b = false → fv a < fv b) := by
    intro a b ha hb
    have hm := mag_lt ha
    have h1 : fv a ≤ mag (rung a) ∧ -(mag (rung a) : Int) ≤ fv a := by unfold fv sm; split <;> omega
    constructor
    · intro hs
      have : fv b = -(mag inf : Int) := by unfold fv sm; rw [hs, hb]; rfl
      omega
    · intro hs
      have : fv b = (mag inf : Int) := by unfold fv sm; rw [hs, hb]; rfl
      omega
  rcases Nat.lt_or_ge (rung x) inf with hx1 | hx1
  · rcases Nat.lt_or_ge (rung y) inf with hy1 | hy1
    · exact order_fin hx1 hy1
    · have hy2 : rung y = inf := Nat.le_antisymm hy hy1
      rw [order_fin_inf hx1 hy2]
      obtain ⟨k1, k2⟩ := key hx1 hy2
      cases hs : sgn y
      · have := k2 hs
        simp only [Bool.false_eq_true, if_false]; rw [Int.compare_eq_lt.2 this]
      · have := k1 hs
        simp only [if_true]; rw [Int.compare_eq_gt.2 this]
  · have hx2 : rung x = inf := Nat.le_antisymm hx hx1
    rcases Nat.lt_or_ge (rung y) inf with hy1 | hy1
    · rw [order_inf_fin hx2 hy1]
      obtain ⟨k1, k2⟩ := key hy1 hx2
      cases hs : sgn x
      · have := k2 hs
        simp only [Bool.false_eq_true, if_false]; rw [Int.compare_eq_gt.2 this]
      · have := k1 hs
        simp only [if_true]; rw [Int.compare_eq_lt.2 this]
    · have hy2 : rung y = inf := Nat.le_antisymm hy hy1
      rw [order_inf_inf hx2 hy2]
      have hp : 0 < mag inf := by have := mag_lt inf_pos; rw [mag_zero] at this; exact this
      have ex : fv x = sm (sgn x) (mag inf) := by unfold fv; rw [hx2]
      have ey : fv y = sm (sgn y) (mag inf) := by unfold fv; rw [hy2]
      rw [ex, ey]
      generalize mag inf = m at hp ⊢
      cases sgn x <;> cases sgn y
      · rw [Int.compare_eq_eq.2 rfl]; rfl
      · rw [Int.compare_eq_gt.2 (by unfold sm; simp; omega)]; rfl
      · rw [Int.compare_eq_lt.2 (by unfold sm; simp; omega)]; rfl
      · rw [Int.compare_eq_eq.2 rfl]; rfl
end TV
namespace Go.Proofs.YtiiipgbfhcbjdaaDoor
open Go.RowKit TV

theorem FloOf.le_inf {q : Rat} {f : Nat} (h : FloOf q f) : rung f ≤ inf := h.2.2.le_inf
theorem FloOf.fv_nonneg {q : Rat} {f : Nat} (h : FloOf q f) (hq : 0 ≤ q) : fv f = mag (rung f) := by
  rcases h.2.1 with h1 | h1
  · rw [fv_zero_of h1, h1, mag_zero]; rfl
  · rw [decide_eq_false (by grind)] at h1; unfold fv sm; rw [h1]; rfl
theorem FloOf.fv_neg {q : Rat} {f : Nat} (h : FloOf q f) (hq : q < 0) : fv f = -(mag (rung f) : Int) := by
  rcases h.2.1 with h1 | h1
  · rw [fv_zero_of h1, h1, mag_zero]; rfl
  · rw [decide_eq_true hq] at h1; unfold fv sm; rw [h1]; rfl
/-- What is greater has no lesser float. -/
theorem FloOf.mono {p q : Rat} {f g : Nat} (hf : FloOf p f) (hg : FloOf q g) (h : p ≤ q) : fv f ≤ fv g := by
  by_cases c : p < 0
  · rw [hf.fv_neg c]
    by_cases d : q < 0
    · rw [hg.fv_neg d]
      have h1 := hf.2.2; have h2 := hg.2.2
      rw [if_pos c] at h1; rw [if_pos d] at h2
      have h3 := mag_le (h2.mono h1 (by grind))
      omega
    · rw [hg.fv_nonneg (by grind)]; omega
  · rw [hf.fv_nonneg (by grind), hg.fv_nonneg (by grind)]
    have h1 := hf.2.2; have h2 := hg.2.2
    rw [if_neg c] at h1; rw [if_neg (by grind)] at h2
    have h3 := mag_le (h1.mono h2 h)
    omega
theorem FloOf.fin {x : Nat} (h1 : x < 18446744073709551616) (h : rung x < inf) : FloOf (fr x) x := by
  have hu := uu_pos
  have hfr : fr x = (fv x : Rat) * uu := rfl
  have hp : 0 < fv x → 0 < fr x := by
    intro h; rw [hfr]; exact Rat.mul_pos (by exact_mod_cast h) hu
  have hn : fv x < 0 → fr x < 0 := by
    intro h; rw [hfr]
    have h2 : ((0 : Int) : Rat) < ((-fv x : Int) : Rat) := by exact_mod_cast (by omega : (0 : Int) < -fv x)
    have := Rat.mul_pos h2 hu
    push_cast at this
    grind
  have hm : (if fr x < 0 then -fr x else fr x) = (mag (rung x) : Rat) * uu := by
    rcases Int.lt_trichotomy (fv x) 0 with c | c | c
    · rw [if_pos (hn c), hfr]
      have : fv x = -(mag (rung x) : Int) := by have := fv_natAbs x; omega
      rw [this]; push_cast; grind
    · have e : mag (rung x) = 0 := by have := fv_natAbs x; omega
      have z : fr x = 0 := by rw [hfr, c]; simp
      rw [z, if_neg (by grind), e]; simp
    · have := hp c
      rw [if_neg (by grind), hfr]
      have : fv x = (mag (rung x) : Int) := by have := fv_natAbs x; omega
      rw [this]; rfl
  refine ⟨h1, ?_, by rw [hm]; exact RndQ.exact h⟩
  rcases Int.lt_trichotomy (fv x) 0 with c | c | c
  · right; rw [decide_eq_true (hn c)]
    cases hs : sgn x
    · unfold fv sm at c; rw [hs] at c; simp at c; omega
    · rfl
  · left
    have e : mag (rung x) = 0 := by have := fv_natAbs x; omega
    exact mag_eq_zero.1 e
  · right
    have := hp c
    rw [decide_eq_false (by grind)]
    cases hs : sgn x
    · rfl
    · unfold fv sm at c; rw [hs] at c; simp at c; omega
/-- The float of a number that is a float's. -/
theorem FloOf.eq {q : Rat} {f x : Nat} (h : FloOf q f) (hx : FloOf q x) : FloatKind.f64.format.order f x = some .eq := by
  refine (order_le h.le_inf hx.le_inf).trans ?_
  have := Int.le_antisymm (h.mono hx Rat.le_refl) (hx.mono h Rat.le_refl)
  rw [this, Int.compare_eq_eq.2 rfl]
theorem FloOf.not_lt {p q : Rat} {f g : Nat} (hf : FloOf p f) (hg : FloOf q g) (h : q ≤ p) : (FloatKind.f64.format.order f g == some .lt) = false := by
  have e : FloatKind.f64.format.order f g = some (compare (fv f) (fv g)) := order_le hf.le_inf hg.le_inf
  rw [e]
  have := hg.mono hf h
  rcases Int.lt_or_eq_of_le this with h1 | h1
  · rw [Int.compare_eq_gt.2 h1]; rfl
  · rw [h1, Int.compare_eq_eq.2 rfl]; rfl
end Go.Proofs.YtiiipgbfhcbjdaaDoor
