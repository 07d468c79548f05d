/- Texts of one kind, joined. -/
import Derived.Test.YtiihokgjplpceaaDoorNwE

section
/- The float nearest to a sum, a difference, a product of two floats is what the language reckons. -/
namespace Go.Proofs.YtiihokgjplpceaaDoor
open Go.RowKit TV
set_option linter.unusedVariables false
set_option exponentiation.threshold 3000

theorem rnd_nought (u : Nat) : rndAt u 0 = 0 := by
  obtain ⟨-, h3⟩ := near_rnd u 0
  rcases Nat.eq_zero_or_pos (rndAt u 0) with h | h
  · exact h
  · obtain ⟨s, hs⟩ : ∃ s, rndAt u 0 = s + 1 := ⟨rndAt u 0 - 1, by omega⟩
    have h4 := (h3 s hs).1
    have h5 := mag_lt (show s < s + 1 by omega)
    rw [hs] at h4
    have h6 : 0 < (mag s + mag (s + 1)) * 2 ^ u := Nat.mul_pos (by omega) (Nat.two_pow_pos u)
    omega

theorem flo_gen {n : Int} {u : Nat} {q : Rat} {s : Bool} (hq : q = (n : Rat) * (2 : Rat) ^ (-1074 - (u : Int))) (hs : n ≠ 0 → s = decide (n < 0)) : FloOf q (flo s (min (rndAt u n.natAbs) inf)) := by
  have hp := two_zpow_pos (-1074 - (u : Int))
  by_cases h0 : n = 0
  · have e : q = 0 := by rw [hq, h0]; simp
    rw [h0, e, Int.natAbs_zero, rnd_nought]
    refine ⟨flo_lt (by decide), Or.inl (rung_flo (by decide)), ?_⟩
    rw [rung_flo (by decide), if_neg (by decide)]
    exact FloOf.zero.2.2
  · have hR := near_q (near_rnd u n.natAbs)
    have hN : 0 < ((n.natAbs : Nat) : Rat) * (2 : Rat) ^ (-1074 - (u : Int)) := Rat.mul_pos (by exact_mod_cast Int.natAbs_pos.2 h0) hp
    have := FloOf.mk s hN (min_inf_lt _) hR
    rw [hs h0] at this ⊢
    have e : (if decide (n < 0) = true then -(((n.natAbs : Nat) : Rat) * (2 : Rat) ^ (-1074 - (u : Int))) else ((n.natAbs : Nat) : Rat) * (2 : Rat) ^ (-1074 - (u : Int))) = q := by
      rw [hq]
      by_cases c : n < 0
      · rw [decide_eq_true c, if_pos rfl, ← Rat.neg_mul]
        congr 1
        rw [show ((n.natAbs : Nat) : Rat) = ((-n : Int) : Rat) by rw [show (-n : Int) = ((n.natAbs : Nat) : Int) by omega]; rfl]
        push_cast; grind
      · rw [decide_eq_false c, if_neg (by simp)]
        congr 1
        conv => rhs; rw [show n = ((n.natAbs : Nat) : Int) by omega]
        rfl
    rw [e] at this; exact this
theorem fr_add (a b : Nat) : fr a + fr b = ((fv a + fv b : Int) : Rat) * (2 : Rat) ^ (-1074 - ((0 : Nat) : Int)) := by
  unfold fr; rw [← Rat.add_mul, ← Rat.intCast_add]; rfl
theorem fr_sub (a b : Nat) : fr a - fr b = ((fv a - fv b : Int) : Rat) * (2 : Rat) ^ (-1074 - ((0 : Nat) : Int)) := by
  unfold fr; rw [Rat.intCast_sub]; change _ = _ * (2 : Rat) ^ (-1074 : Int); grind
theorem fr_mul (a b : Nat) : fr a * fr b = ((fv a * fv b : Int) : Rat) * (2 : Rat) ^ (-1074 - ((1074 : Nat) : Int)) := by
  unfold fr; rw [Rat.intCast_mul, show (-1074 - ((1074 : Nat) : Int)) = -1074 + -1074 by decide, two_zpow_add]; grind
theorem flo_add {a b : Nat} (ha : rung a < inf) (hb : rung b < inf) : (Ieee.double.add a b).isSome = true ∧ FloOf (fr a + fr b) (fadd a b) := by
  have h := add_fin ha hb
  refine ⟨by rw [h]; rfl, ?_⟩
  unfold fadd
  rw [h]
  exact flo_gen (fr_add a b) (fun h0 => by rw [if_neg h0])
theorem flo_sub {a b : Nat} (ha : rung a < inf) (hb : rung b < inf) : (Ieee.double.sub a b).isSome = true ∧ FloOf (fr a - fr b) (fsub a b) := by
  have h := sub_fin ha hb
  refine ⟨by rw [h]; rfl, ?_⟩
  unfold fsub
  rw [h]
  exact flo_gen (fr_sub a b) (fun h0 => by rw [if_neg h0])
theorem flo_mul {a b : Nat} (ha : rung a < inf) (hb : rung b < inf) : (Ieee.double.mul a b).isSome = true ∧ FloOf (fr a * fr b) (fmul a b) := by
  have h := mul_fin ha hb
  refine ⟨by rw [h]; rfl, ?_⟩
  unfold fmul
  rw [h]
  have e : mag (rung a) * mag (rung b) = (fv a * fv b).natAbs := by rw [Int.natAbs_mul, fv_natAbs, fv_natAbs]
  show FloOf _ (flo (sgn a ^^ sgn b) (min (rndAt 1074 (mag (rung a) * mag (rung b))) inf))
  rw [e]
  refine flo_gen (fr_mul a b) (fun h0 => ?_)
  have ha0 : fv a ≠ 0 := fun h => h0 (by rw [h, Int.zero_mul])
  have hb0 : fv b ≠ 0 := fun h => h0 (by rw [h, Int.mul_zero])
  have hA : ∀ x, fv x ≠ 0 → sgn x = decide (fv x < 0) := by
    intro x hx
    unfold fv sm at hx ⊢
    cases sgn x
    · simp at hx ⊢
    · simp at hx ⊢; omega
  rw [hA a ha0, hA b hb0]
  rcases Int.lt_or_gt_of_ne ha0 with h1 | h1 <;> rcases Int.lt_or_gt_of_ne hb0 with h2 | h2
  · rw [decide_eq_true h1, decide_eq_true h2, decide_eq_false (by have := Int.mul_pos_of_neg_of_neg h1 h2; omega)]; rfl
  · rw [decide_eq_true h1, decide_eq_false (by omega), decide_eq_true (Int.mul_neg_of_neg_of_pos h1 h2)]; rfl
  · rw [decide_eq_false (by omega), decide_eq_true h2, decide_eq_true (Int.mul_neg_of_pos_of_neg h1 h2)]; rfl
  · rw [decide_eq_false (by omega), decide_eq_false (by omega), decide_eq_false (by have := Int.mul_pos h1 h2; omega)]; rfl
end Go.Proofs.YtiihokgjplpceaaDoor
end

section
/- Boxes for numbers, and what a region of calls and loads keeps. -/
namespace Go.Proofs.YtiihokgjplpceaaDoor
open Go.RowKit TV
set_option linter.unusedVariables false

theorem bl_pack {B : Nat} {w w1 w2 : World} (h : Below B w w1) (hs : B ≤ w1.heap.size) (h2 : Below w1.heap.size w1 w2) : Below B w w2 := h.trans (h2.mono hs)

/-- A cell for a number. -/
theorem box_res (w : World) (o : Obj) : ∃ wn, wn = w.alloc o ∧ Below w.heap.size w wn ∧ wn.heap.size = w.heap.size + 1 ∧ wn.heap[w.heap.size]? = some o := ⟨_, rfl, kp_alloc _ _, by simp, heap_alloc_new _ _⟩

/-- What a region of calls and loads keeps. -/
theorem sv1 {wk w' : World} (K : Kp wk w') {ba : Nat} {ua0 ua1 ua2 ua3 : Value} (qa0 : wk.cell? ⟨ba, 0, none⟩ = some ua0) (qa1 : wk.cell? ⟨ba, 1, none⟩ = some ua1) (qa2 : wk.cell? ⟨ba, 2, none⟩ = some ua2) (qa3 : wk.cell? ⟨ba, 3, none⟩ = some ua3) :
    w'.cell? ⟨ba, 0, none⟩ = some ua0 ∧ w'.cell? ⟨ba, 1, none⟩ = some ua1 ∧ w'.cell? ⟨ba, 2, none⟩ = some ua2 ∧ w'.cell? ⟨ba, 3, none⟩ = some ua3 ∧ Kp wk w' :=
  ⟨keep_cell K.out qa0, keep_cell K.out qa1, keep_cell K.out qa2, keep_cell K.out qa3, K⟩
theorem sv2 {wk w' : World} (K : Kp wk w') {ba bb : Nat} {ua0 ua1 ua2 ua3 ub0 ub1 ub2 ub3 : Value} (qa0 : wk.cell? ⟨ba, 0, none⟩ = some ua0) (qa1 : wk.cell? ⟨ba, 1, none⟩ = some ua1) (qa2 : wk.cell? ⟨ba, 2, none⟩ = some ua2) (qa3 : wk.cell? ⟨ba, 3, none⟩ = some ua3) (qb0 : wk.cell? ⟨bb, 0, none⟩ = some ub0) (qb1 : wk.cell? ⟨bb, 1, none⟩ = some ub1) (qb2 : wk.cell? ⟨bb, 2, none⟩ = some ub2) (qb3 : wk.cell? ⟨bb, 3, none⟩ = some ub3) :
    w'.cell? ⟨ba, 0, none⟩ = some ua0 ∧ w'.cell? ⟨ba, 1, none⟩ = some ua1 ∧ w'.cell? ⟨ba, 2, none⟩ = some ua2 ∧ w'.cell? ⟨ba, 3, none⟩ = some ua3 ∧ w'.cell? ⟨bb, 0, none⟩ = some ub0 ∧ w'.cell? ⟨bb, 1, none⟩ = some ub1 ∧ w'.cell? ⟨bb, 2, none⟩ = some ub2 ∧ w'.cell? ⟨bb, 3, none⟩ = some ub3 ∧ Kp wk w' :=
  ⟨keep_cell K.out qa0, keep_cell K.out qa1, keep_cell K.out qa2, keep_cell K.out qa3, keep_cell K.out qb0, keep_cell K.out qb1, keep_cell K.out qb2, keep_cell K.out qb3, K⟩
theorem sv3 {wk w' : World} (K : Kp wk w') {ba bb bc : Nat} {ua0 ua1 ua2 ua3 ub0 ub1 ub2 ub3 uc0 uc1 uc2 uc3 : Value} (qa0 : wk.cell? ⟨ba, 0, none⟩ = some ua0) (qa1 : wk.cell? ⟨ba, 1, none⟩ = some ua1) (qa2 : wk.cell? ⟨ba, 2, none⟩ = some ua2) (qa3 : wk.cell? ⟨ba, 3, none⟩ = some ua3) (qb0 : wk.cell? ⟨bb, 0, none⟩ = some ub0) (qb1 : wk.cell? ⟨bb, 1, none⟩ = some ub1) (qb2 : wk.cell? ⟨bb, 2, none⟩ = some ub2) (qb3 : wk.cell? ⟨bb, 3, none⟩ = some ub3) (qc0 : wk.cell? ⟨bc, 0, none⟩ = some uc0) (qc1 : wk.cell? ⟨bc, 1, none⟩ = some uc1) (qc2 : wk.cell? ⟨bc, 2, none⟩ = some uc2) (qc3 : wk.cell? ⟨bc, 3, none⟩ = some uc3) :
    w'.cell? ⟨ba, 0, none⟩ = some ua0 ∧ w'.cell? ⟨ba, 1, none⟩ = some ua1 ∧ w'.cell? ⟨ba, 2, none⟩ = some ua2 ∧ w'.cell? ⟨ba, 3, none⟩ = some ua3 ∧ w'.cell? ⟨bb, 0, none⟩ = some ub0 ∧ w'.cell? ⟨bb, 1, none⟩ = some ub1 ∧ w'.cell? ⟨bb, 2, none⟩ = some ub2 ∧ w'.cell? ⟨bb, 3, none⟩ = some ub3 ∧ w'.cell? ⟨bc, 0, none⟩ = some uc0 ∧ w'.cell? ⟨bc, 1, none⟩ = some uc1 ∧ w'.cell? ⟨bc, 2, none⟩ = some uc2 ∧ w'.cell? ⟨bc, 3, none⟩ = some uc3 ∧ Kp wk w' :=
  ⟨keep_cell K.out qa0, keep_cell K.out qa1, keep_cell K.out qa2, keep_cell K.out qa3, keep_cell K.out qb0, keep_cell K.out qb1, keep_cell K.out qb2, keep_cell K.out qb3, keep_cell K.out qc0, keep_cell K.out qc1, keep_cell K.out qc2, keep_cell K.out qc3, K⟩
theorem sv4 {wk w' : World} (K : Kp wk w') {ba bb bc bd : Nat} {ua0 ua1 ua2 ua3 ub0 ub1 ub2 ub3 uc0 uc1 uc2 uc3 ud0 ud1 ud2 ud3 : Value} (qa0 : wk.cell? ⟨ba, 0, none⟩ = some ua0) (qa1 : wk.cell? ⟨ba, 1, none⟩ = some ua1) (qa2 : wk.cell? ⟨ba, 2, none⟩ = some ua2) (qa3 : wk.cell? ⟨ba, 3, none⟩ = some ua3) (qb0 : wk.cell? ⟨bb, 0, none⟩ = some ub0) (qb1 : wk.cell? ⟨bb, 1, none⟩ = some ub1) (qb2 : wk.cell? ⟨bb, 2, none⟩ = some ub2) (qb3 : wk.cell? ⟨bb, 3, none⟩ = some ub3) (qc0 : wk.cell? ⟨bc, 0, none⟩ = some uc0) (qc1 : wk.cell? ⟨bc, 1, none⟩ = some uc1) (qc2 : wk.cell? ⟨bc, 2, none⟩ = some uc2) (qc3 : wk.cell? ⟨bc, 3, none⟩ = some uc3) (qd0 : wk.cell? ⟨bd, 0, none⟩ = some ud0) (qd1 : wk.cell? ⟨bd, 1, none⟩ = some ud1) (qd2 : wk.cell? ⟨bd, 2, none⟩ = some ud2) (qd3 : wk.cell? ⟨bd, 3, none⟩ = some ud3) :
    w'.cell? ⟨ba, 0, none⟩ = some ua0 ∧ w'.cell? ⟨ba, 1, none⟩ = some ua1 ∧ w'.cell? ⟨ba, 2, none⟩ = some ua2 ∧ w'.cell? ⟨ba, 3, none⟩ = some ua3 ∧ w'.cell? ⟨bb, 0, none⟩ = some ub0 ∧ w'.cell? ⟨bb, 1, none⟩ = some ub1 ∧ w'.cell? ⟨bb, 2, none⟩ = some ub2 ∧ w'.cell? ⟨bb, 3, none⟩ = some ub3 ∧ w'.cell? ⟨bc, 0, none⟩ = some uc0 ∧ w'.cell? ⟨bc, 1, none⟩ = some uc1 ∧ w'.cell? ⟨bc, 2, none⟩ = some uc2 ∧ w'.cell? ⟨bc, 3, none⟩ = some uc3 ∧ w'.cell? ⟨bd, 0, none⟩ = some ud0 ∧ w'.cell? ⟨bd, 1, none⟩ = some ud1 ∧ w'.cell? ⟨bd, 2, none⟩ = some ud2 ∧ w'.cell? ⟨bd, 3, none⟩ = some ud3 ∧ Kp wk w' :=
  ⟨keep_cell K.out qa0, keep_cell K.out qa1, keep_cell K.out qa2, keep_cell K.out qa3, keep_cell K.out qb0, keep_cell K.out qb1, keep_cell K.out qb2, keep_cell K.out qb3, keep_cell K.out qc0, keep_cell K.out qc1, keep_cell K.out qc2, keep_cell K.out qc3, keep_cell K.out qd0, keep_cell K.out qd1, keep_cell K.out qd2, keep_cell K.out qd3, K⟩
end Go.Proofs.YtiihokgjplpceaaDoor
end
