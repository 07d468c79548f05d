/- Floats held against each other; math.IsNaN, math.IsInf walked. -/
import Derived.Test.YtiihokgjplpceaaDoorPuB
import Derived.Test.YtiihokgjplpceaaDoorGeA
import Derived.Laws.FloatArith
namespace Go.Proofs.YtiihokgjplpceaaDoor
open Go.RowKit TV
set_option linter.unusedVariables false

theorem ord_lt {x y : Nat} : (FloatKind.f64.format.order x y == some Ordering.lt) = flt x y := rfl
theorem ord_eq {x y : Nat} : (FloatKind.f64.format.order x y == some Ordering.eq) = feq x y := rfl
def fgt (x y : Nat) : Bool := Ieee.double.order x y == some .gt
theorem ord_gt {x y : Nat} : (FloatKind.f64.format.order x y == some Ordering.gt) = fgt x y := rfl
theorem fgt_fin {x y : Nat} (hx : rung x < inf) (hy : rung y < inf) : fgt x y = decide (fv y < fv x) := by
  unfold fgt; rw [order_fin hx hy, cmp_gt]

theorem w64 {n : Int} (h : -9223372036854775808 ≤ n) (h2 : n ≤ 9223372036854775807) : wrap64 n = n := by unfold wrap64; omega
theorem ret_fi {a b : Nat} {m n : Int} (h : a = b) (h2 : m = n) : Ending.returned (.tuple #[.float .f64 a, .int .i64 m]) = .returned (.tuple #[.float .f64 b, .int .i64 n]) := by rw [h, h2]

theorem isnan_calls (x : Nat) (w : World) :
    Calls Tryd.prog 77 #[.float .f64 x] w fun e w' => e = .returned (.bool (decide (inf < rung x))) ∧ w = w' := by
  have h := feq_self x
  go_enter Tryd.func77, Tryd.ntmps77
  go_wp2
  go_ret
  refine ⟨ret_bool ?_, rfl⟩
  change (!feq x x) = _
  rw [h]
  by_cases c : rung x ≤ inf
  · rw [decide_eq_true c, decide_eq_false (by omega)]; rfl
  · rw [decide_eq_false c, decide_eq_true (by omega)]; rfl

theorem fgt_max {r : Nat} (h : r < 9223372036854775808) : fgt r 9218868437227405311 = decide (r = inf) := by
  have hr : rung r = r := rung_small h
  have hm : rung 9218868437227405311 = 9218868437227405311 := rung_small (by omega)
  by_cases c : r < inf
  · rw [fgt_fin (by rw [hr]; exact c) (by rw [hm]; decide), fv_pos_rung _ h, fv_pos_rung _ (by omega), decide_eq_false (show ¬ r = inf by omega)]
    have : mag r ≤ mag 9218868437227405311 := mag_le (by have := inf_eq; omega)
    simp only [decide_eq_false_iff_not]; omega
  · by_cases d : r = inf
    · unfold fgt; rw [order_inf_fin (by rw [hr]; exact d) (by rw [hm]; decide), sgn_small h, decide_eq_true d]; rfl
    · unfold fgt; rw [order_nan_left (by rw [hr]; omega), decide_eq_false d]; decide

theorem isinf_calls (x : Nat) (hx : x < 18446744073709551616) (w : World) :
    Calls Tryd.prog 76 #[.float .f64 x, .int .i64 0] w fun e w' => e = .returned (.bool (decide (rung x = inf))) ∧ w = w' := by
  have h := fgt_max (rung_lt x)
  go_enter Tryd.func76, Tryd.ntmps76
  go_wp2_with (go_at_call 25; refine (abs_calls _ hx _).mono ?_; rintro e w' ⟨rfl, rfl⟩)
  go_ret
  exact ⟨ret_bool h, rfl⟩

end Go.Proofs.YtiihokgjplpceaaDoor
