/- math.Frexp walked, and the number of a float. -/
import Derived.Test.YtiiipgbfhcbjdaaWkR
import Derived.Test.YtiiipgbfhcbjdaaFrA
import Derived.Test.YtiiipgbfhcbjdaaAbsC
import Derived.Laws.FloatArith
namespace Go.Proofs.Ytiiipgbfhcbjdaa
open Go.RowKit TV
set_option linter.unusedVariables false

theorem ord_lt {x y : Nat} : (FloatKind.f64.format.order x y == some Ordering.lt) = flt x y := rfl
theorem ord_eq {x y : Nat} : (FloatKind.f64.format.order x y == some Ordering.eq) = feq x y := rfl
def fgt (x y : Nat) : Bool := Ieee.double.order x y == some .gt
theorem ord_gt {x y : Nat} : (FloatKind.f64.format.order x y == some Ordering.gt) = fgt x y := rfl
theorem fgt_fin {x y : Nat} (hx : rung x < inf) (hy : rung y < inf) : fgt x y = decide (fv y < fv x) := by
  unfold fgt; rw [order_fin hx hy, cmp_gt]

theorem w64 {n : Int} (h : -9223372036854775808 ≤ n) (h2 : n ≤ 9223372036854775807) : wrap64 n = n := by unfold wrap64; omega
theorem ret_fi {a b : Nat} {m n : Int} (h : a = b) (h2 : m = n) : Ending.returned (.tuple #[.float .f64 a, .int .i64 m]) = .returned (.tuple #[.float .f64 b, .int .i64 n]) := by rw [h, h2]

theorem normalize_calls (r : Nat) (h0 : 0 < r) (h : r < inf) (w : World) :
    Calls Try.prog 38 #[.float .f64 r] w fun e w' => e = .returned (.tuple #[.float .f64 (frM r), .int .i64 (-(frS r : Int))]) ∧ w = w' := by
  obtain ⟨f1, -⟩ := frM_facts h0 h
  have hi := inf_lt
  have hr : rung r = r := rung_small (by omega)
  have hc : (FloatKind.f64.format.order r 4503599627370496 == some Ordering.lt) = decide (r < 4503599627370496) := by
    have := flt_fin (x := r) (y := 4503599627370496) (by rw [hr]; exact h) (by rw [rung_small (by omega)]; decide)
    rw [ord_lt, this, fv_pos_rung _ (by omega), fv_pos_rung _ (by omega)]
    have e : (((mag r : Nat) : Int) < (mag 4503599627370496 : Nat)) ↔ r < 4503599627370496 :=
      ⟨fun a => lt_of_mag (by omega), fun a => by have := mag_lt a; omega⟩
    rw [decide_eq_decide]; exact e
  by_cases c : r < 4503599627370496
  · have f2 := some_of (f1 c)
    have f3 : frM r = fmul r 4841369599423283200 := if_pos c
    have f4 : frS r = 52 := if_pos c
    rw [f3, f4]
    rw [decide_eq_true c] at hc
    clear f1 f3 f4
    go_enter Try.func38, Try.ntmps38
    go_wp2_with (go_at_call 10; refine (abs_calls _ (by omega) _).mono ?_; rw [hr]; rintro e w' ⟨rfl, rfl⟩)
    go_ret2
    exact ⟨rfl, rfl⟩
  · have f3 : frM r = r := if_neg c
    have f4 : frS r = 0 := if_neg c
    rw [f3, f4]
    rw [decide_eq_false c] at hc
    clear f1 f3 f4
    go_enter Try.func38, Try.ntmps38
    go_wp2_with (go_at_call 10; refine (abs_calls _ (by omega) _).mono ?_; rw [hr]; rintro e w' ⟨rfl, rfl⟩)
    go_ret2
    exact ⟨rfl, rfl⟩

theorem isnan_calls (x : Nat) (w : World) :
    Calls Try.prog 37 #[.float .f64 x] w fun e w' => e = .returned (.bool (decide (inf < rung x))) ∧ w = w' := by
  have h := feq_self x
  go_enter Try.func37, Try.ntmps37
  go_wp2
  go_ret
  refine ⟨ret_bool ?_, rfl⟩
  change (!feq x x) = _
  rw [h]
  by_cases c : rung x ≤ inf
  · rw [decide_eq_true c, decide_eq_false (by omega)]; rfl
  · rw [decide_eq_false c, decide_eq_true (by omega)]; rfl

theorem fgt_max {r : Nat} (h : r < 9223372036854775808) : fgt r 9218868437227405311 = decide (r = inf) := by
  have hr : rung r = r := rung_small h
  have hm : rung 9218868437227405311 = 9218868437227405311 := rung_small (by omega)
  by_cases c : r < inf
  · rw [fgt_fin (by rw [hr]; exact c) (by rw [hm]; decide), fv_pos_rung _ h, fv_pos_rung _ (by omega), decide_eq_false (show ¬ r = inf by omega)]
    have : mag r ≤ mag 9218868437227405311 := mag_le (by have := inf_eq; omega)
    simp only [decide_eq_false_iff_not]; omega
  · by_cases d : r = inf
    · unfold fgt; rw [order_inf_fin (by rw [hr]; exact d) (by rw [hm]; decide), sgn_small h, decide_eq_true d]; rfl
    · unfold fgt; rw [order_nan_left (by rw [hr]; omega), decide_eq_false d]; decide

theorem isinf_calls (x : Nat) (hx : x < 18446744073709551616) (w : World) :
    Calls Try.prog 36 #[.float .f64 x, .int .i64 0] w fun e w' => e = .returned (.bool (decide (rung x = inf))) ∧ w = w' := by
  have h := fgt_max (rung_lt x)
  go_enter Try.func36, Try.ntmps36
  go_wp2_with (go_at_call 10; refine (abs_calls _ hx _).mono ?_; rintro e w' ⟨rfl, rfl⟩)
  go_ret
  exact ⟨ret_bool h, rfl⟩

theorem frexp_calls (r : Nat) (h0 : 0 < r) (h : r < inf) (w : World) :
    Calls Try.prog 34 #[.float .f64 r] w fun e w' => e = .returned (.tuple #[.float .f64 (frF r), .int .i64 (frE r)]) ∧ w = w' := by
  have hi := inf_lt
  have hr : rung r = r := rung_small (by omega)
  obtain ⟨-, g1, g2, -⟩ := frM_facts h0 h
  have hz : (FloatKind.f64.format.order r 0 == some Ordering.eq) = false := by
    have := eq_zero r; rw [hr] at this; rw [ord_eq]; exact this.trans (decide_eq_false (by omega))
  have hq1 : decide (rung r = inf) = false := by rw [hr]; exact decide_eq_false (by omega)
  have hq2 : decide (inf < rung r) = false := by rw [hr]; exact decide_eq_false (by omega)
  have k1 := fun (x : Nat) (w : World) => callBits x w
  have k2 := fun (x : Int) (w : World) => callFrom x w
  go_enter Try.func34, Try.ntmps34
  go_wp2_with (first
   | (go_at_call 36; refine (isinf_calls _ (by omega) _).mono ?_; rw [hq1]; rintro e w' ⟨rfl, rfl⟩)
   | (go_at_call 37; refine (isnan_calls _ _).mono ?_; rw [hq2]; rintro e w' ⟨rfl, rfl⟩)
   | (go_at_call 38; refine (normalize_calls _ h0 h _).mono ?_; rintro e w' ⟨rfl, rfl⟩))
  go_ret2
  have c1 := clear_exp (M := frM r) (by omega)
  have c2 := set_exp (m := frM r % 4503599627370496) (Nat.mod_lt _ (by omega))
  have c3 := get_exp (M := frM r) (by omega)
  have hs : frS r ≤ 52 := by unfold frS; split <;> omega
  refine ⟨ret_fi ?_ ?_, rfl⟩
  · rw [c1, c2]; rfl
  · rw [c3, w64 (n := ((frM r / 4503599627370496 : Nat) : Int)) (by omega) (by omega), w64 (n := _ - 1023) (by omega) (by omega), w64 (n := _ + 1) (by omega) (by omega), w64 (by omega) (by omega)]
    unfold frE; omega

theorem Frexp_calls (r : Nat) (h0 : 0 < r) (h : r < inf) (w : World) :
    Calls Try.prog 30 #[.float .f64 r] w fun e w' => e = .returned (.tuple #[.float .f64 (frF r), .int .i64 (frE r)]) ∧ w = w' := by
  go_enter Try.func30, Try.ntmps30
  go_wp2_with (go_at_call 34; refine (frexp_calls _ h0 h _).mono ?_; rintro e w' ⟨rfl, rfl⟩)
  go_ret2
  exact ⟨rfl, rfl⟩

end Go.Proofs.Ytiiipgbfhcbjdaa
