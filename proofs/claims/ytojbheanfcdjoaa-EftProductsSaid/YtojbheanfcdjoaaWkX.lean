/- math.Nextafter towards the greatest float and towards nought, walked. -/
import Derived.Test.YtojbheanfcdjoaaWkW
import Derived.Test.YtojbheanfcdjoaaRdA
namespace Go.Proofs.Ytojbheanfcdjoaa
open Go.RowKit TV
set_option linter.unusedVariables false
set_option exponentiation.threshold 3000

theorem pos_bits {x : Nat} (hx : x < 18446744073709551616) (hs : sgn x = false) : x = rung x := by
  have := flo_eta hx; rw [hs] at this; exact this.symm
theorem fv_pos {x : Nat} (hs : sgn x = false) : fv x = mag (rung x) := by unfold fv sm; rw [hs]; rfl
theorem ord_of {x y : Nat} (hx : rung x < inf) (hy : rung y < inf) (h : fv x < fv y) : FloatKind.f64.format.order x y = some .lt := by
  exact (order_fin hx hy).trans (by rw [Int.compare_eq_lt.2 h])
theorem ord_of' {x y : Nat} (hx : rung x < inf) (hy : rung y < inf) (h : fv y < fv x) : FloatKind.f64.format.order x y = some .gt := by
  exact (order_fin hx hy).trans (by rw [Int.compare_eq_gt.2 h])

theorem sign_at (w : World) : Calls Try.prog 52 #[.float .f64 1, .float .f64 9218868437227405311] w fun e w' => e = .returned (.float .f64 1) ∧ w = w' := by
  have k1 := fun (x : Nat) (w : World) => callBits x w
  have k2 := fun (x : Int) (w : World) => callFrom x w
  go_enter Try.func52, Try.ntmps52
  go_wp2
  go_ret
  refine ⟨ret_float ?_, rfl⟩
  decide

theorem next_up_zero (x : Nat) (hx : x < 18446744073709551616) (hz : rung x = 0) (w : World) :
    Calls Try.prog 50 #[.float .f64 x, .float .f64 9218868437227405311] w fun e w' => e = .returned (.float .f64 1) ∧ w = w' := by
  have hi := inf_eq
  have hm : rung 9218868437227405311 = 9218868437227405311 := rung_small (by omega)
  have k1 := fun (x : Nat) (w : World) => callBits x w
  have k2 := fun (x : Int) (w : World) => callFrom x w
  have n1 : decide (inf < rung x) = false := decide_eq_false (by omega)
  have n2 : decide (inf < rung 9218868437227405311) = false := decide_eq_false (by omega)
  have o1 : FloatKind.f64.format.order x 9218868437227405311 = some .lt := by
    apply ord_of (by omega) (by omega)
    rw [fv_zero_of hz, fv_pos (by decide), hm]
    have := mag_lt (r := 0) (s := 9218868437227405311) (by omega)
    omega
  have o2 : FloatKind.f64.format.order x 0 = some .eq := by
    have := eq_zero x; rw [decide_eq_true hz] at this; exact eq_of_beq this
  go_enter Try.func50, Try.ntmps50
  go_wp2_with (first
    | (go_at_call 48; refine (isnan_calls _ _).mono ?_; (first | rw [n1] | rw [n2]); rintro e w' ⟨rfl, rfl⟩)
    | (go_at_call 52; refine (sign_at _).mono ?_; rintro e w' ⟨rfl, rfl⟩))
  go_ret
  exact ⟨rfl, rfl⟩

theorem next_up_max (w : World) :
    Calls Try.prog 50 #[.float .f64 9218868437227405311, .float .f64 9218868437227405311] w fun e w' => e = .returned (.float .f64 9218868437227405311) ∧ w = w' := by
  have hi := inf_eq
  have hm : rung 9218868437227405311 = 9218868437227405311 := rung_small (by omega)
  have n2 : decide (inf < rung 9218868437227405311) = false := decide_eq_false (by omega)
  have o1 := order_self (x := 9218868437227405311) (by omega)
  go_enter Try.func50, Try.ntmps50
  go_wp2_with (first
    | (go_at_call 48; refine (isnan_calls _ _).mono ?_; rw [n2]; rintro e w' ⟨rfl, rfl⟩))
  go_ret
  exact ⟨rfl, rfl⟩

theorem next_up_pos (r : Nat) (h0 : 0 < r) (h1 : r < 9218868437227405311) (w : World) :
    Calls Try.prog 50 #[.float .f64 r, .float .f64 9218868437227405311] w fun e w' => e = .returned (.float .f64 (r + 1)) ∧ w = w' := by
  have hi := inf_eq
  have hr : rung r = r := rung_small (by omega)
  have hm : rung 9218868437227405311 = 9218868437227405311 := rung_small (by omega)
  have k1 := fun (x : Nat) (w : World) => callBits x w
  have k2 := fun (x : Int) (w : World) => callFrom x w
  have n1 : decide (inf < rung r) = false := decide_eq_false (by omega)
  have n2 : decide (inf < rung 9218868437227405311) = false := decide_eq_false (by omega)
  have v1 : fv r = mag r := fv_pos_rung r (by omega)
  have v2 : fv 9218868437227405311 = mag 9218868437227405311 := fv_pos_rung _ (by omega)
  have hlt := mag_lt h1
  have hv0 : fv 0 = 0 := by decide
  have hlt0 := mag_lt h0
  have hz : mag 0 = 0 := mag_zero
  have o1 : FloatKind.f64.format.order r 9218868437227405311 = some .lt := ord_of (by omega) (by omega) (by omega)
  have o2 : FloatKind.f64.format.order r 0 = some .gt := ord_of' (by omega) (by decide) (by omega)
  have o3 : FloatKind.f64.format.order 9218868437227405311 r = some .gt := ord_of' (by omega) (by omega) (by omega)
  clear v1 v2 hlt hlt0 hz hm
  go_enter Try.func50, Try.ntmps50
  go_wp2_with (first
    | (go_at_call 48; refine (isnan_calls _ _).mono ?_; (first | rw [n1] | rw [n2]); rintro e w' ⟨rfl, rfl⟩))
  go_ret
  exact ⟨ret_float (by omega), rfl⟩

theorem next_down (r : Nat) (h0 : 0 < r) (h1 : r < inf) (w : World) :
    Calls Try.prog 50 #[.float .f64 r, .float .f64 0] w fun e w' => e = .returned (.float .f64 (r - 1)) ∧ w = w' := by
  have hi := inf_eq
  have hr : rung r = r := rung_small (by omega)
  have k1 := fun (x : Nat) (w : World) => callBits x w
  have k2 := fun (x : Int) (w : World) => callFrom x w
  have n1 : decide (inf < rung r) = false := decide_eq_false (by omega)
  have n2 : decide (inf < rung 0) = false := by decide
  have v1 : fv r = mag r := fv_pos_rung r (by omega)
  have v2 : fv 0 = 0 := by decide
  have hlt0 := mag_lt h0
  have hz : mag 0 = 0 := mag_zero
  have o2 : FloatKind.f64.format.order r 0 = some .gt := ord_of' (by omega) (by decide) (by omega)
  have o3 : FloatKind.f64.format.order 0 r = some .lt := ord_of (by decide) (by omega) (by omega)
  clear v1 v2 hlt0 hz
  go_enter Try.func50, Try.ntmps50
  go_wp2_with (first
    | (go_at_call 48; refine (isnan_calls _ _).mono ?_; (first | rw [n1] | rw [n2]); rintro e w' ⟨rfl, rfl⟩))
  go_ret
  exact ⟨ret_float (by omega), rfl⟩
end Go.Proofs.Ytojbheanfcdjoaa
