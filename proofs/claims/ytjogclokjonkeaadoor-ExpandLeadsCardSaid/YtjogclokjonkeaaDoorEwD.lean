/- Package expand, walked: within, all. -/
import Derived.Test.YtjogclokjonkeaaDoorEwC
import Derived.Test.YtjogclokjonkeaaDoorNwE
namespace Go.Proofs.YtjogclokjonkeaaDoor
open Go.RowKit TV
set_option linter.unusedVariables false

theorem ord_r {r c : Nat} (hr : r ≤ inf) (hc : c ≤ inf) : FloatKind.f64.format.order r c = some (compare r c) := by
  have hl := inf_lt
  have h1 := rung_small (show r < 9223372036854775808 by omega)
  have h2 := rung_small (show c < 9223372036854775808 by omega)
  have e1 : fv r = (mag r : Int) := by unfold fv sm; rw [sgn_small (by omega), h1]; rfl
  have e2 : fv c = (mag c : Int) := by unfold fv sm; rw [sgn_small (by omega), h2]; rfl
  refine (order_le (by rw [h1]; exact hr) (by rw [h2]; exact hc)).trans ?_
  rw [e1, e2]
  congr 1
  rcases Nat.lt_trichotomy r c with h | h | h
  · rw [Nat.compare_eq_lt.2 h, Int.compare_eq_lt.2 (by have := mag_lt h; omega)]
  · rw [h, Nat.compare_eq_eq.2 rfl, Int.compare_eq_eq.2 rfl]
  · rw [Nat.compare_eq_gt.2 h, Int.compare_eq_gt.2 (by have := mag_lt h; omega)]
theorem ord_nan {r c : Nat} (hr : inf < r) (hr2 : r < 9223372036854775808) : FloatKind.f64.format.order r c = none := order_nan_left (by rw [rung_small hr2]; exact hr)
def inB (a b x : Nat) : Bool := decide (a ≤ rung x ∧ rung x ≤ b)

theorem within_calls (x a b : Nat) (hx : x < 18446744073709551616) (ha : a ≤ inf) (hb : b ≤ inf) (w : World) :
    Calls Tryd.prog 54 #[.float .f64 x, .float .f64 a, .float .f64 b] w fun e w' => e = .returned (.bool (inB a b x)) ∧ w = w' := by
  obtain ⟨r, hr⟩ : ∃ r, r = rung x := ⟨_, rfl⟩
  have hrl := rung_lt x
  have HAb := Lib.hid (fun w => abs_at x r hx hr w)
  unfold inB
  rw [← hr] at hrl ⊢
  clear hr
  by_cases hn : inf < r
  · have o1 := ord_nan (c := a) hn hrl
    have hd : decide (a ≤ r ∧ r ≤ b) = false := decide_eq_false (by omega)
    rw [hd]
    clear hd
    go_enter Tryd.func54, Tryd.ntmps54
    go_wp2_with (go_at_call 31; ((with_reducible refine (HAb.out _).mono ?_); rintro e w1 ⟨rfl, rfl⟩))
    go_ret
    exact ⟨rfl, rfl⟩
  · have o1 := ord_r (r := r) (c := a) (by omega) ha
    have o2 := ord_r (r := r) (c := b) (by omega) hb
    have key : ∀ v : Bool, decide (a ≤ r ∧ r ≤ b) = v → Calls Tryd.prog 54 #[.float .f64 x, .float .f64 a, .float .f64 b] w fun e w' => e = .returned (.bool v) ∧ w = w' := by
      intro v hv
      rcases Nat.lt_trichotomy r a with h | h | h
      · rw [Nat.compare_eq_lt.2 h] at o1
        obtain rfl : v = false := by rw [← hv]; exact decide_eq_false (by omega)
        clear hv o2
        go_enter Tryd.func54, Tryd.ntmps54
        go_wp2_with (go_at_call 31; ((with_reducible refine (HAb.out _).mono ?_); rintro e w1 ⟨rfl, rfl⟩))
        go_ret
        exact ⟨rfl, rfl⟩
      · rw [Nat.compare_eq_eq.2 h] at o1
        rcases Nat.lt_trichotomy r b with h' | h' | h'
        · rw [Nat.compare_eq_lt.2 h'] at o2
          obtain rfl : v = true := by rw [← hv]; exact decide_eq_true (by omega)
          clear hv h h'
          go_enter Tryd.func54, Tryd.ntmps54
          go_wp2_with (go_at_call 31; ((with_reducible refine (HAb.out _).mono ?_); rintro e w1 ⟨rfl, rfl⟩))
          go_ret
          exact ⟨rfl, rfl⟩
        · rw [Nat.compare_eq_eq.2 h'] at o2
          obtain rfl : v = true := by rw [← hv]; exact decide_eq_true (by omega)
          clear hv h h'
          go_enter Tryd.func54, Tryd.ntmps54
          go_wp2_with (go_at_call 31; ((with_reducible refine (HAb.out _).mono ?_); rintro e w1 ⟨rfl, rfl⟩))
          go_ret
          exact ⟨rfl, rfl⟩
        · rw [Nat.compare_eq_gt.2 h'] at o2
          obtain rfl : v = false := by rw [← hv]; exact decide_eq_false (by omega)
          clear hv h h'
          go_enter Tryd.func54, Tryd.ntmps54
          go_wp2_with (go_at_call 31; ((with_reducible refine (HAb.out _).mono ?_); rintro e w1 ⟨rfl, rfl⟩))
          go_ret
          exact ⟨rfl, rfl⟩
      · rw [Nat.compare_eq_gt.2 h] at o1
        rcases Nat.lt_trichotomy r b with h' | h' | h'
        · rw [Nat.compare_eq_lt.2 h'] at o2
          obtain rfl : v = true := by rw [← hv]; exact decide_eq_true (by omega)
          clear hv h h'
          go_enter Tryd.func54, Tryd.ntmps54
          go_wp2_with (go_at_call 31; ((with_reducible refine (HAb.out _).mono ?_); rintro e w1 ⟨rfl, rfl⟩))
          go_ret
          exact ⟨rfl, rfl⟩
        · rw [Nat.compare_eq_eq.2 h'] at o2
          obtain rfl : v = true := by rw [← hv]; exact decide_eq_true (by omega)
          clear hv h h'
          go_enter Tryd.func54, Tryd.ntmps54
          go_wp2_with (go_at_call 31; ((with_reducible refine (HAb.out _).mono ?_); rintro e w1 ⟨rfl, rfl⟩))
          go_ret
          exact ⟨rfl, rfl⟩
        · rw [Nat.compare_eq_gt.2 h'] at o2
          obtain rfl : v = false := by rw [← hv]; exact decide_eq_false (by omega)
          clear hv h h'
          go_enter Tryd.func54, Tryd.ntmps54
          go_wp2_with (go_at_call 31; ((with_reducible refine (HAb.out _).mono ?_); rintro e w1 ⟨rfl, rfl⟩))
          go_ret
          exact ⟨rfl, rfl⟩
    exact key _ rfl
end Go.Proofs.YtjogclokjonkeaaDoor
