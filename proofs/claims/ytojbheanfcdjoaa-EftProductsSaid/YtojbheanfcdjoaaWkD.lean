/- The examples that each statement of layer 2 asks first hold, whatever memory they are asked in. -/
import Derived.Test.YtojbheanfcdjoaaWkC
namespace Go.Proofs.Ytojbheanfcdjoaa
open Go.RowKit TV

theorem ex_sum1 (w : World) : Calls Try.prog 14 #[.float .f64 4845873199050653696, .float .f64 4607182418800017408] w fun e w' => e = .returned (.tuple #[.float .f64 4845873199050653696, .float .f64 4607182418800017408]) ∧ Below w.heap.size w w' := by
  have h := sum_below 4845873199050653696 4607182418800017408 (by decide) (by decide) (by decide) (by decide) w
  rwa [show fadd 4845873199050653696 4607182418800017408 = 4845873199050653696 by decide +kernel, show sumLo 4845873199050653696 4607182418800017408 = 4607182418800017408 by decide +kernel] at h
theorem ex_sum2 (w : World) : Calls Try.prog 14 #[.float .f64 4845873199050653697, .float .f64 4607182418800017408] w fun e w' => e = .returned (.tuple #[.float .f64 4845873199050653698, .float .f64 13830554455654793216]) ∧ Below w.heap.size w w' := by
  have h := sum_below 4845873199050653697 4607182418800017408 (by decide) (by decide) (by decide) (by decide) w
  rwa [show fadd 4845873199050653697 4607182418800017408 = 4845873199050653698 by decide +kernel, show sumLo 4845873199050653697 4607182418800017408 = 13830554455654793216 by decide +kernel] at h
theorem ex_split (w : World) : Calls Try.prog 17 #[.float .f64 4728779608772575232] w fun e w' => e = .returned (.tuple #[.float .f64 4728779608739020800, .float .f64 4607182418800017408]) ∧ w = w' := by
  have h := split_calls 4728779608772575232 (by decide) (by decide) w
  rwa [show spHi 4728779608772575232 = 4728779608739020800 by decide +kernel, show spLo 4728779608772575232 = 4607182418800017408 by decide +kernel] at h
theorem ex_prod (w : World) : Calls Try.prog 16 #[.float .f64 4728779608772575232, .float .f64 4728779608772575232] w fun e w' => e = .returned (.tuple #[.float .f64 4850376798745133056, .float .f64 4607182418800017408]) ∧ Below w.heap.size w w' := by
  have h := prod_calls 4728779608772575232 4728779608772575232 (by decide) (by decide) (by decide) (by decide) w
  rwa [show fmul 4728779608772575232 4728779608772575232 = 4850376798745133056 by decide +kernel, show prodLo 4728779608772575232 4728779608772575232 = 4607182418800017408 by decide +kernel] at h
theorem ex_diff (w : World) : Calls Try.prog 15 #[.float .f64 4607182418800017408, .float .f64 4602678819172646912] w fun e w' => e = .returned (.tuple #[.float .f64 4602678819172646912, .float .f64 0]) ∧ Below w.heap.size w w' := by
  have h := diff_below 4607182418800017408 4602678819172646912 (by decide) (by decide) (by decide) (by decide) w
  rwa [show fadd 4607182418800017408 (fneg 4602678819172646912) = 4602678819172646912 by decide +kernel, show sumLo 4607182418800017408 (fneg 4602678819172646912) = 0 by decide +kernel] at h
theorem ex_tame1 (w : World) : Calls Try.prog 9 #[.float .f64 4607182418800017408] w fun e w' => e = .returned (.bool true) ∧ w = w' := tame_calls 4607182418800017408 (by decide) w
theorem ex_safe1 (w : World) : Calls Try.prog 11 #[.float .f64 4607182418800017408] w fun e w' => e = .returned (.bool true) ∧ w = w' := safe_calls 4607182418800017408 (by decide) w
theorem ex_safe2 (w : World) : Calls Try.prog 11 #[.float .f64 6633802251116740608] w fun e w' => e = .returned (.bool true) ∧ w = w' := safe_calls 6633802251116740608 (by decide) w
theorem ex_safe3 (w : World) : Calls Try.prog 11 #[.float .f64 11803934623338070016] w fun e w' => e = .returned (.bool true) ∧ w = w' := safe_calls 11803934623338070016 (by decide) w
theorem ex_safe4 (w : World) : Calls Try.prog 11 #[.float .f64 6638305850744111104] w fun e w' => e = .returned (.bool false) ∧ w = w' := safe_calls 6638305850744111104 (by decide) w
theorem ex_tame2 (w : World) : Calls Try.prog 9 #[.float .f64 9110782046170513408] w fun e w' => e = .returned (.bool true) ∧ w = w' := tame_calls 9110782046170513408 (by decide) w
theorem ex_tame3 (w : World) : Calls Try.prog 9 #[.float .f64 9115285645797883904] w fun e w' => e = .returned (.bool false) ∧ w = w' := tame_calls 9115285645797883904 (by decide) w

theorem awake2_calls (w : World) :
    Calls Try.prog 13 #[] w fun e w' => e = .returned (.bool true) ∧ Below w.heap.size w w' := by
  have q0 : FloatKind.f64.format.order 4845873199050653696 4845873199050653696 = some Ordering.eq := by decide +kernel
  have q1 : FloatKind.f64.format.order 4607182418800017408 4607182418800017408 = some Ordering.eq := by decide +kernel
  have q2 : FloatKind.f64.format.order 4845873199050653698 4845873199050653698 = some Ordering.eq := by decide +kernel
  have q3 : FloatKind.f64.format.order 13830554455654793216 13830554455654793216 = some Ordering.eq := by decide +kernel
  have q4 : FloatKind.f64.format.order 4728779608739020800 4728779608739020800 = some Ordering.eq := by decide +kernel
  have q5 : FloatKind.f64.format.order 4850376798745133056 4850376798745133056 = some Ordering.eq := by decide +kernel
  have q6 : FloatKind.f64.format.order 4602678819172646912 4602678819172646912 = some Ordering.eq := by decide +kernel
  have q7 : FloatKind.f64.format.order 0 0 = some Ordering.eq := by decide +kernel
  go_enter Try.func13, Try.ntmps13
  go_wp2_with (first
    | (go_at_call 14; ((with_reducible refine (ex_sum1 _).mono ?_); rintro e w1 ⟨rfl, hb1⟩))
    | (go_at_call 14; ((with_reducible refine (ex_sum2 _).mono ?_); rintro e w2 ⟨rfl, hb2⟩))
    | (go_at_call 17; ((with_reducible refine (ex_split _).mono ?_); rintro e w3 ⟨rfl, rfl⟩))
    | (go_at_call 16; ((with_reducible refine (ex_prod _).mono ?_); rintro e w4 ⟨rfl, hb4⟩))
    | (go_at_call 15; ((with_reducible refine (ex_diff _).mono ?_); rintro e w5 ⟨rfl, hb5⟩))
    | (go_at_call 9; ((with_reducible refine (ex_tame1 _).mono ?_); rintro e w6 ⟨rfl, rfl⟩))
    | (go_at_call 11; ((with_reducible refine (ex_safe1 _).mono ?_); rintro e w6 ⟨rfl, rfl⟩))
    | (go_at_call 11; ((with_reducible refine (ex_safe2 _).mono ?_); rintro e w6 ⟨rfl, rfl⟩))
    | (go_at_call 11; ((with_reducible refine (ex_safe3 _).mono ?_); rintro e w6 ⟨rfl, rfl⟩))
    | (go_at_call 11; ((with_reducible refine (ex_safe4 _).mono ?_); rintro e w6 ⟨rfl, rfl⟩))
    | (go_at_call 9; ((with_reducible refine (ex_tame2 _).mono ?_); rintro e w6 ⟨rfl, rfl⟩))
    | (go_at_call 9; ((with_reducible refine (ex_tame3 _).mono ?_); rintro e w6 ⟨rfl, rfl⟩)))
  go_ret
  exact ⟨rfl, ((hb1.trans (hb2.mono hb1.size)).trans (hb4.mono (Nat.le_trans hb1.size hb2.size))).trans (hb5.mono (Nat.le_trans hb1.size (Nat.le_trans hb2.size hb4.size)))⟩
end Go.Proofs.Ytojbheanfcdjoaa
