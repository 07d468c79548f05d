/- What the small float functions compute, as plain functions of bits: math.Abs, eft.Tame, eft.Safe, eft.Sum, eft.Diff, eft.Split, eft.Prod. -/
import Derived.Test.YtojbheanfcdjoaaRows
import Derived.Test.YtojbheanfcdjoaaFlE
import Derived.WalkKit
import Derived.ProofKit
import Derived.WalkLawsBesides
import Derived.Laws.BitsAllLaws
import Derived.Lib.Hide
namespace Go.Proofs.Ytojbheanfcdjoaa
open Go.RowKit TV

theorem callBits (x : Nat) (w : World) : (callFunc 41 #[.float .f64 x]).run Try.prog w = .ok (.value (.int .u64 x)) w := by kernel_rfl
theorem callFrom (x : Int) (w : World) : (callFunc 40 #[.int .u64 x]).run Try.prog w = .ok (.value (.float .f64 x.toNat)) w := by kernel_rfl
theorem ret_bool {a b : Bool} (h : a = b) : Ending.returned (.bool a) = .returned (.bool b) := by rw [h]
theorem ret_float {a b : Nat} (h : a = b) : Ending.returned (.float .f64 a) = .returned (.float .f64 b) := by rw [h]

section
variable {P : Program} (w : World)
@[go_sem] theorem run_fadd (t : TypeId) (x y : Nat) (h : (Ieee.double.add x y).isSome = true) : (binOp .add t (.float .f64 x) (.float .f64 y)).run P w = .ok (.float .f64 (fadd x y)) w := by
  obtain ⟨r, hr⟩ := Option.isSome_iff_exists.1 h
  rw [run_float_arith w .add t .f64 x y r hr]; unfold fadd; rw [hr]; rfl
@[go_sem] theorem run_fsub (t : TypeId) (x y : Nat) (h : (Ieee.double.sub x y).isSome = true) : (binOp .sub t (.float .f64 x) (.float .f64 y)).run P w = .ok (.float .f64 (fsub x y)) w := by
  obtain ⟨r, hr⟩ := Option.isSome_iff_exists.1 h
  rw [run_float_arith w .sub t .f64 x y r hr]; unfold fsub; rw [hr]; rfl
@[go_sem] theorem run_fmul (t : TypeId) (x y : Nat) (h : (Ieee.double.mul x y).isSome = true) : (binOp .mul t (.float .f64 x) (.float .f64 y)).run P w = .ok (.float .f64 (fmul x y)) w := by
  obtain ⟨r, hr⟩ := Option.isSome_iff_exists.1 h
  rw [run_float_arith w .mul t .f64 x y r hr]; unfold fmul; rw [hr]; rfl
end
theorem some_of {o : Option Nat} {r : Nat} (h : o = some r) : o.isSome = true := by rw [h]; rfl

theorem and_rung {x : Nat} (h : x < 18446744073709551616) : (bits .andNot .u64 (x : Int) 9223372036854775808).toNat = rung x := by
  have := u64_andNot_nat x 9223372036854775808 h (by omega)
  rw [show ((9223372036854775808 : Nat) : Int) = 9223372036854775808 by rfl] at this
  rw [this, Int.toNat_natCast, show (18446744073709551615 - 9223372036854775808 : Nat) = 2 ^ 63 - 1 by decide, Nat.and_two_pow_sub_one_eq_mod]
  rfl

theorem abs_calls (x : Nat) (hx : x < 18446744073709551616) (w : World) :
    Calls Try.prog 26 #[.float .f64 x] w fun e w' => e = .returned (.float .f64 (rung x)) ∧ w = w' := by
  have h1 := fun (x : Nat) (w : World) => callBits x w
  have h2 := fun (x : Int) (w : World) => callFrom x w
  have h3 := Lib.hid (and_rung hx)
  go_enter Try.func26, Try.ntmps26
  go_wp2
  go_ret
  exact ⟨by rw [← h3.out]; rfl, rfl⟩

theorem tame_calls (x : Nat) (hx : x < 18446744073709551616) (w : World) :
    Calls Try.prog 9 #[.float .f64 x] w fun e w' => e = .returned (.bool (tameB x)) ∧ w = w' := by
  go_enter Try.func9, Try.ntmps9
  go_wp2_with (go_at_call 26; refine (abs_calls _ hx _).mono ?_; rintro e w' ⟨rfl, rfl⟩)
  go_ret
  exact ⟨ret_bool (le_pos (rung_lt x) (by decide)), rfl⟩

theorem safe_bool (x : Nat) : (FloatKind.f64.format.order (rung x) 0 == some Ordering.eq ||
      (FloatKind.f64.format.order (rung x) 2580562586483294208 == some Ordering.gt || FloatKind.f64.format.order (rung x) 2580562586483294208 == some Ordering.eq) &&
      (FloatKind.f64.format.order (rung x) 6633802251116740608 == some Ordering.lt || FloatKind.f64.format.order (rung x) 6633802251116740608 == some Ordering.eq)) = safeB x := by
  have hr := rung_lt x
  have e0 := eq_zero (rung x)
  have e2 := le_pos (C := 6633802251116740608) hr (by decide)
  rw [rung_small hr] at e0
  change (Ieee.double.order (rung x) 0 == some Ordering.eq || (Ieee.double.order (rung x) 2580562586483294208 == some Ordering.gt || Ieee.double.order (rung x) 2580562586483294208 == some Ordering.eq) &&
      (Ieee.double.order (rung x) 6633802251116740608 == some Ordering.lt || Ieee.double.order (rung x) 6633802251116740608 == some Ordering.eq)) = _
  rw [e0, e2]
  unfold safeB
  by_cases h : rung x ≤ inf
  · rw [ge_pos h (by decide)]
    by_cases a : rung x = 0 <;> by_cases b : 2580562586483294208 ≤ rung x <;> by_cases c : rung x ≤ 6633802251116740608 <;> simp [a, b, c]
  · have c : ¬ rung x ≤ 6633802251116740608 := by have := inf_eq; omega
    simp [c]

theorem safe_calls (x : Nat) (hx : x < 18446744073709551616) (w : World) :
    Calls Try.prog 11 #[.float .f64 x] w fun e w' => e = .returned (.bool (safeB x)) ∧ w = w' := by
  go_enter Try.func11, Try.ntmps11
  go_wp2_with (go_at_call 26; refine (abs_calls _ hx _).mono ?_; rintro e w' ⟨rfl, rfl⟩)
  all_goals go_ret
  all_goals (refine ⟨ret_bool ?_, rfl⟩; rw [← safe_bool])
  all_goals simp [*]

theorem both1_tame (x y : Nat) (hx : x < 18446744073709551616) (hy : y < 18446744073709551616) (p : Addr) (w : World) (hp : w.cell? p = some (.func (.func 9) #[] #[])) :
    Calls Try.prog 42 #[.float .f64 x, .float .f64 y, .pointer (some p)] w fun e w' => e = .returned (.bool (tameB x && tameB y)) ∧ w = w' := by
  go_enter Try.func42, Try.ntmps42
  go_wp2_with ((go_at_call 9; refine (tame_calls _ (by assumption) _).mono ?_; rintro e w' ⟨rfl, rfl⟩))
  all_goals go_ret
  all_goals (refine ⟨ret_bool ?_, rfl⟩; simp [*])

theorem both1_safe (x y : Nat) (hx : x < 18446744073709551616) (hy : y < 18446744073709551616) (p : Addr) (w : World) (hp : w.cell? p = some (.func (.func 11) #[] #[])) :
    Calls Try.prog 42 #[.float .f64 x, .float .f64 y, .pointer (some p)] w fun e w' => e = .returned (.bool (safeB x && safeB y)) ∧ w = w' := by
  go_enter Try.func42, Try.ntmps42
  go_wp2_with ((go_at_call 11; refine (safe_calls _ (by assumption) _).mono ?_; rintro e w' ⟨rfl, rfl⟩))
  all_goals go_ret
  all_goals (refine ⟨ret_bool ?_, rfl⟩; simp [*])

theorem both_calls (g : Fn) (w : World) :
    Calls Try.prog 29 #[.func g #[] #[]] w fun e w' => e = .returned (.func (.func 42) #[] #[.pointer (some ⟨w.heap.size, 0, none⟩)]) ∧ w.alloc (.cells #[.func g #[] #[]] 23) = w' := by
  go_enter Try.func29, Try.ntmps29
  go_wp2
  go_ret
  exact ⟨rfl, rfl⟩

theorem sum_calls (x y : Nat) (hx : x < 18446744073709551616) (hy : y < 18446744073709551616) (hx2 : tameB x = true) (hy2 : tameB y = true) (w : World) :
    Calls Try.prog 14 #[.float .f64 x, .float .f64 y] w fun e w' => e = .returned (.tuple #[.float .f64 (fadd x y), .float .f64 (sumLo x y)]) ∧ w.alloc (.cells #[.func (.func 9) #[] #[]] 23) = w' := by
  obtain ⟨a1, a2, a3, a4, a5, a6, -⟩ := sum_facts (of_decide_eq_true hx2) (of_decide_eq_true hy2)
  replace a1 := some_of a1
  replace a2 := some_of a2
  replace a3 := some_of a3
  replace a4 := some_of a4
  replace a5 := some_of a5
  replace a6 := some_of a6
  go_enter Try.func14, Try.ntmps14
  go_wp2_with (first
    | (go_at_call 29; refine (both_calls _ _).mono ?_; rintro e w' ⟨rfl, rfl⟩)
    | (go_at_call 42; refine (both1_tame _ _ hx hy _ _ (by simp)).mono ?_; rintro e w' ⟨rfl, rfl⟩))
  go_ret2
  exact ⟨rfl, rfl⟩

theorem sum_no (x y : Nat) (hx : x < 18446744073709551616) (hy : y < 18446744073709551616) (h : (tameB x && tameB y) = false) (w : World) :
    Calls Try.prog 14 #[.float .f64 x, .float .f64 y] w fun e w' => e = .returned (.tuple #[.float .f64 0, .float .f64 0]) ∧ w.alloc (.cells #[.func (.func 9) #[] #[]] 23) = w' := by
  go_enter Try.func14, Try.ntmps14
  go_wp2_with (first
    | (go_at_call 29; refine (both_calls _ _).mono ?_; rintro e w' ⟨rfl, rfl⟩)
    | (go_at_call 42; refine (both1_tame _ _ hx hy _ _ (by simp)).mono ?_; rintro e w' ⟨rfl, rfl⟩))
  go_ret2
  exact ⟨rfl, rfl⟩
end Go.Proofs.Ytojbheanfcdjoaa
