/- What the reference of layer 2 computes of floats alone: size, power, Tame, Safe. -/
import Derived.Test.YtojbheanfcdjoaaWkA
import Derived.Test.YtojbheanfcdjoaaFlH
import Derived.LoopTactic
import Derived.Below
namespace Go.Proofs.Ytojbheanfcdjoaa
open Go.RowKit TV

@[go_sem] theorem run_fdiv {P : Program} (w : World) (t : TypeId) (x y : Nat) (h : (Ieee.double.div x y).isSome = true) : (binOp .quo t (.float .f64 x) (.float .f64 y)).run P w = .ok (.float .f64 (fdiv x y)) w := by
  obtain ⟨r, hr⟩ := Option.isSome_iff_exists.1 h
  rw [run_float_arith w .quo t .f64 x y r hr]; unfold fdiv; rw [hr]; rfl

theorem fkey {a b : Nat} (h : a = b) : Value.float .f64 a = Value.float .f64 b := by rw [h]

theorem power_up (n : Nat) (hn : n ≤ 1000) (w : World) :
    Calls Try.prog 28 #[.int .i64 n] w fun e w' => e = .returned (.float .f64 (p2 (1023 + n))) ∧ w = w' := by
  go_enter Try.func28, Try.ntmps28
  go_wp2
  go_loop [3, 4] (fun x i => ∃ k : Nat, k ≤ n ∧ i = .int .i64 k ∧ x = .float .f64 (p2 (1023 + k))) (fun _ i => n - (intOf i).toNat)
  case atStart => exact ⟨0, Nat.zero_le _, rfl, rfl⟩
  case round =>
    obtain ⟨k, hk, rfl, rfl⟩ := hrel
    by_cases hlt : k < n
    · have h1 := some_of (double_p2 (i := 1023 + k) (by omega) (by omega))
      have h2 := Lib.hid (fmul_p2 (i := 1023 + k) (by omega) (by omega))
      go_wp2
      go_round
      case rel => exact ⟨k + 1, by omega, by go_num, fkey h2.out⟩
      case measure => simp [intOf]; omega
    · obtain rfl : k = n := by omega
      go_wp2
      go_loop [3, 5] (fun x i => x = .float .f64 (p2 (1023 + k)) ∧ i = .int .i64 0) (fun _ _ => 0)
      case atStart => exact ⟨rfl, rfl⟩
      case round =>
        obtain ⟨rfl, rfl⟩ := hrel
        go_wp2
        go_ret
        exact ⟨rfl, rfl⟩

theorem power_down (n : Nat) (hn : n ≤ 1000) (w : World) :
    Calls Try.prog 28 #[.int .i64 (-(n : Int))] w fun e w' => e = .returned (.float .f64 (p2 (1023 - n))) ∧ w = w' := by
  go_enter Try.func28, Try.ntmps28
  go_wp2
  go_loop [3, 4] (fun x i => x = .float .f64 (p2 1023) ∧ i = .int .i64 0) (fun _ _ => 0)
  case atStart => exact ⟨rfl, rfl⟩
  case round =>
    obtain ⟨rfl, rfl⟩ := hrel
    go_wp2
    go_loop [3, 5] (fun x i => ∃ k : Nat, k ≤ n ∧ i = .int .i64 (-(k : Int)) ∧ x = .float .f64 (p2 (1023 - k))) (fun _ i => n - (-(intOf i)).toNat)
    case atStart => exact ⟨0, Nat.zero_le _, rfl, rfl⟩
    case round =>
      obtain ⟨k, hk, rfl, rfl⟩ := hrel
      by_cases hlt : k < n
      · have h1 := some_of (halve_p2 (i := 1023 - k) (by omega) (by omega))
        have h2 := Lib.hid (fdiv_p2 (i := 1023 - k) (by omega) (by omega))
        go_wp2
        go_round
        case rel => exact ⟨k + 1, by omega, by go_num, fkey h2.out⟩
        case measure => simp [intOf]; omega
      · obtain rfl : k = n := by omega
        go_wp2
        go_ret
        exact ⟨rfl, rfl⟩

@[go_sem] theorem unary_fneg (x : Nat) : Op.unary .neg (.float .f64 x) = pure (.float .f64 (fneg x)) := rfl

theorem size2_calls (x : Nat) (w : World) :
    Calls Try.prog 27 #[.float .f64 x] w fun e w' => e = .returned (.float .f64 (sizeF x)) ∧ w = w' := by
  go_enter Try.func27, Try.ntmps27
  go_wp2
  all_goals go_ret
  · rename_i h
    exact ⟨ret_float (by change _ = if (FloatKind.f64.format.order x 0 == some Ordering.lt) = true then fneg x else x; rw [if_pos h]), rfl⟩
  · rename_i h
    exact ⟨ret_float (by change _ = if (FloatKind.f64.format.order x 0 == some Ordering.lt) = true then fneg x else x; rw [if_neg (by simpa using h)]), rfl⟩

theorem power_1000 (w : World) : Calls Try.prog 28 #[.int .i64 1000] w fun e w' => e = .returned (.float .f64 9110782046170513408) ∧ w = w' := power_up 1000 (by omega) w
theorem power_450 (w : World) : Calls Try.prog 28 #[.int .i64 450] w fun e w' => e = .returned (.float .f64 6633802251116740608) ∧ w = w' := power_up 450 (by omega) w
theorem power_m450 (w : World) : Calls Try.prog 28 #[.int .i64 (-450)] w fun e w' => e = .returned (.float .f64 2580562586483294208) ∧ w = w' := power_down 450 (by omega) w

theorem tame2_bool {x : Nat} (h : x < 18446744073709551616) :
    (FloatKind.f64.format.order x x == some Ordering.eq && (FloatKind.f64.format.order (sizeF x) 9110782046170513408 == some Ordering.lt || FloatKind.f64.format.order (sizeF x) 9110782046170513408 == some Ordering.eq)) = tameB x :=
  size_le h (C := 9110782046170513408) (by decide)

theorem tame2_calls (x : Nat) (hx : x < 18446744073709551616) (w : World) :
    Calls Try.prog 10 #[.float .f64 x] w fun e w' => e = .returned (.bool (tameB x)) ∧ w = w' := by
  go_enter Try.func10, Try.ntmps10
  go_wp2_with (first
    | (go_at_call 27; refine (size2_calls _ _).mono ?_; rintro e w' ⟨rfl, rfl⟩)
    | (go_at_call 28; ((with_reducible refine (power_1000 _).mono ?_); rintro e w' ⟨rfl, rfl⟩)))
  all_goals go_ret
  all_goals (refine ⟨ret_bool ?_, rfl⟩; rw [← tame2_bool hx])
  all_goals simp [*]

theorem safe2_bool {x : Nat} (h : x < 18446744073709551616) :
    (FloatKind.f64.format.order x 0 == some Ordering.eq || (FloatKind.f64.format.order x x == some Ordering.eq && (FloatKind.f64.format.order (sizeF x) 2580562586483294208 == some Ordering.gt || FloatKind.f64.format.order (sizeF x) 2580562586483294208 == some Ordering.eq)) &&
      (FloatKind.f64.format.order (sizeF x) 6633802251116740608 == some Ordering.lt || FloatKind.f64.format.order (sizeF x) 6633802251116740608 == some Ordering.eq)) = safeB x := by
  have e0 := eq_zero x
  have e1 := size_ge h (C := 2580562586483294208) (by decide)
  have e2 := size_le h (C := 6633802251116740608) (by decide)
  have e3 := feq_self x
  unfold feq at e3
  change (Ieee.double.order x 0 == some .eq || (Ieee.double.order x x == some .eq && (Ieee.double.order (sizeF x) 2580562586483294208 == some .gt || Ieee.double.order (sizeF x) 2580562586483294208 == some .eq)) &&
    (Ieee.double.order (sizeF x) 6633802251116740608 == some .lt || Ieee.double.order (sizeF x) 6633802251116740608 == some .eq)) = _
  rw [e1, e0]
  rw [e3] at e2
  unfold safeB
  have hi := inf_eq
  by_cases a : rung x ≤ inf
  · rw [decide_eq_true a, Bool.true_and] at e2
    rw [e2]
    by_cases b : rung x = 0 <;> by_cases c : 2580562586483294208 ≤ rung x <;> by_cases d : rung x ≤ 6633802251116740608 <;> simp [a, b, c, d]
  · have d : ¬ rung x ≤ 6633802251116740608 := by omega
    simp [a, d]

theorem safe2_calls (x : Nat) (hx : x < 18446744073709551616) (w : World) :
    Calls Try.prog 12 #[.float .f64 x] w fun e w' => e = .returned (.bool (safeB x)) ∧ w = w' := by
  go_enter Try.func12, Try.ntmps12
  go_wp2_with (first
    | (go_at_call 27; refine (size2_calls _ _).mono ?_; rintro e w' ⟨rfl, rfl⟩)
    | (go_at_call 28; ((with_reducible refine (power_450 _).mono ?_); rintro e w' ⟨rfl, rfl⟩))
    | (go_at_call 28; ((with_reducible refine (power_m450 _).mono ?_); rintro e w' ⟨rfl, rfl⟩)))
  all_goals go_ret
  all_goals (refine ⟨ret_bool ?_, rfl⟩; rw [← safe2_bool hx])
  all_goals simp [*]
end Go.Proofs.Ytojbheanfcdjoaa
