/- What the small float functions compute, as plain functions of bits: math.Abs, eft.Tame, eft.Safe, eft.Sum, eft.Diff, eft.Split, eft.Prod. -/
import Derived.Test.YtiihokgjplpceaaDoorRows
import Derived.Test.YtiihokgjplpceaaDoorPuA
import Derived.Test.YtiihokgjplpceaaDoorGeA
import Derived.WalkKit
import Derived.ProofKit
import Derived.WalkLawsBesides
import Derived.Laws.BitsAllLaws
import Derived.Lib.Hide
namespace Go.Proofs.YtiihokgjplpceaaDoor
open Go.RowKit TV

theorem tame_calls (x : Nat) (hx : x < 18446744073709551616) (w : World) :
    Calls Tryd.prog 66 #[.float .f64 x] w fun e w' => e = .returned (.bool (tameB x)) ∧ w = w' := by
  go_enter Tryd.func66, Tryd.ntmps66
  go_wp2_with (go_at_call 25; refine (abs_calls _ hx _).mono ?_; rintro e w' ⟨rfl, rfl⟩)
  go_ret
  exact ⟨ret_bool (le_pos (rung_lt x) (by decide)), rfl⟩

theorem safe_bool (x : Nat) : (FloatKind.f64.format.order (rung x) 0 == some Ordering.eq ||
      (FloatKind.f64.format.order (rung x) 2580562586483294208 == some Ordering.gt || FloatKind.f64.format.order (rung x) 2580562586483294208 == some Ordering.eq) &&
      (FloatKind.f64.format.order (rung x) 6633802251116740608 == some Ordering.lt || FloatKind.f64.format.order (rung x) 6633802251116740608 == some Ordering.eq)) = safeB x := by
  have hr := rung_lt x
  have e0 := eq_zero (rung x)
  have e2 := le_pos (C := 6633802251116740608) hr (by decide)
  rw [rung_small hr] at e0
  change (Ieee.double.order (rung x) 0 == some Ordering.eq || (Ieee.double.order (rung x) 2580562586483294208 == some Ordering.gt || Ieee.double.order (rung x) 2580562586483294208 == some Ordering.eq) &&
      (Ieee.double.order (rung x) 6633802251116740608 == some Ordering.lt || Ieee.double.order (rung x) 6633802251116740608 == some Ordering.eq)) = _
  rw [e0, e2]
  unfold safeB
  by_cases h : rung x ≤ inf
  · rw [ge_pos h (by decide)]
    by_cases a : rung x = 0 <;> by_cases b : 2580562586483294208 ≤ rung x <;> by_cases c : rung x ≤ 6633802251116740608 <;> simp [a, b, c]
  · have c : ¬ rung x ≤ 6633802251116740608 := by have := inf_eq; omega
    simp [c]

theorem safe_calls (x : Nat) (hx : x < 18446744073709551616) (w : World) :
    Calls Tryd.prog 83 #[.float .f64 x] w fun e w' => e = .returned (.bool (safeB x)) ∧ w = w' := by
  go_enter Tryd.func83, Tryd.ntmps83
  go_wp2_with (go_at_call 25; refine (abs_calls _ hx _).mono ?_; rintro e w' ⟨rfl, rfl⟩)
  all_goals go_ret
  all_goals (refine ⟨ret_bool ?_, rfl⟩; rw [← safe_bool])
  all_goals simp [*]

theorem both1_tame (x y : Nat) (hx : x < 18446744073709551616) (hy : y < 18446744073709551616) (p : Addr) (w : World) (hp : w.cell? p = some (.func (.func 66) #[] #[])) :
    Calls Tryd.prog 81 #[.float .f64 x, .float .f64 y, .pointer (some p)] w fun e w' => e = .returned (.bool (tameB x && tameB y)) ∧ w = w' := by
  go_enter Tryd.func81, Tryd.ntmps81
  go_wp2_with ((go_at_call 66; refine (tame_calls _ (by assumption) _).mono ?_; rintro e w' ⟨rfl, rfl⟩))
  all_goals go_ret
  all_goals (refine ⟨ret_bool ?_, rfl⟩; simp [*])

theorem both1_safe (x y : Nat) (hx : x < 18446744073709551616) (hy : y < 18446744073709551616) (p : Addr) (w : World) (hp : w.cell? p = some (.func (.func 83) #[] #[])) :
    Calls Tryd.prog 81 #[.float .f64 x, .float .f64 y, .pointer (some p)] w fun e w' => e = .returned (.bool (safeB x && safeB y)) ∧ w = w' := by
  go_enter Tryd.func81, Tryd.ntmps81
  go_wp2_with ((go_at_call 83; refine (safe_calls _ (by assumption) _).mono ?_; rintro e w' ⟨rfl, rfl⟩))
  all_goals go_ret
  all_goals (refine ⟨ret_bool ?_, rfl⟩; simp [*])

theorem both_calls (g : Fn) (w : World) :
    Calls Tryd.prog 65 #[.func g #[] #[]] w fun e w' => e = .returned (.func (.func 81) #[] #[.pointer (some ⟨w.heap.size, 0, none⟩)]) ∧ w.alloc (.cells #[.func g #[] #[]] 47) = w' := by
  go_enter Tryd.func65, Tryd.ntmps65
  go_wp2
  go_ret
  exact ⟨rfl, rfl⟩

theorem sum_calls (x y : Nat) (hx : x < 18446744073709551616) (hy : y < 18446744073709551616) (hx2 : tameB x = true) (hy2 : tameB y = true) (w : World) :
    Calls Tryd.prog 51 #[.float .f64 x, .float .f64 y] w fun e w' => e = .returned (.tuple #[.float .f64 (fadd x y), .float .f64 (sumLo x y)]) ∧ w.alloc (.cells #[.func (.func 66) #[] #[]] 47) = w' := by
  obtain ⟨a1, a2, a3, a4, a5, a6, -⟩ := sum_facts (of_decide_eq_true hx2) (of_decide_eq_true hy2)
  replace a1 := some_of a1
  replace a2 := some_of a2
  replace a3 := some_of a3
  replace a4 := some_of a4
  replace a5 := some_of a5
  replace a6 := some_of a6
  go_enter Tryd.func51, Tryd.ntmps51
  go_wp2_with (first
    | (go_at_call 65; refine (both_calls _ _).mono ?_; rintro e w' ⟨rfl, rfl⟩)
    | (go_at_call 81; refine (both1_tame _ _ hx hy _ _ (by simp)).mono ?_; rintro e w' ⟨rfl, rfl⟩))
  go_ret2
  exact ⟨rfl, rfl⟩

theorem sum_no (x y : Nat) (hx : x < 18446744073709551616) (hy : y < 18446744073709551616) (h : (tameB x && tameB y) = false) (w : World) :
    Calls Tryd.prog 51 #[.float .f64 x, .float .f64 y] w fun e w' => e = .returned (.tuple #[.float .f64 0, .float .f64 0]) ∧ w.alloc (.cells #[.func (.func 66) #[] #[]] 47) = w' := by
  go_enter Tryd.func51, Tryd.ntmps51
  go_wp2_with (first
    | (go_at_call 65; refine (both_calls _ _).mono ?_; rintro e w' ⟨rfl, rfl⟩)
    | (go_at_call 81; refine (both1_tame _ _ hx hy _ _ (by simp)).mono ?_; rintro e w' ⟨rfl, rfl⟩))
  go_ret2
  exact ⟨rfl, rfl⟩
end Go.Proofs.YtiihokgjplpceaaDoor
