/- What eft.Split and eft.Prod compute. -/
import Derived.Test.YtiihokgjplpceaaDoorEfA
import Derived.LoopTactic
import Derived.Below
namespace Go.Proofs.YtiihokgjplpceaaDoor
open Go.RowKit TV

theorem tame_fneg {x : Nat} (h : x < 18446744073709551616) : tameB (fneg x) = tameB x := by unfold tameB; rw [rung_fneg h]

/-- What a sum of tame floats leaves in memory. -/
theorem sum_below (x y : Nat) (hx : x < 18446744073709551616) (hy : y < 18446744073709551616) (hx2 : tameB x = true) (hy2 : tameB y = true) (w : World) :
    Calls Tryd.prog 51 #[.float .f64 x, .float .f64 y] w fun e w' => e = .returned (.tuple #[.float .f64 (fadd x y), .float .f64 (sumLo x y)]) ∧ Below w.heap.size w w' :=
  (sum_calls x y hx hy hx2 hy2 w).mono fun _ _ ⟨h, h2⟩ => ⟨h, h2 ▸ (Below.refl _ _).alloc (Nat.le_refl _) _⟩

theorem split_calls (x : Nat) (hx : x < 18446744073709551616) (h : safeB x = true) (w : World) :
    Calls Tryd.prog 84 #[.float .f64 x] w fun e w' => e = .returned (.tuple #[.float .f64 (spHi x), .float .f64 (spLo x)]) ∧ w = w' := by
  obtain ⟨a1, a2, a3, a4, -⟩ := split_safe h
  replace a1 := some_of a1
  replace a2 := some_of a2
  replace a3 := some_of a3
  replace a4 := some_of a4
  unfold spHi spC at *
  go_enter Tryd.func84, Tryd.ntmps84
  go_wp2_with (go_at_call 83; refine (safe_calls _ hx _).mono ?_; rintro e w1 ⟨rfl, rfl⟩)
  go_ret2
  exact ⟨rfl, rfl⟩

theorem split_no (x : Nat) (hx : x < 18446744073709551616) (h : safeB x = false) (w : World) :
    Calls Tryd.prog 84 #[.float .f64 x] w fun e w' => e = .returned (.tuple #[.float .f64 0, .float .f64 0]) ∧ w = w' := by
  go_enter Tryd.func84, Tryd.ntmps84
  go_wp2_with (go_at_call 83; refine (safe_calls _ hx _).mono ?_; rintro e w1 ⟨rfl, rfl⟩)
  go_ret2
  exact ⟨rfl, rfl⟩

theorem prod_calls (x y : Nat) (hx : x < 18446744073709551616) (hy : y < 18446744073709551616) (hx2 : safeB x = true) (hy2 : safeB y = true) (w : World) :
    Calls Tryd.prog 69 #[.float .f64 x, .float .f64 y] w fun e w' => e = .returned (.tuple #[.float .f64 (fmul x y), .float .f64 (prodLo x y)]) ∧ Below w.heap.size w w' := by
  have hp := prod_safe hx2 hy2
  have a1 := some_of hp.m1
  have a2 := some_of hp.m2
  have a3 := some_of hp.d1
  have a4 := some_of hp.m3
  have a5 := some_of hp.d2
  have a6 := some_of hp.m4
  have a7 := some_of hp.d3
  have a8 := some_of hp.m5
  have a9 := some_of hp.d4
  clear hp
  unfold prE3 prE2 prE1 at *
  go_enter Tryd.func69, Tryd.ntmps69
  go_wp2_with (first
    | (go_at_call 65; refine (both_calls _ _).mono ?_; rintro e w' ⟨rfl, rfl⟩)
    | (go_at_call 81; refine (both1_safe _ _ hx hy _ _ (by simp)).mono ?_; rintro e w' ⟨rfl, rfl⟩)
    | (go_at_call 84; ((with_reducible refine (split_calls x hx hx2 _).mono ?_); rintro e w' ⟨rfl, rfl⟩))
    | (go_at_call 84; ((with_reducible refine (split_calls y hy hy2 _).mono ?_); rintro e w' ⟨rfl, rfl⟩)))
  go_ret2
  exact ⟨rfl, (Below.refl _ _).alloc (Nat.le_refl _) _⟩

theorem prod_no (x y : Nat) (hx : x < 18446744073709551616) (hy : y < 18446744073709551616) (h : (safeB x && safeB y) = false) (w : World) :
    Calls Tryd.prog 69 #[.float .f64 x, .float .f64 y] w fun e w' => e = .returned (.tuple #[.float .f64 0, .float .f64 0]) ∧ Below w.heap.size w w' := by
  go_enter Tryd.func69, Tryd.ntmps69
  go_wp2_with (first
    | (go_at_call 65; refine (both_calls _ _).mono ?_; rintro e w' ⟨rfl, rfl⟩)
    | (go_at_call 81; refine (both1_safe _ _ hx hy _ _ (by simp)).mono ?_; rintro e w' ⟨rfl, rfl⟩))
  go_ret2
  exact ⟨rfl, (Below.refl _ _).alloc (Nat.le_refl _) _⟩
end Go.Proofs.YtiihokgjplpceaaDoor
