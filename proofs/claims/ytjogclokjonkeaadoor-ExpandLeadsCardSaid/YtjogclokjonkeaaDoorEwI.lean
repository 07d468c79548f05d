/- Package expand, walked: Of. -/
import Derived.Test.YtjogclokjonkeaaDoorEwD
import Derived.Test.YtjogclokjonkeaaDoorEwA
namespace Go.Proofs.YtjogclokjonkeaaDoor
open Go.RowKit TV
set_option linter.unusedVariables false

def ofOk (x : Nat) : Bool := decide (rung x = 0) || inB 1 9065746049896808448 x
def ofL (x : Nat) : List Nat := if rung x = 0 then [] else if inB 1 9065746049896808448 x = true then [x] else []
theorem eof_calls (x : Nat) (hx : x < 18446744073709551616) (w : World) :
    Calls Tryd.prog 26 #[.float .f64 x] w fun e w' => ∃ u, e = .returned (.tuple #[u, .bool (ofOk x)]) ∧ w'.ownsRow w.heap.size 34 1 u (ofL x).length (fvs (ofL x)) ∧ Below w.heap.size w w' := by
  have HW1 := Lib.hid (fun w => within_calls x 1 9065746049896808448 hx (by decide) (by decide) w)
  by_cases z : rung x = 0
  · have e1 : (FloatKind.f64.format.order x 0 == some .eq) = true := (eq_zero x).trans (decide_eq_true z)
    have h1 : ofOk x = true := by unfold ofOk; rw [decide_eq_true z]; rfl
    have h2 : ofL x = [] := by unfold ofL; rw [if_pos z]
    rw [h1, h2]
    go_enter Tryd.func26, Tryd.ntmps26
    go_wp2_with fail
    go_ret2
    exact ⟨_, rfl, ⟨rfl, Or.inl ⟨rfl, rfl⟩⟩, Below.refl _ _⟩
  · have e1 : (FloatKind.f64.format.order x 0 == some .eq) = false := (eq_zero x).trans (decide_eq_false z)
    by_cases c : inB 1 9065746049896808448 x = true
    · have h1 : ofOk x = true := by unfold ofOk; rw [c]; simp
      have h2 : ofL x = [x] := by unfold ofL; rw [if_neg z, if_pos c]
      rw [h1, h2]
      rw [c] at HW1
      go_enter Tryd.func26, Tryd.ntmps26
      go_wp2_with (go_at_call 54; ((with_reducible refine (HW1.out _).mono ?_); rintro e w1 ⟨rfl, rfl⟩))
      go_ret2
      exact ⟨_, rfl, ⟨rfl, Or.inr ⟨w.heap.size, 1, #[.float .f64 x], rfl, Nat.le_refl _, heap_alloc_new _ _, Nat.le_refl _, by unfold maxLen; omega, by simp, by simp [fvs]⟩⟩, (Below.refl _ _).alloc (Nat.le_refl _) _⟩
    · have c' : inB 1 9065746049896808448 x = false := by simpa using c
      have h1 : ofOk x = false := by unfold ofOk; rw [c', decide_eq_false z]; rfl
      have h2 : ofL x = [] := by unfold ofL; rw [if_neg z, if_neg c]
      rw [h1, h2]
      rw [c'] at HW1
      go_enter Tryd.func26, Tryd.ntmps26
      go_wp2_with (go_at_call 54; ((with_reducible refine (HW1.out _).mono ?_); rintro e w1 ⟨rfl, rfl⟩))
      go_ret2
      exact ⟨_, rfl, ⟨rfl, Or.inl ⟨rfl, rfl⟩⟩, Below.refl _ _⟩
end Go.Proofs.YtjogclokjonkeaaDoor
