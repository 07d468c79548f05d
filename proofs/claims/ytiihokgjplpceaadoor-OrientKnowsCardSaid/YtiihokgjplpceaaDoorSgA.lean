/- The sign of a reference number. -/
import Derived.Test.YtiihokgjplpceaaDoorRfE
namespace Go.Proofs.YtiihokgjplpceaaDoor
open Go.RowKit TV
set_option linter.unusedVariables false

theorem sign_calls (s e : Int) (p : Option Addr) (n cap : Nat) (w : World) :
    Calls Tryd.prog 22 #[.agg #[.int .i64 s, .slice p n cap, .int .i64 e]] w fun x w' => x = .returned (.int .i64 s) ∧ Below w.heap.size w w' := by
  go_enter Tryd.func22, Tryd.ntmps22
  go_wp2
  go_ret
  exact ⟨rfl, ((Below.refl _ _).alloc (Nat.le_refl _) _)⟩


theorem signN {P : Nat → Prop} {w : World} {x : Value} {k : Nat} {p : Rat} (hx : NumV P w x k p) :
    Calls Tryd.prog 22 #[x] w fun r w' => r = .returned (.int .i64 (rs p)) ∧ Below w.heap.size w w' := by
  obtain ⟨s, sl, a, e, rfl, hs, na, rfl, ia⟩ := hx
  obtain ⟨p1, c1, rfl⟩ := hs.formMap
  rw [rs_nv na]
  exact sign_calls s e p1 _ c1 w


end Go.Proofs.YtiihokgjplpceaaDoor
