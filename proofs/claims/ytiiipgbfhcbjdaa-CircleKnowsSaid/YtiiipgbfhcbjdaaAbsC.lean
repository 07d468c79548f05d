/- math.Abs walked. -/
import Derived.Test.YtiiipgbfhcbjdaaGenB
namespace Go.Proofs.Ytiiipgbfhcbjdaa
open Go.RowKit TV
set_option linter.unusedVariables false

theorem abs_calls (x : Nat) (hx : x < 18446744073709551616) (w : World) :
    Calls Try.prog 10 #[.float .f64 x] w fun e w' => e = .returned (.float .f64 (rung x)) ∧ w = w' := by
  have h1 := fun (x : Nat) (w : World) => callBits x w
  have h2 := fun (x : Int) (w : World) => callFrom x w
  have h3 := Lib.hid (and_rung hx)
  go_enter Try.func10, Try.ntmps10
  go_wp2
  go_ret
  exact ⟨by rw [← h3.out]; rfl, rfl⟩


end Go.Proofs.Ytiiipgbfhcbjdaa
