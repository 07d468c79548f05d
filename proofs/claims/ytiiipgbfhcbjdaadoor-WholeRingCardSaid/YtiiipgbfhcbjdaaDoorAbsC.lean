/- math.Abs walked. -/
import Derived.Test.YtiiipgbfhcbjdaaDoorGenB
namespace Go.Proofs.YtiiipgbfhcbjdaaDoor
open Go.RowKit TV
set_option linter.unusedVariables false

theorem abs_calls (x : Nat) (hx : x < 18446744073709551616) (w : World) :
    Calls Tryd.prog 49 #[.float .f64 x] w fun e w' => e = .returned (.float .f64 (rung x)) ∧ w = w' := by
  have h1 := fun (x : Nat) (w : World) => callBits x w
  have h2 := fun (x : Int) (w : World) => callFrom x w
  have h3 := Lib.hid (and_rung hx)
  go_enter Tryd.func49, Tryd.ntmps49
  go_wp2
  go_ret
  exact ⟨by rw [← h3.out]; rfl, rfl⟩


end Go.Proofs.YtiiipgbfhcbjdaaDoor
