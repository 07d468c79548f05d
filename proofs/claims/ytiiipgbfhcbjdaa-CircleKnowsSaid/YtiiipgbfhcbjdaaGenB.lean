/- math.Float64bits, math.Float64frombits. -/
import Derived.Test.YtiiipgbfhcbjdaaGenF
namespace Go.Proofs.Ytiiipgbfhcbjdaa
open Go.RowKit TV
set_option linter.unusedVariables false

theorem callBits (x : Nat) (w : World) : (callFunc 19 #[.float .f64 x]).run Try.prog w = .ok (.value (.int .u64 x)) w := by kernel_rfl
theorem callFrom (x : Int) (w : World) : (callFunc 18 #[.int .u64 x]).run Try.prog w = .ok (.value (.float .f64 x.toNat)) w := by kernel_rfl

end Go.Proofs.Ytiiipgbfhcbjdaa
