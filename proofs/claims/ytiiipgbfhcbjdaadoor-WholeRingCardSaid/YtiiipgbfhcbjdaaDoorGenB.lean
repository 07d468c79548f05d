/- math.Float64bits, math.Float64frombits. -/
import Derived.Test.YtiiipgbfhcbjdaaDoorGenF
namespace Go.Proofs.YtiiipgbfhcbjdaaDoor
open Go.RowKit TV
set_option linter.unusedVariables false

theorem callBits (x : Nat) (w : World) : (callFunc 47 #[.float .f64 x]).run Tryd.prog w = .ok (.value (.int .u64 x)) w := by kernel_rfl
theorem callFrom (x : Int) (w : World) : (callFunc 48 #[.int .u64 x]).run Tryd.prog w = .ok (.value (.float .f64 x.toNat)) w := by kernel_rfl

end Go.Proofs.YtiiipgbfhcbjdaaDoor
