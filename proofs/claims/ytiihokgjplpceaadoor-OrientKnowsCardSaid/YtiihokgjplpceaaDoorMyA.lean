/- math.Trunc and circle.may, walked. -/
import Derived.Test.YtiihokgjplpceaaDoorTrC
import Derived.Test.YtiihokgjplpceaaDoorGeA
namespace Go.Proofs.YtiihokgjplpceaaDoor
open Go.RowKit TV
set_option linter.unusedVariables false

theorem toInt_num (x : Nat) (s : Bool) (m : Nat) (i : Int) (h1 : Ieee.double.read x = .number s m i) : Extern.MathFloor.toIntegral "math.archTrunc" .zero #[.float .f64 x] = pure (.float .f64 (Ieee.double.write ((Ieee.Datum.number s m i).integral .zero))) := by
  change (match Ieee.double.read x with | .nan s t => (_ : Sem Value) | d => (pure (Value.float .f64 (Ieee.double.write (d.integral .zero))) : Sem Value)) = _
  rw [h1]
theorem callTrunc (x : Nat) (hx : rung x < inf) (w : World) : (callFunc 63 #[.float .f64 x]).run Tryd.prog w = .ok (.value (.float .f64 (trF x))) w := by
  obtain ⟨m, k, h1, -⟩ := read_fin hx
  have h2 : (callFunc 63 #[.float .f64 x]).run Tryd.prog w = (Extern.MathFloor.toIntegral "math.archTrunc" .zero #[.float .f64 x] >>= fun v => pure (Next.value v)).run Tryd.prog w := by kernel_rfl
  rw [h2, toInt_num x _ _ _ h1]
  unfold trF
  rw [h1]
  rfl

theorem trunc_calls (x : Nat) (hx : rung x < inf) (w : World) :
    Calls Tryd.prog 50 #[.float .f64 x] w fun e w' => e = .returned (.float .f64 (trF x)) ∧ w = w' := by
  have h1 := fun (w : World) => callTrunc x hx w
  clear hx
  go_enter Tryd.func50, Tryd.ntmps50
  go_wp2
  go_ret
  exact ⟨rfl, rfl⟩

theorem le_nots {x C : Nat} {t : Bool} (h : (Ieee.double.order x C == some .lt || Ieee.double.order x C == some .eq) = t) :
    (FloatKind.f64.format.order x C == some .lt || FloatKind.f64.format.order x C == some .eq) = t ∧ (!(FloatKind.f64.format.order x C == some .lt) && !(FloatKind.f64.format.order x C == some .eq)) = !t := by
  change (FloatKind.f64.format.order x C == some .lt || FloatKind.f64.format.order x C == some .eq) = t at h
  refine ⟨h, ?_⟩
  rw [← h, Bool.not_or]

end Go.Proofs.YtiihokgjplpceaaDoor
