/- Texts of one kind, joined. -/
import Derived.Test.YtiihokgjplpceaaDoorPuA
import Derived.Test.YtiihokgjplpceaaDoorRows
import Derived.WalkKit
import Derived.ProofKit
import Derived.WalkLawsBesides
import Derived.Laws.BitsAllLaws
import Derived.Lib.Hide
import Derived.Laws.FloatArith

section
/- Floats in the model: small words that need no program. -/
namespace Go.Proofs.YtiihokgjplpceaaDoor
open Go.RowKit TV
set_option linter.unusedVariables false

theorem ret_bool {a b : Bool} (h : a = b) : Ending.returned (.bool a) = .returned (.bool b) := by rw [h]
theorem ret_float {a b : Nat} (h : a = b) : Ending.returned (.float .f64 a) = .returned (.float .f64 b) := by rw [h]


section
variable {P : Program} (w : World)
@[go_sem] theorem run_fadd (t : TypeId) (x y : Nat) (h : (Ieee.double.add x y).isSome = true) : (binOp .add t (.float .f64 x) (.float .f64 y)).run P w = .ok (.float .f64 (fadd x y)) w := by
  obtain ⟨r, hr⟩ := Option.isSome_iff_exists.1 h
  rw [run_float_arith w .add t .f64 x y r hr]; unfold fadd; rw [hr]; rfl
@[go_sem] theorem run_fsub (t : TypeId) (x y : Nat) (h : (Ieee.double.sub x y).isSome = true) : (binOp .sub t (.float .f64 x) (.float .f64 y)).run P w = .ok (.float .f64 (fsub x y)) w := by
  obtain ⟨r, hr⟩ := Option.isSome_iff_exists.1 h
  rw [run_float_arith w .sub t .f64 x y r hr]; unfold fsub; rw [hr]; rfl
@[go_sem] theorem run_fmul (t : TypeId) (x y : Nat) (h : (Ieee.double.mul x y).isSome = true) : (binOp .mul t (.float .f64 x) (.float .f64 y)).run P w = .ok (.float .f64 (fmul x y)) w := by
  obtain ⟨r, hr⟩ := Option.isSome_iff_exists.1 h
  rw [run_float_arith w .mul t .f64 x y r hr]; unfold fmul; rw [hr]; rfl
end
theorem some_of {o : Option Nat} {r : Nat} (h : o = some r) : o.isSome = true := by rw [h]; rfl


theorem and_rung {x : Nat} (h : x < 18446744073709551616) : (bits .andNot .u64 (x : Int) 9223372036854775808).toNat = rung x := by
  have := u64_andNot_nat x 9223372036854775808 h (by omega)
  rw [show ((9223372036854775808 : Nat) : Int) = 9223372036854775808 by rfl] at this
  rw [this, Int.toNat_natCast, show (18446744073709551615 - 9223372036854775808 : Nat) = 2 ^ 63 - 1 by decide, Nat.and_two_pow_sub_one_eq_mod]
  rfl

@[go_sem] theorem run_fdiv {P : Program} (w : World) (t : TypeId) (x y : Nat) (h : (Ieee.double.div x y).isSome = true) : (binOp .quo t (.float .f64 x) (.float .f64 y)).run P w = .ok (.float .f64 (fdiv x y)) w := by
  obtain ⟨r, hr⟩ := Option.isSome_iff_exists.1 h
  rw [run_float_arith w .quo t .f64 x y r hr]; unfold fdiv; rw [hr]; rfl

theorem fkey {a b : Nat} (h : a = b) : Value.float .f64 a = Value.float .f64 b := by rw [h]


@[go_sem] theorem unary_fneg (x : Nat) : Op.unary .neg (.float .f64 x) = pure (.float .f64 (fneg x)) := rfl


theorem float_wf {x : Nat} (h : (Lit.float .f64 x).wf = true) : x < 18446744073709551616 := by simpa [Lit.wf] using h


@[go_sem] theorem run_store_float {P : Program} (w : World) (a : Addr) (m : Mode) (k : FloatKind) (x : Nat) : (store a (.float k x) m).run P w = stored P w a (.float k x) m := run_store P w a _ m rfl


end Go.Proofs.YtiihokgjplpceaaDoor
end

section
/- math.Float64bits, math.Float64frombits. -/
namespace Go.Proofs.YtiihokgjplpceaaDoor
open Go.RowKit TV
set_option linter.unusedVariables false

theorem callBits (x : Nat) (w : World) : (callFunc 36 #[.float .f64 x]).run Tryd.prog w = .ok (.value (.int .u64 x)) w := by kernel_rfl
theorem callFrom (x : Int) (w : World) : (callFunc 35 #[.int .u64 x]).run Tryd.prog w = .ok (.value (.float .f64 x.toNat)) w := by kernel_rfl

end Go.Proofs.YtiihokgjplpceaaDoor
end

section
/- math.Abs walked. -/
namespace Go.Proofs.YtiihokgjplpceaaDoor
open Go.RowKit TV
set_option linter.unusedVariables false

theorem abs_calls (x : Nat) (hx : x < 18446744073709551616) (w : World) :
    Calls Tryd.prog 25 #[.float .f64 x] w fun e w' => e = .returned (.float .f64 (rung x)) ∧ w = w' := by
  have h1 := fun (x : Nat) (w : World) => callBits x w
  have h2 := fun (x : Int) (w : World) => callFrom x w
  have h3 := Lib.hid (and_rung hx)
  go_enter Tryd.func25, Tryd.ntmps25
  go_wp2
  go_ret
  exact ⟨by rw [← h3.out]; rfl, rfl⟩


end Go.Proofs.YtiihokgjplpceaaDoor
end
