/- A point that came in, read. -/
import Derived.Test.YtiihokgjplpceaaDoorWiH
import Derived.Test.YtiihokgjplpceaaDoorGeA
import Derived.Lib.SmallJoins
namespace Go.Proofs.YtiihokgjplpceaaDoor
open Go.RowKit Go.ChangeShapes Go.WideShapes Go.Deep Go.WideElems Go.Maps Go.Joins
set_option linter.unusedVariables false

section
variable {H : Type} {enc : TypeId × Value → H} {P : Program} {w : World} {base : Nat} {spare : Nat → Bool} {held : Bool}
theorem open_point {r : Reach} {b0 : Nat} {T e : TypeId} {f0 f1 : Field} {v : Value} {d : DataW H} {p : List MemPlace} (hs : P.underlying T = some (.struct #[f0, f1])) (t0 : f0.type = e) (t1 : f1.type = e) (he : P.underlying e = some (.float .f64)) (hone : oneCellFields P #[f0, f1] = true) (hC : P.cellsOf T = 2)
    (hv : Value.okWide P w r b0 T v) (h : DataW.Trod enc P w base spare held T v d p) : ∃ x y : Nat, v = .agg #[.float .f64 x, .float .f64 y] ∧ x < 18446744073709551616 ∧ y < 18446744073709551616 := by
  obtain ⟨v0, v1, y0, y1, n, rfl, -, -, h0, h1⟩ := Joins.open_agg2 hs hone hC hv h
  rw [t0] at h0
  rw [t1] at h1
  obtain ⟨x, a1, -, a3⟩ := trod_floatX he h0
  obtain ⟨y, b1, -, b3⟩ := trod_floatX he h1
  simp only [List.cons.injEq, and_true] at a1 b1
  subst a1; subst b1
  exact ⟨x, y, rfl, float_wf a3, float_wf b3⟩
end
end Go.Proofs.YtiihokgjplpceaaDoor
