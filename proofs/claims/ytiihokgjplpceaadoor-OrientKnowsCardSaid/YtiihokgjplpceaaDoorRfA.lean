/- The document's answer of layer 5, walked: differences, products across. -/
import Derived.Test.YtiihokgjplpceaaDoorAbN
import Derived.Test.YtiihokgjplpceaaDoorRfG
namespace Go.Proofs.YtiihokgjplpceaaDoor
open Go.RowKit TV
set_option linter.unusedVariables false

theorem NumV.form {P : Nat → Prop} {w : World} {v : Value} {k : Nat} {q : Rat} (h : NumV P w v k q) : ∃ s p n c e, v = .agg #[.int .i64 s, .slice p n c, .int .i64 e] ∧ s = rs q := by
  obtain ⟨s, sl, ds, e, rfl, hs, hn, hq, -⟩ := h
  obtain ⟨p, c, rfl⟩ := hs.formMap
  exact ⟨s, p, _, c, e, rfl, by rw [hq, rs_nv hn]⟩
theorem NumV.into {P : Nat → Prop} {w : World} {s e : Int} {sl : Value} {k : Nat} {q : Rat} (h : NumV P w (.agg #[.int .i64 s, sl, .int .i64 e]) k q) {b : Nat} (hb : ∀ j, P j → j ≠ b) (u0 u1 u2 : Value) :
    NumV P (((w.setCell ⟨b, 0, none⟩ u0).setCell ⟨b, 1, none⟩ u1).setCell ⟨b, 2, none⟩ u2) (.agg #[.int .i64 s, sl, .int .i64 e]) k q := by
  obtain ⟨s', sl', ds, e', hv, hs, hn, hq, hP⟩ := h
  simp only [Value.agg.injEq, Array.mk.injEq, List.cons.injEq, Value.int.injEq, true_and, and_true] at hv
  obtain ⟨rfl, rfl, rfl⟩ := hv
  have hb' : In (fun j => j ≠ b) sl := hP.mono hb
  exact ⟨_, _, ds, _, rfl, ((hs.put hb' (by simp) _).put hb' (by simp) _).put hb' (by simp) _, hn, hq, hP⟩
theorem NumV.t {P : Nat → Prop} {w : World} {v : Value} {k : Nat} {q : Rat} (h : NumV P w v k q) : NumT w v k q := h.mono fun _ _ => trivial

end Go.Proofs.YtiihokgjplpceaaDoor
