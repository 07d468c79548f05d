/- An array of eight integers that came in, read. -/
import Derived.Test.YtiihokgjplpceaaDoorRows
import Derived.WalkKit
import Derived.OpenShut
import Derived.WideShapes
namespace Go.Proofs.YtiihokgjplpceaaDoor
open Go.RowKit
set_option linter.unusedVariables false

section
variable {H : Type} {enc : TypeId × Value → H} {P : Program} {w : World} {base : Nat} {spare : Nat → Bool} {held : Bool}

theorem open_arr_ints {n : Nat} {T e : TypeId} {k : IntKind} {r : Reach} {b0 : Nat} {v : Value} {d : DataW H} {ps : List MemPlace} (ht : P.underlying T = some (.array n e)) (he : P.underlying e = some (.int k)) (hc : P.cellsOf e = 1)
    (hval : Value.okWide P w r b0 T v) (h : DataW.Trod enc P w base spare held T v d ps) (hT : P.cellsOf T = n) : ∃ L : List Int, L.length = n ∧ v = .agg (L.map (Value.int k)).toArray := by
  simp only [Value.okWide, ht] at hval
  obtain ⟨cs, rfl, h2, -⟩ := hval
  obtain ⟨fuel, hf⟩ := h
  obtain ⟨xs, m, -, -, hl, hx, hi⟩ := DataW.trod_array ht hf
  have hcs : (Value.agg cs).cells = cs := rfl
  rw [hcs] at hl hi
  have hlen : cs.toList.length = n := by rw [hl, hT]
  have key : ∀ i (h : i < cs.toList.length), ∃ z, cs.toList[i] = .int k z := by
    intro i h
    have h3 := hi i (by omega)
    rw [hc, Nat.mul_one, List.getElem?_eq_getElem (by omega)] at h3
    obtain ⟨z, hz, -⟩ := DataW.trod_int he h3
    refine ⟨z, ?_⟩
    rw [List.drop_eq_getElem_cons h] at hz
    simpa using hz
  have gen : ∀ l : List Value, (∀ i (h : i < l.length), ∃ z, l[i] = .int k z) → ∃ L : List Int, L.length = l.length ∧ l = L.map (Value.int k) := by
    intro l
    induction l with
    | nil => exact fun _ => ⟨[], rfl, rfl⟩
    | cons a l ih =>
      intro hk
      obtain ⟨z, hz⟩ := hk 0 (by simp)
      obtain ⟨L, h4, h5⟩ := ih (fun i h => hk (i + 1) (Nat.succ_lt_succ h))
      exact ⟨z :: L, by simp [h4], by simp at hz; rw [hz, h5]; rfl⟩
  obtain ⟨L, h4, h5⟩ := gen cs.toList key
  refine ⟨L, by omega, ?_⟩
  rw [← h5]

theorem open_ints8 {T e : TypeId} {k : IntKind} {r : Reach} {b0 : Nat} {v : Value} {d : DataW H} {ps : List MemPlace} (ht : P.underlying T = some (.array 8 e)) (he : P.underlying e = some (.int k)) (hc : P.cellsOf e = 1) (hT : P.cellsOf T = 8)
    (hval : Value.okWide P w r b0 T v) (h : DataW.Trod enc P w base spare held T v d ps) : ∃ a b c d e f g h : Int, v = .agg #[.int k a, .int k b, .int k c, .int k d, .int k e, .int k f, .int k g, .int k h] := by
  obtain ⟨L, hL, rfl⟩ := open_arr_ints ht he hc hval h hT
  match L, hL with
  | [a, b, c, d, e, f, g, h], _ => exact ⟨a, b, c, d, e, f, g, h, rfl⟩
theorem open_ints6 {T e : TypeId} {k : IntKind} {r : Reach} {b0 : Nat} {v : Value} {d : DataW H} {ps : List MemPlace} (ht : P.underlying T = some (.array 6 e)) (he : P.underlying e = some (.int k)) (hc : P.cellsOf e = 1) (hT : P.cellsOf T = 6)
    (hval : Value.okWide P w r b0 T v) (h : DataW.Trod enc P w base spare held T v d ps) : ∃ a b c d e f : Int, v = .agg #[.int k a, .int k b, .int k c, .int k d, .int k e, .int k f] := by
  obtain ⟨L, hL, rfl⟩ := open_arr_ints ht he hc hval h hT
  match L, hL with
  | [a, b, c, d, e, f], _ => exact ⟨a, b, c, d, e, f, rfl⟩
end
end Go.Proofs.YtiihokgjplpceaaDoor
