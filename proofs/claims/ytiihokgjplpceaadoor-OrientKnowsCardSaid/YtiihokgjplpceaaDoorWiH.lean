/- The table that bits.TrailingZeros32 reads is where the program's text lays it. -/
import Derived.Test.YtiihokgjplpceaaDoorRows
import Derived.Test.YtiihokgjplpceaaDoorWhCD
import Derived.ProofKit
import Derived.LaidMore
import Derived.OpenShut
import Derived.Stop.Joined
import Derived.WalkKit
import Derived.WideShapes
namespace Go.Proofs.YtiihokgjplpceaaDoor
open Go.ChangeShapes Go.WideShapes Go.ChangeAt Go.WideMaps Go.WideElems Go.RowKit
set_option linter.unusedVariables false

theorem int_wf64 {a : Int} (w : (Lit.int .i64 a).wf = true) : -9223372036854775808 ≤ a ∧ a ≤ 9223372036854775807 := by
  simp [Lit.wf] at w
  have e : IntKind.i64.min = -9223372036854775808 := rfl
  rw [e] at w
  exact w
theorem gTab : Tryd.prog.globalNamed "math/bits.deBruijn32tab" = some 1 := by kernel_rfl
theorem tTab : (Tryd.prog.globals[1]?).map (·.type) = some 107 := by kernel_rfl
def tabL : List (String × DataW Unit) := [("math/bits.deBruijn32tab", Rows.laid_math_bits_deBruijn32tab)]

theorem door_met (os : Os) (args : Array Value) : laidMetH Tryd.prog tabL ((World.doorLaid Tryd.prog 400 os).forCall (fun _ _ => 0) ⟨#[], args, []⟩).memory :=
  laidMetH_of_parts3 (fuel := 8) (laidMet_of_run' 8 (by kernel_rfl) (by kernel_rfl)) (by kernel_rfl) (by kernel_rfl)

theorem of_laid {W : World} (h : laidMetH Tryd.prog tabL W) : TabOk W := by
  rw [MakeChecks.laidMetH_plain _ _ _ (by kernel_rfl)] at h
  obtain ⟨ps, ⟨g1, t1, cs1, f1, p1, q1, hg1, ht1, hv1, hd1, _, _⟩, _, _⟩ := h
  obtain rfl := Option.some.inj (gTab.symm.trans hg1)
  obtain rfl := Option.some.inj (tTab.symm.trans ht1)
  obtain ⟨xs, m1, rfl, hx1, hlen, hn3, hel⟩ := DataW.trod_array Tryd.underlying107 hd1
  have c5 : Tryd.prog.cellsOf 5 = 1 := by kernel_rfl
  have hlit : xs.map (fun x => x.fst) = TV.W.tzTab.map (fun n => DataW.lit (Lit.int .u8 n)) := by
    have h1 := (Prod.mk.inj hx1).1
    have h2 : DataW.agg (TV.W.tzTab.map (fun n => DataW.lit (Lit.int .u8 n))) = DataW.agg (xs.map (fun x => x.fst)) := h1
    exact (DataW.agg.inj h2).symm
  intro j hj
  have hj2 := hel j hj
  rw [c5, Nat.mul_one] at hj2
  have hjx : j < xs.length := by omega
  rw [List.getElem?_eq_getElem hjx] at hj2
  obtain ⟨k, e1, e2, -⟩ := DataW.trod_int Tryd.underlying5 hj2
  have hk : (xs.map (fun x => x.fst))[j]? = some (DataW.lit (Lit.int .u8 (TV.W.tzTab.getD j 0))) := by
    rw [hlit, List.getElem?_map]
    have hl : j < TV.W.tzTab.length := by
      have := congrArg List.length hlit
      rw [List.length_map, List.length_map] at this; omega
    rw [List.getElem?_eq_getElem hl, List.getD_eq_getElem?_getD, List.getElem?_eq_getElem hl]; rfl
  rw [List.getElem?_map, List.getElem?_eq_getElem hjx, Option.map_some, e2] at hk
  have hk2 : k = TV.W.tzTab.getD j 0 := by simpa using hk
  have hc := World.var?_cell hg1 hv1 j
  rw [← hk2, hc, ← Array.getElem?_toList]
  have e3 := congrArg (fun l => l[0]?) e1
  simpa [List.getElem?_take, List.getElem?_drop] using e3
end Go.Proofs.YtiihokgjplpceaaDoor
namespace Go.Proofs.YtiihokgjplpceaaDoor
open Go.RowKit
set_option linter.unusedVariables false

section
variable {H : Type} {enc : TypeId × Value → H} {P : Program} {w : World} {base : Nat} {spare : Nat → Bool} {held : Bool}

theorem trod_floatX {k : FloatKind} {t : TypeId} {fuel : Nat} {cs : List Value} {x : DataW H × List MemPlace} (ht : P.underlying t = some (.float k)) (h : DataW.trod enc P w base spare held fuel t cs = some x) : ∃ n, cs = [.float k n] ∧ x = (.lit (.float k n), []) ∧ (Lit.float k n).wf = true := by
  cases fuel with
  | zero => simp [DataW.trod] at h
  | succ n =>
    unfold DataW.trod at h
    rw [ht] at h
    split at h <;> simp_all

theorem open_arr_floats {n : Nat} {T e : TypeId} {k : FloatKind} {r : Reach} {b0 : Nat} {v : Value} {d : DataW H} {ps : List MemPlace} (ht : P.underlying T = some (.array n e)) (he : P.underlying e = some (.float k)) (hc : P.cellsOf e = 1)
    (hval : Value.okWide P w r b0 T v) (h : DataW.Trod enc P w base spare held T v d ps) (hT : P.cellsOf T = n) : ∃ L : List Nat, L.length = n ∧ v = .agg (L.map (Value.float k)).toArray ∧ ∀ z ∈ L, (Lit.float k z).wf = true := by
  simp only [Value.okWide, ht] at hval
  obtain ⟨cs, rfl, h2, -⟩ := hval
  obtain ⟨fuel, hf⟩ := h
  obtain ⟨xs, m, -, -, hl, hx, hi⟩ := DataW.trod_array ht hf
  have hcs : (Value.agg cs).cells = cs := rfl
  rw [hcs] at hl hi
  have hlen : cs.toList.length = n := by rw [hl, hT]
  have key : ∀ i (h : i < cs.toList.length), ∃ z, cs.toList[i] = .float k z ∧ (Lit.float k z).wf = true := by
    intro i h
    have h3 := hi i (by omega)
    rw [hc, Nat.mul_one, List.getElem?_eq_getElem (by omega)] at h3
    obtain ⟨z, hz, -, hwf⟩ := trod_floatX he h3
    refine ⟨z, ?_, hwf⟩
    rw [List.drop_eq_getElem_cons h] at hz
    simpa using hz
  have gen : ∀ l : List Value, (∀ i (h : i < l.length), ∃ z, l[i] = .float k z ∧ (Lit.float k z).wf = true) → ∃ L : List Nat, L.length = l.length ∧ l = L.map (Value.float k) ∧ ∀ z ∈ L, (Lit.float k z).wf = true := by
    intro l
    induction l with
    | nil => exact fun _ => ⟨[], rfl, rfl, by simp⟩
    | cons a l ih =>
      intro hk
      obtain ⟨z, hz, hw⟩ := hk 0 (by simp)
      obtain ⟨L, h4, h5, h6⟩ := ih (fun i h => hk (i + 1) (Nat.succ_lt_succ h))
      refine ⟨z :: L, by simp [h4], by simp at hz; rw [hz, h5]; rfl, ?_⟩
      intro y hy
      rcases List.mem_cons.1 hy with rfl | hy
      · exact hw
      · exact h6 y hy
  obtain ⟨L, h4, h5, h6⟩ := gen cs.toList key
  refine ⟨L, by omega, ?_, h6⟩
  rw [← h5]

theorem open_floats9 {T e : TypeId} {r : Reach} {b0 : Nat} {v : Value} {d : DataW H} {ps : List MemPlace} (ht : P.underlying T = some (.array 9 e)) (he : P.underlying e = some (.float .f64)) (hc : P.cellsOf e = 1) (hT : P.cellsOf T = 9)
    (hval : Value.okWide P w r b0 T v) (h : DataW.Trod enc P w base spare held T v d ps) : ∃ x0 x1 x2 x3 x4 x5 x6 x7 x8 : Nat, v = .agg #[.float .f64 x0, .float .f64 x1, .float .f64 x2, .float .f64 x3, .float .f64 x4, .float .f64 x5, .float .f64 x6, .float .f64 x7, .float .f64 x8] ∧
      x0 < 18446744073709551616 ∧ x1 < 18446744073709551616 ∧ x2 < 18446744073709551616 ∧ x3 < 18446744073709551616 ∧ x4 < 18446744073709551616 ∧ x5 < 18446744073709551616 ∧ x6 < 18446744073709551616 ∧ x7 < 18446744073709551616 ∧ x8 < 18446744073709551616 := by
  obtain ⟨L, hL, rfl, hw⟩ := open_arr_floats ht he hc hval h hT
  match L, hL with
  | [x0, x1, x2, x3, x4, x5, x6, x7, x8], _ =>
    have g : ∀ z ∈ [x0, x1, x2, x3, x4, x5, x6, x7, x8], z < 18446744073709551616 := fun z hz => by
      have := hw z hz
      simpa [Lit.wf] using this
    exact ⟨x0, x1, x2, x3, x4, x5, x6, x7, x8, rfl, g _ (by simp), g _ (by simp), g _ (by simp), g _ (by simp), g _ (by simp), g _ (by simp), g _ (by simp), g _ (by simp), g _ (by simp)⟩
end
end Go.Proofs.YtiihokgjplpceaaDoor
