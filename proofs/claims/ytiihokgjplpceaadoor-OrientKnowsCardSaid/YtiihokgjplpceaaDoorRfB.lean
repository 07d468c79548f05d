/- The document's answer of layer 5, walked: products across. -/
import Derived.Test.YtiihokgjplpceaaDoorRfA
import Derived.Deep.RegionHeld3
namespace Go.Proofs.YtiihokgjplpceaaDoor
open Go.RowKit TV
set_option linter.unusedVariables false

/-- Four boxes and a cell for the result. -/
theorem five_cells (w : World) (o0 o1 o2 o3 o4 : Obj) : ∃ wn, wn = ((((w.alloc o0).alloc o1).alloc o2).alloc o3).alloc o4 ∧ Below w.heap.size w wn ∧ wn.heap.size = w.heap.size + 5 ∧
    wn.heap[w.heap.size]? = some o0 ∧ wn.heap[w.heap.size + 1]? = some o1 ∧ wn.heap[w.heap.size + 1 + 1]? = some o2 ∧ wn.heap[w.heap.size + 1 + 1 + 1]? = some o3 ∧ wn.heap[w.heap.size + 1 + 1 + 1 + 1]? = some o4 := by
  have a0 := heap_alloc_new w o0
  have a1 := heap_alloc_new (w.alloc o0) o1
  have a2 := heap_alloc_new ((w.alloc o0).alloc o1) o2
  have a3 := heap_alloc_new (((w.alloc o0).alloc o1).alloc o2) o3
  have a4 := heap_alloc_new ((((w.alloc o0).alloc o1).alloc o2).alloc o3) o4
  simp only [World.size_alloc] at a1 a2 a3 a4
  refine ⟨_, rfl, (((((Below.refl w.heap.size w).alloc (Nat.le_refl _) _).alloc (by simp) _).alloc (by simp <;> omega) _).alloc (by simp <;> omega) _).alloc (by simp <;> omega) _, by simp, ?_, ?_, ?_, ?_, a4⟩
  · exact ((((Below.heap_alloc _ _ _ (by simp <;> omega)).trans (Below.heap_alloc _ _ _ (by simp <;> omega))).trans (Below.heap_alloc _ _ _ (by simp <;> omega))).trans (Below.heap_alloc _ _ _ (by simp))).trans a0
  · exact (((Below.heap_alloc _ _ _ (by simp <;> omega)).trans (Below.heap_alloc _ _ _ (by simp <;> omega))).trans (Below.heap_alloc _ _ _ (by simp))).trans a1
  · exact ((Below.heap_alloc _ _ _ (by simp <;> omega)).trans (Below.heap_alloc _ _ _ (by simp))).trans a2
  · exact (Below.heap_alloc _ _ _ (by simp)).trans a3

theorem put3_cell {w : World} {b : Nat} {p : Addr} {v : Value} (h : w.cell? p = some v) (hne : p.block ≠ b) (u0 u1 u2 : Value) :
    (((w.setCell ⟨b, 0, none⟩ u0).setCell ⟨b, 1, none⟩ u1).setCell ⟨b, 2, none⟩ u2).cell? p = some v := by
  rw [World.cell?_setCell_other _ _ _ _ (fun e => hne (by rw [← e])), World.cell?_setCell_other _ _ _ _ (fun e => hne (by rw [← e])), World.cell?_setCell_other _ _ _ _ (fun e => hne (by rw [← e]))]; exact h
theorem Kp.put3 {b : Nat} {w w1 : World} (h : Kp w w1) (hb : w.heap.size ≤ b) (u0 u1 u2 : Value) : Kp w (((w1.setCell ⟨b, 0, none⟩ u0).setCell ⟨b, 1, none⟩ u1).setCell ⟨b, 2, none⟩ u2) :=
  ((Below.setCell h hb _).setCell hb _).setCell hb _

theorem sub_prep {Q : Nat → Prop} {s t k : Nat} {w2 w3 : World} {x y : Value} {p q : Rat} (n2 : NumV (fun j => Q j ∨ s ≤ j) w2 x k p) (n3 : NumV (fun j => Q j ∨ t ≤ j) w3 y k q) (hb : Below w2.heap.size w2 w3) (hk : k ≤ 900000000) (h1 : s ≤ t) :
    Calls Tryd.prog 31 #[x, y] w3 (RetN (fun j => Q j ∨ s ≤ j) (k + 1) (p - q) w3) :=
  subN (n2.keep hb) (n3.mono (Q := fun j => Q j ∨ s ≤ j) (fun i hi => hi.imp id (Nat.le_trans h1))) hk

end Go.Proofs.YtiihokgjplpceaaDoor
