/- The document's answer of layer 5, walked: products across. -/
import Derived.Test.YtiiipgbfhcbjdaaRfA
import Derived.Deep.RegionHeld3
namespace Go.Proofs.Ytiiipgbfhcbjdaa
open Go.RowKit TV
set_option linter.unusedVariables false

/-- Four boxes and a cell for the result. -/
theorem five_cells (w : World) (o0 o1 o2 o3 o4 : Obj) : ∃ wn, wn = ((((w.alloc o0).alloc o1).alloc o2).alloc o3).alloc o4 ∧ Below w.heap.size w wn ∧ wn.heap.size = w.heap.size + 5 ∧
    wn.heap[w.heap.size]? = some o0 ∧ wn.heap[w.heap.size + 1]? = some o1 ∧ wn.heap[w.heap.size + 1 + 1]? = some o2 ∧ wn.heap[w.heap.size + 1 + 1 + 1]? = some o3 ∧ wn.heap[w.heap.size + 1 + 1 + 1 + 1]? = some o4 := by
  have a0 := heap_alloc_new w o0
  have a1 := heap_alloc_new (w.alloc o0) o1
  have a2 := heap_alloc_new ((w.alloc o0).alloc o1) o2
  have a3 := heap_alloc_new (((w.alloc o0).alloc o1).alloc o2) o3
  have a4 := heap_alloc_new ((((w.alloc o0).alloc o1).alloc o2).alloc o3) o4
  simp only [World.size_alloc] at a1 a2 a3 a4
  refine ⟨_, rfl, (((((Below.refl w.heap.size w).alloc (Nat.le_refl _) _).alloc (by simp) _).alloc (by simp <;> omega) _).alloc (by simp <;> omega) _).alloc (by simp <;> omega) _, by simp, ?_, ?_, ?_, ?_, a4⟩
  · exact ((((Below.heap_alloc _ _ _ (by simp <;> omega)).trans (Below.heap_alloc _ _ _ (by simp <;> omega))).trans (Below.heap_alloc _ _ _ (by simp <;> omega))).trans (Below.heap_alloc _ _ _ (by simp))).trans a0
  · exact (((Below.heap_alloc _ _ _ (by simp <;> omega)).trans (Below.heap_alloc _ _ _ (by simp <;> omega))).trans (Below.heap_alloc _ _ _ (by simp))).trans a1
  · exact ((Below.heap_alloc _ _ _ (by simp <;> omega)).trans (Below.heap_alloc _ _ _ (by simp))).trans a2
  · exact (Below.heap_alloc _ _ _ (by simp)).trans a3

theorem put3_cell {w : World} {b : Nat} {p : Addr} {v : Value} (h : w.cell? p = some v) (hne : p.block ≠ b) (u0 u1 u2 : Value) :
    (((w.setCell ⟨b, 0, none⟩ u0).setCell ⟨b, 1, none⟩ u1).setCell ⟨b, 2, none⟩ u2).cell? p = some v := by
  rw [World.cell?_setCell_other _ _ _ _ (fun e => hne (by rw [← e])), World.cell?_setCell_other _ _ _ _ (fun e => hne (by rw [← e])), World.cell?_setCell_other _ _ _ _ (fun e => hne (by rw [← e]))]; exact h
theorem Kp.put3 {b : Nat} {w w1 : World} (h : Kp w w1) (hb : w.heap.size ≤ b) (u0 u1 u2 : Value) : Kp w (((w1.setCell ⟨b, 0, none⟩ u0).setCell ⟨b, 1, none⟩ u1).setCell ⟨b, 2, none⟩ u2) :=
  ((Below.setCell h hb _).setCell hb _).setCell hb _

theorem sub_prep {Q : Nat → Prop} {s t k : Nat} {w2 w3 : World} {x y : Value} {p q : Rat} (n2 : NumV (fun j => Q j ∨ s ≤ j) w2 x k p) (n3 : NumV (fun j => Q j ∨ t ≤ j) w3 y k q) (hb : Below w2.heap.size w2 w3) (hk : k ≤ 900000000) (h1 : s ≤ t) :
    Calls Try.prog 16 #[x, y] w3 (RetN (fun j => Q j ∨ s ≤ j) (k + 1) (p - q) w3) :=
  subN (n2.keep hb) (n3.mono (Q := fun j => Q j ∨ s ≤ j) (fun i hi => hi.imp id (Nat.le_trans h1))) hk

set_option maxRecDepth 100000 in
set_option maxHeartbeats 8000000 in
theorem crossN {P : Nat → Prop} {w : World} {vx vy vz vu : Value} {k j : Nat} {x y z u : Rat} (hx : NumV P w vx k x) (hy : NumV P w vy j y) (hz : NumV P w vz k z) (hu : NumV P w vu j u) (hk : k ≤ 100000000) (hj : j ≤ 100000000) :
    Calls Try.prog 15 #[vx, vy, vz, vu] w (RetN P (k + j + 1) (x * u - z * y) w) := by
  obtain ⟨sx, px, nx, cx, ex, rfl, -⟩ := hx.form
  obtain ⟨sy, py, ny, cy, ey, rfl, -⟩ := hy.form
  obtain ⟨sz, pz, nz, cz, ez, rfl, -⟩ := hz.form
  obtain ⟨su, pu, nu, cu, eu, rfl, -⟩ := hu.form
  have HA := Lib.hid (fun (W : World) (hw : Below w.heap.size w W) => mulN (hx.lt.keep hw) (hu.lt.keep hw) (by omega) (by omega))
  have HB := Lib.hid (fun (W : World) (hw : Below w.heap.size w W) => mulN (hz.lt.keep hw) (hy.lt.keep hw) (by omega) (by omega))
  obtain ⟨wn, hwn, HW0, hsz, k0, k1, k2, k3, k4⟩ := five_cells w (.cells #[.int .i64 sx, .slice px nx cx, .int .i64 ex] 34) (.cells #[.int .i64 sy, .slice py ny cy, .int .i64 ey] 34) (.cells #[.int .i64 sz, .slice pz nz cz, .int .i64 ez] 34) (.cells #[.int .i64 su, .slice pu nu cu, .int .i64 eu] 34) (.cells #[.int .i64 0, .slice none 0 0, .int .i64 0] 34)
  have HW := Lib.hid HW0
  have HR := Lib.hid k4
  clear hx hy hz hu HW0
  go_enter Try.func15, Try.ntmps15
  go_wp2_with fail
  rw [← hwn]
  obtain ⟨x0, x1, x2, -, -, -⟩ := res_facts k0
  obtain ⟨y0, y1, y2, -, -, -⟩ := res_facts k1
  obtain ⟨z0, z1, z2, -, -, -⟩ := res_facts k2
  obtain ⟨u0, u1, u2, -, -, -⟩ := res_facts k3
  have HA2 := Lib.hid (fun (W : World) (h : Kp w W) => HA.out W h.out)
  have HB2 := Lib.hid (fun (W : World) (h : Kp w W) => HB.out W h.out)
  have K0 : Kp w wn := HW.out
  have hleb : w.heap.size ≤ w.heap.size + 1 + 1 + 1 + 1 := by omega
  have hnex : w.heap.size ≠ w.heap.size + 1 + 1 + 1 + 1 := by omega
  have hney : w.heap.size + 1 ≠ w.heap.size + 1 + 1 + 1 + 1 := by omega
  have hnez : w.heap.size + 1 + 1 ≠ w.heap.size + 1 + 1 + 1 + 1 := by omega
  have hneu : w.heap.size + 1 + 1 + 1 ≠ w.heap.size + 1 + 1 + 1 + 1 := by omega
  clear k0 k1 k2 k3 k4 hwn HA HB
  go_region_held3 (fun w' => w'.cell? ⟨w.heap.size, 0, none⟩ = some (.int .i64 sx) ∧ w'.cell? ⟨w.heap.size, 1, none⟩ = some (.slice px nx cx) ∧ w'.cell? ⟨w.heap.size, 2, none⟩ = some (.int .i64 ex) ∧ w'.cell? ⟨w.heap.size + 1, 0, none⟩ = some (.int .i64 sy) ∧ w'.cell? ⟨w.heap.size + 1, 1, none⟩ = some (.slice py ny cy) ∧ w'.cell? ⟨w.heap.size + 1, 2, none⟩ = some (.int .i64 ey) ∧ w'.cell? ⟨w.heap.size + 1 + 1, 0, none⟩ = some (.int .i64 sz) ∧ w'.cell? ⟨w.heap.size + 1 + 1, 1, none⟩ = some (.slice pz nz cz) ∧ w'.cell? ⟨w.heap.size + 1 + 1, 2, none⟩ = some (.int .i64 ez) ∧ w'.cell? ⟨w.heap.size + 1 + 1 + 1, 0, none⟩ = some (.int .i64 su) ∧ w'.cell? ⟨w.heap.size + 1 + 1 + 1, 1, none⟩ = some (.slice pu nu cu) ∧ w'.cell? ⟨w.heap.size + 1 + 1 + 1, 2, none⟩ = some (.int .i64 eu) ∧ Kp w w')
    (first | exact ⟨put3_cell (keep_cell hbC (keep_cell hbB (keep_cell hbA x0))) (hnex) _ _ _, put3_cell (keep_cell hbC (keep_cell hbB (keep_cell hbA x1))) (hnex) _ _ _, put3_cell (keep_cell hbC (keep_cell hbB (keep_cell hbA x2))) (hnex) _ _ _, put3_cell (keep_cell hbC (keep_cell hbB (keep_cell hbA y0))) (hney) _ _ _, put3_cell (keep_cell hbC (keep_cell hbB (keep_cell hbA y1))) (hney) _ _ _, put3_cell (keep_cell hbC (keep_cell hbB (keep_cell hbA y2))) (hney) _ _ _, put3_cell (keep_cell hbC (keep_cell hbB (keep_cell hbA z0))) (hnez) _ _ _, put3_cell (keep_cell hbC (keep_cell hbB (keep_cell hbA z1))) (hnez) _ _ _, put3_cell (keep_cell hbC (keep_cell hbB (keep_cell hbA z2))) (hnez) _ _ _, put3_cell (keep_cell hbC (keep_cell hbB (keep_cell hbA u0))) (hneu) _ _ _, put3_cell (keep_cell hbC (keep_cell hbB (keep_cell hbA u1))) (hneu) _ _ _, put3_cell (keep_cell hbC (keep_cell hbB (keep_cell hbA u2))) (hneu) _ _ _, (((K0.drew.step hbA).step hbB).step hbC).put3 hleb _ _ _⟩ | exact ⟨(keep_cell hbC (keep_cell hbB (keep_cell hbA x0))), (keep_cell hbC (keep_cell hbB (keep_cell hbA x1))), (keep_cell hbC (keep_cell hbB (keep_cell hbA x2))), (keep_cell hbC (keep_cell hbB (keep_cell hbA y0))), (keep_cell hbC (keep_cell hbB (keep_cell hbA y1))), (keep_cell hbC (keep_cell hbB (keep_cell hbA y2))), (keep_cell hbC (keep_cell hbB (keep_cell hbA z0))), (keep_cell hbC (keep_cell hbB (keep_cell hbA z1))), (keep_cell hbC (keep_cell hbB (keep_cell hbA z2))), (keep_cell hbC (keep_cell hbB (keep_cell hbA u0))), (keep_cell hbC (keep_cell hbB (keep_cell hbA u1))), (keep_cell hbC (keep_cell hbB (keep_cell hbA u2))), (((K0.drew.step hbA).step hbB).step hbC)⟩ | exact ⟨(keep_cell hbB (keep_cell hbA x0)), (keep_cell hbB (keep_cell hbA x1)), (keep_cell hbB (keep_cell hbA x2)), (keep_cell hbB (keep_cell hbA y0)), (keep_cell hbB (keep_cell hbA y1)), (keep_cell hbB (keep_cell hbA y2)), (keep_cell hbB (keep_cell hbA z0)), (keep_cell hbB (keep_cell hbA z1)), (keep_cell hbB (keep_cell hbA z2)), (keep_cell hbB (keep_cell hbA u0)), (keep_cell hbB (keep_cell hbA u1)), (keep_cell hbB (keep_cell hbA u2)), ((K0.drew.step hbA).step hbB)⟩ | exact ⟨(keep_cell hbA x0), (keep_cell hbA x1), (keep_cell hbA x2), (keep_cell hbA y0), (keep_cell hbA y1), (keep_cell hbA y2), (keep_cell hbA z0), (keep_cell hbA z1), (keep_cell hbA z2), (keep_cell hbA u0), (keep_cell hbA u1), (keep_cell hbA u2), (K0.drew.step hbA)⟩ | exact ⟨x0, x1, x2, y0, y1, y2, z0, z1, z2, u0, u1, u2, K0.drew⟩)
    (first
      | (go_at_call 14; ((with_reducible refine (HB2.out _ ?hq2).mono ?_); (case hq2 => exact (K0.drew.step hbA)); rintro e w3 ⟨v3, rfl, n3, hbB⟩; obtain ⟨s3, p3, l3, c3, e3, rfl, -⟩ := n3.form))
      | (go_at_call 14; ((with_reducible refine (HA2.out _ ?hq1).mono ?_); (case hq1 => exact K0.drew); rintro e w2 ⟨v2, rfl, n2, hbA⟩; obtain ⟨s2, p2, l2, c2, e2, rfl, -⟩ := n2.form))
      | (go_at_call 16; ((with_reducible refine (sub_prep n2 n3 hbB ?h1 ?h2).mono ?_); (case h1 => omega); (case h2 => exact hbA.size); rintro e w4 ⟨v4, rfl, n4, hbC⟩; obtain ⟨s4, p4, l4, c4, e4, rfl, -⟩ := n4.form; have hres := keep_block hbC (keep_block hbB (keep_block hbA HR.out)); obtain ⟨r0, r1, r2, f0, f1, f2⟩ := res_facts hres)))
  go_wp2_with fail
  obtain ⟨g0, g1, g2⟩ := put_facts hres (.int .i64 s4) (.slice p4 l4 c4) (.int .i64 e4)
  refine bodyPost_ret (v := .agg #[.int .i64 s4, .slice p4 l4 c4, .int .i64 e4]) (by simp [results, Try.results15, go_sem, g0, g1, g2]) rfl ?_
  have hsd : wn.drew.heap.size = w.heap.size + 5 := hsz
  have hs3 := Nat.le_trans hbA.size hbB.size
  exact ⟨_, rfl, (n4.into (fun j hj => by rcases hj with (h | h) | h <;> omega) _ _ _).mono (fun j hj => by
    rcases hj with (h | h) | h
    · exact Or.inl h.1
    · exact Or.inr (by omega)
    · exact Or.inr (by omega)), (((K0.drew.step hbA).step hbB).step hbC).put3 hleb _ _ _⟩

end Go.Proofs.Ytiiipgbfhcbjdaa
