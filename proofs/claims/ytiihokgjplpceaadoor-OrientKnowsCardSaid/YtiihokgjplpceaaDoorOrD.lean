/- The document's answer: on which side of a line a point lies, walked. (Printed by gen_OrD.py.) -/
import Derived.Test.YtiihokgjplpceaaDoorOrA
import Derived.Test.YtiihokgjplpceaaDoorSgA
import Derived.Deep.RegionHeld3
namespace Go.Proofs.YtiihokgjplpceaaDoor
open Go.RowKit TV
set_option linter.unusedVariables false

/-- A number whose words lie behind the block r. -/
def RetR (r k : Nat) (q : Rat) (w : World) (x : Ending) (w' : World) : Prop := ∃ v, x = .returned v ∧ NumV (fun j => r < j) w' v k q ∧ Below w.heap.size w w'
theorem RetN.r {r k : Nat} {q : Rat} {w : World} {x : Ending} {w' : World} {P : Nat → Prop} (h : RetN P k q w x w') (hP : ∀ j, P j → r < j) (hr : r < w.heap.size) : RetR r k q w x w' := by
  obtain ⟨v, h1, h2, h3⟩ := h
  exact ⟨v, h1, h2.mono fun j hj => by rcases hj with hj | hj; exact hP j hj; omega, h3⟩
theorem lessN4 (x y : Nat) (hx : x < 18446744073709551616) (hy : y < 18446744073709551616) (w : World) :
    Calls Tryd.prog 33 #[.float .f64 x, .float .f64 y] w (RetN (fun _ => False) 2001 (ov x - ov y) w) := by
  have HR : Hid ((w.alloc (.cells #[.int .i64 0, .slice none 0 0, .int .i64 0] 42)).heap[w.heap.size]? = some (.cells #[.int .i64 0, .slice none 0 0, .int .i64 0] 42 (0, 0))) := heap_alloc_new _ _
  have HW : Hid (Below w.heap.size w (w.alloc (.cells #[.int .i64 0, .slice none 0 0, .int .i64 0] 42))) := (Below.refl w.heap.size w).alloc (Nat.le_refl _) _
  go_enter Tryd.func33, Tryd.ntmps33
  go_wp2_with fail
  refine (ofN x hx _).mono ?_
  rintro e w1 ⟨v1, rfl, n1, hb1⟩
  have hw1 := HW.out.trans (hb1.mono HW.out.size)
  have hr1 := Lib.hid (keep_block hb1 HR.out)
  have m1 : NumV (fun j => w.heap.size < j) w1 v1 2000 (ov x) := n1.mono fun j hj => by
    rcases hj with h | h
    · exact h.elim
    · simp at h; omega
  obtain ⟨s1, p1, l1, c1, e1, rfl, -⟩ := n1.form
  have M1 := Lib.hid m1
  clear n1 m1
  go_wp2_with fail
  refine (ofN y hy _).mono ?_
  rintro e w2 ⟨v2, rfl, n2, hb2⟩
  have hw2 := hw1.trans (hb2.mono hw1.size)
  have hr2 := Lib.hid (keep_block hb2 hr1.out)
  have hlt1 := block_lt hr1.out
  have m2 : NumV (fun j => w.heap.size < j) w2 v2 2000 (ov y) := n2.mono fun j hj => by
    rcases hj with h | h
    · exact h.elim
    · omega
  obtain ⟨s2, p2, l2, c2, e2, rfl, -⟩ := n2.form
  have M2 := Lib.hid m2
  have HS := Lib.hid (subN (M1.out.keep hb2) m2 (by omega))
  clear n2 m2
  go_wp2_with fail
  refine HS.out.mono ?_
  rintro e w3 ⟨v3, rfl, n3, hb3⟩
  have hw3 := hw2.trans (hb3.mono hw2.size)
  have hr3 := keep_block hb3 hr2.out
  have hlt2 := block_lt hr2.out
  obtain ⟨s3, p3, l3, c3, e3, rfl, -⟩ := n3.form
  have N3 := Lib.hid n3
  obtain ⟨y0, y1, y2, z0, z1, z2⟩ := res_facts hr3
  obtain ⟨r0, r1, r2⟩ := put_facts hr3 (.int .i64 s3) (.slice p3 l3 c3) (.int .i64 e3)
  clear n3 HS
  go_wp2
  refine bodyPost_ret (v := .agg #[.int .i64 s3, .slice p3 l3 c3, .int .i64 e3]) (by simp [results, Tryd.results33, go_sem, r0, r1, r2]) rfl ?_
  refine ⟨_, rfl, (N3.out.into (fun j hj => by omega) _ _ _).mono fun j hj => Or.inr (by omega), ((hw3.setCell (by simp) _).setCell (by simp) _).setCell (by simp) _⟩
theorem four_cells4 (w : World) (o0 o1 o2 o3 : Obj) : ∃ wn, wn = (((w.alloc o0).alloc o1).alloc o2).alloc o3 ∧ Below w.heap.size w wn ∧ wn.heap.size = w.heap.size + 4 ∧
    wn.heap[w.heap.size]? = some o0 ∧ wn.heap[w.heap.size + 1]? = some o1 ∧ wn.heap[w.heap.size + 1 + 1]? = some o2 ∧ wn.heap[w.heap.size + 1 + 1 + 1]? = some o3 := by
  have a0 := heap_alloc_new w o0
  have a1 := heap_alloc_new (w.alloc o0) o1
  have a2 := heap_alloc_new ((w.alloc o0).alloc o1) o2
  have a3 := heap_alloc_new (((w.alloc o0).alloc o1).alloc o2) o3
  simp only [World.size_alloc] at a1 a2 a3
  refine ⟨_, rfl, ((((Below.refl w.heap.size w).alloc (Nat.le_refl _) _).alloc (by simp) _).alloc (by simp <;> omega) _).alloc (by simp <;> omega) _, by simp, ?_, ?_, ?_, a3⟩
  · exact (((Below.heap_alloc _ _ _ (by simp <;> omega)).trans (Below.heap_alloc _ _ _ (by simp <;> omega))).trans (Below.heap_alloc _ _ _ (by simp))).trans a0
  · exact ((Below.heap_alloc _ _ _ (by simp <;> omega)).trans (Below.heap_alloc _ _ _ (by simp))).trans a1
  · exact (Below.heap_alloc _ _ _ (by simp)).trans a2
theorem less_r {r : Nat} (x y : Nat) (hx : x < 18446744073709551616) (hy : y < 18446744073709551616) {w : World} (hr : r < w.heap.size) :
    Calls Tryd.prog 33 #[.float .f64 x, .float .f64 y] w (RetR r 2001 (ov x - ov y) w) := (lessN4 x y hx hy w).mono fun _ _ h => h.r (fun _ h => h.elim) hr
theorem mul_r {r k j : Nat} {w : World} {x y : Value} {p q : Rat} (hx : NumV (fun j => r < j) w x k p) (hy : NumV (fun j => r < j) w y j q) (hk : k ≤ 900000000) (hj : j ≤ 900000000) (hr : r < w.heap.size) :
    Calls Tryd.prog 32 #[x, y] w (RetR r (k + j) (p * q) w) := (mulN hx hy hk hj).mono fun _ _ h => h.r (fun _ h => h) hr
theorem sub_r {r k : Nat} {w : World} {x y : Value} {p q : Rat} (hx : NumV (fun j => r < j) w x k p) (hy : NumV (fun j => r < j) w y k q) (hk : k ≤ 900000000) (hr : r < w.heap.size) :
    Calls Tryd.prog 31 #[x, y] w (RetR r (k + 1) (p - q) w) := (subN hx hy hk).mono fun _ _ h => h.r (fun _ h => h) hr
theorem kp_lt {r : Nat} {w Y : World} (h : Kp w Y) (hr : r < w.heap.size) : r < Y.heap.size := Nat.lt_of_lt_of_le hr h.out.size
/-- The sum of three points. -/
def turnQ (ax ay bx bY cx cy : Rat) : Rat := (bx - ax) * (cy - ay) - (bY - ay) * (cx - ax)
set_option maxRecDepth 100000 in
set_option maxHeartbeats 4000000 in
theorem sum4_calls (ax ay bx bY cx cy : Nat) (hax : ax < 18446744073709551616) (hay : ay < 18446744073709551616) (hbx : bx < 18446744073709551616) (hby : bY < 18446744073709551616) (hcx : cx < 18446744073709551616) (hcy : cy < 18446744073709551616) (w : World) :
    Calls Tryd.prog 23 #[.agg #[.float .f64 ax, .float .f64 ay], .agg #[.float .f64 bx, .float .f64 bY], .agg #[.float .f64 cx, .float .f64 cy]] w (RetT 4003 (turnQ (ov ax) (ov ay) (ov bx) (ov bY) (ov cx) (ov cy)) w) := by
  obtain ⟨wn, hwn, HW0, hsz, k0, k1, k2, k3⟩ := four_cells4 w (.cells #[.float .f64 ax, .float .f64 ay] 24) (.cells #[.float .f64 bx, .float .f64 bY] 24) (.cells #[.float .f64 cx, .float .f64 cy] 24) (.cells #[.int .i64 0, .slice none 0 0, .int .i64 0] 42)
  go_enter Tryd.func23, Tryd.ntmps23
  go_wp2_with fail
  rw [← hwn]
  clear hwn
  have a0 : wn.cell? ⟨w.heap.size, 0, none⟩ = some (.float .f64 ax) := cell_of_block k0 0
  have a1 : wn.cell? ⟨w.heap.size, 1, none⟩ = some (.float .f64 ay) := cell_of_block k0 1
  have b0 : wn.cell? ⟨w.heap.size + 1, 0, none⟩ = some (.float .f64 bx) := cell_of_block k1 0
  have b1 : wn.cell? ⟨w.heap.size + 1, 1, none⟩ = some (.float .f64 bY) := cell_of_block k1 1
  have c0 : wn.cell? ⟨w.heap.size + 1 + 1, 0, none⟩ = some (.float .f64 cx) := cell_of_block k2 0
  have c1 : wn.cell? ⟨w.heap.size + 1 + 1, 1, none⟩ = some (.float .f64 cy) := cell_of_block k2 1
  have HK := Lib.hid k3
  have HW := Lib.hid HW0
  have hr : w.heap.size + 3 < wn.heap.size := by omega
  have nA : w.heap.size ≠ w.heap.size + 1 + 1 + 1 := by omega
  have nB : w.heap.size + 1 ≠ w.heap.size + 1 + 1 + 1 := by omega
  have nC : w.heap.size + 1 + 1 ≠ w.heap.size + 1 + 1 + 1 := by omega
  have hle : w.heap.size ≤ w.heap.size + 1 + 1 + 1 := by omega
  clear k0 k1 k2 k3 HW0 hsz
  have KWr : Kp w wn := HW.out
  have HC0 := Lib.hid (fun (Y : World) (h' : Kp wn Y) => less_r bx ax hbx hax (kp_lt h' hr))
  have HC1 := Lib.hid (fun (Y : World) (h' : Kp wn Y) => less_r cy ay hcy hay (kp_lt h' hr))
  have HC2 := Lib.hid (fun (Y : World) (h' : Kp wn Y) (v1 : Value) (hv1 : NumV (fun j => w.heap.size + 3 < j) Y v1 2001 (ov bx - ov ax)) (v2 : Value) (hv2 : NumV (fun j => w.heap.size + 3 < j) Y v2 2001 (ov cy - ov ay)) => mul_r hv1 hv2 (by decide) (by decide) (kp_lt h' hr))
  have HC3 := Lib.hid (fun (Y : World) (h' : Kp wn Y) => less_r bY ay hby hay (kp_lt h' hr))
  have HC4 := Lib.hid (fun (Y : World) (h' : Kp wn Y) => less_r cx ax hcx hax (kp_lt h' hr))
  have HC5 := Lib.hid (fun (Y : World) (h' : Kp wn Y) (v1 : Value) (hv1 : NumV (fun j => w.heap.size + 3 < j) Y v1 2001 (ov bY - ov ay)) (v2 : Value) (hv2 : NumV (fun j => w.heap.size + 3 < j) Y v2 2001 (ov cx - ov ax)) => mul_r hv1 hv2 (by decide) (by decide) (kp_lt h' hr))
  have HC6 := Lib.hid (fun (Y : World) (h' : Kp wn Y) (v1 : Value) (hv1 : NumV (fun j => w.heap.size + 3 < j) Y v1 4002 ((ov bx - ov ax) * (ov cy - ov ay))) (v2 : Value) (hv2 : NumV (fun j => w.heap.size + 3 < j) Y v2 4002 ((ov bY - ov ay) * (ov cx - ov ax))) => sub_r hv1 hv2 (by decide) (kp_lt h' hr))
  go_region_held3 (fun w' => w'.cell? ⟨w.heap.size, 0, none⟩ = some (.float .f64 ax) ∧ w'.cell? ⟨w.heap.size, 1, none⟩ = some (.float .f64 ay) ∧ w'.cell? ⟨w.heap.size + 1, 0, none⟩ = some (.float .f64 bx) ∧ w'.cell? ⟨w.heap.size + 1, 1, none⟩ = some (.float .f64 bY) ∧ w'.cell? ⟨w.heap.size + 1 + 1, 0, none⟩ = some (.float .f64 cx) ∧ w'.cell? ⟨w.heap.size + 1 + 1, 1, none⟩ = some (.float .f64 cy) ∧ Kp w w')
    (first | with_reducible exact ⟨put3_cell (keep_cell ((((((((Kp.refl wn).drew.step hbS_0).step hbS_1).step hbS_2).step hbS_3).step hbS_4).step hbS_5).step hbS_6).out a0) nA _ _ _, put3_cell (keep_cell ((((((((Kp.refl wn).drew.step hbS_0).step hbS_1).step hbS_2).step hbS_3).step hbS_4).step hbS_5).step hbS_6).out a1) nA _ _ _, put3_cell (keep_cell ((((((((Kp.refl wn).drew.step hbS_0).step hbS_1).step hbS_2).step hbS_3).step hbS_4).step hbS_5).step hbS_6).out b0) nB _ _ _, put3_cell (keep_cell ((((((((Kp.refl wn).drew.step hbS_0).step hbS_1).step hbS_2).step hbS_3).step hbS_4).step hbS_5).step hbS_6).out b1) nB _ _ _, put3_cell (keep_cell ((((((((Kp.refl wn).drew.step hbS_0).step hbS_1).step hbS_2).step hbS_3).step hbS_4).step hbS_5).step hbS_6).out c0) nC _ _ _, put3_cell (keep_cell ((((((((Kp.refl wn).drew.step hbS_0).step hbS_1).step hbS_2).step hbS_3).step hbS_4).step hbS_5).step hbS_6).out c1) nC _ _ _, Kp.put3 (((((((KWr.drew.step hbS_0).step hbS_1).step hbS_2).step hbS_3).step hbS_4).step hbS_5).step hbS_6) hle _ _ _⟩ | with_reducible exact ⟨keep_cell ((((((((Kp.refl wn).drew.step hbS_0).step hbS_1).step hbS_2).step hbS_3).step hbS_4).step hbS_5).step hbS_6).out a0, keep_cell ((((((((Kp.refl wn).drew.step hbS_0).step hbS_1).step hbS_2).step hbS_3).step hbS_4).step hbS_5).step hbS_6).out a1, keep_cell ((((((((Kp.refl wn).drew.step hbS_0).step hbS_1).step hbS_2).step hbS_3).step hbS_4).step hbS_5).step hbS_6).out b0, keep_cell ((((((((Kp.refl wn).drew.step hbS_0).step hbS_1).step hbS_2).step hbS_3).step hbS_4).step hbS_5).step hbS_6).out b1, keep_cell ((((((((Kp.refl wn).drew.step hbS_0).step hbS_1).step hbS_2).step hbS_3).step hbS_4).step hbS_5).step hbS_6).out c0, keep_cell ((((((((Kp.refl wn).drew.step hbS_0).step hbS_1).step hbS_2).step hbS_3).step hbS_4).step hbS_5).step hbS_6).out c1, (((((((KWr.drew.step hbS_0).step hbS_1).step hbS_2).step hbS_3).step hbS_4).step hbS_5).step hbS_6)⟩ | with_reducible exact ⟨keep_cell (((((((Kp.refl wn).drew.step hbS_0).step hbS_1).step hbS_2).step hbS_3).step hbS_4).step hbS_5).out a0, keep_cell (((((((Kp.refl wn).drew.step hbS_0).step hbS_1).step hbS_2).step hbS_3).step hbS_4).step hbS_5).out a1, keep_cell (((((((Kp.refl wn).drew.step hbS_0).step hbS_1).step hbS_2).step hbS_3).step hbS_4).step hbS_5).out b0, keep_cell (((((((Kp.refl wn).drew.step hbS_0).step hbS_1).step hbS_2).step hbS_3).step hbS_4).step hbS_5).out b1, keep_cell (((((((Kp.refl wn).drew.step hbS_0).step hbS_1).step hbS_2).step hbS_3).step hbS_4).step hbS_5).out c0, keep_cell (((((((Kp.refl wn).drew.step hbS_0).step hbS_1).step hbS_2).step hbS_3).step hbS_4).step hbS_5).out c1, ((((((KWr.drew.step hbS_0).step hbS_1).step hbS_2).step hbS_3).step hbS_4).step hbS_5)⟩ | with_reducible exact ⟨keep_cell ((((((Kp.refl wn).drew.step hbS_0).step hbS_1).step hbS_2).step hbS_3).step hbS_4).out a0, keep_cell ((((((Kp.refl wn).drew.step hbS_0).step hbS_1).step hbS_2).step hbS_3).step hbS_4).out a1, keep_cell ((((((Kp.refl wn).drew.step hbS_0).step hbS_1).step hbS_2).step hbS_3).step hbS_4).out b0, keep_cell ((((((Kp.refl wn).drew.step hbS_0).step hbS_1).step hbS_2).step hbS_3).step hbS_4).out b1, keep_cell ((((((Kp.refl wn).drew.step hbS_0).step hbS_1).step hbS_2).step hbS_3).step hbS_4).out c0, keep_cell ((((((Kp.refl wn).drew.step hbS_0).step hbS_1).step hbS_2).step hbS_3).step hbS_4).out c1, (((((KWr.drew.step hbS_0).step hbS_1).step hbS_2).step hbS_3).step hbS_4)⟩ | with_reducible exact ⟨keep_cell (((((Kp.refl wn).drew.step hbS_0).step hbS_1).step hbS_2).step hbS_3).out a0, keep_cell (((((Kp.refl wn).drew.step hbS_0).step hbS_1).step hbS_2).step hbS_3).out a1, keep_cell (((((Kp.refl wn).drew.step hbS_0).step hbS_1).step hbS_2).step hbS_3).out b0, keep_cell (((((Kp.refl wn).drew.step hbS_0).step hbS_1).step hbS_2).step hbS_3).out b1, keep_cell (((((Kp.refl wn).drew.step hbS_0).step hbS_1).step hbS_2).step hbS_3).out c0, keep_cell (((((Kp.refl wn).drew.step hbS_0).step hbS_1).step hbS_2).step hbS_3).out c1, ((((KWr.drew.step hbS_0).step hbS_1).step hbS_2).step hbS_3)⟩ | with_reducible exact ⟨keep_cell ((((Kp.refl wn).drew.step hbS_0).step hbS_1).step hbS_2).out a0, keep_cell ((((Kp.refl wn).drew.step hbS_0).step hbS_1).step hbS_2).out a1, keep_cell ((((Kp.refl wn).drew.step hbS_0).step hbS_1).step hbS_2).out b0, keep_cell ((((Kp.refl wn).drew.step hbS_0).step hbS_1).step hbS_2).out b1, keep_cell ((((Kp.refl wn).drew.step hbS_0).step hbS_1).step hbS_2).out c0, keep_cell ((((Kp.refl wn).drew.step hbS_0).step hbS_1).step hbS_2).out c1, (((KWr.drew.step hbS_0).step hbS_1).step hbS_2)⟩ | with_reducible exact ⟨keep_cell (((Kp.refl wn).drew.step hbS_0).step hbS_1).out a0, keep_cell (((Kp.refl wn).drew.step hbS_0).step hbS_1).out a1, keep_cell (((Kp.refl wn).drew.step hbS_0).step hbS_1).out b0, keep_cell (((Kp.refl wn).drew.step hbS_0).step hbS_1).out b1, keep_cell (((Kp.refl wn).drew.step hbS_0).step hbS_1).out c0, keep_cell (((Kp.refl wn).drew.step hbS_0).step hbS_1).out c1, ((KWr.drew.step hbS_0).step hbS_1)⟩ | with_reducible exact ⟨keep_cell ((Kp.refl wn).drew.step hbS_0).out a0, keep_cell ((Kp.refl wn).drew.step hbS_0).out a1, keep_cell ((Kp.refl wn).drew.step hbS_0).out b0, keep_cell ((Kp.refl wn).drew.step hbS_0).out b1, keep_cell ((Kp.refl wn).drew.step hbS_0).out c0, keep_cell ((Kp.refl wn).drew.step hbS_0).out c1, (KWr.drew.step hbS_0)⟩ | with_reducible exact ⟨keep_cell (Kp.refl wn).drew.out a0, keep_cell (Kp.refl wn).drew.out a1, keep_cell (Kp.refl wn).drew.out b0, keep_cell (Kp.refl wn).drew.out b1, keep_cell (Kp.refl wn).drew.out c0, keep_cell (Kp.refl wn).drew.out c1, KWr.drew⟩)
    (first
      | (go_at_call 31; ((with_reducible refine (HC6.out _ ?hq _ ?ha0 _ ?ha1).mono ?_); (case hq => exact (((((((Kp.refl wn).drew.step hbS_0).step hbS_1).step hbS_2).step hbS_3).step hbS_4).step hbS_5)); (case ha0 => exact (((MS_2.keep hbS_3).keep hbS_4).keep hbS_5)); (case ha1 => exact MS_5); rintro x wS_6 ⟨vS_6, rfl, MS_6, hbS_6⟩; obtain ⟨sS_6, pS_6, lS_6, cS_6, eS_6, rfl, -⟩ := NumV.form MS_6; have hres := keep_block (((((((((Kp.refl wn).drew.step hbS_0).step hbS_1).step hbS_2).step hbS_3).step hbS_4).step hbS_5).step hbS_6)).out HK.out; obtain ⟨y0, y1, y2, z0, z1, z2⟩ := res_facts hres))
      | (go_at_call 32; ((with_reducible refine (HC5.out _ ?hq _ ?ha0 _ ?ha1).mono ?_); (case hq => exact ((((((Kp.refl wn).drew.step hbS_0).step hbS_1).step hbS_2).step hbS_3).step hbS_4)); (case ha0 => exact (MS_3.keep hbS_4)); (case ha1 => exact MS_4); rintro x wS_5 ⟨vS_5, rfl, MS_5, hbS_5⟩))
      | (go_at_call 33; ((with_reducible refine (HC4.out _ ?hq).mono ?_); (case hq => exact (((((Kp.refl wn).drew.step hbS_0).step hbS_1).step hbS_2).step hbS_3)); rintro x wS_4 ⟨vS_4, rfl, MS_4, hbS_4⟩))
      | (go_at_call 33; ((with_reducible refine (HC3.out _ ?hq).mono ?_); (case hq => exact ((((Kp.refl wn).drew.step hbS_0).step hbS_1).step hbS_2)); rintro x wS_3 ⟨vS_3, rfl, MS_3, hbS_3⟩))
      | (go_at_call 32; ((with_reducible refine (HC2.out _ ?hq _ ?ha0 _ ?ha1).mono ?_); (case hq => exact (((Kp.refl wn).drew.step hbS_0).step hbS_1)); (case ha0 => exact (MS_0.keep hbS_1)); (case ha1 => exact MS_1); rintro x wS_2 ⟨vS_2, rfl, MS_2, hbS_2⟩))
      | (go_at_call 33; ((with_reducible refine (HC1.out _ ?hq).mono ?_); (case hq => exact ((Kp.refl wn).drew.step hbS_0)); rintro x wS_1 ⟨vS_1, rfl, MS_1, hbS_1⟩))
      | (go_at_call 33; ((with_reducible refine (HC0.out _ ?hq).mono ?_); (case hq => exact (Kp.refl wn).drew); rintro x wS_0 ⟨vS_0, rfl, MS_0, hbS_0⟩)))
  go_wp2_with fail
  have hres2 : wS_6.heap[w.heap.size + 1 + 1 + 1]? = some (.cells #[.int .i64 0, .slice none 0 0, .int .i64 0] 42 (0, 0)) := hres
  obtain ⟨u0, u1, u2⟩ := put_facts hres2 (.int .i64 sS_6) (.slice pS_6 lS_6 cS_6) (.int .i64 eS_6)
  refine bodyPost_ret (v := .agg #[.int .i64 sS_6, .slice pS_6 lS_6 cS_6, .int .i64 eS_6]) (by simp [results, Tryd.results23, go_sem, u0, u1, u2]) rfl ⟨_, rfl, (NumV.into MS_6 (fun j hj => by have h9 : w.heap.size + 3 < j := hj; omega) _ _ _).t, ((((((((KWr.drew.step hbS_0).step hbS_1).step hbS_2).step hbS_3).step hbS_4).step hbS_5).step hbS_6).put3 hle _ _ _).out⟩
theorem three_cells4 (w : World) (o0 o1 o2 : Obj) : ∃ wn, wn = ((w.alloc o0).alloc o1).alloc o2 ∧ Below w.heap.size w wn ∧ wn.heap.size = w.heap.size + 3 ∧
    wn.heap[w.heap.size]? = some o0 ∧ wn.heap[w.heap.size + 1]? = some o1 ∧ wn.heap[w.heap.size + 1 + 1]? = some o2 := by
  have a0 := heap_alloc_new w o0
  have a1 := heap_alloc_new (w.alloc o0) o1
  have a2 := heap_alloc_new ((w.alloc o0).alloc o1) o2
  simp only [World.size_alloc] at a1 a2
  refine ⟨_, rfl, (((Below.refl w.heap.size w).alloc (Nat.le_refl _) _).alloc (by simp) _).alloc (by simp <;> omega) _, by simp, ?_, ?_, a2⟩
  · exact ((Below.heap_alloc _ _ _ (by simp <;> omega)).trans (Below.heap_alloc _ _ _ (by simp))).trans a0
  · exact (Below.heap_alloc _ _ _ (by simp)).trans a1

set_option maxRecDepth 100000 in
set_option maxHeartbeats 4000000 in
theorem Sign4_calls (ax ay bx bY cx cy : Nat) (hax : ax < 18446744073709551616) (hay : ay < 18446744073709551616) (hbx : bx < 18446744073709551616) (hby : bY < 18446744073709551616) (hcx : cx < 18446744073709551616) (hcy : cy < 18446744073709551616) (w : World) :
    Calls Tryd.prog 9 #[.agg #[.float .f64 ax, .float .f64 ay], .agg #[.float .f64 bx, .float .f64 bY], .agg #[.float .f64 cx, .float .f64 cy]] w fun e w' =>
      e = .returned (.int .i64 (if ((mayB ax && mayB ay) && ((mayB bx && mayB bY) && (mayB cx && mayB cy))) = true then rs (turnQ (ov ax) (ov ay) (ov bx) (ov bY) (ov cx) (ov cy)) else 0)) ∧ Below w.heap.size w w' := by
  obtain ⟨wn, hwn, HW0, hsz, k0, k1, k2⟩ := three_cells4 w (.cells #[.float .f64 ax, .float .f64 ay] 24) (.cells #[.float .f64 bx, .float .f64 bY] 24) (.cells #[.float .f64 cx, .float .f64 cy] 24)
  obtain ⟨ma, hma⟩ : ∃ z, z = (mayB ax && mayB ay) := ⟨_, rfl⟩
  obtain ⟨mb, hmb⟩ : ∃ z, z = (mayB bx && mayB bY) := ⟨_, rfl⟩
  obtain ⟨mc, hmc⟩ : ∃ z, z = (mayB cx && mayB cy) := ⟨_, rfl⟩
  have HA := Lib.hid (fun W => May_calls ax ay hax hay W)
  have HB := Lib.hid (fun W => May_calls bx bY hbx hby W)
  have HC := Lib.hid (fun W => May_calls cx cy hcx hcy W)
  have HS := Lib.hid (fun W => sum4_calls ax ay bx bY cx cy hax hay hbx hby hcx hcy W)
  obtain ⟨Q, hQ⟩ : ∃ Q, Q = turnQ (ov ax) (ov ay) (ov bx) (ov bY) (ov cx) (ov cy) := ⟨_, rfl⟩
  rw [← hma, ← hmb, ← hmc, ← hQ]
  rw [← hma] at HA
  rw [← hmb] at HB
  rw [← hmc] at HC
  rw [← hQ] at HS
  have HW := Lib.hid HW0
  clear hma hmb hmc hQ HW0 hsz
  go_enter Tryd.func9, Tryd.ntmps9
  go_wp2_with fail
  rw [← hwn]
  clear hwn
  have a0 : wn.cell? ⟨w.heap.size, 0, none⟩ = some (.float .f64 ax) := cell_of_block k0 0
  have a1 : wn.cell? ⟨w.heap.size, 1, none⟩ = some (.float .f64 ay) := cell_of_block k0 1
  have b0 : wn.cell? ⟨w.heap.size + 1, 0, none⟩ = some (.float .f64 bx) := cell_of_block k1 0
  have b1 : wn.cell? ⟨w.heap.size + 1, 1, none⟩ = some (.float .f64 bY) := cell_of_block k1 1
  have c0 : wn.cell? ⟨w.heap.size + 1 + 1, 0, none⟩ = some (.float .f64 cx) := cell_of_block k2 0
  have c1 : wn.cell? ⟨w.heap.size + 1 + 1, 1, none⟩ = some (.float .f64 cy) := cell_of_block k2 1
  clear k0 k1 k2
  refine (HA.out _).mono ?_
  rintro e w1 ⟨rfl, hb⟩
  have a0 := keep_cell hb a0
  have a1 := keep_cell hb a1
  have b0 := keep_cell hb b0
  have b1 := keep_cell hb b1
  have c0 := keep_cell hb c0
  have c1 := keep_cell hb c1
  have HW := Lib.hid (HW.out.trans (hb.mono HW.out.size))
  clear hb
  cases ma with
  | false =>
    go_wp2_with fail
    go_ret
    exact ⟨by simp, HW.out⟩
  | true =>
    go_wp2_with fail
    refine (HB.out _).mono ?_
    rintro e w2 ⟨rfl, hb⟩
    have a0 := keep_cell hb a0
    have a1 := keep_cell hb a1
    have b0 := keep_cell hb b0
    have b1 := keep_cell hb b1
    have c0 := keep_cell hb c0
    have c1 := keep_cell hb c1
    have HW := Lib.hid (HW.out.trans (hb.mono HW.out.size))
    clear hb
    cases mb with
    | false =>
      go_wp2_with fail
      go_ret
      exact ⟨by simp, HW.out⟩
    | true =>
      go_wp2_with fail
      refine (HC.out _).mono ?_
      rintro e w3 ⟨rfl, hb⟩
      have a0 := keep_cell hb a0
      have a1 := keep_cell hb a1
      have b0 := keep_cell hb b0
      have b1 := keep_cell hb b1
      have c0 := keep_cell hb c0
      have c1 := keep_cell hb c1
      have HW := Lib.hid (HW.out.trans (hb.mono HW.out.size))
      clear hb
      cases mc with
      | false =>
        go_wp2_with fail
        go_ret
        exact ⟨by simp, HW.out⟩
      | true =>
        go_wp2_with fail
        refine (HS.out _).mono ?_
        rintro e w4 ⟨v4, rfl, n4, hb4⟩
        obtain ⟨s4, p4, l4, c4, e4, rfl, hs4⟩ := NumV.form n4
        have HB4 := Lib.hid (HW.out.trans (hb4.mono HW.out.size))
        have HS4 := Lib.hid hs4
        clear n4 hb4 hs4
        go_wp2_with fail
        refine (sign_calls _ _ _ _ _ _).mono ?_
        rintro e w5 ⟨rfl, hb5⟩
        go_wp2_with fail
        go_ret
        exact ⟨by rw [HS4.out]; simp, HB4.out.trans (hb5.mono HB4.out.size)⟩
end Go.Proofs.YtiihokgjplpceaaDoor
