/- Package whole's statements: the helper of. (Printed by gen_WiC.py.) -/
import Derived.Test.YtiiipgbfhcbjdaaDoorWiB
namespace Go.Proofs.YtiiipgbfhcbjdaaDoor
open Go.RowKit TV
set_option linter.unusedVariables false

theorem bl_pack {B : Nat} {w w1 w2 : World} (h : Below B w w1) (hs : B ≤ w1.heap.size) (h2 : Below w1.heap.size w1 w2) : Below B w w2 := h.trans (h2.mono hs)

/-- A cell for a number. -/
theorem box_res (w : World) (o : Obj) : ∃ wn, wn = w.alloc o ∧ Below w.heap.size w wn ∧ wn.heap.size = w.heap.size + 1 ∧ wn.heap[w.heap.size]? = some o := ⟨_, rfl, kp_alloc _ _, by simp, heap_alloc_new _ _⟩

/-- What a region of calls and loads keeps. -/
theorem sv1 {wk w' : World} (K : Kp wk w') {ba : Nat} {ua0 ua1 ua2 ua3 : Value} (qa0 : wk.cell? ⟨ba, 0, none⟩ = some ua0) (qa1 : wk.cell? ⟨ba, 1, none⟩ = some ua1) (qa2 : wk.cell? ⟨ba, 2, none⟩ = some ua2) (qa3 : wk.cell? ⟨ba, 3, none⟩ = some ua3) :
    w'.cell? ⟨ba, 0, none⟩ = some ua0 ∧ w'.cell? ⟨ba, 1, none⟩ = some ua1 ∧ w'.cell? ⟨ba, 2, none⟩ = some ua2 ∧ w'.cell? ⟨ba, 3, none⟩ = some ua3 ∧ Kp wk w' :=
  ⟨keep_cell K.out qa0, keep_cell K.out qa1, keep_cell K.out qa2, keep_cell K.out qa3, K⟩
theorem sv2 {wk w' : World} (K : Kp wk w') {ba bb : Nat} {ua0 ua1 ua2 ua3 ub0 ub1 ub2 ub3 : Value} (qa0 : wk.cell? ⟨ba, 0, none⟩ = some ua0) (qa1 : wk.cell? ⟨ba, 1, none⟩ = some ua1) (qa2 : wk.cell? ⟨ba, 2, none⟩ = some ua2) (qa3 : wk.cell? ⟨ba, 3, none⟩ = some ua3) (qb0 : wk.cell? ⟨bb, 0, none⟩ = some ub0) (qb1 : wk.cell? ⟨bb, 1, none⟩ = some ub1) (qb2 : wk.cell? ⟨bb, 2, none⟩ = some ub2) (qb3 : wk.cell? ⟨bb, 3, none⟩ = some ub3) :
    w'.cell? ⟨ba, 0, none⟩ = some ua0 ∧ w'.cell? ⟨ba, 1, none⟩ = some ua1 ∧ w'.cell? ⟨ba, 2, none⟩ = some ua2 ∧ w'.cell? ⟨ba, 3, none⟩ = some ua3 ∧ w'.cell? ⟨bb, 0, none⟩ = some ub0 ∧ w'.cell? ⟨bb, 1, none⟩ = some ub1 ∧ w'.cell? ⟨bb, 2, none⟩ = some ub2 ∧ w'.cell? ⟨bb, 3, none⟩ = some ub3 ∧ Kp wk w' :=
  ⟨keep_cell K.out qa0, keep_cell K.out qa1, keep_cell K.out qa2, keep_cell K.out qa3, keep_cell K.out qb0, keep_cell K.out qb1, keep_cell K.out qb2, keep_cell K.out qb3, K⟩
theorem sv3 {wk w' : World} (K : Kp wk w') {ba bb bc : Nat} {ua0 ua1 ua2 ua3 ub0 ub1 ub2 ub3 uc0 uc1 uc2 uc3 : Value} (qa0 : wk.cell? ⟨ba, 0, none⟩ = some ua0) (qa1 : wk.cell? ⟨ba, 1, none⟩ = some ua1) (qa2 : wk.cell? ⟨ba, 2, none⟩ = some ua2) (qa3 : wk.cell? ⟨ba, 3, none⟩ = some ua3) (qb0 : wk.cell? ⟨bb, 0, none⟩ = some ub0) (qb1 : wk.cell? ⟨bb, 1, none⟩ = some ub1) (qb2 : wk.cell? ⟨bb, 2, none⟩ = some ub2) (qb3 : wk.cell? ⟨bb, 3, none⟩ = some ub3) (qc0 : wk.cell? ⟨bc, 0, none⟩ = some uc0) (qc1 : wk.cell? ⟨bc, 1, none⟩ = some uc1) (qc2 : wk.cell? ⟨bc, 2, none⟩ = some uc2) (qc3 : wk.cell? ⟨bc, 3, none⟩ = some uc3) :
    w'.cell? ⟨ba, 0, none⟩ = some ua0 ∧ w'.cell? ⟨ba, 1, none⟩ = some ua1 ∧ w'.cell? ⟨ba, 2, none⟩ = some ua2 ∧ w'.cell? ⟨ba, 3, none⟩ = some ua3 ∧ w'.cell? ⟨bb, 0, none⟩ = some ub0 ∧ w'.cell? ⟨bb, 1, none⟩ = some ub1 ∧ w'.cell? ⟨bb, 2, none⟩ = some ub2 ∧ w'.cell? ⟨bb, 3, none⟩ = some ub3 ∧ w'.cell? ⟨bc, 0, none⟩ = some uc0 ∧ w'.cell? ⟨bc, 1, none⟩ = some uc1 ∧ w'.cell? ⟨bc, 2, none⟩ = some uc2 ∧ w'.cell? ⟨bc, 3, none⟩ = some uc3 ∧ Kp wk w' :=
  ⟨keep_cell K.out qa0, keep_cell K.out qa1, keep_cell K.out qa2, keep_cell K.out qa3, keep_cell K.out qb0, keep_cell K.out qb1, keep_cell K.out qb2, keep_cell K.out qb3, keep_cell K.out qc0, keep_cell K.out qc1, keep_cell K.out qc2, keep_cell K.out qc3, K⟩
theorem sv4 {wk w' : World} (K : Kp wk w') {ba bb bc bd : Nat} {ua0 ua1 ua2 ua3 ub0 ub1 ub2 ub3 uc0 uc1 uc2 uc3 ud0 ud1 ud2 ud3 : Value} (qa0 : wk.cell? ⟨ba, 0, none⟩ = some ua0) (qa1 : wk.cell? ⟨ba, 1, none⟩ = some ua1) (qa2 : wk.cell? ⟨ba, 2, none⟩ = some ua2) (qa3 : wk.cell? ⟨ba, 3, none⟩ = some ua3) (qb0 : wk.cell? ⟨bb, 0, none⟩ = some ub0) (qb1 : wk.cell? ⟨bb, 1, none⟩ = some ub1) (qb2 : wk.cell? ⟨bb, 2, none⟩ = some ub2) (qb3 : wk.cell? ⟨bb, 3, none⟩ = some ub3) (qc0 : wk.cell? ⟨bc, 0, none⟩ = some uc0) (qc1 : wk.cell? ⟨bc, 1, none⟩ = some uc1) (qc2 : wk.cell? ⟨bc, 2, none⟩ = some uc2) (qc3 : wk.cell? ⟨bc, 3, none⟩ = some uc3) (qd0 : wk.cell? ⟨bd, 0, none⟩ = some ud0) (qd1 : wk.cell? ⟨bd, 1, none⟩ = some ud1) (qd2 : wk.cell? ⟨bd, 2, none⟩ = some ud2) (qd3 : wk.cell? ⟨bd, 3, none⟩ = some ud3) :
    w'.cell? ⟨ba, 0, none⟩ = some ua0 ∧ w'.cell? ⟨ba, 1, none⟩ = some ua1 ∧ w'.cell? ⟨ba, 2, none⟩ = some ua2 ∧ w'.cell? ⟨ba, 3, none⟩ = some ua3 ∧ w'.cell? ⟨bb, 0, none⟩ = some ub0 ∧ w'.cell? ⟨bb, 1, none⟩ = some ub1 ∧ w'.cell? ⟨bb, 2, none⟩ = some ub2 ∧ w'.cell? ⟨bb, 3, none⟩ = some ub3 ∧ w'.cell? ⟨bc, 0, none⟩ = some uc0 ∧ w'.cell? ⟨bc, 1, none⟩ = some uc1 ∧ w'.cell? ⟨bc, 2, none⟩ = some uc2 ∧ w'.cell? ⟨bc, 3, none⟩ = some uc3 ∧ w'.cell? ⟨bd, 0, none⟩ = some ud0 ∧ w'.cell? ⟨bd, 1, none⟩ = some ud1 ∧ w'.cell? ⟨bd, 2, none⟩ = some ud2 ∧ w'.cell? ⟨bd, 3, none⟩ = some ud3 ∧ Kp wk w' :=
  ⟨keep_cell K.out qa0, keep_cell K.out qa1, keep_cell K.out qa2, keep_cell K.out qa3, keep_cell K.out qb0, keep_cell K.out qb1, keep_cell K.out qb2, keep_cell K.out qb3, keep_cell K.out qc0, keep_cell K.out qc1, keep_cell K.out qc2, keep_cell K.out qc3, keep_cell K.out qd0, keep_cell K.out qd1, keep_cell K.out qd2, keep_cell K.out qd3, K⟩

set_option maxRecDepth 100000 in
set_option maxHeartbeats 4000000 in
theorem of_calls3 {F : Nat} (x y z : Nat) (hx : x < 18446744073709551616) (hy : y < 18446744073709551616) (hz : z < 18446744073709551616) (fx : rung x < inf) (fy : rung y < inf) (fz : rung z < inf) {w : World} (ht : Tb F w) :
    Calls Tryd.prog 9 #[.float .f64 x, .float .f64 y, .float .f64 z] w (RetB F (fr x + fr y * fr z) 2149 w) := by
  obtain ⟨wn, hwn, hW, hsz, k0⟩ := box_res w (.cells #[.slice none 0 0, .int .i64 0, .bool false, .bool false] 29)
  have HF := Lib.hid ht.le
  have ht : Tb (w.heap.size + 1) wn := ⟨ht.tab.keep hW, Nat.le_of_eq hsz.symm⟩
  have HW := Lib.hid hW
  clear hW
  have HX := Lib.hid (fun (W : World) (h : Tb (w.heap.size + 1) W) => ofB x hx fx h)
  have HY := Lib.hid (fun (W : World) (h : Tb (w.heap.size + 1) W) => ofB y hy fy h)
  have HZ := Lib.hid (fun (W : World) (h : Tb (w.heap.size + 1) W) => ofB z hz fz h)
  clear hx hy hz fx fy fz
  have HT := Lib.hid ht
  have HK := Lib.hid k0
  clear ht k0
  go_enter Tryd.func9, Tryd.ntmps9
  go_upto_region 1 with (fail)
  rw [← hwn]
  clear hwn
  go_wp2_with fail
  refine (HX.out _ HT.out).mono ?_
  rintro _ w1 ⟨v1, rfl, M1, b1⟩
  have HT := Lib.hid (HT.out.keep b1)
  have HK := Lib.hid (keep_block b1 HK.out)
  have HW := Lib.hid (bl_pack HW.out HW.out.size b1)
  have N1 := Lib.hid M1
  clear b1 M1
  obtain ⟨p1, n1, c1, e1, g1, rfl⟩ := N1.out.form
  have hne1 : w1.heap.size ≠ w.heap.size := Nat.ne_of_gt (block_lt HK.out)
  obtain ⟨W1, hW1, B1, -, J1⟩ := box_res w1 (.cells #[.slice p1 n1 c1, .int .i64 e1, .bool g1, .bool false] 29)
  go_upto_region 2 with (fail)
  rw [← hW1]
  clear hW1
  have HT := Lib.hid (HT.out.keep B1)
  have HK := Lib.hid (keep_block B1 HK.out)
  have HW := Lib.hid (bl_pack HW.out HW.out.size B1)
  have N1 := Lib.hid (N1.out.keep B1)
  have K1 := Lib.hid J1
  clear B1 J1
  go_wp2_with fail
  refine (HY.out _ HT.out).mono ?_
  rintro _ w2 ⟨v2, rfl, M2, b2⟩
  have HT := Lib.hid (HT.out.keep b2)
  have HK := Lib.hid (keep_block b2 HK.out)
  have HW := Lib.hid (bl_pack HW.out HW.out.size b2)
  have N1 := Lib.hid (N1.out.keep b2)
  have K1 := Lib.hid (keep_block b2 K1.out)
  have N2 := Lib.hid M2
  clear b2 M2
  obtain ⟨p2, n2, c2, e2, g2, rfl⟩ := N2.out.form
  have hne2 : w2.heap.size ≠ w.heap.size := Nat.ne_of_gt (block_lt HK.out)
  obtain ⟨W2, hW2, B2, -, J2⟩ := box_res w2 (.cells #[.slice p2 n2 c2, .int .i64 e2, .bool g2, .bool false] 29)
  go_upto_region 3 with (fail)
  rw [← hW2]
  clear hW2
  have HT := Lib.hid (HT.out.keep B2)
  have HK := Lib.hid (keep_block B2 HK.out)
  have HW := Lib.hid (bl_pack HW.out HW.out.size B2)
  have N1 := Lib.hid (N1.out.keep B2)
  have N2 := Lib.hid (N2.out.keep B2)
  have K1 := Lib.hid (keep_block B2 K1.out)
  have K2 := Lib.hid J2
  clear B2 J2
  go_wp2_with fail
  refine (HZ.out _ HT.out).mono ?_
  rintro _ w3 ⟨v3, rfl, M3, b3⟩
  have HT := Lib.hid (HT.out.keep b3)
  have HK := Lib.hid (keep_block b3 HK.out)
  have HW := Lib.hid (bl_pack HW.out HW.out.size b3)
  have N1 := Lib.hid (N1.out.keep b3)
  have N2 := Lib.hid (N2.out.keep b3)
  have K1 := Lib.hid (keep_block b3 K1.out)
  have K2 := Lib.hid (keep_block b3 K2.out)
  have N3 := Lib.hid M3
  clear b3 M3
  obtain ⟨p3, n3, c3, e3, g3, rfl⟩ := N3.out.form
  have hne3 : w3.heap.size ≠ w.heap.size := Nat.ne_of_gt (block_lt HK.out)
  obtain ⟨W3, hW3, B3, -, J3⟩ := box_res w3 (.cells #[.slice p3 n3 c3, .int .i64 e3, .bool g3, .bool false] 29)
  go_upto_region 4 with (fail)
  rw [← hW3]
  clear hW3
  have HT := Lib.hid (HT.out.keep B3)
  have HK := Lib.hid (keep_block B3 HK.out)
  have HW := Lib.hid (bl_pack HW.out HW.out.size B3)
  have N1 := Lib.hid (N1.out.keep B3)
  have N2 := Lib.hid (N2.out.keep B3)
  have N3 := Lib.hid (N3.out.keep B3)
  have K1 := Lib.hid (keep_block B3 K1.out)
  have K2 := Lib.hid (keep_block B3 K2.out)
  have K3 := Lib.hid J3
  clear B3 J3
  obtain ⟨q10, q11, q12, q13, -, -, -, -⟩ := res4_facts K1.out
  obtain ⟨q20, q21, q22, q23, -, -, -, -⟩ := res4_facts K2.out
  obtain ⟨q30, q31, q32, q33, -, -, -, -⟩ := res4_facts K3.out
  go_wp2_with fail
  refine (okB N1.out).mono ?_
  rintro _ w4 ⟨rfl, b4⟩
  have HT := Lib.hid (HT.out.keep b4)
  have HK := Lib.hid (keep_block b4 HK.out)
  have HW := Lib.hid (bl_pack HW.out HW.out.size b4)
  have N1 := Lib.hid (N1.out.keep b4)
  have N2 := Lib.hid (N2.out.keep b4)
  have N3 := Lib.hid (N3.out.keep b4)
  have K1 := Lib.hid (keep_block b4 K1.out)
  have K2 := Lib.hid (keep_block b4 K2.out)
  have K3 := Lib.hid (keep_block b4 K3.out)
  clear b4
  clear q10 q11 q12 q13 q20 q21 q22 q23 q30 q31 q32 q33
  obtain ⟨q10, q11, q12, q13, -, -, -, -⟩ := res4_facts K1.out
  obtain ⟨q20, q21, q22, q23, -, -, -, -⟩ := res4_facts K2.out
  obtain ⟨q30, q31, q32, q33, -, -, -, -⟩ := res4_facts K3.out
  go_wp2_with fail
  refine (okB N2.out).mono ?_
  rintro _ w5 ⟨rfl, b5⟩
  have HT := Lib.hid (HT.out.keep b5)
  have HK := Lib.hid (keep_block b5 HK.out)
  have HW := Lib.hid (bl_pack HW.out HW.out.size b5)
  have N1 := Lib.hid (N1.out.keep b5)
  have N2 := Lib.hid (N2.out.keep b5)
  have N3 := Lib.hid (N3.out.keep b5)
  have K1 := Lib.hid (keep_block b5 K1.out)
  have K2 := Lib.hid (keep_block b5 K2.out)
  have K3 := Lib.hid (keep_block b5 K3.out)
  clear b5
  clear q10 q11 q12 q13 q20 q21 q22 q23 q30 q31 q32 q33
  obtain ⟨q10, q11, q12, q13, -, -, -, -⟩ := res4_facts K1.out
  obtain ⟨q20, q21, q22, q23, -, -, -, -⟩ := res4_facts K2.out
  obtain ⟨q30, q31, q32, q33, -, -, -, -⟩ := res4_facts K3.out
  go_wp2_with fail
  refine (okB N3.out).mono ?_
  rintro _ w6 ⟨rfl, b6⟩
  have HT := Lib.hid (HT.out.keep b6)
  have HK := Lib.hid (keep_block b6 HK.out)
  have HW := Lib.hid (bl_pack HW.out HW.out.size b6)
  have N1 := Lib.hid (N1.out.keep b6)
  have N2 := Lib.hid (N2.out.keep b6)
  have N3 := Lib.hid (N3.out.keep b6)
  have K1 := Lib.hid (keep_block b6 K1.out)
  have K2 := Lib.hid (keep_block b6 K2.out)
  have K3 := Lib.hid (keep_block b6 K3.out)
  clear b6
  clear q10 q11 q12 q13 q20 q21 q22 q23 q30 q31 q32 q33
  obtain ⟨q10, q11, q12, q13, -, -, -, -⟩ := res4_facts K1.out
  obtain ⟨q20, q21, q22, q23, -, -, -, -⟩ := res4_facts K2.out
  obtain ⟨q30, q31, q32, q33, -, -, -, -⟩ := res4_facts K3.out
  go_wp2_with fail
  have hle : w.heap.size ≤ w.heap.size := Nat.le_refl _
  have KWr : Kp w w6 := HW.out
  have HC0 := Lib.hid (fun (Y : World) (h : Kp w6 Y) => mulB 2148 (N2.out.keep h.out) (N3.out.keep h.out) (HT.out.keep h.out) (by decide) (by decide))
  have HC1 := Lib.hid (fun (Y : World) (h : Kp w6 Y) (v : Value) (hv : NumB (w.heap.size + 1) Y v (fr y * fr z) 2148) => addB 2149 (N1.out.keep h.out) hv (HT.out.keep h.out) (by decide) (by decide) (by decide))
  go_region_held3 (fun w' => w'.cell? ⟨w1.heap.size, 0, none⟩ = some (.slice p1 n1 c1) ∧ w'.cell? ⟨w1.heap.size, 1, none⟩ = some (.int .i64 e1) ∧ w'.cell? ⟨w1.heap.size, 2, none⟩ = some (.bool g1) ∧ w'.cell? ⟨w1.heap.size, 3, none⟩ = some (.bool false) ∧ w'.cell? ⟨w2.heap.size, 0, none⟩ = some (.slice p2 n2 c2) ∧ w'.cell? ⟨w2.heap.size, 1, none⟩ = some (.int .i64 e2) ∧ w'.cell? ⟨w2.heap.size, 2, none⟩ = some (.bool g2) ∧ w'.cell? ⟨w2.heap.size, 3, none⟩ = some (.bool false) ∧ w'.cell? ⟨w3.heap.size, 0, none⟩ = some (.slice p3 n3 c3) ∧ w'.cell? ⟨w3.heap.size, 1, none⟩ = some (.int .i64 e3) ∧ w'.cell? ⟨w3.heap.size, 2, none⟩ = some (.bool g3) ∧ w'.cell? ⟨w3.heap.size, 3, none⟩ = some (.bool false) ∧ Kp w w')
    (first | with_reducible exact ⟨put4_cell (keep_cell (((Kp.refl w6).drew.step hbR_0).step hbR_1).out q10) hne1 _ _ _ _, put4_cell (keep_cell (((Kp.refl w6).drew.step hbR_0).step hbR_1).out q11) hne1 _ _ _ _, put4_cell (keep_cell (((Kp.refl w6).drew.step hbR_0).step hbR_1).out q12) hne1 _ _ _ _, put4_cell (keep_cell (((Kp.refl w6).drew.step hbR_0).step hbR_1).out q13) hne1 _ _ _ _, put4_cell (keep_cell (((Kp.refl w6).drew.step hbR_0).step hbR_1).out q20) hne2 _ _ _ _, put4_cell (keep_cell (((Kp.refl w6).drew.step hbR_0).step hbR_1).out q21) hne2 _ _ _ _, put4_cell (keep_cell (((Kp.refl w6).drew.step hbR_0).step hbR_1).out q22) hne2 _ _ _ _, put4_cell (keep_cell (((Kp.refl w6).drew.step hbR_0).step hbR_1).out q23) hne2 _ _ _ _, put4_cell (keep_cell (((Kp.refl w6).drew.step hbR_0).step hbR_1).out q30) hne3 _ _ _ _, put4_cell (keep_cell (((Kp.refl w6).drew.step hbR_0).step hbR_1).out q31) hne3 _ _ _ _, put4_cell (keep_cell (((Kp.refl w6).drew.step hbR_0).step hbR_1).out q32) hne3 _ _ _ _, put4_cell (keep_cell (((Kp.refl w6).drew.step hbR_0).step hbR_1).out q33) hne3 _ _ _ _, Kp.put4 ((KWr.drew.step hbR_0).step hbR_1) hle _ _ _ _⟩ | with_reducible exact ⟨keep_cell (((Kp.refl w6).drew.step hbR_0).step hbR_1).out q10, keep_cell (((Kp.refl w6).drew.step hbR_0).step hbR_1).out q11, keep_cell (((Kp.refl w6).drew.step hbR_0).step hbR_1).out q12, keep_cell (((Kp.refl w6).drew.step hbR_0).step hbR_1).out q13, keep_cell (((Kp.refl w6).drew.step hbR_0).step hbR_1).out q20, keep_cell (((Kp.refl w6).drew.step hbR_0).step hbR_1).out q21, keep_cell (((Kp.refl w6).drew.step hbR_0).step hbR_1).out q22, keep_cell (((Kp.refl w6).drew.step hbR_0).step hbR_1).out q23, keep_cell (((Kp.refl w6).drew.step hbR_0).step hbR_1).out q30, keep_cell (((Kp.refl w6).drew.step hbR_0).step hbR_1).out q31, keep_cell (((Kp.refl w6).drew.step hbR_0).step hbR_1).out q32, keep_cell (((Kp.refl w6).drew.step hbR_0).step hbR_1).out q33, ((KWr.drew.step hbR_0).step hbR_1)⟩ | with_reducible exact ⟨keep_cell ((Kp.refl w6).drew.step hbR_0).out q10, keep_cell ((Kp.refl w6).drew.step hbR_0).out q11, keep_cell ((Kp.refl w6).drew.step hbR_0).out q12, keep_cell ((Kp.refl w6).drew.step hbR_0).out q13, keep_cell ((Kp.refl w6).drew.step hbR_0).out q20, keep_cell ((Kp.refl w6).drew.step hbR_0).out q21, keep_cell ((Kp.refl w6).drew.step hbR_0).out q22, keep_cell ((Kp.refl w6).drew.step hbR_0).out q23, keep_cell ((Kp.refl w6).drew.step hbR_0).out q30, keep_cell ((Kp.refl w6).drew.step hbR_0).out q31, keep_cell ((Kp.refl w6).drew.step hbR_0).out q32, keep_cell ((Kp.refl w6).drew.step hbR_0).out q33, (KWr.drew.step hbR_0)⟩ | with_reducible exact ⟨keep_cell (Kp.refl w6).drew.out q10, keep_cell (Kp.refl w6).drew.out q11, keep_cell (Kp.refl w6).drew.out q12, keep_cell (Kp.refl w6).drew.out q13, keep_cell (Kp.refl w6).drew.out q20, keep_cell (Kp.refl w6).drew.out q21, keep_cell (Kp.refl w6).drew.out q22, keep_cell (Kp.refl w6).drew.out q23, keep_cell (Kp.refl w6).drew.out q30, keep_cell (Kp.refl w6).drew.out q31, keep_cell (Kp.refl w6).drew.out q32, keep_cell (Kp.refl w6).drew.out q33, KWr.drew⟩)
    (first
      | (go_at_call 10; ((with_reducible refine (HC1.out _ ?hq _ ?ha0).mono ?_); (case hq => exact ((Kp.refl w6).drew.step hbR_0)); (case ha0 => exact MR_0); rintro x wR_1 ⟨vR_1, rfl, MR_1, hbR_1⟩; obtain ⟨pR_1, nR_1, cR_1, eR_1, gR_1, rfl⟩ := NumB.form MR_1; have hres := (keep_block hbR_1 (keep_block hbR_0 HK.out)); obtain ⟨r0, r1, r2, r3, f0, f1, f2, f3⟩ := res4_facts hres))
      | (go_at_call 14; ((with_reducible refine (HC0.out _ ?hq).mono ?_); (case hq => exact (Kp.refl w6).drew); rintro x wR_0 ⟨vR_0, rfl, MR_0, hbR_0⟩; obtain ⟨pR_0, nR_0, cR_0, eR_0, gR_0, rfl⟩ := NumB.form MR_0)))
  go_wp2_with fail
  obtain ⟨u0, u1, u2, u3⟩ := put4_facts hres (.slice pR_1 nR_1 cR_1) (.int .i64 eR_1) (.bool gR_1) (.bool false)
  refine bodyPost_ret (v := .agg #[.slice pR_1 nR_1 cR_1, .int .i64 eR_1, .bool gR_1, .bool false]) (by simp [results, Tryd.results9, go_sem, u0, u1, u2, u3]) rfl ?_
  exact ⟨_, rfl, (MR_1.put4 (Nat.lt_succ_self _) _ _ _ _).less (Nat.le_trans HF.out (Nat.le_succ _)), ((KWr.drew.step hbR_0).step hbR_1).put4 hle _ _ _ _⟩

theorem NumB.more {F : Nat} {w : World} {v : Value} {q : Rat} {m k : Nat} (h : NumB F w v q m) (hk : m ≤ k) : NumB F w v q k := ⟨h.1, h.2.mono hk⟩
/-- What Of answers, by its form alone. -/
def OfF (bad : Bool) (w : World) (x : Ending) (w' : World) : Prop := ∃ p n c e g, x = .returned (.agg #[.slice p n c, .int .i64 e, .bool g, .bool bad]) ∧ Below w.heap.size w w'
theorem ofF (x : Nat) (h1 : x < 18446744073709551616) {F : Nat} {w : World} (ht : Tb F w) :
    Calls Tryd.prog 22 #[.float .f64 x] w (OfF (!decide (rung x < inf)) w) := by
  by_cases h : rung x < inf
  · rw [decide_eq_true h]
    refine (ofB x h1 h ht).mono ?_
    rintro _ w' ⟨v, rfl, N, hb⟩
    obtain ⟨p, n, c, e, g, rfl⟩ := N.form
    exact ⟨p, n, c, e, g, rfl, hb⟩
  · rw [decide_eq_false h]
    have := wOf_calls x h1 w ht.tab
    rw [if_neg h] at this
    refine this.mono ?_
    rintro _ w' ⟨v, rfl, rfl, hb⟩
    exact ⟨none, 0, 0, 0, false, rfl, hb⟩

set_option maxRecDepth 100000 in
set_option maxHeartbeats 4000000 in
theorem of_bad1 {F : Nat} (x y z : Nat) (bx by' bz : Bool) {w : World} (ht : Tb F w) (HX : Hid (∀ W : World, Tb F W → Calls Tryd.prog 22 #[.float .f64 x] W (OfF bx W))) (HY : Hid (∀ W : World, Tb F W → Calls Tryd.prog 22 #[.float .f64 y] W (OfF by' W))) (HZ : Hid (∀ W : World, Tb F W → Calls Tryd.prog 22 #[.float .f64 z] W (OfF bz W))) (hx : bx = true) :
    Calls Tryd.prog 9 #[.float .f64 x, .float .f64 y, .float .f64 z] w (RetB F 0 2149 w) := by
  obtain ⟨wn, hwn, hW, hsz, k0⟩ := box_res w (.cells #[.slice none 0 0, .int .i64 0, .bool false, .bool false] 29)
  have ht := ht.keep hW
  have HW := Lib.hid hW
  clear hW hsz
  have HT := Lib.hid ht
  have HK := Lib.hid k0
  clear ht k0
  subst hx
  go_enter Tryd.func9, Tryd.ntmps9
  go_upto_region 1 with (fail)
  rw [← hwn]
  clear hwn
  go_wp2_with fail
  refine (HX.out _ HT.out).mono ?_
  rintro _ w1 ⟨p1, n1, c1, e1, g1, rfl, b1⟩
  have HT := Lib.hid (HT.out.keep b1)
  have HK := Lib.hid (keep_block b1 HK.out)
  have HW := Lib.hid (bl_pack HW.out HW.out.size b1)
  clear b1
  obtain ⟨W1, hW1, B1, -, J1⟩ := box_res w1 (.cells #[.slice p1 n1 c1, .int .i64 e1, .bool g1, .bool true] 29)
  go_upto_region 2 with (fail)
  rw [← hW1]
  clear hW1
  have HT := Lib.hid (HT.out.keep B1)
  have HK := Lib.hid (keep_block B1 HK.out)
  have HW := Lib.hid (bl_pack HW.out HW.out.size B1)
  have K1 := Lib.hid J1
  clear B1 J1
  go_wp2_with fail
  refine (HY.out _ HT.out).mono ?_
  rintro _ w2 ⟨p2, n2, c2, e2, g2, rfl, b2⟩
  have HT := Lib.hid (HT.out.keep b2)
  have HK := Lib.hid (keep_block b2 HK.out)
  have HW := Lib.hid (bl_pack HW.out HW.out.size b2)
  have K1 := Lib.hid (keep_block b2 K1.out)
  clear b2
  obtain ⟨W2, hW2, B2, -, J2⟩ := box_res w2 (.cells #[.slice p2 n2 c2, .int .i64 e2, .bool g2, .bool by'] 29)
  go_upto_region 3 with (fail)
  rw [← hW2]
  clear hW2
  have HT := Lib.hid (HT.out.keep B2)
  have HK := Lib.hid (keep_block B2 HK.out)
  have HW := Lib.hid (bl_pack HW.out HW.out.size B2)
  have K1 := Lib.hid (keep_block B2 K1.out)
  have K2 := Lib.hid J2
  clear B2 J2
  go_wp2_with fail
  refine (HZ.out _ HT.out).mono ?_
  rintro _ w3 ⟨p3, n3, c3, e3, g3, rfl, b3⟩
  have HT := Lib.hid (HT.out.keep b3)
  have HK := Lib.hid (keep_block b3 HK.out)
  have HW := Lib.hid (bl_pack HW.out HW.out.size b3)
  have K1 := Lib.hid (keep_block b3 K1.out)
  have K2 := Lib.hid (keep_block b3 K2.out)
  clear b3
  obtain ⟨W3, hW3, B3, -, J3⟩ := box_res w3 (.cells #[.slice p3 n3 c3, .int .i64 e3, .bool g3, .bool bz] 29)
  go_upto_region 4 with (fail)
  rw [← hW3]
  clear hW3
  have HT := Lib.hid (HT.out.keep B3)
  have HK := Lib.hid (keep_block B3 HK.out)
  have HW := Lib.hid (bl_pack HW.out HW.out.size B3)
  have K1 := Lib.hid (keep_block B3 K1.out)
  have K2 := Lib.hid (keep_block B3 K2.out)
  have K3 := Lib.hid J3
  clear B3 J3
  obtain ⟨q10, q11, q12, q13, -, -, -, -⟩ := res4_facts K1.out
  obtain ⟨q20, q21, q22, q23, -, -, -, -⟩ := res4_facts K2.out
  obtain ⟨q30, q31, q32, q33, -, -, -, -⟩ := res4_facts K3.out
  go_wp2_with fail
  refine (wOK_calls _ _ _ _ _).mono ?_
  rintro _ w4 ⟨rfl, b4⟩
  have HT := Lib.hid (HT.out.keep b4)
  have HK := Lib.hid (keep_block b4 HK.out)
  have HW := Lib.hid (bl_pack HW.out HW.out.size b4)
  have K1 := Lib.hid (keep_block b4 K1.out)
  have K2 := Lib.hid (keep_block b4 K2.out)
  have K3 := Lib.hid (keep_block b4 K3.out)
  clear b4
  clear q10 q11 q12 q13 q20 q21 q22 q23 q30 q31 q32 q33
  obtain ⟨r0, r1, r2, r3, f0, f1, f2, f3⟩ := res4_facts HK.out
  obtain ⟨u0, u1, u2, u3⟩ := put4_facts HK.out (.slice none 0 0) (.int .i64 0) (.bool false) (.bool false)
  go_wp2_with fail
  refine bodyPost_ret (v := .agg #[.slice none 0 0, .int .i64 0, .bool false, .bool false]) (by simp [results, Tryd.results9, go_sem, u0, u1, u2, u3]) rfl ?_
  exact ⟨_, rfl, (NumB.zero F _).more (Nat.zero_le _), bl_put4 HW.out (Nat.le_refl _) _ _ _ _⟩

set_option maxRecDepth 100000 in
set_option maxHeartbeats 4000000 in
theorem of_bad2 {F : Nat} (x y z : Nat) (bx by' bz : Bool) {w : World} (ht : Tb F w) (HX : Hid (∀ W : World, Tb F W → Calls Tryd.prog 22 #[.float .f64 x] W (OfF bx W))) (HY : Hid (∀ W : World, Tb F W → Calls Tryd.prog 22 #[.float .f64 y] W (OfF by' W))) (HZ : Hid (∀ W : World, Tb F W → Calls Tryd.prog 22 #[.float .f64 z] W (OfF bz W))) (hx : bx = false) (hy : by' = true) :
    Calls Tryd.prog 9 #[.float .f64 x, .float .f64 y, .float .f64 z] w (RetB F 0 2149 w) := by
  obtain ⟨wn, hwn, hW, hsz, k0⟩ := box_res w (.cells #[.slice none 0 0, .int .i64 0, .bool false, .bool false] 29)
  have ht := ht.keep hW
  have HW := Lib.hid hW
  clear hW hsz
  have HT := Lib.hid ht
  have HK := Lib.hid k0
  clear ht k0
  subst hx
  subst hy
  go_enter Tryd.func9, Tryd.ntmps9
  go_upto_region 1 with (fail)
  rw [← hwn]
  clear hwn
  go_wp2_with fail
  refine (HX.out _ HT.out).mono ?_
  rintro _ w1 ⟨p1, n1, c1, e1, g1, rfl, b1⟩
  have HT := Lib.hid (HT.out.keep b1)
  have HK := Lib.hid (keep_block b1 HK.out)
  have HW := Lib.hid (bl_pack HW.out HW.out.size b1)
  clear b1
  obtain ⟨W1, hW1, B1, -, J1⟩ := box_res w1 (.cells #[.slice p1 n1 c1, .int .i64 e1, .bool g1, .bool false] 29)
  go_upto_region 2 with (fail)
  rw [← hW1]
  clear hW1
  have HT := Lib.hid (HT.out.keep B1)
  have HK := Lib.hid (keep_block B1 HK.out)
  have HW := Lib.hid (bl_pack HW.out HW.out.size B1)
  have K1 := Lib.hid J1
  clear B1 J1
  go_wp2_with fail
  refine (HY.out _ HT.out).mono ?_
  rintro _ w2 ⟨p2, n2, c2, e2, g2, rfl, b2⟩
  have HT := Lib.hid (HT.out.keep b2)
  have HK := Lib.hid (keep_block b2 HK.out)
  have HW := Lib.hid (bl_pack HW.out HW.out.size b2)
  have K1 := Lib.hid (keep_block b2 K1.out)
  clear b2
  obtain ⟨W2, hW2, B2, -, J2⟩ := box_res w2 (.cells #[.slice p2 n2 c2, .int .i64 e2, .bool g2, .bool true] 29)
  go_upto_region 3 with (fail)
  rw [← hW2]
  clear hW2
  have HT := Lib.hid (HT.out.keep B2)
  have HK := Lib.hid (keep_block B2 HK.out)
  have HW := Lib.hid (bl_pack HW.out HW.out.size B2)
  have K1 := Lib.hid (keep_block B2 K1.out)
  have K2 := Lib.hid J2
  clear B2 J2
  go_wp2_with fail
  refine (HZ.out _ HT.out).mono ?_
  rintro _ w3 ⟨p3, n3, c3, e3, g3, rfl, b3⟩
  have HT := Lib.hid (HT.out.keep b3)
  have HK := Lib.hid (keep_block b3 HK.out)
  have HW := Lib.hid (bl_pack HW.out HW.out.size b3)
  have K1 := Lib.hid (keep_block b3 K1.out)
  have K2 := Lib.hid (keep_block b3 K2.out)
  clear b3
  obtain ⟨W3, hW3, B3, -, J3⟩ := box_res w3 (.cells #[.slice p3 n3 c3, .int .i64 e3, .bool g3, .bool bz] 29)
  go_upto_region 4 with (fail)
  rw [← hW3]
  clear hW3
  have HT := Lib.hid (HT.out.keep B3)
  have HK := Lib.hid (keep_block B3 HK.out)
  have HW := Lib.hid (bl_pack HW.out HW.out.size B3)
  have K1 := Lib.hid (keep_block B3 K1.out)
  have K2 := Lib.hid (keep_block B3 K2.out)
  have K3 := Lib.hid J3
  clear B3 J3
  obtain ⟨q10, q11, q12, q13, -, -, -, -⟩ := res4_facts K1.out
  obtain ⟨q20, q21, q22, q23, -, -, -, -⟩ := res4_facts K2.out
  obtain ⟨q30, q31, q32, q33, -, -, -, -⟩ := res4_facts K3.out
  go_wp2_with fail
  refine (wOK_calls _ _ _ _ _).mono ?_
  rintro _ w4 ⟨rfl, b4⟩
  have HT := Lib.hid (HT.out.keep b4)
  have HK := Lib.hid (keep_block b4 HK.out)
  have HW := Lib.hid (bl_pack HW.out HW.out.size b4)
  have K1 := Lib.hid (keep_block b4 K1.out)
  have K2 := Lib.hid (keep_block b4 K2.out)
  have K3 := Lib.hid (keep_block b4 K3.out)
  clear b4
  clear q10 q11 q12 q13 q20 q21 q22 q23 q30 q31 q32 q33
  obtain ⟨q10, q11, q12, q13, -, -, -, -⟩ := res4_facts K1.out
  obtain ⟨q20, q21, q22, q23, -, -, -, -⟩ := res4_facts K2.out
  obtain ⟨q30, q31, q32, q33, -, -, -, -⟩ := res4_facts K3.out
  go_wp2_with fail
  refine (wOK_calls _ _ _ _ _).mono ?_
  rintro _ w5 ⟨rfl, b5⟩
  have HT := Lib.hid (HT.out.keep b5)
  have HK := Lib.hid (keep_block b5 HK.out)
  have HW := Lib.hid (bl_pack HW.out HW.out.size b5)
  have K1 := Lib.hid (keep_block b5 K1.out)
  have K2 := Lib.hid (keep_block b5 K2.out)
  have K3 := Lib.hid (keep_block b5 K3.out)
  clear b5
  clear q10 q11 q12 q13 q20 q21 q22 q23 q30 q31 q32 q33
  obtain ⟨r0, r1, r2, r3, f0, f1, f2, f3⟩ := res4_facts HK.out
  obtain ⟨u0, u1, u2, u3⟩ := put4_facts HK.out (.slice none 0 0) (.int .i64 0) (.bool false) (.bool false)
  go_wp2_with fail
  refine bodyPost_ret (v := .agg #[.slice none 0 0, .int .i64 0, .bool false, .bool false]) (by simp [results, Tryd.results9, go_sem, u0, u1, u2, u3]) rfl ?_
  exact ⟨_, rfl, (NumB.zero F _).more (Nat.zero_le _), bl_put4 HW.out (Nat.le_refl _) _ _ _ _⟩

set_option maxRecDepth 100000 in
set_option maxHeartbeats 4000000 in
theorem of_bad3 {F : Nat} (x y z : Nat) (bx by' bz : Bool) {w : World} (ht : Tb F w) (HX : Hid (∀ W : World, Tb F W → Calls Tryd.prog 22 #[.float .f64 x] W (OfF bx W))) (HY : Hid (∀ W : World, Tb F W → Calls Tryd.prog 22 #[.float .f64 y] W (OfF by' W))) (HZ : Hid (∀ W : World, Tb F W → Calls Tryd.prog 22 #[.float .f64 z] W (OfF bz W))) (hx : bx = false) (hy : by' = false) (hz : bz = true) :
    Calls Tryd.prog 9 #[.float .f64 x, .float .f64 y, .float .f64 z] w (RetB F 0 2149 w) := by
  obtain ⟨wn, hwn, hW, hsz, k0⟩ := box_res w (.cells #[.slice none 0 0, .int .i64 0, .bool false, .bool false] 29)
  have ht := ht.keep hW
  have HW := Lib.hid hW
  clear hW hsz
  have HT := Lib.hid ht
  have HK := Lib.hid k0
  clear ht k0
  subst hx
  subst hy
  subst hz
  go_enter Tryd.func9, Tryd.ntmps9
  go_upto_region 1 with (fail)
  rw [← hwn]
  clear hwn
  go_wp2_with fail
  refine (HX.out _ HT.out).mono ?_
  rintro _ w1 ⟨p1, n1, c1, e1, g1, rfl, b1⟩
  have HT := Lib.hid (HT.out.keep b1)
  have HK := Lib.hid (keep_block b1 HK.out)
  have HW := Lib.hid (bl_pack HW.out HW.out.size b1)
  clear b1
  obtain ⟨W1, hW1, B1, -, J1⟩ := box_res w1 (.cells #[.slice p1 n1 c1, .int .i64 e1, .bool g1, .bool false] 29)
  go_upto_region 2 with (fail)
  rw [← hW1]
  clear hW1
  have HT := Lib.hid (HT.out.keep B1)
  have HK := Lib.hid (keep_block B1 HK.out)
  have HW := Lib.hid (bl_pack HW.out HW.out.size B1)
  have K1 := Lib.hid J1
  clear B1 J1
  go_wp2_with fail
  refine (HY.out _ HT.out).mono ?_
  rintro _ w2 ⟨p2, n2, c2, e2, g2, rfl, b2⟩
  have HT := Lib.hid (HT.out.keep b2)
  have HK := Lib.hid (keep_block b2 HK.out)
  have HW := Lib.hid (bl_pack HW.out HW.out.size b2)
  have K1 := Lib.hid (keep_block b2 K1.out)
  clear b2
  obtain ⟨W2, hW2, B2, -, J2⟩ := box_res w2 (.cells #[.slice p2 n2 c2, .int .i64 e2, .bool g2, .bool false] 29)
  go_upto_region 3 with (fail)
  rw [← hW2]
  clear hW2
  have HT := Lib.hid (HT.out.keep B2)
  have HK := Lib.hid (keep_block B2 HK.out)
  have HW := Lib.hid (bl_pack HW.out HW.out.size B2)
  have K1 := Lib.hid (keep_block B2 K1.out)
  have K2 := Lib.hid J2
  clear B2 J2
  go_wp2_with fail
  refine (HZ.out _ HT.out).mono ?_
  rintro _ w3 ⟨p3, n3, c3, e3, g3, rfl, b3⟩
  have HT := Lib.hid (HT.out.keep b3)
  have HK := Lib.hid (keep_block b3 HK.out)
  have HW := Lib.hid (bl_pack HW.out HW.out.size b3)
  have K1 := Lib.hid (keep_block b3 K1.out)
  have K2 := Lib.hid (keep_block b3 K2.out)
  clear b3
  obtain ⟨W3, hW3, B3, -, J3⟩ := box_res w3 (.cells #[.slice p3 n3 c3, .int .i64 e3, .bool g3, .bool true] 29)
  go_upto_region 4 with (fail)
  rw [← hW3]
  clear hW3
  have HT := Lib.hid (HT.out.keep B3)
  have HK := Lib.hid (keep_block B3 HK.out)
  have HW := Lib.hid (bl_pack HW.out HW.out.size B3)
  have K1 := Lib.hid (keep_block B3 K1.out)
  have K2 := Lib.hid (keep_block B3 K2.out)
  have K3 := Lib.hid J3
  clear B3 J3
  obtain ⟨q10, q11, q12, q13, -, -, -, -⟩ := res4_facts K1.out
  obtain ⟨q20, q21, q22, q23, -, -, -, -⟩ := res4_facts K2.out
  obtain ⟨q30, q31, q32, q33, -, -, -, -⟩ := res4_facts K3.out
  go_wp2_with fail
  refine (wOK_calls _ _ _ _ _).mono ?_
  rintro _ w4 ⟨rfl, b4⟩
  have HT := Lib.hid (HT.out.keep b4)
  have HK := Lib.hid (keep_block b4 HK.out)
  have HW := Lib.hid (bl_pack HW.out HW.out.size b4)
  have K1 := Lib.hid (keep_block b4 K1.out)
  have K2 := Lib.hid (keep_block b4 K2.out)
  have K3 := Lib.hid (keep_block b4 K3.out)
  clear b4
  clear q10 q11 q12 q13 q20 q21 q22 q23 q30 q31 q32 q33
  obtain ⟨q10, q11, q12, q13, -, -, -, -⟩ := res4_facts K1.out
  obtain ⟨q20, q21, q22, q23, -, -, -, -⟩ := res4_facts K2.out
  obtain ⟨q30, q31, q32, q33, -, -, -, -⟩ := res4_facts K3.out
  go_wp2_with fail
  refine (wOK_calls _ _ _ _ _).mono ?_
  rintro _ w5 ⟨rfl, b5⟩
  have HT := Lib.hid (HT.out.keep b5)
  have HK := Lib.hid (keep_block b5 HK.out)
  have HW := Lib.hid (bl_pack HW.out HW.out.size b5)
  have K1 := Lib.hid (keep_block b5 K1.out)
  have K2 := Lib.hid (keep_block b5 K2.out)
  have K3 := Lib.hid (keep_block b5 K3.out)
  clear b5
  clear q10 q11 q12 q13 q20 q21 q22 q23 q30 q31 q32 q33
  obtain ⟨q10, q11, q12, q13, -, -, -, -⟩ := res4_facts K1.out
  obtain ⟨q20, q21, q22, q23, -, -, -, -⟩ := res4_facts K2.out
  obtain ⟨q30, q31, q32, q33, -, -, -, -⟩ := res4_facts K3.out
  go_wp2_with fail
  refine (wOK_calls _ _ _ _ _).mono ?_
  rintro _ w6 ⟨rfl, b6⟩
  have HT := Lib.hid (HT.out.keep b6)
  have HK := Lib.hid (keep_block b6 HK.out)
  have HW := Lib.hid (bl_pack HW.out HW.out.size b6)
  have K1 := Lib.hid (keep_block b6 K1.out)
  have K2 := Lib.hid (keep_block b6 K2.out)
  have K3 := Lib.hid (keep_block b6 K3.out)
  clear b6
  clear q10 q11 q12 q13 q20 q21 q22 q23 q30 q31 q32 q33
  obtain ⟨r0, r1, r2, r3, f0, f1, f2, f3⟩ := res4_facts HK.out
  obtain ⟨u0, u1, u2, u3⟩ := put4_facts HK.out (.slice none 0 0) (.int .i64 0) (.bool false) (.bool false)
  go_wp2_with fail
  refine bodyPost_ret (v := .agg #[.slice none 0 0, .int .i64 0, .bool false, .bool false]) (by simp [results, Tryd.results9, go_sem, u0, u1, u2, u3]) rfl ?_
  exact ⟨_, rfl, (NumB.zero F _).more (Nat.zero_le _), bl_put4 HW.out (Nat.le_refl _) _ _ _ _⟩

/-- The number that of tells. -/
def ofQ (x y z : Nat) : Rat := if rung x < inf ∧ rung y < inf ∧ rung z < inf then fr x + fr y * fr z else 0
theorem of_calls {F : Nat} (x y z : Nat) (hx : x < 18446744073709551616) (hy : y < 18446744073709551616) (hz : z < 18446744073709551616) {w : World} (ht : Tb F w) :
    Calls Tryd.prog 9 #[.float .f64 x, .float .f64 y, .float .f64 z] w (RetB F (ofQ x y z) 2149 w) := by
  have HX := Lib.hid (fun (W : World) (h : Tb F W) => ofF x hx h)
  have HY := Lib.hid (fun (W : World) (h : Tb F W) => ofF y hy h)
  have HZ := Lib.hid (fun (W : World) (h : Tb F W) => ofF z hz h)
  unfold ofQ
  by_cases fx : rung x < inf
  · by_cases fy : rung y < inf
    · by_cases fz : rung z < inf
      · rw [if_pos ⟨fx, fy, fz⟩]; exact of_calls3 x y z hx hy hz fx fy fz ht
      · rw [if_neg (fun h => fz h.2.2)]
        exact of_bad3 x y z _ _ _ ht HX HY HZ (by rw [decide_eq_true fx]; rfl) (by rw [decide_eq_true fy]; rfl) (by rw [decide_eq_false fz]; rfl)
    · rw [if_neg (fun h => fy h.2.1)]
      exact of_bad2 x y z _ _ _ ht HX HY HZ (by rw [decide_eq_true fx]; rfl) (by rw [decide_eq_false fy]; rfl)
  · rw [if_neg (fun h => fx h.1)]
    exact of_bad1 x y z _ _ _ ht HX HY HZ (by rw [decide_eq_false fx]; rfl)
end Go.Proofs.YtiiipgbfhcbjdaaDoor
