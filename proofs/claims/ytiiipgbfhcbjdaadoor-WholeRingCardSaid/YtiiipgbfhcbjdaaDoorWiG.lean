/- WholeRing walked. (Printed by gen_WiG.py.) -/
import Derived.Test.YtiiipgbfhcbjdaaDoorWiD
namespace Go.Proofs.YtiiipgbfhcbjdaaDoor
open Go.RowKit TV
set_option linter.unusedVariables false

theorem rs_three (q : Rat) : rs q = -1 ∨ rs q = 0 ∨ rs q = 1 := by
  unfold rs; split
  · exact Or.inl rfl
  · split
    · exact Or.inr (Or.inl rfl)
    · exact Or.inr (Or.inr rfl)
theorem rs_opp (q : Rat) : rs (-q) = -rs q := by
  by_cases h : q < 0
  · rw [rs_neg h, rs_pos (by grind)]; rfl
  · by_cases h2 : q = 0
    · rw [h2]; decide
    · rw [rs_pos (show 0 < q by grind), rs_neg (show -q < 0 by grind)]
theorem rs_mul (p q : Rat) : rs (p * q) = rs p * rs q := by
  have pp : ∀ {a b : Rat}, 0 < a → 0 < b → 0 < a * b := fun h1 h2 => Rat.mul_pos h1 h2
  by_cases h : p = 0
  · rw [h, Rat.zero_mul]; have : rs 0 = 0 := by decide
    rw [this, Int.zero_mul]
  · by_cases h2 : q = 0
    · rw [h2, Rat.mul_zero]; have : rs 0 = 0 := by decide
      rw [this, Int.mul_zero]
    · by_cases c : p < 0
      · by_cases d : q < 0
        · rw [rs_neg c, rs_neg d, rs_pos (by have := pp (show 0 < -p by grind) (show 0 < -q by grind); grind)]; rfl
        · rw [rs_neg c, rs_pos (show 0 < q by grind), rs_neg (by have := pp (show 0 < -p by grind) (show 0 < q by grind); grind)]; rfl
      · by_cases d : q < 0
        · rw [rs_pos (show 0 < p by grind), rs_neg d, rs_neg (by have := pp (show 0 < p by grind) (show 0 < -q by grind); grind)]; rfl
        · rw [rs_pos (show 0 < p by grind), rs_pos (show 0 < q by grind), rs_pos (pp (by grind) (by grind))]; rfl

set_option maxRecDepth 100000 in
set_option maxHeartbeats 4000000 in
theorem ring_walk {w : World} (x0 x1 x2 x3 x4 x5 x6 x7 x8 : Nat) (k : Int) (h0 : x0 < 18446744073709551616) (h1 : x1 < 18446744073709551616) (h2 : x2 < 18446744073709551616) (h3 : x3 < 18446744073709551616) (h4 : x4 < 18446744073709551616) (h5 : x5 < 18446744073709551616) (h6 : x6 < 18446744073709551616) (h7 : x7 < 18446744073709551616) (h8 : x8 < 18446744073709551616) (hk : -9223372036854775808 ≤ k ∧ k ≤ 9223372036854775807) (ht : TabOk w) :
    Calls Tryd.prog 3 #[.agg #[.float .f64 x0, .float .f64 x1, .float .f64 x2, .float .f64 x3, .float .f64 x4, .float .f64 x5, .float .f64 x6, .float .f64 x7, .float .f64 x8], .int .i64 k] w fun x w' => x = .returned (.bool true) ∧ Below w.heap.size w w' := by
  obtain ⟨q, hq⟩ : ∃ q, q = k.tmod 1000 := ⟨_, rfl⟩
  have hq1 : -1000 < q ∧ q < 1000 := by
    rw [hq]
    exact ⟨Int.lt_tmod_of_pos k (by decide), Int.tmod_lt_of_pos k (by decide)⟩
  go_enter Tryd.func3, Tryd.ntmps3
  obtain ⟨wn, hwn, B0, hsz, k0⟩ := box_res w (.cells #[.float .f64 x0, .float .f64 x1, .float .f64 x2, .float .f64 x3, .float .f64 x4, .float .f64 x5, .float .f64 x6, .float .f64 x7, .float .f64 x8] 23)
  have HT := Lib.hid (show Tb 0 wn from ⟨ht.keep B0, Nat.zero_le _⟩)
  have HW := Lib.hid B0
  have KF := Lib.hid k0
  clear B0 hsz k0 ht
  go_upto_region 1 with (fail)
  rw [← hwn]
  clear hwn
  go_wp2_with fail
  refine (works_calls HT.out).mono ?_
  rintro _ w1 ⟨rfl, b1⟩
  have HT := Lib.hid (HT.out.keep b1)
  have HW := Lib.hid (bl_pack HW.out HW.out.size b1)
  have KF := Lib.hid (keep_block b1 KF.out)
  clear b1
  have y0 : w1.cell? ⟨w.heap.size, 0, none⟩ = some (.float .f64 x0) := cell_of_block KF.out 0
  have y1 : w1.cell? ⟨w.heap.size, 1, none⟩ = some (.float .f64 x1) := cell_of_block KF.out 1
  have y2 : w1.cell? ⟨w.heap.size, 2, none⟩ = some (.float .f64 x2) := cell_of_block KF.out 2
  go_wp2_with fail
  refine (of_calls x0 x1 x2 h0 h1 h2 HT.out).mono ?_
  rintro _ w2 ⟨va, rfl, Ma, b2⟩
  have HT := Lib.hid (HT.out.keep b2)
  have HW := Lib.hid (bl_pack HW.out HW.out.size b2)
  have KF := Lib.hid (keep_block b2 KF.out)
  have Na := Lib.hid Ma
  clear b2 Ma
  obtain ⟨pa, na, ca, ea, ga, rfl⟩ := Na.out.form
  obtain ⟨Wa, hWa, Ba, -, Ja⟩ := box_res w2 (.cells #[.slice pa na ca, .int .i64 ea, .bool ga, .bool false] 29)
  go_upto_region 4 with (fail)
  rw [← hWa]
  clear hWa
  have HT := Lib.hid (HT.out.keep Ba)
  have HW := Lib.hid (bl_pack HW.out HW.out.size Ba)
  have Na := Lib.hid (Na.out.keep Ba)
  have KF := Lib.hid (keep_block Ba KF.out)
  have Ka := Lib.hid Ja
  clear Ba Ja
  clear y0 y1 y2
  have y3 : Wa.cell? ⟨w.heap.size, 3, none⟩ = some (.float .f64 x3) := cell_of_block KF.out 3
  have y4 : Wa.cell? ⟨w.heap.size, 4, none⟩ = some (.float .f64 x4) := cell_of_block KF.out 4
  have y5 : Wa.cell? ⟨w.heap.size, 5, none⟩ = some (.float .f64 x5) := cell_of_block KF.out 5
  go_wp2_with fail
  refine (of_calls x3 x4 x5 h3 h4 h5 HT.out).mono ?_
  rintro _ w3 ⟨vb, rfl, Mb, b3⟩
  have HT := Lib.hid (HT.out.keep b3)
  have HW := Lib.hid (bl_pack HW.out HW.out.size b3)
  have Na := Lib.hid (Na.out.keep b3)
  have KF := Lib.hid (keep_block b3 KF.out)
  have Ka := Lib.hid (keep_block b3 Ka.out)
  have Nb := Lib.hid Mb
  clear b3 Mb
  obtain ⟨pb, nb, cb, eb, gb, rfl⟩ := Nb.out.form
  obtain ⟨Wb, hWb, Bb, -, Jb⟩ := box_res w3 (.cells #[.slice pb nb cb, .int .i64 eb, .bool gb, .bool false] 29)
  go_upto_region 5 with (fail)
  rw [← hWb]
  clear hWb
  have HT := Lib.hid (HT.out.keep Bb)
  have HW := Lib.hid (bl_pack HW.out HW.out.size Bb)
  have Na := Lib.hid (Na.out.keep Bb)
  have Nb := Lib.hid (Nb.out.keep Bb)
  have KF := Lib.hid (keep_block Bb KF.out)
  have Ka := Lib.hid (keep_block Bb Ka.out)
  have Kb := Lib.hid Jb
  clear Bb Jb
  clear y3 y4 y5
  have y6 : Wb.cell? ⟨w.heap.size, 6, none⟩ = some (.float .f64 x6) := cell_of_block KF.out 6
  have y7 : Wb.cell? ⟨w.heap.size, 7, none⟩ = some (.float .f64 x7) := cell_of_block KF.out 7
  have y8 : Wb.cell? ⟨w.heap.size, 8, none⟩ = some (.float .f64 x8) := cell_of_block KF.out 8
  go_wp2_with fail
  refine (of_calls x6 x7 x8 h6 h7 h8 HT.out).mono ?_
  rintro _ w4 ⟨vc, rfl, Mc, b4⟩
  have HT := Lib.hid (HT.out.keep b4)
  have HW := Lib.hid (bl_pack HW.out HW.out.size b4)
  have Na := Lib.hid (Na.out.keep b4)
  have Nb := Lib.hid (Nb.out.keep b4)
  have KF := Lib.hid (keep_block b4 KF.out)
  have Ka := Lib.hid (keep_block b4 Ka.out)
  have Kb := Lib.hid (keep_block b4 Kb.out)
  have Nc := Lib.hid Mc
  clear b4 Mc
  obtain ⟨pc, nc, cc, ec, gc, rfl⟩ := Nc.out.form
  obtain ⟨Wc, hWc, Bc, -, Jc⟩ := box_res w4 (.cells #[.slice pc nc cc, .int .i64 ec, .bool gc, .bool false] 29)
  go_upto_region 6 with (fail)
  rw [← hWc]
  clear hWc
  have HT := Lib.hid (HT.out.keep Bc)
  have HW := Lib.hid (bl_pack HW.out HW.out.size Bc)
  have Na := Lib.hid (Na.out.keep Bc)
  have Nb := Lib.hid (Nb.out.keep Bc)
  have Nc := Lib.hid (Nc.out.keep Bc)
  have KF := Lib.hid (keep_block Bc KF.out)
  have Ka := Lib.hid (keep_block Bc Ka.out)
  have Kb := Lib.hid (keep_block Bc Kb.out)
  have Kc := Lib.hid Jc
  clear Bc Jc
  clear y6 y7 y8
  obtain ⟨qa0, qa1, qa2, qa3, -, -, -, -⟩ := res4_facts Ka.out
  obtain ⟨qb0, qb1, qb2, qb3, -, -, -, -⟩ := res4_facts Kb.out
  obtain ⟨qc0, qc1, qc2, qc3, -, -, -, -⟩ := res4_facts Kc.out
  clear KF h0 h1 h2 h3 h4 h5 h6 h7 h8
  obtain ⟨ra, hra⟩ : ∃ r, r = ofQ x0 x1 x2 := ⟨_, rfl⟩
  rw [← hra] at Na
  clear hra
  obtain ⟨rb, hrb⟩ : ∃ r, r = ofQ x3 x4 x5 := ⟨_, rfl⟩
  rw [← hrb] at Nb
  clear hrb
  obtain ⟨rc, hrc⟩ : ∃ r, r = ofQ x6 x7 x8 := ⟨_, rfl⟩
  rw [← hrc] at Nc
  clear hrc
  go_wp2_with fail
  rw [← hq]
  clear hq
  have HC0 := Lib.hid (fun (Y : World) (h' : Kp Wc Y) => addB 2150 (Na.out.keep h'.out) (Nb.out.keep h'.out) (HT.out.keep h'.out) (by decide) (by decide) (by decide))
  have HC1 := Lib.hid (fun (Y : World) (h' : Kp Wc Y) => addB 2150 (Nb.out.keep h'.out) (Na.out.keep h'.out) (HT.out.keep h'.out) (by decide) (by decide) (by decide))
  have HC2 := Lib.hid (fun (Y : World) (h' : Kp Wc Y) (v0 : Value) (hv0 : NumB 0 Y v0 (ra + rb) 2150) (v1 : Value) (hv1 : NumB 0 Y v1 (rb + ra) 2150) => cmpBn (0) hv0 hv1 (HT.out.keep h'.out) (by decide) (by decide) (rs_eq.2 (by grind)))
  have HC3 := Lib.hid (fun (Y : World) (h' : Kp Wc Y) => addB 2150 (Na.out.keep h'.out) (Nb.out.keep h'.out) (HT.out.keep h'.out) (by decide) (by decide) (by decide))
  have HC4 := Lib.hid (fun (Y : World) (h' : Kp Wc Y) (v0 : Value) (hv0 : NumB 0 Y v0 (ra + rb) 2150) => addB 2151 hv0 (Nc.out.keep h'.out) (HT.out.keep h'.out) (by decide) (by decide) (by decide))
  have HC5 := Lib.hid (fun (Y : World) (h' : Kp Wc Y) => addB 2150 (Nb.out.keep h'.out) (Nc.out.keep h'.out) (HT.out.keep h'.out) (by decide) (by decide) (by decide))
  have HC6 := Lib.hid (fun (Y : World) (h' : Kp Wc Y) (v0 : Value) (hv0 : NumB 0 Y v0 (rb + rc) 2150) => addB 2151 (Na.out.keep h'.out) hv0 (HT.out.keep h'.out) (by decide) (by decide) (by decide))
  have HC7 := Lib.hid (fun (Y : World) (h' : Kp Wc Y) (v0 : Value) (hv0 : NumB 0 Y v0 ((ra + rb) + rc) 2151) (v1 : Value) (hv1 : NumB 0 Y v1 (ra + (rb + rc)) 2151) => cmpBn (0) hv0 hv1 (HT.out.keep h'.out) (by decide) (by decide) (rs_eq.2 (by grind)))
  have HC8 := Lib.hid (fun (Y : World) (h' : Kp Wc Y) => addB 2150 (Na.out.keep h'.out) (Nb.out.keep h'.out) (HT.out.keep h'.out) (by decide) (by decide) (by decide))
  have HC9 := Lib.hid (fun (Y : World) (h' : Kp Wc Y) (v0 : Value) (hv0 : NumB 0 Y v0 (ra + rb) 2150) => subB 2151 hv0 (Nb.out.keep h'.out) (HT.out.keep h'.out) (by decide) (by decide) (by decide))
  have HC10 := Lib.hid (fun (Y : World) (h' : Kp Wc Y) (v0 : Value) (hv0 : NumB 0 Y v0 ((ra + rb) - rb) 2151) => cmpBn (0) hv0 (Na.out.keep h'.out) (HT.out.keep h'.out) (by decide) (by decide) (rs_eq.2 (by grind)))
  have HC11 := Lib.hid (fun (Y : World) (h' : Kp Wc Y) => subB 2150 (Na.out.keep h'.out) (Na.out.keep h'.out) (HT.out.keep h'.out) (by decide) (by decide) (by decide))
  have HC12 := Lib.hid (fun (Y : World) (h' : Kp Wc Y) (v0 : Value) (hv0 : NumB 0 Y v0 (ra - ra) 2150) => signBn (0) hv0 (rs_eq.2 rfl))
  go_region_held3 (fun w' => w'.cell? ⟨w2.heap.size, 0, none⟩ = some (.slice pa na ca) ∧ w'.cell? ⟨w2.heap.size, 1, none⟩ = some (.int .i64 ea) ∧ w'.cell? ⟨w2.heap.size, 2, none⟩ = some (.bool ga) ∧ w'.cell? ⟨w2.heap.size, 3, none⟩ = some (.bool false) ∧ w'.cell? ⟨w3.heap.size, 0, none⟩ = some (.slice pb nb cb) ∧ w'.cell? ⟨w3.heap.size, 1, none⟩ = some (.int .i64 eb) ∧ w'.cell? ⟨w3.heap.size, 2, none⟩ = some (.bool gb) ∧ w'.cell? ⟨w3.heap.size, 3, none⟩ = some (.bool false) ∧ w'.cell? ⟨w4.heap.size, 0, none⟩ = some (.slice pc nc cc) ∧ w'.cell? ⟨w4.heap.size, 1, none⟩ = some (.int .i64 ec) ∧ w'.cell? ⟨w4.heap.size, 2, none⟩ = some (.bool gc) ∧ w'.cell? ⟨w4.heap.size, 3, none⟩ = some (.bool false) ∧ Kp Wc w')
    (first | with_reducible exact sv3 ((((((((((((((Kp.refl Wc).drew.step hbS_0).step hbS_1).step hbS_2).step hbS_3).step hbS_4).step hbS_5).step hbS_6).step hbS_7).step hbS_8).step hbS_9).step hbS_10).step hbS_11).step hbS_12) qa0 qa1 qa2 qa3 qb0 qb1 qb2 qb3 qc0 qc1 qc2 qc3 | with_reducible exact sv3 (((((((((((((Kp.refl Wc).drew.step hbS_0).step hbS_1).step hbS_2).step hbS_3).step hbS_4).step hbS_5).step hbS_6).step hbS_7).step hbS_8).step hbS_9).step hbS_10).step hbS_11) qa0 qa1 qa2 qa3 qb0 qb1 qb2 qb3 qc0 qc1 qc2 qc3 | with_reducible exact sv3 ((((((((((((Kp.refl Wc).drew.step hbS_0).step hbS_1).step hbS_2).step hbS_3).step hbS_4).step hbS_5).step hbS_6).step hbS_7).step hbS_8).step hbS_9).step hbS_10) qa0 qa1 qa2 qa3 qb0 qb1 qb2 qb3 qc0 qc1 qc2 qc3 | with_reducible exact sv3 (((((((((((Kp.refl Wc).drew.step hbS_0).step hbS_1).step hbS_2).step hbS_3).step hbS_4).step hbS_5).step hbS_6).step hbS_7).step hbS_8).step hbS_9) qa0 qa1 qa2 qa3 qb0 qb1 qb2 qb3 qc0 qc1 qc2 qc3 | with_reducible exact sv3 ((((((((((Kp.refl Wc).drew.step hbS_0).step hbS_1).step hbS_2).step hbS_3).step hbS_4).step hbS_5).step hbS_6).step hbS_7).step hbS_8) qa0 qa1 qa2 qa3 qb0 qb1 qb2 qb3 qc0 qc1 qc2 qc3 | with_reducible exact sv3 (((((((((Kp.refl Wc).drew.step hbS_0).step hbS_1).step hbS_2).step hbS_3).step hbS_4).step hbS_5).step hbS_6).step hbS_7) qa0 qa1 qa2 qa3 qb0 qb1 qb2 qb3 qc0 qc1 qc2 qc3 | with_reducible exact sv3 ((((((((Kp.refl Wc).drew.step hbS_0).step hbS_1).step hbS_2).step hbS_3).step hbS_4).step hbS_5).step hbS_6) qa0 qa1 qa2 qa3 qb0 qb1 qb2 qb3 qc0 qc1 qc2 qc3 | with_reducible exact sv3 (((((((Kp.refl Wc).drew.step hbS_0).step hbS_1).step hbS_2).step hbS_3).step hbS_4).step hbS_5) qa0 qa1 qa2 qa3 qb0 qb1 qb2 qb3 qc0 qc1 qc2 qc3 | with_reducible exact sv3 ((((((Kp.refl Wc).drew.step hbS_0).step hbS_1).step hbS_2).step hbS_3).step hbS_4) qa0 qa1 qa2 qa3 qb0 qb1 qb2 qb3 qc0 qc1 qc2 qc3 | with_reducible exact sv3 (((((Kp.refl Wc).drew.step hbS_0).step hbS_1).step hbS_2).step hbS_3) qa0 qa1 qa2 qa3 qb0 qb1 qb2 qb3 qc0 qc1 qc2 qc3 | with_reducible exact sv3 ((((Kp.refl Wc).drew.step hbS_0).step hbS_1).step hbS_2) qa0 qa1 qa2 qa3 qb0 qb1 qb2 qb3 qc0 qc1 qc2 qc3 | with_reducible exact sv3 (((Kp.refl Wc).drew.step hbS_0).step hbS_1) qa0 qa1 qa2 qa3 qb0 qb1 qb2 qb3 qc0 qc1 qc2 qc3 | with_reducible exact sv3 ((Kp.refl Wc).drew.step hbS_0) qa0 qa1 qa2 qa3 qb0 qb1 qb2 qb3 qc0 qc1 qc2 qc3 | with_reducible exact sv3 (Kp.refl Wc).drew qa0 qa1 qa2 qa3 qb0 qb1 qb2 qb3 qc0 qc1 qc2 qc3)
    (first
      | (go_at_call 13; ((with_reducible refine (HC12.out _ ?hq _ ?ha0).mono ?_); (case hq => exact (((((((((((((Kp.refl Wc).drew.step hbS_0).step hbS_1).step hbS_2).step hbS_3).step hbS_4).step hbS_5).step hbS_6).step hbS_7).step hbS_8).step hbS_9).step hbS_10).step hbS_11)); (case ha0 => exact MS_11); rintro x wS_12 ⟨rfl, hbS_12⟩))
      | (go_at_call 12; ((with_reducible refine (HC11.out _ ?hq).mono ?_); (case hq => exact ((((((((((((Kp.refl Wc).drew.step hbS_0).step hbS_1).step hbS_2).step hbS_3).step hbS_4).step hbS_5).step hbS_6).step hbS_7).step hbS_8).step hbS_9).step hbS_10)); rintro x wS_11 ⟨vS_11, rfl, MS_11, hbS_11⟩; obtain ⟨pS_11, nS_11, cS_11, eS_11, gS_11, rfl⟩ := NumB.form MS_11))
      | (go_at_call 11; ((with_reducible refine (HC10.out _ ?hq _ ?ha0).mono ?_); (case hq => exact (((((((((((Kp.refl Wc).drew.step hbS_0).step hbS_1).step hbS_2).step hbS_3).step hbS_4).step hbS_5).step hbS_6).step hbS_7).step hbS_8).step hbS_9)); (case ha0 => exact MS_9); rintro x wS_10 ⟨rfl, hbS_10⟩))
      | (go_at_call 12; ((with_reducible refine (HC9.out _ ?hq _ ?ha0).mono ?_); (case hq => exact ((((((((((Kp.refl Wc).drew.step hbS_0).step hbS_1).step hbS_2).step hbS_3).step hbS_4).step hbS_5).step hbS_6).step hbS_7).step hbS_8)); (case ha0 => exact MS_8); rintro x wS_9 ⟨vS_9, rfl, MS_9, hbS_9⟩; obtain ⟨pS_9, nS_9, cS_9, eS_9, gS_9, rfl⟩ := NumB.form MS_9))
      | (go_at_call 10; ((with_reducible refine (HC8.out _ ?hq).mono ?_); (case hq => exact (((((((((Kp.refl Wc).drew.step hbS_0).step hbS_1).step hbS_2).step hbS_3).step hbS_4).step hbS_5).step hbS_6).step hbS_7)); rintro x wS_8 ⟨vS_8, rfl, MS_8, hbS_8⟩; obtain ⟨pS_8, nS_8, cS_8, eS_8, gS_8, rfl⟩ := NumB.form MS_8))
      | (go_at_call 11; ((with_reducible refine (HC7.out _ ?hq _ ?ha0 _ ?ha1).mono ?_); (case hq => exact ((((((((Kp.refl Wc).drew.step hbS_0).step hbS_1).step hbS_2).step hbS_3).step hbS_4).step hbS_5).step hbS_6)); (case ha0 => exact (NumB.keep (NumB.keep MS_4 hbS_5) hbS_6)); (case ha1 => exact MS_6); rintro x wS_7 ⟨rfl, hbS_7⟩))
      | (go_at_call 10; ((with_reducible refine (HC6.out _ ?hq _ ?ha0).mono ?_); (case hq => exact (((((((Kp.refl Wc).drew.step hbS_0).step hbS_1).step hbS_2).step hbS_3).step hbS_4).step hbS_5)); (case ha0 => exact MS_5); rintro x wS_6 ⟨vS_6, rfl, MS_6, hbS_6⟩; obtain ⟨pS_6, nS_6, cS_6, eS_6, gS_6, rfl⟩ := NumB.form MS_6))
      | (go_at_call 10; ((with_reducible refine (HC5.out _ ?hq).mono ?_); (case hq => exact ((((((Kp.refl Wc).drew.step hbS_0).step hbS_1).step hbS_2).step hbS_3).step hbS_4)); rintro x wS_5 ⟨vS_5, rfl, MS_5, hbS_5⟩; obtain ⟨pS_5, nS_5, cS_5, eS_5, gS_5, rfl⟩ := NumB.form MS_5))
      | (go_at_call 10; ((with_reducible refine (HC4.out _ ?hq _ ?ha0).mono ?_); (case hq => exact (((((Kp.refl Wc).drew.step hbS_0).step hbS_1).step hbS_2).step hbS_3)); (case ha0 => exact MS_3); rintro x wS_4 ⟨vS_4, rfl, MS_4, hbS_4⟩; obtain ⟨pS_4, nS_4, cS_4, eS_4, gS_4, rfl⟩ := NumB.form MS_4))
      | (go_at_call 10; ((with_reducible refine (HC3.out _ ?hq).mono ?_); (case hq => exact ((((Kp.refl Wc).drew.step hbS_0).step hbS_1).step hbS_2)); rintro x wS_3 ⟨vS_3, rfl, MS_3, hbS_3⟩; obtain ⟨pS_3, nS_3, cS_3, eS_3, gS_3, rfl⟩ := NumB.form MS_3))
      | (go_at_call 11; ((with_reducible refine (HC2.out _ ?hq _ ?ha0 _ ?ha1).mono ?_); (case hq => exact (((Kp.refl Wc).drew.step hbS_0).step hbS_1)); (case ha0 => exact (NumB.keep MS_0 hbS_1)); (case ha1 => exact MS_1); rintro x wS_2 ⟨rfl, hbS_2⟩))
      | (go_at_call 10; ((with_reducible refine (HC1.out _ ?hq).mono ?_); (case hq => exact ((Kp.refl Wc).drew.step hbS_0)); rintro x wS_1 ⟨vS_1, rfl, MS_1, hbS_1⟩; obtain ⟨pS_1, nS_1, cS_1, eS_1, gS_1, rfl⟩ := NumB.form MS_1))
      | (go_at_call 10; ((with_reducible refine (HC0.out _ ?hq).mono ?_); (case hq => exact (Kp.refl Wc).drew); rintro x wS_0 ⟨vS_0, rfl, MS_0, hbS_0⟩; obtain ⟨pS_0, nS_0, cS_0, eS_0, gS_0, rfl⟩ := NumB.form MS_0)))
  have HT := Lib.hid (HT.out.keep ((((((((((((((Kp.refl Wc).drew.step hbS_0).step hbS_1).step hbS_2).step hbS_3).step hbS_4).step hbS_5).step hbS_6).step hbS_7).step hbS_8).step hbS_9).step hbS_10).step hbS_11).step hbS_12).out)
  have HW := Lib.hid (bl_pack HW.out HW.out.size ((((((((((((((Kp.refl Wc).drew.step hbS_0).step hbS_1).step hbS_2).step hbS_3).step hbS_4).step hbS_5).step hbS_6).step hbS_7).step hbS_8).step hbS_9).step hbS_10).step hbS_11).step hbS_12).out)
  have Na := Lib.hid (Na.out.keep ((((((((((((((Kp.refl Wc).drew.step hbS_0).step hbS_1).step hbS_2).step hbS_3).step hbS_4).step hbS_5).step hbS_6).step hbS_7).step hbS_8).step hbS_9).step hbS_10).step hbS_11).step hbS_12).out)
  have Nb := Lib.hid (Nb.out.keep ((((((((((((((Kp.refl Wc).drew.step hbS_0).step hbS_1).step hbS_2).step hbS_3).step hbS_4).step hbS_5).step hbS_6).step hbS_7).step hbS_8).step hbS_9).step hbS_10).step hbS_11).step hbS_12).out)
  have Nc := Lib.hid (Nc.out.keep ((((((((((((((Kp.refl Wc).drew.step hbS_0).step hbS_1).step hbS_2).step hbS_3).step hbS_4).step hbS_5).step hbS_6).step hbS_7).step hbS_8).step hbS_9).step hbS_10).step hbS_11).step hbS_12).out)
  have Ka := Lib.hid (keep_block ((((((((((((((Kp.refl Wc).drew.step hbS_0).step hbS_1).step hbS_2).step hbS_3).step hbS_4).step hbS_5).step hbS_6).step hbS_7).step hbS_8).step hbS_9).step hbS_10).step hbS_11).step hbS_12).out Ka.out)
  have Kb := Lib.hid (keep_block ((((((((((((((Kp.refl Wc).drew.step hbS_0).step hbS_1).step hbS_2).step hbS_3).step hbS_4).step hbS_5).step hbS_6).step hbS_7).step hbS_8).step hbS_9).step hbS_10).step hbS_11).step hbS_12).out Kb.out)
  have Kc := Lib.hid (keep_block ((((((((((((((Kp.refl Wc).drew.step hbS_0).step hbS_1).step hbS_2).step hbS_3).step hbS_4).step hbS_5).step hbS_6).step hbS_7).step hbS_8).step hbS_9).step hbS_10).step hbS_11).step hbS_12).out Kc.out)
  clear HC0 HC1 HC2 HC3 HC4 HC5 HC6 HC7 HC8 HC9 HC10 HC11 HC12 qa0 qa1 qa2 qa3 qb0 qb1 qb2 qb3 qc0 qc1 qc2 qc3
  obtain ⟨qa0, qa1, qa2, qa3, -, -, -, -⟩ := res4_facts Ka.out
  obtain ⟨qb0, qb1, qb2, qb3, -, -, -, -⟩ := res4_facts Kb.out
  obtain ⟨qc0, qc1, qc2, qc3, -, -, -, -⟩ := res4_facts Kc.out
  go_wp2_with fail
  have HC0 := Lib.hid (fun (Y : World) (h' : Kp wS_12 Y) => mulB 4298 (Na.out.keep h'.out) (Nb.out.keep h'.out) (HT.out.keep h'.out) (by decide) (by decide))
  have HC1 := Lib.hid (fun (Y : World) (h' : Kp wS_12 Y) => mulB 4298 (Nb.out.keep h'.out) (Na.out.keep h'.out) (HT.out.keep h'.out) (by decide) (by decide))
  have HC2 := Lib.hid (fun (Y : World) (h' : Kp wS_12 Y) (v0 : Value) (hv0 : NumB 0 Y v0 (ra * rb) 4298) (v1 : Value) (hv1 : NumB 0 Y v1 (rb * ra) 4298) => cmpBn (0) hv0 hv1 (HT.out.keep h'.out) (by decide) (by decide) (rs_eq.2 (by grind)))
  have HC3 := Lib.hid (fun (Y : World) (h' : Kp wS_12 Y) => mulB 4298 (Na.out.keep h'.out) (Nb.out.keep h'.out) (HT.out.keep h'.out) (by decide) (by decide))
  have HC4 := Lib.hid (fun (Y : World) (h' : Kp wS_12 Y) (v0 : Value) (hv0 : NumB 0 Y v0 (ra * rb) 4298) => mulB 6447 hv0 (Nc.out.keep h'.out) (HT.out.keep h'.out) (by decide) (by decide))
  have HC5 := Lib.hid (fun (Y : World) (h' : Kp wS_12 Y) => mulB 4298 (Nb.out.keep h'.out) (Nc.out.keep h'.out) (HT.out.keep h'.out) (by decide) (by decide))
  have HC6 := Lib.hid (fun (Y : World) (h' : Kp wS_12 Y) (v0 : Value) (hv0 : NumB 0 Y v0 (rb * rc) 4298) => mulB 6447 (Na.out.keep h'.out) hv0 (HT.out.keep h'.out) (by decide) (by decide))
  have HC7 := Lib.hid (fun (Y : World) (h' : Kp wS_12 Y) (v0 : Value) (hv0 : NumB 0 Y v0 ((ra * rb) * rc) 6447) (v1 : Value) (hv1 : NumB 0 Y v1 (ra * (rb * rc)) 6447) => cmpBn (0) hv0 hv1 (HT.out.keep h'.out) (by decide) (by decide) (rs_eq.2 (by grind)))
  have HC8 := Lib.hid (fun (Y : World) (h' : Kp wS_12 Y) => addB 2150 (Na.out.keep h'.out) (Nb.out.keep h'.out) (HT.out.keep h'.out) (by decide) (by decide) (by decide))
  have HC9 := Lib.hid (fun (Y : World) (h' : Kp wS_12 Y) (v0 : Value) (hv0 : NumB 0 Y v0 (ra + rb) 2150) => mulB 4299 hv0 (Nc.out.keep h'.out) (HT.out.keep h'.out) (by decide) (by decide))
  have HC10 := Lib.hid (fun (Y : World) (h' : Kp wS_12 Y) => mulB 4298 (Na.out.keep h'.out) (Nc.out.keep h'.out) (HT.out.keep h'.out) (by decide) (by decide))
  have HC11 := Lib.hid (fun (Y : World) (h' : Kp wS_12 Y) => mulB 4298 (Nb.out.keep h'.out) (Nc.out.keep h'.out) (HT.out.keep h'.out) (by decide) (by decide))
  have HC12 := Lib.hid (fun (Y : World) (h' : Kp wS_12 Y) (v0 : Value) (hv0 : NumB 0 Y v0 (ra * rc) 4298) (v1 : Value) (hv1 : NumB 0 Y v1 (rb * rc) 4298) => addB 4299 hv0 hv1 (HT.out.keep h'.out) (by decide) (by decide) (by decide))
  have HC13 := Lib.hid (fun (Y : World) (h' : Kp wS_12 Y) (v0 : Value) (hv0 : NumB 0 Y v0 ((ra + rb) * rc) 4299) (v1 : Value) (hv1 : NumB 0 Y v1 ((ra * rc) + (rb * rc)) 4299) => cmpBn (0) hv0 hv1 (HT.out.keep h'.out) (by decide) (by decide) (rs_eq.2 (by grind)))
  go_region_held3 (fun w' => w'.cell? ⟨w2.heap.size, 0, none⟩ = some (.slice pa na ca) ∧ w'.cell? ⟨w2.heap.size, 1, none⟩ = some (.int .i64 ea) ∧ w'.cell? ⟨w2.heap.size, 2, none⟩ = some (.bool ga) ∧ w'.cell? ⟨w2.heap.size, 3, none⟩ = some (.bool false) ∧ w'.cell? ⟨w3.heap.size, 0, none⟩ = some (.slice pb nb cb) ∧ w'.cell? ⟨w3.heap.size, 1, none⟩ = some (.int .i64 eb) ∧ w'.cell? ⟨w3.heap.size, 2, none⟩ = some (.bool gb) ∧ w'.cell? ⟨w3.heap.size, 3, none⟩ = some (.bool false) ∧ w'.cell? ⟨w4.heap.size, 0, none⟩ = some (.slice pc nc cc) ∧ w'.cell? ⟨w4.heap.size, 1, none⟩ = some (.int .i64 ec) ∧ w'.cell? ⟨w4.heap.size, 2, none⟩ = some (.bool gc) ∧ w'.cell? ⟨w4.heap.size, 3, none⟩ = some (.bool false) ∧ Kp wS_12 w')
    (first | with_reducible exact sv3 (((((((((((((((Kp.refl wS_12).drew.step hbP_0).step hbP_1).step hbP_2).step hbP_3).step hbP_4).step hbP_5).step hbP_6).step hbP_7).step hbP_8).step hbP_9).step hbP_10).step hbP_11).step hbP_12).step hbP_13) qa0 qa1 qa2 qa3 qb0 qb1 qb2 qb3 qc0 qc1 qc2 qc3 | with_reducible exact sv3 ((((((((((((((Kp.refl wS_12).drew.step hbP_0).step hbP_1).step hbP_2).step hbP_3).step hbP_4).step hbP_5).step hbP_6).step hbP_7).step hbP_8).step hbP_9).step hbP_10).step hbP_11).step hbP_12) qa0 qa1 qa2 qa3 qb0 qb1 qb2 qb3 qc0 qc1 qc2 qc3 | with_reducible exact sv3 (((((((((((((Kp.refl wS_12).drew.step hbP_0).step hbP_1).step hbP_2).step hbP_3).step hbP_4).step hbP_5).step hbP_6).step hbP_7).step hbP_8).step hbP_9).step hbP_10).step hbP_11) qa0 qa1 qa2 qa3 qb0 qb1 qb2 qb3 qc0 qc1 qc2 qc3 | with_reducible exact sv3 ((((((((((((Kp.refl wS_12).drew.step hbP_0).step hbP_1).step hbP_2).step hbP_3).step hbP_4).step hbP_5).step hbP_6).step hbP_7).step hbP_8).step hbP_9).step hbP_10) qa0 qa1 qa2 qa3 qb0 qb1 qb2 qb3 qc0 qc1 qc2 qc3 | with_reducible exact sv3 (((((((((((Kp.refl wS_12).drew.step hbP_0).step hbP_1).step hbP_2).step hbP_3).step hbP_4).step hbP_5).step hbP_6).step hbP_7).step hbP_8).step hbP_9) qa0 qa1 qa2 qa3 qb0 qb1 qb2 qb3 qc0 qc1 qc2 qc3 | with_reducible exact sv3 ((((((((((Kp.refl wS_12).drew.step hbP_0).step hbP_1).step hbP_2).step hbP_3).step hbP_4).step hbP_5).step hbP_6).step hbP_7).step hbP_8) qa0 qa1 qa2 qa3 qb0 qb1 qb2 qb3 qc0 qc1 qc2 qc3 | with_reducible exact sv3 (((((((((Kp.refl wS_12).drew.step hbP_0).step hbP_1).step hbP_2).step hbP_3).step hbP_4).step hbP_5).step hbP_6).step hbP_7) qa0 qa1 qa2 qa3 qb0 qb1 qb2 qb3 qc0 qc1 qc2 qc3 | with_reducible exact sv3 ((((((((Kp.refl wS_12).drew.step hbP_0).step hbP_1).step hbP_2).step hbP_3).step hbP_4).step hbP_5).step hbP_6) qa0 qa1 qa2 qa3 qb0 qb1 qb2 qb3 qc0 qc1 qc2 qc3 | with_reducible exact sv3 (((((((Kp.refl wS_12).drew.step hbP_0).step hbP_1).step hbP_2).step hbP_3).step hbP_4).step hbP_5) qa0 qa1 qa2 qa3 qb0 qb1 qb2 qb3 qc0 qc1 qc2 qc3 | with_reducible exact sv3 ((((((Kp.refl wS_12).drew.step hbP_0).step hbP_1).step hbP_2).step hbP_3).step hbP_4) qa0 qa1 qa2 qa3 qb0 qb1 qb2 qb3 qc0 qc1 qc2 qc3 | with_reducible exact sv3 (((((Kp.refl wS_12).drew.step hbP_0).step hbP_1).step hbP_2).step hbP_3) qa0 qa1 qa2 qa3 qb0 qb1 qb2 qb3 qc0 qc1 qc2 qc3 | with_reducible exact sv3 ((((Kp.refl wS_12).drew.step hbP_0).step hbP_1).step hbP_2) qa0 qa1 qa2 qa3 qb0 qb1 qb2 qb3 qc0 qc1 qc2 qc3 | with_reducible exact sv3 (((Kp.refl wS_12).drew.step hbP_0).step hbP_1) qa0 qa1 qa2 qa3 qb0 qb1 qb2 qb3 qc0 qc1 qc2 qc3 | with_reducible exact sv3 ((Kp.refl wS_12).drew.step hbP_0) qa0 qa1 qa2 qa3 qb0 qb1 qb2 qb3 qc0 qc1 qc2 qc3 | with_reducible exact sv3 (Kp.refl wS_12).drew qa0 qa1 qa2 qa3 qb0 qb1 qb2 qb3 qc0 qc1 qc2 qc3)
    (first
      | (go_at_call 11; ((with_reducible refine (HC13.out _ ?hq _ ?ha0 _ ?ha1).mono ?_); (case hq => exact ((((((((((((((Kp.refl wS_12).drew.step hbP_0).step hbP_1).step hbP_2).step hbP_3).step hbP_4).step hbP_5).step hbP_6).step hbP_7).step hbP_8).step hbP_9).step hbP_10).step hbP_11).step hbP_12)); (case ha0 => exact (NumB.keep (NumB.keep (NumB.keep MP_9 hbP_10) hbP_11) hbP_12)); (case ha1 => exact MP_12); rintro x wP_13 ⟨rfl, hbP_13⟩))
      | (go_at_call 10; ((with_reducible refine (HC12.out _ ?hq _ ?ha0 _ ?ha1).mono ?_); (case hq => exact (((((((((((((Kp.refl wS_12).drew.step hbP_0).step hbP_1).step hbP_2).step hbP_3).step hbP_4).step hbP_5).step hbP_6).step hbP_7).step hbP_8).step hbP_9).step hbP_10).step hbP_11)); (case ha0 => exact (NumB.keep MP_10 hbP_11)); (case ha1 => exact MP_11); rintro x wP_12 ⟨vP_12, rfl, MP_12, hbP_12⟩; obtain ⟨pP_12, nP_12, cP_12, eP_12, gP_12, rfl⟩ := NumB.form MP_12))
      | (go_at_call 14; ((with_reducible refine (HC11.out _ ?hq).mono ?_); (case hq => exact ((((((((((((Kp.refl wS_12).drew.step hbP_0).step hbP_1).step hbP_2).step hbP_3).step hbP_4).step hbP_5).step hbP_6).step hbP_7).step hbP_8).step hbP_9).step hbP_10)); rintro x wP_11 ⟨vP_11, rfl, MP_11, hbP_11⟩; obtain ⟨pP_11, nP_11, cP_11, eP_11, gP_11, rfl⟩ := NumB.form MP_11))
      | (go_at_call 14; ((with_reducible refine (HC10.out _ ?hq).mono ?_); (case hq => exact (((((((((((Kp.refl wS_12).drew.step hbP_0).step hbP_1).step hbP_2).step hbP_3).step hbP_4).step hbP_5).step hbP_6).step hbP_7).step hbP_8).step hbP_9)); rintro x wP_10 ⟨vP_10, rfl, MP_10, hbP_10⟩; obtain ⟨pP_10, nP_10, cP_10, eP_10, gP_10, rfl⟩ := NumB.form MP_10))
      | (go_at_call 14; ((with_reducible refine (HC9.out _ ?hq _ ?ha0).mono ?_); (case hq => exact ((((((((((Kp.refl wS_12).drew.step hbP_0).step hbP_1).step hbP_2).step hbP_3).step hbP_4).step hbP_5).step hbP_6).step hbP_7).step hbP_8)); (case ha0 => exact MP_8); rintro x wP_9 ⟨vP_9, rfl, MP_9, hbP_9⟩; obtain ⟨pP_9, nP_9, cP_9, eP_9, gP_9, rfl⟩ := NumB.form MP_9))
      | (go_at_call 10; ((with_reducible refine (HC8.out _ ?hq).mono ?_); (case hq => exact (((((((((Kp.refl wS_12).drew.step hbP_0).step hbP_1).step hbP_2).step hbP_3).step hbP_4).step hbP_5).step hbP_6).step hbP_7)); rintro x wP_8 ⟨vP_8, rfl, MP_8, hbP_8⟩; obtain ⟨pP_8, nP_8, cP_8, eP_8, gP_8, rfl⟩ := NumB.form MP_8))
      | (go_at_call 11; ((with_reducible refine (HC7.out _ ?hq _ ?ha0 _ ?ha1).mono ?_); (case hq => exact ((((((((Kp.refl wS_12).drew.step hbP_0).step hbP_1).step hbP_2).step hbP_3).step hbP_4).step hbP_5).step hbP_6)); (case ha0 => exact (NumB.keep (NumB.keep MP_4 hbP_5) hbP_6)); (case ha1 => exact MP_6); rintro x wP_7 ⟨rfl, hbP_7⟩))
      | (go_at_call 14; ((with_reducible refine (HC6.out _ ?hq _ ?ha0).mono ?_); (case hq => exact (((((((Kp.refl wS_12).drew.step hbP_0).step hbP_1).step hbP_2).step hbP_3).step hbP_4).step hbP_5)); (case ha0 => exact MP_5); rintro x wP_6 ⟨vP_6, rfl, MP_6, hbP_6⟩; obtain ⟨pP_6, nP_6, cP_6, eP_6, gP_6, rfl⟩ := NumB.form MP_6))
      | (go_at_call 14; ((with_reducible refine (HC5.out _ ?hq).mono ?_); (case hq => exact ((((((Kp.refl wS_12).drew.step hbP_0).step hbP_1).step hbP_2).step hbP_3).step hbP_4)); rintro x wP_5 ⟨vP_5, rfl, MP_5, hbP_5⟩; obtain ⟨pP_5, nP_5, cP_5, eP_5, gP_5, rfl⟩ := NumB.form MP_5))
      | (go_at_call 14; ((with_reducible refine (HC4.out _ ?hq _ ?ha0).mono ?_); (case hq => exact (((((Kp.refl wS_12).drew.step hbP_0).step hbP_1).step hbP_2).step hbP_3)); (case ha0 => exact MP_3); rintro x wP_4 ⟨vP_4, rfl, MP_4, hbP_4⟩; obtain ⟨pP_4, nP_4, cP_4, eP_4, gP_4, rfl⟩ := NumB.form MP_4))
      | (go_at_call 14; ((with_reducible refine (HC3.out _ ?hq).mono ?_); (case hq => exact ((((Kp.refl wS_12).drew.step hbP_0).step hbP_1).step hbP_2)); rintro x wP_3 ⟨vP_3, rfl, MP_3, hbP_3⟩; obtain ⟨pP_3, nP_3, cP_3, eP_3, gP_3, rfl⟩ := NumB.form MP_3))
      | (go_at_call 11; ((with_reducible refine (HC2.out _ ?hq _ ?ha0 _ ?ha1).mono ?_); (case hq => exact (((Kp.refl wS_12).drew.step hbP_0).step hbP_1)); (case ha0 => exact (NumB.keep MP_0 hbP_1)); (case ha1 => exact MP_1); rintro x wP_2 ⟨rfl, hbP_2⟩))
      | (go_at_call 14; ((with_reducible refine (HC1.out _ ?hq).mono ?_); (case hq => exact ((Kp.refl wS_12).drew.step hbP_0)); rintro x wP_1 ⟨vP_1, rfl, MP_1, hbP_1⟩; obtain ⟨pP_1, nP_1, cP_1, eP_1, gP_1, rfl⟩ := NumB.form MP_1))
      | (go_at_call 14; ((with_reducible refine (HC0.out _ ?hq).mono ?_); (case hq => exact (Kp.refl wS_12).drew); rintro x wP_0 ⟨vP_0, rfl, MP_0, hbP_0⟩; obtain ⟨pP_0, nP_0, cP_0, eP_0, gP_0, rfl⟩ := NumB.form MP_0)))
  have HT := Lib.hid (HT.out.keep (((((((((((((((Kp.refl wS_12).drew.step hbP_0).step hbP_1).step hbP_2).step hbP_3).step hbP_4).step hbP_5).step hbP_6).step hbP_7).step hbP_8).step hbP_9).step hbP_10).step hbP_11).step hbP_12).step hbP_13).out)
  have HW := Lib.hid (bl_pack HW.out HW.out.size (((((((((((((((Kp.refl wS_12).drew.step hbP_0).step hbP_1).step hbP_2).step hbP_3).step hbP_4).step hbP_5).step hbP_6).step hbP_7).step hbP_8).step hbP_9).step hbP_10).step hbP_11).step hbP_12).step hbP_13).out)
  have Na := Lib.hid (Na.out.keep (((((((((((((((Kp.refl wS_12).drew.step hbP_0).step hbP_1).step hbP_2).step hbP_3).step hbP_4).step hbP_5).step hbP_6).step hbP_7).step hbP_8).step hbP_9).step hbP_10).step hbP_11).step hbP_12).step hbP_13).out)
  have Nb := Lib.hid (Nb.out.keep (((((((((((((((Kp.refl wS_12).drew.step hbP_0).step hbP_1).step hbP_2).step hbP_3).step hbP_4).step hbP_5).step hbP_6).step hbP_7).step hbP_8).step hbP_9).step hbP_10).step hbP_11).step hbP_12).step hbP_13).out)
  have Nc := Lib.hid (Nc.out.keep (((((((((((((((Kp.refl wS_12).drew.step hbP_0).step hbP_1).step hbP_2).step hbP_3).step hbP_4).step hbP_5).step hbP_6).step hbP_7).step hbP_8).step hbP_9).step hbP_10).step hbP_11).step hbP_12).step hbP_13).out)
  have Ka := Lib.hid (keep_block (((((((((((((((Kp.refl wS_12).drew.step hbP_0).step hbP_1).step hbP_2).step hbP_3).step hbP_4).step hbP_5).step hbP_6).step hbP_7).step hbP_8).step hbP_9).step hbP_10).step hbP_11).step hbP_12).step hbP_13).out Ka.out)
  have Kb := Lib.hid (keep_block (((((((((((((((Kp.refl wS_12).drew.step hbP_0).step hbP_1).step hbP_2).step hbP_3).step hbP_4).step hbP_5).step hbP_6).step hbP_7).step hbP_8).step hbP_9).step hbP_10).step hbP_11).step hbP_12).step hbP_13).out Kb.out)
  have Kc := Lib.hid (keep_block (((((((((((((((Kp.refl wS_12).drew.step hbP_0).step hbP_1).step hbP_2).step hbP_3).step hbP_4).step hbP_5).step hbP_6).step hbP_7).step hbP_8).step hbP_9).step hbP_10).step hbP_11).step hbP_12).step hbP_13).out Kc.out)
  clear HC0 HC1 HC2 HC3 HC4 HC5 HC6 HC7 HC8 HC9 HC10 HC11 HC12 HC13 qa0 qa1 qa2 qa3 qb0 qb1 qb2 qb3 qc0 qc1 qc2 qc3
  obtain ⟨qa0, qa1, qa2, qa3, -, -, -, -⟩ := res4_facts Ka.out
  obtain ⟨qb0, qb1, qb2, qb3, -, -, -, -⟩ := res4_facts Kb.out
  obtain ⟨qc0, qc1, qc2, qc3, -, -, -, -⟩ := res4_facts Kc.out
  go_wp2_with fail
  obtain ⟨sa, hsa⟩ : ∃ s, rs ra = s := ⟨_, rfl⟩
  obtain ⟨sb, hsb⟩ : ∃ s, rs rb = s := ⟨_, rfl⟩
  obtain ⟨sd, hsd⟩ : ∃ s, rs (ra - rb) = s := ⟨_, rfl⟩
  have ga := rs_three ra
  have gb := rs_three rb
  have gd := rs_three (ra - rb)
  rw [hsa] at ga
  rw [hsb] at gb
  rw [hsd] at gd
  have sab : IntKind.i64.wrap (sa * sb) = sa * sb := IntWalk.i64_in _ (by rcases ga with rfl | rfl | rfl <;> rcases gb with rfl | rfl | rfl <;> decide)
  have sna : IntKind.i64.wrap (-sa) = -sa := IntWalk.i64_in _ (by omega)
  have snd : IntKind.i64.wrap (-sd) = -sd := IntWalk.i64_in _ (by omega)
  have HA := Lib.hid hsa
  have HB := Lib.hid hsb
  have HD := Lib.hid hsd
  have HAB := Lib.hid (show rs (ra * rb) = sa * sb by rw [← hsa, ← hsb]; exact rs_mul _ _)
  have HNA := Lib.hid (show rs (-ra) = -sa by rw [← hsa]; exact rs_opp _)
  have HND := Lib.hid (show rs (rb - ra) = -sd by rw [← hsd, ← rs_opp]; congr 1; grind)
  clear hsa hsb hsd ga gb gd
  have HC0 := Lib.hid (fun (Y : World) (h' : Kp wP_13 Y) => mulB 4298 (Na.out.keep h'.out) (Nb.out.keep h'.out) (HT.out.keep h'.out) (by decide) (by decide))
  have HC1 := Lib.hid (fun (Y : World) (h' : Kp wP_13 Y) (v0 : Value) (hv0 : NumB 0 Y v0 (ra * rb) 4298) => signBn (sa * sb) hv0 HAB.out)
  have HC2 := Lib.hid (fun (Y : World) (h' : Kp wP_13 Y) => signBn (sa) (Na.out.keep h'.out) HA.out)
  have HC3 := Lib.hid (fun (Y : World) (h' : Kp wP_13 Y) => signBn (sb) (Nb.out.keep h'.out) HB.out)
  have HC4 := Lib.hid (fun (Y : World) (h' : Kp wP_13 Y) => negB (Na.out.keep h'.out))
  have HC5 := Lib.hid (fun (Y : World) (h' : Kp wP_13 Y) (v0 : Value) (hv0 : NumB 0 Y v0 (-(ra)) 2149) => signBn (-sa) hv0 HNA.out)
  have HC6 := Lib.hid (fun (Y : World) (h' : Kp wP_13 Y) => signBn (sa) (Na.out.keep h'.out) HA.out)
  have HC7 := Lib.hid (fun (Y : World) (h' : Kp wP_13 Y) => negB (Na.out.keep h'.out))
  have HC8 := Lib.hid (fun (Y : World) (h' : Kp wP_13 Y) (v0 : Value) (hv0 : NumB 0 Y v0 (-(ra)) 2149) => negB hv0)
  have HC9 := Lib.hid (fun (Y : World) (h' : Kp wP_13 Y) (v0 : Value) (hv0 : NumB 0 Y v0 (-(-(ra))) 2149) => cmpBn (0) hv0 (Na.out.keep h'.out) (HT.out.keep h'.out) (by decide) (by decide) (rs_eq.2 (by grind)))
  have HC10 := Lib.hid (fun (Y : World) (h' : Kp wP_13 Y) => subB 2150 (Na.out.keep h'.out) (Nb.out.keep h'.out) (HT.out.keep h'.out) (by decide) (by decide) (by decide))
  have HC11 := Lib.hid (fun (Y : World) (h' : Kp wP_13 Y) (v0 : Value) (hv0 : NumB 0 Y v0 (ra - rb) 2150) => signBn (sd) hv0 HD.out)
  have HC12 := Lib.hid (fun (Y : World) (h' : Kp wP_13 Y) => cmpBn (sd) (Na.out.keep h'.out) (Nb.out.keep h'.out) (HT.out.keep h'.out) (by decide) (by decide) HD.out)
  have HC13 := Lib.hid (fun (Y : World) (h' : Kp wP_13 Y) => cmpBn (-sd) (Nb.out.keep h'.out) (Na.out.keep h'.out) (HT.out.keep h'.out) (by decide) (by decide) HND.out)
  have HC14 := Lib.hid (fun (Y : World) (h' : Kp wP_13 Y) => cmpBn (sd) (Na.out.keep h'.out) (Nb.out.keep h'.out) (HT.out.keep h'.out) (by decide) (by decide) HD.out)
  go_region_held3 (fun w' => w'.cell? ⟨w2.heap.size, 0, none⟩ = some (.slice pa na ca) ∧ w'.cell? ⟨w2.heap.size, 1, none⟩ = some (.int .i64 ea) ∧ w'.cell? ⟨w2.heap.size, 2, none⟩ = some (.bool ga) ∧ w'.cell? ⟨w2.heap.size, 3, none⟩ = some (.bool false) ∧ w'.cell? ⟨w3.heap.size, 0, none⟩ = some (.slice pb nb cb) ∧ w'.cell? ⟨w3.heap.size, 1, none⟩ = some (.int .i64 eb) ∧ w'.cell? ⟨w3.heap.size, 2, none⟩ = some (.bool gb) ∧ w'.cell? ⟨w3.heap.size, 3, none⟩ = some (.bool false) ∧ w'.cell? ⟨w4.heap.size, 0, none⟩ = some (.slice pc nc cc) ∧ w'.cell? ⟨w4.heap.size, 1, none⟩ = some (.int .i64 ec) ∧ w'.cell? ⟨w4.heap.size, 2, none⟩ = some (.bool gc) ∧ w'.cell? ⟨w4.heap.size, 3, none⟩ = some (.bool false) ∧ Kp wP_13 w')
    (first | with_reducible exact sv3 ((((((((((((((((Kp.refl wP_13).drew.step hbG_0).step hbG_1).step hbG_2).step hbG_3).step hbG_4).step hbG_5).step hbG_6).step hbG_7).step hbG_8).step hbG_9).step hbG_10).step hbG_11).step hbG_12).step hbG_13).step hbG_14) qa0 qa1 qa2 qa3 qb0 qb1 qb2 qb3 qc0 qc1 qc2 qc3 | with_reducible exact sv3 (((((((((((((((Kp.refl wP_13).drew.step hbG_0).step hbG_1).step hbG_2).step hbG_3).step hbG_4).step hbG_5).step hbG_6).step hbG_7).step hbG_8).step hbG_9).step hbG_10).step hbG_11).step hbG_12).step hbG_13) qa0 qa1 qa2 qa3 qb0 qb1 qb2 qb3 qc0 qc1 qc2 qc3 | with_reducible exact sv3 ((((((((((((((Kp.refl wP_13).drew.step hbG_0).step hbG_1).step hbG_2).step hbG_3).step hbG_4).step hbG_5).step hbG_6).step hbG_7).step hbG_8).step hbG_9).step hbG_10).step hbG_11).step hbG_12) qa0 qa1 qa2 qa3 qb0 qb1 qb2 qb3 qc0 qc1 qc2 qc3 | with_reducible exact sv3 (((((((((((((Kp.refl wP_13).drew.step hbG_0).step hbG_1).step hbG_2).step hbG_3).step hbG_4).step hbG_5).step hbG_6).step hbG_7).step hbG_8).step hbG_9).step hbG_10).step hbG_11) qa0 qa1 qa2 qa3 qb0 qb1 qb2 qb3 qc0 qc1 qc2 qc3 | with_reducible exact sv3 ((((((((((((Kp.refl wP_13).drew.step hbG_0).step hbG_1).step hbG_2).step hbG_3).step hbG_4).step hbG_5).step hbG_6).step hbG_7).step hbG_8).step hbG_9).step hbG_10) qa0 qa1 qa2 qa3 qb0 qb1 qb2 qb3 qc0 qc1 qc2 qc3 | with_reducible exact sv3 (((((((((((Kp.refl wP_13).drew.step hbG_0).step hbG_1).step hbG_2).step hbG_3).step hbG_4).step hbG_5).step hbG_6).step hbG_7).step hbG_8).step hbG_9) qa0 qa1 qa2 qa3 qb0 qb1 qb2 qb3 qc0 qc1 qc2 qc3 | with_reducible exact sv3 ((((((((((Kp.refl wP_13).drew.step hbG_0).step hbG_1).step hbG_2).step hbG_3).step hbG_4).step hbG_5).step hbG_6).step hbG_7).step hbG_8) qa0 qa1 qa2 qa3 qb0 qb1 qb2 qb3 qc0 qc1 qc2 qc3 | with_reducible exact sv3 (((((((((Kp.refl wP_13).drew.step hbG_0).step hbG_1).step hbG_2).step hbG_3).step hbG_4).step hbG_5).step hbG_6).step hbG_7) qa0 qa1 qa2 qa3 qb0 qb1 qb2 qb3 qc0 qc1 qc2 qc3 | with_reducible exact sv3 ((((((((Kp.refl wP_13).drew.step hbG_0).step hbG_1).step hbG_2).step hbG_3).step hbG_4).step hbG_5).step hbG_6) qa0 qa1 qa2 qa3 qb0 qb1 qb2 qb3 qc0 qc1 qc2 qc3 | with_reducible exact sv3 (((((((Kp.refl wP_13).drew.step hbG_0).step hbG_1).step hbG_2).step hbG_3).step hbG_4).step hbG_5) qa0 qa1 qa2 qa3 qb0 qb1 qb2 qb3 qc0 qc1 qc2 qc3 | with_reducible exact sv3 ((((((Kp.refl wP_13).drew.step hbG_0).step hbG_1).step hbG_2).step hbG_3).step hbG_4) qa0 qa1 qa2 qa3 qb0 qb1 qb2 qb3 qc0 qc1 qc2 qc3 | with_reducible exact sv3 (((((Kp.refl wP_13).drew.step hbG_0).step hbG_1).step hbG_2).step hbG_3) qa0 qa1 qa2 qa3 qb0 qb1 qb2 qb3 qc0 qc1 qc2 qc3 | with_reducible exact sv3 ((((Kp.refl wP_13).drew.step hbG_0).step hbG_1).step hbG_2) qa0 qa1 qa2 qa3 qb0 qb1 qb2 qb3 qc0 qc1 qc2 qc3 | with_reducible exact sv3 (((Kp.refl wP_13).drew.step hbG_0).step hbG_1) qa0 qa1 qa2 qa3 qb0 qb1 qb2 qb3 qc0 qc1 qc2 qc3 | with_reducible exact sv3 ((Kp.refl wP_13).drew.step hbG_0) qa0 qa1 qa2 qa3 qb0 qb1 qb2 qb3 qc0 qc1 qc2 qc3 | with_reducible exact sv3 (Kp.refl wP_13).drew qa0 qa1 qa2 qa3 qb0 qb1 qb2 qb3 qc0 qc1 qc2 qc3)
    (first
      | (go_at_call 11; ((with_reducible refine (HC14.out _ ?hq).mono ?_); (case hq => exact (((((((((((((((Kp.refl wP_13).drew.step hbG_0).step hbG_1).step hbG_2).step hbG_3).step hbG_4).step hbG_5).step hbG_6).step hbG_7).step hbG_8).step hbG_9).step hbG_10).step hbG_11).step hbG_12).step hbG_13)); rintro x wG_14 ⟨rfl, hbG_14⟩))
      | (go_at_call 11; ((with_reducible refine (HC13.out _ ?hq).mono ?_); (case hq => exact ((((((((((((((Kp.refl wP_13).drew.step hbG_0).step hbG_1).step hbG_2).step hbG_3).step hbG_4).step hbG_5).step hbG_6).step hbG_7).step hbG_8).step hbG_9).step hbG_10).step hbG_11).step hbG_12)); rintro x wG_13 ⟨rfl, hbG_13⟩))
      | (go_at_call 11; ((with_reducible refine (HC12.out _ ?hq).mono ?_); (case hq => exact (((((((((((((Kp.refl wP_13).drew.step hbG_0).step hbG_1).step hbG_2).step hbG_3).step hbG_4).step hbG_5).step hbG_6).step hbG_7).step hbG_8).step hbG_9).step hbG_10).step hbG_11)); rintro x wG_12 ⟨rfl, hbG_12⟩))
      | (go_at_call 13; ((with_reducible refine (HC11.out _ ?hq _ ?ha0).mono ?_); (case hq => exact ((((((((((((Kp.refl wP_13).drew.step hbG_0).step hbG_1).step hbG_2).step hbG_3).step hbG_4).step hbG_5).step hbG_6).step hbG_7).step hbG_8).step hbG_9).step hbG_10)); (case ha0 => exact MG_10); rintro x wG_11 ⟨rfl, hbG_11⟩))
      | (go_at_call 12; ((with_reducible refine (HC10.out _ ?hq).mono ?_); (case hq => exact (((((((((((Kp.refl wP_13).drew.step hbG_0).step hbG_1).step hbG_2).step hbG_3).step hbG_4).step hbG_5).step hbG_6).step hbG_7).step hbG_8).step hbG_9)); rintro x wG_10 ⟨vG_10, rfl, MG_10, hbG_10⟩; obtain ⟨pG_10, nG_10, cG_10, eG_10, gG_10, rfl⟩ := NumB.form MG_10))
      | (go_at_call 11; ((with_reducible refine (HC9.out _ ?hq _ ?ha0).mono ?_); (case hq => exact ((((((((((Kp.refl wP_13).drew.step hbG_0).step hbG_1).step hbG_2).step hbG_3).step hbG_4).step hbG_5).step hbG_6).step hbG_7).step hbG_8)); (case ha0 => exact MG_8); rintro x wG_9 ⟨rfl, hbG_9⟩))
      | (go_at_call 15; ((with_reducible refine (HC8.out _ ?hq _ ?ha0).mono ?_); (case hq => exact (((((((((Kp.refl wP_13).drew.step hbG_0).step hbG_1).step hbG_2).step hbG_3).step hbG_4).step hbG_5).step hbG_6).step hbG_7)); (case ha0 => exact MG_7); rintro x wG_8 ⟨vG_8, rfl, MG_8, hbG_8⟩; obtain ⟨pG_8, nG_8, cG_8, eG_8, gG_8, rfl⟩ := NumB.form MG_8))
      | (go_at_call 15; ((with_reducible refine (HC7.out _ ?hq).mono ?_); (case hq => exact ((((((((Kp.refl wP_13).drew.step hbG_0).step hbG_1).step hbG_2).step hbG_3).step hbG_4).step hbG_5).step hbG_6)); rintro x wG_7 ⟨vG_7, rfl, MG_7, hbG_7⟩; obtain ⟨pG_7, nG_7, cG_7, eG_7, gG_7, rfl⟩ := NumB.form MG_7))
      | (go_at_call 13; ((with_reducible refine (HC6.out _ ?hq).mono ?_); (case hq => exact (((((((Kp.refl wP_13).drew.step hbG_0).step hbG_1).step hbG_2).step hbG_3).step hbG_4).step hbG_5)); rintro x wG_6 ⟨rfl, hbG_6⟩))
      | (go_at_call 13; ((with_reducible refine (HC5.out _ ?hq _ ?ha0).mono ?_); (case hq => exact ((((((Kp.refl wP_13).drew.step hbG_0).step hbG_1).step hbG_2).step hbG_3).step hbG_4)); (case ha0 => exact MG_4); rintro x wG_5 ⟨rfl, hbG_5⟩))
      | (go_at_call 15; ((with_reducible refine (HC4.out _ ?hq).mono ?_); (case hq => exact (((((Kp.refl wP_13).drew.step hbG_0).step hbG_1).step hbG_2).step hbG_3)); rintro x wG_4 ⟨vG_4, rfl, MG_4, hbG_4⟩; obtain ⟨pG_4, nG_4, cG_4, eG_4, gG_4, rfl⟩ := NumB.form MG_4))
      | (go_at_call 13; ((with_reducible refine (HC3.out _ ?hq).mono ?_); (case hq => exact ((((Kp.refl wP_13).drew.step hbG_0).step hbG_1).step hbG_2)); rintro x wG_3 ⟨rfl, hbG_3⟩))
      | (go_at_call 13; ((with_reducible refine (HC2.out _ ?hq).mono ?_); (case hq => exact (((Kp.refl wP_13).drew.step hbG_0).step hbG_1)); rintro x wG_2 ⟨rfl, hbG_2⟩))
      | (go_at_call 13; ((with_reducible refine (HC1.out _ ?hq _ ?ha0).mono ?_); (case hq => exact ((Kp.refl wP_13).drew.step hbG_0)); (case ha0 => exact MG_0); rintro x wG_1 ⟨rfl, hbG_1⟩))
      | (go_at_call 14; ((with_reducible refine (HC0.out _ ?hq).mono ?_); (case hq => exact (Kp.refl wP_13).drew); rintro x wG_0 ⟨vG_0, rfl, MG_0, hbG_0⟩; obtain ⟨pG_0, nG_0, cG_0, eG_0, gG_0, rfl⟩ := NumB.form MG_0)))
  have HT := Lib.hid (HT.out.keep ((((((((((((((((Kp.refl wP_13).drew.step hbG_0).step hbG_1).step hbG_2).step hbG_3).step hbG_4).step hbG_5).step hbG_6).step hbG_7).step hbG_8).step hbG_9).step hbG_10).step hbG_11).step hbG_12).step hbG_13).step hbG_14).out)
  have HW := Lib.hid (bl_pack HW.out HW.out.size ((((((((((((((((Kp.refl wP_13).drew.step hbG_0).step hbG_1).step hbG_2).step hbG_3).step hbG_4).step hbG_5).step hbG_6).step hbG_7).step hbG_8).step hbG_9).step hbG_10).step hbG_11).step hbG_12).step hbG_13).step hbG_14).out)
  have Na := Lib.hid (Na.out.keep ((((((((((((((((Kp.refl wP_13).drew.step hbG_0).step hbG_1).step hbG_2).step hbG_3).step hbG_4).step hbG_5).step hbG_6).step hbG_7).step hbG_8).step hbG_9).step hbG_10).step hbG_11).step hbG_12).step hbG_13).step hbG_14).out)
  have Nb := Lib.hid (Nb.out.keep ((((((((((((((((Kp.refl wP_13).drew.step hbG_0).step hbG_1).step hbG_2).step hbG_3).step hbG_4).step hbG_5).step hbG_6).step hbG_7).step hbG_8).step hbG_9).step hbG_10).step hbG_11).step hbG_12).step hbG_13).step hbG_14).out)
  have Nc := Lib.hid (Nc.out.keep ((((((((((((((((Kp.refl wP_13).drew.step hbG_0).step hbG_1).step hbG_2).step hbG_3).step hbG_4).step hbG_5).step hbG_6).step hbG_7).step hbG_8).step hbG_9).step hbG_10).step hbG_11).step hbG_12).step hbG_13).step hbG_14).out)
  have Ka := Lib.hid (keep_block ((((((((((((((((Kp.refl wP_13).drew.step hbG_0).step hbG_1).step hbG_2).step hbG_3).step hbG_4).step hbG_5).step hbG_6).step hbG_7).step hbG_8).step hbG_9).step hbG_10).step hbG_11).step hbG_12).step hbG_13).step hbG_14).out Ka.out)
  have Kb := Lib.hid (keep_block ((((((((((((((((Kp.refl wP_13).drew.step hbG_0).step hbG_1).step hbG_2).step hbG_3).step hbG_4).step hbG_5).step hbG_6).step hbG_7).step hbG_8).step hbG_9).step hbG_10).step hbG_11).step hbG_12).step hbG_13).step hbG_14).out Kb.out)
  have Kc := Lib.hid (keep_block ((((((((((((((((Kp.refl wP_13).drew.step hbG_0).step hbG_1).step hbG_2).step hbG_3).step hbG_4).step hbG_5).step hbG_6).step hbG_7).step hbG_8).step hbG_9).step hbG_10).step hbG_11).step hbG_12).step hbG_13).step hbG_14).out Kc.out)
  clear HC0 HC1 HC2 HC3 HC4 HC5 HC6 HC7 HC8 HC9 HC10 HC11 HC12 HC13 HC14 qa0 qa1 qa2 qa3 qb0 qb1 qb2 qb3 qc0 qc1 qc2 qc3
  obtain ⟨qa0, qa1, qa2, qa3, -, -, -, -⟩ := res4_facts Ka.out
  obtain ⟨qb0, qb1, qb2, qb3, -, -, -, -⟩ := res4_facts Kb.out
  obtain ⟨qc0, qc1, qc2, qc3, -, -, -, -⟩ := res4_facts Kc.out
  clear sab sna snd HA HB HD HAB HNA HND
  go_wp2_with fail
  have nq : IntKind.i64.wrap (-q) = -q := IntWalk.i64_in _ (by omega)
  have HQ1 := Lib.hid (show 2149 + q.natAbs ≤ 3149 by omega)
  have HQ2 := Lib.hid (show 3149 + (-q).natAbs ≤ 4149 by omega)
  have HQ3 := Lib.hid (show 2150 + q.natAbs ≤ 3150 by omega)
  have HE1 := Lib.hid (show rs (ra * (2 : Rat) ^ q * (2 : Rat) ^ (-q) - ra) = 0 from rs_eq.2 (by rw [Rat.mul_assoc, ← two_zpow_add, Int.add_right_neg, Rat.zpow_zero, Rat.mul_one]))
  have HE2 := Lib.hid (show rs (ra * (2 : Rat) ^ q + rb * (2 : Rat) ^ q - (ra + rb) * (2 : Rat) ^ q) = 0 from rs_eq.2 (by rw [Rat.add_mul]))
  have HE3 := Lib.hid (show rs (ra * ((1 : Int) : Rat) - ra) = 0 from rs_eq.2 (by rw [show ((1 : Int) : Rat) = 1 from rfl, Rat.mul_one]))
  clear hq1
  have HC0 := Lib.hid (fun (Y : World) (h' : Kp wG_14 Y) => shiftB 3149 (q) (Na.out.keep h'.out) (HT.out.keep h'.out) HQ1.out (by decide))
  have HC1 := Lib.hid (fun (Y : World) (h' : Kp wG_14 Y) (v0 : Value) (hv0 : NumB 0 Y v0 ((ra) * (2 : Rat) ^ (q)) 3149) => shiftB 4149 (-q) hv0 (HT.out.keep h'.out) HQ2.out (by decide))
  have HC2 := Lib.hid (fun (Y : World) (h' : Kp wG_14 Y) (v0 : Value) (hv0 : NumB 0 Y v0 (((ra) * (2 : Rat) ^ (q)) * (2 : Rat) ^ (-q)) 4149) => cmpBn (0) hv0 (Na.out.keep h'.out) (HT.out.keep h'.out) (by decide) (by decide) HE1.out)
  have HC3 := Lib.hid (fun (Y : World) (h' : Kp wG_14 Y) => shiftB 3149 (q) (Na.out.keep h'.out) (HT.out.keep h'.out) HQ1.out (by decide))
  have HC4 := Lib.hid (fun (Y : World) (h' : Kp wG_14 Y) => shiftB 3149 (q) (Nb.out.keep h'.out) (HT.out.keep h'.out) HQ1.out (by decide))
  have HC5 := Lib.hid (fun (Y : World) (h' : Kp wG_14 Y) (v0 : Value) (hv0 : NumB 0 Y v0 ((ra) * (2 : Rat) ^ (q)) 3149) (v1 : Value) (hv1 : NumB 0 Y v1 ((rb) * (2 : Rat) ^ (q)) 3149) => addB 3150 hv0 hv1 (HT.out.keep h'.out) (by decide) (by decide) (by decide))
  have HC6 := Lib.hid (fun (Y : World) (h' : Kp wG_14 Y) => addB 2150 (Na.out.keep h'.out) (Nb.out.keep h'.out) (HT.out.keep h'.out) (by decide) (by decide) (by decide))
  have HC7 := Lib.hid (fun (Y : World) (h' : Kp wG_14 Y) (v0 : Value) (hv0 : NumB 0 Y v0 (ra + rb) 2150) => shiftB 3150 (q) hv0 (HT.out.keep h'.out) HQ3.out (by decide))
  have HC8 := Lib.hid (fun (Y : World) (h' : Kp wG_14 Y) (v0 : Value) (hv0 : NumB 0 Y v0 (((ra) * (2 : Rat) ^ (q)) + ((rb) * (2 : Rat) ^ (q))) 3150) (v1 : Value) (hv1 : NumB 0 Y v1 ((ra + rb) * (2 : Rat) ^ (q)) 3150) => cmpBn (0) hv0 hv1 (HT.out.keep h'.out) (by decide) (by decide) HE2.out)
  have HC9 := Lib.hid (fun (Y : World) (h' : Kp wG_14 Y) => intB (1) (by decide) (by decide) (HT.out.keep h'.out))
  have HC10 := Lib.hid (fun (Y : World) (h' : Kp wG_14 Y) (v0 : Value) (hv0 : NumB 0 Y v0 (((1 : Int) : Rat)) 64) => mulB 2213 (Na.out.keep h'.out) hv0 (HT.out.keep h'.out) (by decide) (by decide))
  have HC11 := Lib.hid (fun (Y : World) (h' : Kp wG_14 Y) (v0 : Value) (hv0 : NumB 0 Y v0 (ra * (((1 : Int) : Rat))) 2213) => cmpBn (0) hv0 (Na.out.keep h'.out) (HT.out.keep h'.out) (by decide) (by decide) HE3.out)
  have HC12 := Lib.hid (fun (Y : World) (h' : Kp wG_14 Y) => okB (Na.out.keep h'.out))
  go_region_held3 (fun w' => w'.cell? ⟨w2.heap.size, 0, none⟩ = some (.slice pa na ca) ∧ w'.cell? ⟨w2.heap.size, 1, none⟩ = some (.int .i64 ea) ∧ w'.cell? ⟨w2.heap.size, 2, none⟩ = some (.bool ga) ∧ w'.cell? ⟨w2.heap.size, 3, none⟩ = some (.bool false) ∧ w'.cell? ⟨w3.heap.size, 0, none⟩ = some (.slice pb nb cb) ∧ w'.cell? ⟨w3.heap.size, 1, none⟩ = some (.int .i64 eb) ∧ w'.cell? ⟨w3.heap.size, 2, none⟩ = some (.bool gb) ∧ w'.cell? ⟨w3.heap.size, 3, none⟩ = some (.bool false) ∧ w'.cell? ⟨w4.heap.size, 0, none⟩ = some (.slice pc nc cc) ∧ w'.cell? ⟨w4.heap.size, 1, none⟩ = some (.int .i64 ec) ∧ w'.cell? ⟨w4.heap.size, 2, none⟩ = some (.bool gc) ∧ w'.cell? ⟨w4.heap.size, 3, none⟩ = some (.bool false) ∧ Kp wG_14 w')
    (first | with_reducible exact sv3 ((((((((((((((Kp.refl wG_14).drew.step hbL_0).step hbL_1).step hbL_2).step hbL_3).step hbL_4).step hbL_5).step hbL_6).step hbL_7).step hbL_8).step hbL_9).step hbL_10).step hbL_11).step hbL_12) qa0 qa1 qa2 qa3 qb0 qb1 qb2 qb3 qc0 qc1 qc2 qc3 | with_reducible exact sv3 (((((((((((((Kp.refl wG_14).drew.step hbL_0).step hbL_1).step hbL_2).step hbL_3).step hbL_4).step hbL_5).step hbL_6).step hbL_7).step hbL_8).step hbL_9).step hbL_10).step hbL_11) qa0 qa1 qa2 qa3 qb0 qb1 qb2 qb3 qc0 qc1 qc2 qc3 | with_reducible exact sv3 ((((((((((((Kp.refl wG_14).drew.step hbL_0).step hbL_1).step hbL_2).step hbL_3).step hbL_4).step hbL_5).step hbL_6).step hbL_7).step hbL_8).step hbL_9).step hbL_10) qa0 qa1 qa2 qa3 qb0 qb1 qb2 qb3 qc0 qc1 qc2 qc3 | with_reducible exact sv3 (((((((((((Kp.refl wG_14).drew.step hbL_0).step hbL_1).step hbL_2).step hbL_3).step hbL_4).step hbL_5).step hbL_6).step hbL_7).step hbL_8).step hbL_9) qa0 qa1 qa2 qa3 qb0 qb1 qb2 qb3 qc0 qc1 qc2 qc3 | with_reducible exact sv3 ((((((((((Kp.refl wG_14).drew.step hbL_0).step hbL_1).step hbL_2).step hbL_3).step hbL_4).step hbL_5).step hbL_6).step hbL_7).step hbL_8) qa0 qa1 qa2 qa3 qb0 qb1 qb2 qb3 qc0 qc1 qc2 qc3 | with_reducible exact sv3 (((((((((Kp.refl wG_14).drew.step hbL_0).step hbL_1).step hbL_2).step hbL_3).step hbL_4).step hbL_5).step hbL_6).step hbL_7) qa0 qa1 qa2 qa3 qb0 qb1 qb2 qb3 qc0 qc1 qc2 qc3 | with_reducible exact sv3 ((((((((Kp.refl wG_14).drew.step hbL_0).step hbL_1).step hbL_2).step hbL_3).step hbL_4).step hbL_5).step hbL_6) qa0 qa1 qa2 qa3 qb0 qb1 qb2 qb3 qc0 qc1 qc2 qc3 | with_reducible exact sv3 (((((((Kp.refl wG_14).drew.step hbL_0).step hbL_1).step hbL_2).step hbL_3).step hbL_4).step hbL_5) qa0 qa1 qa2 qa3 qb0 qb1 qb2 qb3 qc0 qc1 qc2 qc3 | with_reducible exact sv3 ((((((Kp.refl wG_14).drew.step hbL_0).step hbL_1).step hbL_2).step hbL_3).step hbL_4) qa0 qa1 qa2 qa3 qb0 qb1 qb2 qb3 qc0 qc1 qc2 qc3 | with_reducible exact sv3 (((((Kp.refl wG_14).drew.step hbL_0).step hbL_1).step hbL_2).step hbL_3) qa0 qa1 qa2 qa3 qb0 qb1 qb2 qb3 qc0 qc1 qc2 qc3 | with_reducible exact sv3 ((((Kp.refl wG_14).drew.step hbL_0).step hbL_1).step hbL_2) qa0 qa1 qa2 qa3 qb0 qb1 qb2 qb3 qc0 qc1 qc2 qc3 | with_reducible exact sv3 (((Kp.refl wG_14).drew.step hbL_0).step hbL_1) qa0 qa1 qa2 qa3 qb0 qb1 qb2 qb3 qc0 qc1 qc2 qc3 | with_reducible exact sv3 ((Kp.refl wG_14).drew.step hbL_0) qa0 qa1 qa2 qa3 qb0 qb1 qb2 qb3 qc0 qc1 qc2 qc3 | with_reducible exact sv3 (Kp.refl wG_14).drew qa0 qa1 qa2 qa3 qb0 qb1 qb2 qb3 qc0 qc1 qc2 qc3)
    (first
      | (go_at_call 18; ((with_reducible refine (HC12.out _ ?hq).mono ?_); (case hq => exact (((((((((((((Kp.refl wG_14).drew.step hbL_0).step hbL_1).step hbL_2).step hbL_3).step hbL_4).step hbL_5).step hbL_6).step hbL_7).step hbL_8).step hbL_9).step hbL_10).step hbL_11)); rintro x wL_12 ⟨rfl, hbL_12⟩))
      | (go_at_call 11; ((with_reducible refine (HC11.out _ ?hq _ ?ha0).mono ?_); (case hq => exact ((((((((((((Kp.refl wG_14).drew.step hbL_0).step hbL_1).step hbL_2).step hbL_3).step hbL_4).step hbL_5).step hbL_6).step hbL_7).step hbL_8).step hbL_9).step hbL_10)); (case ha0 => exact ML_10); rintro x wL_11 ⟨rfl, hbL_11⟩))
      | (go_at_call 14; ((with_reducible refine (HC10.out _ ?hq _ ?ha0).mono ?_); (case hq => exact (((((((((((Kp.refl wG_14).drew.step hbL_0).step hbL_1).step hbL_2).step hbL_3).step hbL_4).step hbL_5).step hbL_6).step hbL_7).step hbL_8).step hbL_9)); (case ha0 => exact ML_9); rintro x wL_10 ⟨vL_10, rfl, ML_10, hbL_10⟩; obtain ⟨pL_10, nL_10, cL_10, eL_10, gL_10, rfl⟩ := NumB.form ML_10))
      | (go_at_call 17; ((with_reducible refine (HC9.out _ ?hq).mono ?_); (case hq => exact ((((((((((Kp.refl wG_14).drew.step hbL_0).step hbL_1).step hbL_2).step hbL_3).step hbL_4).step hbL_5).step hbL_6).step hbL_7).step hbL_8)); rintro x wL_9 ⟨vL_9, rfl, ML_9, hbL_9⟩; obtain ⟨pL_9, nL_9, cL_9, eL_9, gL_9, rfl⟩ := NumB.form ML_9))
      | (go_at_call 11; ((with_reducible refine (HC8.out _ ?hq _ ?ha0 _ ?ha1).mono ?_); (case hq => exact (((((((((Kp.refl wG_14).drew.step hbL_0).step hbL_1).step hbL_2).step hbL_3).step hbL_4).step hbL_5).step hbL_6).step hbL_7)); (case ha0 => exact (NumB.keep (NumB.keep ML_5 hbL_6) hbL_7)); (case ha1 => exact ML_7); rintro x wL_8 ⟨rfl, hbL_8⟩))
      | (go_at_call 16; ((with_reducible refine (HC7.out _ ?hq _ ?ha0).mono ?_); (case hq => exact ((((((((Kp.refl wG_14).drew.step hbL_0).step hbL_1).step hbL_2).step hbL_3).step hbL_4).step hbL_5).step hbL_6)); (case ha0 => exact ML_6); rintro x wL_7 ⟨vL_7, rfl, ML_7, hbL_7⟩; obtain ⟨pL_7, nL_7, cL_7, eL_7, gL_7, rfl⟩ := NumB.form ML_7))
      | (go_at_call 10; ((with_reducible refine (HC6.out _ ?hq).mono ?_); (case hq => exact (((((((Kp.refl wG_14).drew.step hbL_0).step hbL_1).step hbL_2).step hbL_3).step hbL_4).step hbL_5)); rintro x wL_6 ⟨vL_6, rfl, ML_6, hbL_6⟩; obtain ⟨pL_6, nL_6, cL_6, eL_6, gL_6, rfl⟩ := NumB.form ML_6))
      | (go_at_call 10; ((with_reducible refine (HC5.out _ ?hq _ ?ha0 _ ?ha1).mono ?_); (case hq => exact ((((((Kp.refl wG_14).drew.step hbL_0).step hbL_1).step hbL_2).step hbL_3).step hbL_4)); (case ha0 => exact (NumB.keep ML_3 hbL_4)); (case ha1 => exact ML_4); rintro x wL_5 ⟨vL_5, rfl, ML_5, hbL_5⟩; obtain ⟨pL_5, nL_5, cL_5, eL_5, gL_5, rfl⟩ := NumB.form ML_5))
      | (go_at_call 16; ((with_reducible refine (HC4.out _ ?hq).mono ?_); (case hq => exact (((((Kp.refl wG_14).drew.step hbL_0).step hbL_1).step hbL_2).step hbL_3)); rintro x wL_4 ⟨vL_4, rfl, ML_4, hbL_4⟩; obtain ⟨pL_4, nL_4, cL_4, eL_4, gL_4, rfl⟩ := NumB.form ML_4))
      | (go_at_call 16; ((with_reducible refine (HC3.out _ ?hq).mono ?_); (case hq => exact ((((Kp.refl wG_14).drew.step hbL_0).step hbL_1).step hbL_2)); rintro x wL_3 ⟨vL_3, rfl, ML_3, hbL_3⟩; obtain ⟨pL_3, nL_3, cL_3, eL_3, gL_3, rfl⟩ := NumB.form ML_3))
      | (go_at_call 11; ((with_reducible refine (HC2.out _ ?hq _ ?ha0).mono ?_); (case hq => exact (((Kp.refl wG_14).drew.step hbL_0).step hbL_1)); (case ha0 => exact ML_1); rintro x wL_2 ⟨rfl, hbL_2⟩))
      | (go_at_call 16; ((with_reducible refine (HC1.out _ ?hq _ ?ha0).mono ?_); (case hq => exact ((Kp.refl wG_14).drew.step hbL_0)); (case ha0 => exact ML_0); rintro x wL_1 ⟨vL_1, rfl, ML_1, hbL_1⟩; obtain ⟨pL_1, nL_1, cL_1, eL_1, gL_1, rfl⟩ := NumB.form ML_1))
      | (go_at_call 16; ((with_reducible refine (HC0.out _ ?hq).mono ?_); (case hq => exact (Kp.refl wG_14).drew); rintro x wL_0 ⟨vL_0, rfl, ML_0, hbL_0⟩; obtain ⟨pL_0, nL_0, cL_0, eL_0, gL_0, rfl⟩ := NumB.form ML_0)))
  have HT := Lib.hid (HT.out.keep ((((((((((((((Kp.refl wG_14).drew.step hbL_0).step hbL_1).step hbL_2).step hbL_3).step hbL_4).step hbL_5).step hbL_6).step hbL_7).step hbL_8).step hbL_9).step hbL_10).step hbL_11).step hbL_12).out)
  have HW := Lib.hid (bl_pack HW.out HW.out.size ((((((((((((((Kp.refl wG_14).drew.step hbL_0).step hbL_1).step hbL_2).step hbL_3).step hbL_4).step hbL_5).step hbL_6).step hbL_7).step hbL_8).step hbL_9).step hbL_10).step hbL_11).step hbL_12).out)
  have Na := Lib.hid (Na.out.keep ((((((((((((((Kp.refl wG_14).drew.step hbL_0).step hbL_1).step hbL_2).step hbL_3).step hbL_4).step hbL_5).step hbL_6).step hbL_7).step hbL_8).step hbL_9).step hbL_10).step hbL_11).step hbL_12).out)
  have Nb := Lib.hid (Nb.out.keep ((((((((((((((Kp.refl wG_14).drew.step hbL_0).step hbL_1).step hbL_2).step hbL_3).step hbL_4).step hbL_5).step hbL_6).step hbL_7).step hbL_8).step hbL_9).step hbL_10).step hbL_11).step hbL_12).out)
  have Nc := Lib.hid (Nc.out.keep ((((((((((((((Kp.refl wG_14).drew.step hbL_0).step hbL_1).step hbL_2).step hbL_3).step hbL_4).step hbL_5).step hbL_6).step hbL_7).step hbL_8).step hbL_9).step hbL_10).step hbL_11).step hbL_12).out)
  have Ka := Lib.hid (keep_block ((((((((((((((Kp.refl wG_14).drew.step hbL_0).step hbL_1).step hbL_2).step hbL_3).step hbL_4).step hbL_5).step hbL_6).step hbL_7).step hbL_8).step hbL_9).step hbL_10).step hbL_11).step hbL_12).out Ka.out)
  have Kb := Lib.hid (keep_block ((((((((((((((Kp.refl wG_14).drew.step hbL_0).step hbL_1).step hbL_2).step hbL_3).step hbL_4).step hbL_5).step hbL_6).step hbL_7).step hbL_8).step hbL_9).step hbL_10).step hbL_11).step hbL_12).out Kb.out)
  have Kc := Lib.hid (keep_block ((((((((((((((Kp.refl wG_14).drew.step hbL_0).step hbL_1).step hbL_2).step hbL_3).step hbL_4).step hbL_5).step hbL_6).step hbL_7).step hbL_8).step hbL_9).step hbL_10).step hbL_11).step hbL_12).out Kc.out)
  clear HC0 HC1 HC2 HC3 HC4 HC5 HC6 HC7 HC8 HC9 HC10 HC11 HC12 qa0 qa1 qa2 qa3 qb0 qb1 qb2 qb3 qc0 qc1 qc2 qc3
  obtain ⟨qa0, qa1, qa2, qa3, -, -, -, -⟩ := res4_facts Ka.out
  obtain ⟨qb0, qb1, qb2, qb3, -, -, -, -⟩ := res4_facts Kb.out
  obtain ⟨qc0, qc1, qc2, qc3, -, -, -, -⟩ := res4_facts Kc.out
  go_wp2_with fail
  go_ret
  exact ⟨rfl, HW.out⟩
end Go.Proofs.YtiiipgbfhcbjdaaDoor
