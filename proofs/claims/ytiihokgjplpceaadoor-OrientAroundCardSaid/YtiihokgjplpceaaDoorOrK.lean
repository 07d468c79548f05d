/- OrientTurns and OrientAround walked. (Printed by gen_OrK.py.) -/
import Derived.Test.YtiihokgjplpceaaDoorOrJ
namespace Go.Proofs.YtiihokgjplpceaaDoor
open Go.RowKit TV
set_option linter.unusedVariables false

set_option maxRecDepth 100000 in
set_option maxHeartbeats 8000000 in
theorem turns_walk {w : World} (ht : TabOk w) (ax ay bx bY cx cy : Nat) (hax : ax < 18446744073709551616) (hay : ay < 18446744073709551616) (hbx : bx < 18446744073709551616) (hby : bY < 18446744073709551616) (hcx : cx < 18446744073709551616) (hcy : cy < 18446744073709551616) :
    Calls Tryd.prog 6 #[.agg #[.float .f64 ax, .float .f64 ay], .agg #[.float .f64 bx, .float .f64 bY], .agg #[.float .f64 cx, .float .f64 cy]] w fun e w' => e = .returned (.bool true) ∧ Below w.heap.size w w' := by
  obtain ⟨S, hS⟩ : ∃ S, S = osg ax ay bx bY cx cy := ⟨_, rfl⟩
  have hb := osg_bound ax ay bx bY cx cy
  rw [← hS] at hb
  have e0 : osg ax ay bx bY cx cy = S := by rw [hS]
  have HS0 := Lib.hid (fun (W : World) (hT : TabOk W) => osign_calls hT ax ay bx bY cx cy hax hay hbx hby hcx hcy)
  rw [e0] at HS0
  have e1 : osg bx bY cx cy ax ay = S := by rw [osg_rot, hS]
  have HS1 := Lib.hid (fun (W : World) (hT : TabOk W) => osign_calls hT bx bY cx cy ax ay hbx hby hcx hcy hax hay)
  rw [e1] at HS1
  have e2 : osg cx cy ax ay bx bY = S := by rw [← osg_rot, hS]
  have HS2 := Lib.hid (fun (W : World) (hT : TabOk W) => osign_calls hT cx cy ax ay bx bY hcx hcy hax hay hbx hby)
  rw [e2] at HS2
  have e3 : osg bx bY ax ay cx cy = -S := by rw [osg_swap, hS]
  have HS3 := Lib.hid (fun (W : World) (hT : TabOk W) => osign_calls hT bx bY ax ay cx cy hbx hby hax hay hcx hcy)
  rw [e3] at HS3
  have e4 : osg ax ay cx cy bx bY = -S := by rw [osg_swap2, hS]
  have HS4 := Lib.hid (fun (W : World) (hT : TabOk W) => osign_calls hT ax ay cx cy bx bY hax hay hcx hcy hbx hby)
  rw [e4] at HS4
  have e5 : osg cx cy bx bY ax ay = -S := by rw [osg_swap3, hS]
  have HS5 := Lib.hid (fun (W : World) (hT : TabOk W) => osign_calls hT cx cy bx bY ax ay hcx hcy hbx hby hax hay)
  rw [e5] at HS5
  have e6 : osg ax ay ax ay bx bY = 0 := by rw [osg_same]
  have HS6 := Lib.hid (fun (W : World) (hT : TabOk W) => osign_calls hT ax ay ax ay bx bY hax hay hax hay hbx hby)
  rw [e6] at HS6
  obtain ⟨wn, hwn, HW0, hsz, k0, k1, k2⟩ := box_3 w (.cells #[.float .f64 ax, .float .f64 ay] 24) (.cells #[.float .f64 bx, .float .f64 bY] 24) (.cells #[.float .f64 cx, .float .f64 cy] 24)
  have q0x : wn.cell? ⟨w.heap.size, 0, none⟩ = some (.float .f64 ax) := cell_of_block k0 0
  have q0y : wn.cell? ⟨w.heap.size, 1, none⟩ = some (.float .f64 ay) := cell_of_block k0 1
  have q1x : wn.cell? ⟨w.heap.size + 1, 0, none⟩ = some (.float .f64 bx) := cell_of_block k1 0
  have q1y : wn.cell? ⟨w.heap.size + 1, 1, none⟩ = some (.float .f64 bY) := cell_of_block k1 1
  have q2x : wn.cell? ⟨w.heap.size + 1 + 1, 0, none⟩ = some (.float .f64 cx) := cell_of_block k2 0
  have q2y : wn.cell? ⟨w.heap.size + 1 + 1, 1, none⟩ = some (.float .f64 cy) := cell_of_block k2 1
  have HT := Lib.hid (ht.keep HW0)
  have HW := Lib.hid HW0
  have HAW := Lib.hid (fun (W : World) (hT : TabOk W) => awake_calls hT)
  have hc : S = -1 ∨ S = 0 ∨ S = 1 := by omega
  clear e0 e1 e2 e3 e4 e5 e6 k0 k1 k2 hsz HW0 hS hb ht hax hay hbx hby hcx hcy
  rcases hc with rfl | rfl | rfl
  all_goals
    go_enter Tryd.func6, Tryd.ntmps6
    go_wp2_with fail
    rw [← hwn]
    clear hwn
    refine (HS0.out _ HT.out).mono ?_
    rintro _ w1 ⟨rfl, b1⟩
    have HT := Lib.hid (HT.out.keep b1)
    have HW := Lib.hid (bl_pack HW.out HW.out.size b1)
    have q0x := keep_cell b1 q0x
    have q0y := keep_cell b1 q0y
    have q1x := keep_cell b1 q1x
    have q1y := keep_cell b1 q1y
    have q2x := keep_cell b1 q2x
    have q2y := keep_cell b1 q2y
    clear b1
    go_wp2_with fail
    refine (HS1.out _ HT.out).mono ?_
    rintro _ w2 ⟨rfl, b2⟩
    have HT := Lib.hid (HT.out.keep b2)
    have HW := Lib.hid (bl_pack HW.out HW.out.size b2)
    have q0x := keep_cell b2 q0x
    have q0y := keep_cell b2 q0y
    have q1x := keep_cell b2 q1x
    have q1y := keep_cell b2 q1y
    have q2x := keep_cell b2 q2x
    have q2y := keep_cell b2 q2y
    clear b2
    go_wp2_with fail
    refine (HS2.out _ HT.out).mono ?_
    rintro _ w3 ⟨rfl, b3⟩
    have HT := Lib.hid (HT.out.keep b3)
    have HW := Lib.hid (bl_pack HW.out HW.out.size b3)
    have q0x := keep_cell b3 q0x
    have q0y := keep_cell b3 q0y
    have q1x := keep_cell b3 q1x
    have q1y := keep_cell b3 q1y
    have q2x := keep_cell b3 q2x
    have q2y := keep_cell b3 q2y
    clear b3
    go_wp2_with fail
    refine (HS3.out _ HT.out).mono ?_
    rintro _ w4 ⟨rfl, b4⟩
    have HT := Lib.hid (HT.out.keep b4)
    have HW := Lib.hid (bl_pack HW.out HW.out.size b4)
    have q0x := keep_cell b4 q0x
    have q0y := keep_cell b4 q0y
    have q1x := keep_cell b4 q1x
    have q1y := keep_cell b4 q1y
    have q2x := keep_cell b4 q2x
    have q2y := keep_cell b4 q2y
    clear b4
    go_wp2_with fail
    refine (HS4.out _ HT.out).mono ?_
    rintro _ w5 ⟨rfl, b5⟩
    have HT := Lib.hid (HT.out.keep b5)
    have HW := Lib.hid (bl_pack HW.out HW.out.size b5)
    have q0x := keep_cell b5 q0x
    have q0y := keep_cell b5 q0y
    have q1x := keep_cell b5 q1x
    have q1y := keep_cell b5 q1y
    have q2x := keep_cell b5 q2x
    have q2y := keep_cell b5 q2y
    clear b5
    go_wp2_with fail
    refine (HS5.out _ HT.out).mono ?_
    rintro _ w6 ⟨rfl, b6⟩
    have HT := Lib.hid (HT.out.keep b6)
    have HW := Lib.hid (bl_pack HW.out HW.out.size b6)
    have q0x := keep_cell b6 q0x
    have q0y := keep_cell b6 q0y
    have q1x := keep_cell b6 q1x
    have q1y := keep_cell b6 q1y
    have q2x := keep_cell b6 q2x
    have q2y := keep_cell b6 q2y
    clear b6
    go_wp2_with fail
    refine (HS6.out _ HT.out).mono ?_
    rintro _ w7 ⟨rfl, b7⟩
    have HT := Lib.hid (HT.out.keep b7)
    have HW := Lib.hid (bl_pack HW.out HW.out.size b7)
    have q0x := keep_cell b7 q0x
    have q0y := keep_cell b7 q0y
    have q1x := keep_cell b7 q1x
    have q1y := keep_cell b7 q1y
    have q2x := keep_cell b7 q2x
    have q2y := keep_cell b7 q2y
    clear b7
    go_wp2_with fail
    refine (HAW.out _ HT.out).mono ?_
    rintro _ w8 ⟨rfl, b8⟩
    have HT := Lib.hid (HT.out.keep b8)
    have HW := Lib.hid (bl_pack HW.out HW.out.size b8)
    have q0x := keep_cell b8 q0x
    have q0y := keep_cell b8 q0y
    have q1x := keep_cell b8 q1x
    have q1y := keep_cell b8 q1y
    have q2x := keep_cell b8 q2x
    have q2y := keep_cell b8 q2y
    clear b8
    go_wp2_with fail
    go_ret
    exact ⟨rfl, HW.out⟩
set_option maxRecDepth 100000 in
set_option maxHeartbeats 8000000 in
theorem around_walk {w : World} (ht : TabOk w) (px py qx qy rx ry sx sy tx ty : Nat) (hpx : px < 18446744073709551616) (hpy : py < 18446744073709551616) (hqx : qx < 18446744073709551616) (hqy : qy < 18446744073709551616) (hrx : rx < 18446744073709551616) (hry : ry < 18446744073709551616) (hsx : sx < 18446744073709551616) (hsy : sy < 18446744073709551616) (htx : tx < 18446744073709551616) (hty : ty < 18446744073709551616) :
    Calls Tryd.prog 7 #[.agg #[.float .f64 px, .float .f64 py], .agg #[.float .f64 qx, .float .f64 qy], .agg #[.float .f64 rx, .float .f64 ry], .agg #[.float .f64 sx, .float .f64 sy], .agg #[.float .f64 tx, .float .f64 ty]] w fun e w' => e = .returned (.bool true) ∧ Below w.heap.size w w' := by
  have HA0 := Lib.hid (fun (W : World) (hT : TabOk W) => left_calls hT tx ty qx qy rx ry htx hty hqx hqy hrx hry)
  have HA1 := Lib.hid (fun (W : World) (hT : TabOk W) => left_calls hT px py tx ty rx ry hpx hpy htx hty hrx hry)
  have HA2 := Lib.hid (fun (W : World) (hT : TabOk W) => left_calls hT px py qx qy tx ty hpx hpy hqx hqy htx hty)
  have HA3 := Lib.hid (fun (W : World) (hT : TabOk W) => left_calls hT px py qx qy rx ry hpx hpy hqx hqy hrx hry)
  have HB0 := Lib.hid (fun (W : World) (hT : TabOk W) => left_calls hT tx ty sx sy px py htx hty hsx hsy hpx hpy)
  have HB1 := Lib.hid (fun (W : World) (hT : TabOk W) => left_calls hT tx ty sx sy qx qy htx hty hsx hsy hqx hqy)
  have HB2 := Lib.hid (fun (W : World) (hT : TabOk W) => left_calls hT tx ty sx sy rx ry htx hty hsx hsy hrx hry)
  have HB3 := Lib.hid (fun (W : World) (hT : TabOk W) => left_calls hT tx ty px py qx qy htx hty hpx hpy hqx hqy)
  have HB4 := Lib.hid (fun (W : World) (hT : TabOk W) => left_calls hT tx ty qx qy rx ry htx hty hqx hqy hrx hry)
  have HB5 := Lib.hid (fun (W : World) (hT : TabOk W) => left_calls hT tx ty px py rx ry htx hty hpx hpy hrx hry)
  have fa := @around_one px py qx qy rx ry tx ty
  have fb := @around_two px py qx qy rx ry sx sy tx ty
  obtain ⟨A0, hA0⟩ : ∃ d, d = decide (0 < osg tx ty qx qy rx ry) := ⟨_, rfl⟩
  rw [← hA0] at HA0
  obtain ⟨A1, hA1⟩ : ∃ d, d = decide (0 < osg px py tx ty rx ry) := ⟨_, rfl⟩
  rw [← hA1] at HA1
  obtain ⟨A2, hA2⟩ : ∃ d, d = decide (0 < osg px py qx qy tx ty) := ⟨_, rfl⟩
  rw [← hA2] at HA2
  obtain ⟨A3, hA3⟩ : ∃ d, d = decide (0 < osg px py qx qy rx ry) := ⟨_, rfl⟩
  rw [← hA3] at HA3
  obtain ⟨B0, hB0⟩ : ∃ d, d = decide (0 < osg tx ty sx sy px py) := ⟨_, rfl⟩
  rw [← hB0] at HB0
  obtain ⟨B1, hB1⟩ : ∃ d, d = decide (0 < osg tx ty sx sy qx qy) := ⟨_, rfl⟩
  rw [← hB1] at HB1
  obtain ⟨B2, hB2⟩ : ∃ d, d = decide (0 < osg tx ty sx sy rx ry) := ⟨_, rfl⟩
  rw [← hB2] at HB2
  obtain ⟨B3, hB3⟩ : ∃ d, d = decide (0 < osg tx ty px py qx qy) := ⟨_, rfl⟩
  rw [← hB3] at HB3
  obtain ⟨B4, hB4⟩ : ∃ d, d = decide (0 < osg tx ty qx qy rx ry) := ⟨_, rfl⟩
  rw [← hB4] at HB4
  obtain ⟨B5, hB5⟩ : ∃ d, d = decide (0 < osg tx ty px py rx ry) := ⟨_, rfl⟩
  rw [← hB5] at HB5
  have ga : A0 = true → A1 = true → A2 = true → A3 = true := by rw [hA0, hA1, hA2, hA3]; intro x y z; exact decide_eq_true (fa (of_decide_eq_true x) (of_decide_eq_true y) (of_decide_eq_true z))
  have gb : B0 = true → B1 = true → B2 = true → B3 = true → B4 = true → B5 = true := by rw [hB0, hB1, hB2, hB3, hB4, hB5]; intro x y z u v; exact decide_eq_true (fb (of_decide_eq_true x) (of_decide_eq_true y) (of_decide_eq_true z) (of_decide_eq_true u) (of_decide_eq_true v))
  obtain ⟨wn, hwn, HW0, hsz, k0, k1, k2, k3, k4⟩ := box_5 w (.cells #[.float .f64 px, .float .f64 py] 24) (.cells #[.float .f64 qx, .float .f64 qy] 24) (.cells #[.float .f64 rx, .float .f64 ry] 24) (.cells #[.float .f64 sx, .float .f64 sy] 24) (.cells #[.float .f64 tx, .float .f64 ty] 24)
  have q0x : wn.cell? ⟨w.heap.size, 0, none⟩ = some (.float .f64 px) := cell_of_block k0 0
  have q0y : wn.cell? ⟨w.heap.size, 1, none⟩ = some (.float .f64 py) := cell_of_block k0 1
  have q1x : wn.cell? ⟨w.heap.size + 1, 0, none⟩ = some (.float .f64 qx) := cell_of_block k1 0
  have q1y : wn.cell? ⟨w.heap.size + 1, 1, none⟩ = some (.float .f64 qy) := cell_of_block k1 1
  have q2x : wn.cell? ⟨w.heap.size + 1 + 1, 0, none⟩ = some (.float .f64 rx) := cell_of_block k2 0
  have q2y : wn.cell? ⟨w.heap.size + 1 + 1, 1, none⟩ = some (.float .f64 ry) := cell_of_block k2 1
  have q3x : wn.cell? ⟨w.heap.size + 1 + 1 + 1, 0, none⟩ = some (.float .f64 sx) := cell_of_block k3 0
  have q3y : wn.cell? ⟨w.heap.size + 1 + 1 + 1, 1, none⟩ = some (.float .f64 sy) := cell_of_block k3 1
  have q4x : wn.cell? ⟨w.heap.size + 1 + 1 + 1 + 1, 0, none⟩ = some (.float .f64 tx) := cell_of_block k4 0
  have q4y : wn.cell? ⟨w.heap.size + 1 + 1 + 1 + 1, 1, none⟩ = some (.float .f64 ty) := cell_of_block k4 1
  have HT := Lib.hid (ht.keep HW0)
  have HW := Lib.hid HW0
  have GA := Lib.hid ga
  have GB := Lib.hid gb
  have HAW := Lib.hid (fun (W : World) (hT : TabOk W) => awake_calls hT)
  clear ga gb fa fb hA0 hA1 hA2 hA3 hB0 hB1 hB2 hB3 hB4 hB5 k0 k1 k2 k3 k4 hsz HW0 ht hpx hpy hqx hqy hrx hry hsx hsy htx hty
  go_enter Tryd.func7, Tryd.ntmps7
  go_upto_region 1 with (fail)
  rw [← hwn]
  clear hwn
  go_cut [33] (fun g wx => g = .bool false ∧ wx.cell? ⟨w.heap.size, 0, none⟩ = some (.float .f64 px) ∧ wx.cell? ⟨w.heap.size, 1, none⟩ = some (.float .f64 py) ∧ wx.cell? ⟨w.heap.size + 1, 0, none⟩ = some (.float .f64 qx) ∧ wx.cell? ⟨w.heap.size + 1, 1, none⟩ = some (.float .f64 qy) ∧ wx.cell? ⟨w.heap.size + 1 + 1, 0, none⟩ = some (.float .f64 rx) ∧ wx.cell? ⟨w.heap.size + 1 + 1, 1, none⟩ = some (.float .f64 ry) ∧ wx.cell? ⟨w.heap.size + 1 + 1 + 1, 0, none⟩ = some (.float .f64 sx) ∧ wx.cell? ⟨w.heap.size + 1 + 1 + 1, 1, none⟩ = some (.float .f64 sy) ∧ wx.cell? ⟨w.heap.size + 1 + 1 + 1 + 1, 0, none⟩ = some (.float .f64 tx) ∧ wx.cell? ⟨w.heap.size + 1 + 1 + 1 + 1, 1, none⟩ = some (.float .f64 ty) ∧ Hid (TabOk wx) ∧ Hid (Below w.heap.size w wx))
  case first =>
    go_wp2_with fail
    refine (HA0.out _ HT.out).mono ?_
    rintro _ wA0 ⟨rfl, b0⟩
    have HT := Lib.hid (HT.out.keep b0)
    have HW := Lib.hid (bl_pack HW.out HW.out.size b0)
    have q0x := keep_cell b0 q0x
    have q0y := keep_cell b0 q0y
    have q1x := keep_cell b0 q1x
    have q1y := keep_cell b0 q1y
    have q2x := keep_cell b0 q2x
    have q2y := keep_cell b0 q2y
    have q3x := keep_cell b0 q3x
    have q3y := keep_cell b0 q3y
    have q4x := keep_cell b0 q4x
    have q4y := keep_cell b0 q4y
    clear b0
    cases A0 with
    | false =>
      go_wp2_with fail
      go_meet
      exact ⟨rfl, q0x, q0y, q1x, q1y, q2x, q2y, q3x, q3y, q4x, q4y, HT, HW⟩
    | true =>
      go_wp2_with fail
      refine (HA1.out _ HT.out).mono ?_
      rintro _ wA1 ⟨rfl, b1⟩
      have HT := Lib.hid (HT.out.keep b1)
      have HW := Lib.hid (bl_pack HW.out HW.out.size b1)
      have q0x := keep_cell b1 q0x
      have q0y := keep_cell b1 q0y
      have q1x := keep_cell b1 q1x
      have q1y := keep_cell b1 q1y
      have q2x := keep_cell b1 q2x
      have q2y := keep_cell b1 q2y
      have q3x := keep_cell b1 q3x
      have q3y := keep_cell b1 q3y
      have q4x := keep_cell b1 q4x
      have q4y := keep_cell b1 q4y
      clear b1
      cases A1 with
      | false =>
        go_wp2_with fail
        go_meet
        exact ⟨rfl, q0x, q0y, q1x, q1y, q2x, q2y, q3x, q3y, q4x, q4y, HT, HW⟩
      | true =>
        go_wp2_with fail
        refine (HA2.out _ HT.out).mono ?_
        rintro _ wA2 ⟨rfl, b2⟩
        have HT := Lib.hid (HT.out.keep b2)
        have HW := Lib.hid (bl_pack HW.out HW.out.size b2)
        have q0x := keep_cell b2 q0x
        have q0y := keep_cell b2 q0y
        have q1x := keep_cell b2 q1x
        have q1y := keep_cell b2 q1y
        have q2x := keep_cell b2 q2x
        have q2y := keep_cell b2 q2y
        have q3x := keep_cell b2 q3x
        have q3y := keep_cell b2 q3y
        have q4x := keep_cell b2 q4x
        have q4y := keep_cell b2 q4y
        clear b2
        cases A2 with
        | false =>
          go_wp2_with fail
          go_meet
          exact ⟨rfl, q0x, q0y, q1x, q1y, q2x, q2y, q3x, q3y, q4x, q4y, HT, HW⟩
        | true =>
          go_wp2_with fail
          refine (HA3.out _ HT.out).mono ?_
          rintro _ wA3 ⟨rfl, b3⟩
          have HT := Lib.hid (HT.out.keep b3)
          have HW := Lib.hid (bl_pack HW.out HW.out.size b3)
          have q0x := keep_cell b3 q0x
          have q0y := keep_cell b3 q0y
          have q1x := keep_cell b3 q1x
          have q1y := keep_cell b3 q1y
          have q2x := keep_cell b3 q2x
          have q2y := keep_cell b3 q2y
          have q3x := keep_cell b3 q3x
          have q3y := keep_cell b3 q3y
          have q4x := keep_cell b3 q4x
          have q4y := keep_cell b3 q4y
          clear b3
          obtain rfl : A3 = true := GA.out (by trivial) (by trivial) (by trivial)
          go_wp2_with fail
          go_meet
          exact ⟨rfl, q0x, q0y, q1x, q1y, q2x, q2y, q3x, q3y, q4x, q4y, HT, HW⟩
  case rest =>
    obtain ⟨rfl, q0x, q0y, q1x, q1y, q2x, q2y, q3x, q3y, q4x, q4y, HT, HW⟩ := hcut
    go_wp2_with fail
    refine (HB0.out _ HT.out).mono ?_
    rintro _ wB0 ⟨rfl, b0⟩
    have HT := Lib.hid (HT.out.keep b0)
    have HW := Lib.hid (bl_pack HW.out HW.out.size b0)
    have q0x := keep_cell b0 q0x
    have q0y := keep_cell b0 q0y
    have q1x := keep_cell b0 q1x
    have q1y := keep_cell b0 q1y
    have q2x := keep_cell b0 q2x
    have q2y := keep_cell b0 q2y
    have q3x := keep_cell b0 q3x
    have q3y := keep_cell b0 q3y
    have q4x := keep_cell b0 q4x
    have q4y := keep_cell b0 q4y
    clear b0
    cases B0 with
    | false =>
      go_wp2_with fail
      refine (HAW.out _ HT.out).mono ?_
      rintro _ wz ⟨rfl, bz⟩
      go_wp2_with fail
      go_ret
      exact ⟨rfl, bl_pack HW.out HW.out.size bz⟩
    | true =>
      go_wp2_with fail
      refine (HB1.out _ HT.out).mono ?_
      rintro _ wB1 ⟨rfl, b1⟩
      have HT := Lib.hid (HT.out.keep b1)
      have HW := Lib.hid (bl_pack HW.out HW.out.size b1)
      have q0x := keep_cell b1 q0x
      have q0y := keep_cell b1 q0y
      have q1x := keep_cell b1 q1x
      have q1y := keep_cell b1 q1y
      have q2x := keep_cell b1 q2x
      have q2y := keep_cell b1 q2y
      have q3x := keep_cell b1 q3x
      have q3y := keep_cell b1 q3y
      have q4x := keep_cell b1 q4x
      have q4y := keep_cell b1 q4y
      clear b1
      cases B1 with
      | false =>
        go_wp2_with fail
        refine (HAW.out _ HT.out).mono ?_
        rintro _ wz ⟨rfl, bz⟩
        go_wp2_with fail
        go_ret
        exact ⟨rfl, bl_pack HW.out HW.out.size bz⟩
      | true =>
        go_wp2_with fail
        refine (HB2.out _ HT.out).mono ?_
        rintro _ wB2 ⟨rfl, b2⟩
        have HT := Lib.hid (HT.out.keep b2)
        have HW := Lib.hid (bl_pack HW.out HW.out.size b2)
        have q0x := keep_cell b2 q0x
        have q0y := keep_cell b2 q0y
        have q1x := keep_cell b2 q1x
        have q1y := keep_cell b2 q1y
        have q2x := keep_cell b2 q2x
        have q2y := keep_cell b2 q2y
        have q3x := keep_cell b2 q3x
        have q3y := keep_cell b2 q3y
        have q4x := keep_cell b2 q4x
        have q4y := keep_cell b2 q4y
        clear b2
        cases B2 with
        | false =>
          go_wp2_with fail
          refine (HAW.out _ HT.out).mono ?_
          rintro _ wz ⟨rfl, bz⟩
          go_wp2_with fail
          go_ret
          exact ⟨rfl, bl_pack HW.out HW.out.size bz⟩
        | true =>
          go_wp2_with fail
          refine (HB3.out _ HT.out).mono ?_
          rintro _ wB3 ⟨rfl, b3⟩
          have HT := Lib.hid (HT.out.keep b3)
          have HW := Lib.hid (bl_pack HW.out HW.out.size b3)
          have q0x := keep_cell b3 q0x
          have q0y := keep_cell b3 q0y
          have q1x := keep_cell b3 q1x
          have q1y := keep_cell b3 q1y
          have q2x := keep_cell b3 q2x
          have q2y := keep_cell b3 q2y
          have q3x := keep_cell b3 q3x
          have q3y := keep_cell b3 q3y
          have q4x := keep_cell b3 q4x
          have q4y := keep_cell b3 q4y
          clear b3
          cases B3 with
          | false =>
            go_wp2_with fail
            refine (HAW.out _ HT.out).mono ?_
            rintro _ wz ⟨rfl, bz⟩
            go_wp2_with fail
            go_ret
            exact ⟨rfl, bl_pack HW.out HW.out.size bz⟩
          | true =>
            go_wp2_with fail
            refine (HB4.out _ HT.out).mono ?_
            rintro _ wB4 ⟨rfl, b4⟩
            have HT := Lib.hid (HT.out.keep b4)
            have HW := Lib.hid (bl_pack HW.out HW.out.size b4)
            have q0x := keep_cell b4 q0x
            have q0y := keep_cell b4 q0y
            have q1x := keep_cell b4 q1x
            have q1y := keep_cell b4 q1y
            have q2x := keep_cell b4 q2x
            have q2y := keep_cell b4 q2y
            have q3x := keep_cell b4 q3x
            have q3y := keep_cell b4 q3y
            have q4x := keep_cell b4 q4x
            have q4y := keep_cell b4 q4y
            clear b4
            cases B4 with
            | false =>
              go_wp2_with fail
              refine (HAW.out _ HT.out).mono ?_
              rintro _ wz ⟨rfl, bz⟩
              go_wp2_with fail
              go_ret
              exact ⟨rfl, bl_pack HW.out HW.out.size bz⟩
            | true =>
              go_wp2_with fail
              refine (HB5.out _ HT.out).mono ?_
              rintro _ wB5 ⟨rfl, b5⟩
              have HT := Lib.hid (HT.out.keep b5)
              have HW := Lib.hid (bl_pack HW.out HW.out.size b5)
              have q0x := keep_cell b5 q0x
              have q0y := keep_cell b5 q0y
              have q1x := keep_cell b5 q1x
              have q1y := keep_cell b5 q1y
              have q2x := keep_cell b5 q2x
              have q2y := keep_cell b5 q2y
              have q3x := keep_cell b5 q3x
              have q3y := keep_cell b5 q3y
              have q4x := keep_cell b5 q4x
              have q4y := keep_cell b5 q4y
              clear b5
              obtain rfl : B5 = true := GB.out (by trivial) (by trivial) (by trivial) (by trivial) (by trivial)
              go_wp2_with fail
              refine (HAW.out _ HT.out).mono ?_
              rintro _ wz ⟨rfl, bz⟩
              go_wp2_with fail
              go_ret
              exact ⟨rfl, bl_pack HW.out HW.out.size bz⟩
end Go.Proofs.YtiihokgjplpceaaDoor
