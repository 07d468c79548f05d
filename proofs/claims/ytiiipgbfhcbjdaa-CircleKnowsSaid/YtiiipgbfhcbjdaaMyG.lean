/- circle.Fast, walked. (Printed by gen_MyG.py.) -/
import Derived.Test.YtiiipgbfhcbjdaaMyF
import Derived.Test.YtiiipgbfhcbjdaaFaB
import Derived.Test.YtiiipgbfhcbjdaaRfB
namespace Go.Proofs.Ytiiipgbfhcbjdaa
open Go.RowKit TV
set_option linter.unusedVariables false

/-- What Fast answers. -/
def fastV (det most : Nat) : Value := if (FloatKind.f64.format.order det most == some .gt) = true then .tuple #[.int .i64 1, .bool true] else if (FloatKind.f64.format.order det (fneg most) == some .lt) = true then .tuple #[.int .i64 (-1), .bool true] else .tuple #[.int .i64 0, .bool false]

set_option maxRecDepth 1000000 in
set_option maxHeartbeats 8000000 in
theorem Fast_core (ax ay bx bY cx cy dx dy : Nat) (hax : ax < 18446744073709551616) (hay : ay < 18446744073709551616) (hbx : bx < 18446744073709551616) (hby : bY < 18446744073709551616)
    (hcx : cx < 18446744073709551616) (hcy : cy < 18446744073709551616) (hdx : dx < 18446744073709551616) (hdy : dy < 18446744073709551616) (w : World)
    (hg : ((mayB ax && mayB ay) && (mayB bx && mayB bY) && (mayB cx && mayB cy) && (mayB dx && mayB dy)) = true)
    (e1 : sS ax dx) (e2 : sS ay dy) (e3 : sS bx dx) (e4 : sS bY dy) (e5 : sS cx dx) (e6 : sS cy dy)
    (px py qx qy rx ry bxcy cxby cxay axcy axby bxay al1 al2 al bl1 bl2 bl cl1 cl2 cl dal tal dbl tbl dcl tcl tt det ual val ubl vbl ucl vcl vv all most : Nat)
    (q1 : fsub ax dx = px) (q2 : fsub ay dy = py) (q3 : fsub bx dx = qx) (q4 : fsub bY dy = qy) (q5 : fsub cx dx = rx) (q6 : fsub cy dy = ry)
    (y0 : fmul qx ry = bxcy) (z0 : sM qx ry)
    (y1 : fmul rx qy = cxby) (z1 : sM rx qy)
    (y2 : fmul rx py = cxay) (z2 : sM rx py)
    (y3 : fmul px ry = axcy) (z3 : sM px ry)
    (y4 : fmul px qy = axby) (z4 : sM px qy)
    (y5 : fmul qx py = bxay) (z5 : sM qx py)
    (y6 : fmul px px = al1) (z6 : sM px px)
    (y7 : fmul py py = al2) (z7 : sM py py)
    (y8 : fadd al1 al2 = al) (z8 : sA al1 al2)
    (y9 : fmul qx qx = bl1) (z9 : sM qx qx)
    (y10 : fmul qy qy = bl2) (z10 : sM qy qy)
    (y11 : fadd bl1 bl2 = bl) (z11 : sA bl1 bl2)
    (y12 : fmul rx rx = cl1) (z12 : sM rx rx)
    (y13 : fmul ry ry = cl2) (z13 : sM ry ry)
    (y14 : fadd cl1 cl2 = cl) (z14 : sA cl1 cl2)
    (y15 : fsub bxcy cxby = dal) (z15 : sS bxcy cxby)
    (y16 : fmul al dal = tal) (z16 : sM al dal)
    (y17 : fsub cxay axcy = dbl) (z17 : sS cxay axcy)
    (y18 : fmul bl dbl = tbl) (z18 : sM bl dbl)
    (y19 : fsub axby bxay = dcl) (z19 : sS axby bxay)
    (y20 : fmul cl dcl = tcl) (z20 : sM cl dcl)
    (y21 : fadd tal tbl = tt) (z21 : sA tal tbl)
    (y22 : fadd tt tcl = det) (z22 : sA tt tcl)
    (y23 : fadd (rung bxcy) (rung cxby) = ual) (z23 : sA (rung bxcy) (rung cxby))
    (y24 : fmul ual al = val) (z24 : sM ual al)
    (y25 : fadd (rung cxay) (rung axcy) = ubl) (z25 : sA (rung cxay) (rung axcy))
    (y26 : fmul ubl bl = vbl) (z26 : sM ubl bl)
    (y27 : fadd (rung axby) (rung bxay) = ucl) (z27 : sA (rung axby) (rung bxay))
    (y28 : fmul ucl cl = vcl) (z28 : sM ucl cl)
    (y29 : fadd val vbl = vv) (z29 : sA val vbl)
    (y30 : fadd vv vcl = all) (z30 : sA vv vcl)
    (y31 : fmul BND all = most) (z31 : sM BND all)
    (kbxcy : bxcy < 18446744073709551616) (kcxby : cxby < 18446744073709551616) (kcxay : cxay < 18446744073709551616) (kaxcy : axcy < 18446744073709551616) (kaxby : axby < 18446744073709551616) (kbxay : bxay < 18446744073709551616) (kmost : most < 18446744073709551616) :
    Calls Try.prog 6 #[.agg #[.float .f64 ax, .float .f64 ay], .agg #[.float .f64 bx, .float .f64 bY], .agg #[.float .f64 cx, .float .f64 cy], .agg #[.float .f64 dx, .float .f64 dy]] w fun e w' =>
      e = .returned (fastV det most) ∧ Below w.heap.size w w' := by
  obtain ⟨wn, hwn, HW0, hsz, k0, k1, k2, k3, k4⟩ := five_cells w (.cells #[.float .f64 ax, .float .f64 ay] 25) (.cells #[.float .f64 bx, .float .f64 bY] 25) (.cells #[.float .f64 cx, .float .f64 cy] 25) (.cells #[.float .f64 dx, .float .f64 dy] 25) (.cells #[.float .f64 ax, .float .f64 ay, .float .f64 bx, .float .f64 bY, .float .f64 cx, .float .f64 cy, .float .f64 dx, .float .f64 dy] 25)
  have HG := Lib.hid hg
  have HW := Lib.hid HW0
  clear hg HW0
  unfold BND at *
  go_enter Try.func6, Try.ntmps6
  go_wp2_with fail
  rw [← hwn]
  clear hwn
  refine (good_calls ax ay bx bY cx cy dx dy hax hay hbx hby hcx hcy hdx hdy wn _ _ k4).mono ?_
  rintro e w2 ⟨rfl, hb2⟩
  rw [HG.out]
  have a0 := keep_cell hb2 (cell_of_block k0 0)
  have a1 := keep_cell hb2 (cell_of_block k0 1)
  have b0 := keep_cell hb2 (cell_of_block k1 0)
  have b1 := keep_cell hb2 (cell_of_block k1 1)
  have c0 := keep_cell hb2 (cell_of_block k2 0)
  have c1 := keep_cell hb2 (cell_of_block k2 1)
  have d0 := keep_cell hb2 (cell_of_block k3 0)
  have d1 := keep_cell hb2 (cell_of_block k3 1)
  have HB := Lib.hid (HW.out.trans (hb2.mono HW.out.size))
  clear k0 k1 k2 k3 k4 hb2 HW hsz
  go_wp2_with fail
  go_quiet (fail)
  obtain ⟨w3, hw3⟩ : ∃ z, z = w2.drewN nq := ⟨_, rfl⟩
  have HB := Lib.hid (show Below w.heap.size w w3 by rw [hw3]; exact below_drewN HB.out _)
  rw [← hw3]
  clear hw3 a0 a1 b0 b1 c0 c1 d0 d1 e1 e2 e3 e4 e5 e6 q1 q2 q3 q4 q5 q6
  by_cases g1 : (FloatKind.f64.format.order det most == some .gt) = true
  · have HV : fastV det most = .tuple #[.int .i64 1, .bool true] := by unfold fastV; rw [if_pos g1]
    have HV := Lib.hid HV
    go_wp2_with (go_at_call 10; refine (abs_calls _ (by assumption) _).mono ?_; rintro e w' ⟨rfl, rfl⟩)
    go_ret2
    exact ⟨by rw [HV.out]; rfl, HB.out⟩
  · by_cases g2 : (FloatKind.f64.format.order det (fneg most) == some .lt) = true
    · have HV : fastV det most = .tuple #[.int .i64 (-1), .bool true] := by unfold fastV; rw [if_neg g1, if_pos g2]
      have HV := Lib.hid HV
      go_wp2_with (go_at_call 10; refine (abs_calls _ (by assumption) _).mono ?_; rintro e w' ⟨rfl, rfl⟩)
      go_ret2
      exact ⟨by rw [HV.out]; rfl, HB.out⟩
    · have HV : fastV det most = .tuple #[.int .i64 0, .bool false] := by unfold fastV; rw [if_neg g1, if_neg g2]
      have HV := Lib.hid HV
      go_wp2_with (go_at_call 10; refine (abs_calls _ (by assumption) _).mono ?_; rintro e w' ⟨rfl, rfl⟩)
      go_ret2
      exact ⟨by rw [HV.out]; rfl, HB.out⟩

theorem Fast_calls (ax ay bx bY cx cy dx dy : Nat) (hax : ax < 18446744073709551616) (hay : ay < 18446744073709551616) (hbx : bx < 18446744073709551616) (hby : bY < 18446744073709551616)
    (hcx : cx < 18446744073709551616) (hcy : cy < 18446744073709551616) (hdx : dx < 18446744073709551616) (hdy : dy < 18446744073709551616) (w : World)
    (hg : ((mayB ax && mayB ay) && (mayB bx && mayB bY) && (mayB cx && mayB cy) && (mayB dx && mayB dy)) = true)
    (e1 : sS ax dx) (e2 : sS ay dy) (e3 : sS bx dx) (e4 : sS bY dy) (e5 : sS cx dx) (e6 : sS cy dy)
    (h : FastOk (fsub ax dx) (fsub ay dy) (fsub bx dx) (fsub bY dy) (fsub cx dx) (fsub cy dy)) :
    Calls Try.prog 6 #[.agg #[.float .f64 ax, .float .f64 ay], .agg #[.float .f64 bx, .float .f64 bY], .agg #[.float .f64 cx, .float .f64 cy], .agg #[.float .f64 dx, .float .f64 dy]] w fun e w' =>
      e = .returned (fastV (fDet (fsub ax dx) (fsub ay dy) (fsub bx dx) (fsub bY dy) (fsub cx dx) (fsub cy dy)) (fMost (fsub ax dx) (fsub ay dy) (fsub bx dx) (fsub bY dy) (fsub cx dx) (fsub cy dy))) ∧ Below w.heap.size w w' := by
  unfold fDet fMost fAll fT
  exact Fast_core ax ay bx bY cx cy dx dy hax hay hbx hby hcx hcy hdx hdy w hg e1 e2 e3 e4 e5 e6 _ _ _ _ _ _ _ _ _ _ _ _ _ _ _ _ _ _ _ _ _ _ _ _ _ _ _ _ _ _ _ _ _ _ _ _ _ _ rfl rfl rfl rfl rfl rfl rfl h.xa.m1 rfl h.xa.m2 rfl h.xb.m1 rfl h.xb.m2 rfl h.xc.m1 rfl h.xc.m2 rfl h.la.m1 rfl h.la.m2 rfl h.la.a rfl h.lb.m1 rfl h.lb.m2 rfl h.lb.a rfl h.lc.m1 rfl h.lc.m2 rfl h.lc.a rfl h.xa.s rfl h.xa.m rfl h.xb.s rfl h.xb.m rfl h.xc.s rfl h.xc.m rfl h.d1 rfl h.d2 rfl h.xa.a rfl h.xa.t rfl h.xb.a rfl h.xb.t rfl h.xc.a rfl h.xc.t rfl h.e1 rfl h.e2 rfl h.b h.xa.l1 h.xa.l2 h.xb.l1 h.xb.l2 h.xc.l1 h.xc.l2 h.most

end Go.Proofs.Ytiiipgbfhcbjdaa
