/- trivetlaw05.point and CircleKnows, walked. -/
import Derived.Test.YtiiipgbfhcbjdaaMyG
import Derived.Test.YtiiipgbfhcbjdaaMyH
namespace Go.Proofs.Ytiiipgbfhcbjdaa
open Go.RowKit TV
set_option linter.unusedVariables false

theorem ofI_eq (n : Int) : floatOfInt FloatKind.f64 n = ofI n := rfl

theorem point_calls (x y : Int) (w : World) :
    Calls Try.prog 4 #[.int .i64 x, .int .i64 y] w fun e w' => e = .returned (.agg #[.float .f64 (ofI (x.tmod 1025)), .float .f64 (ofI (y.tmod 1025))]) ∧ Below w.heap.size w w' := by
  go_enter Try.func4, Try.ntmps4
  go_wp2_with fail
  refine bodyPost_ret (v := .agg #[.float .f64 (ofI (x.tmod 1025)), .float .f64 (ofI (y.tmod 1025))]) (by simp [results, Try.results4, go_sem]; exact ⟨rfl, rfl⟩) rfl ?_
  exact ⟨rfl, (Below.refl _ _).alloc (Nat.le_refl _) _⟩

/-- A point's whole coordinate. -/
theorem tmod_small (x : Int) : (x.tmod 1025).natAbs ≤ 1024 := by
  rw [Int.natAbs_tmod]
  have := Nat.mod_lt x.natAbs (show 0 < 1025 by decide)
  have e : (1025 : Int).natAbs = 1025 := rfl
  rw [e]; omega
theorem ib_of (x : Int) : Ib (ofI (x.tmod 1025)) (x.tmod 1025) 1024 := ⟨iv_ofI (by have := tmod_small x; omega), tmod_small x⟩
theorem Ib.may {x : Nat} {n : Int} (h : Ib x n 1024) : mayB x = true := by
  unfold mayB
  rw [decide_eq_true, decide_eq_true]
  · rfl
  · rw [h.1.mag, uW_uL]
    exact Nat.dvd_trans (Nat.dvd_mul_left _ _) (Nat.dvd_mul_left _ _)
  · refine le_of_mag ?_
    rw [h.1.mag, mag_C100]
    exact Nat.mul_le_mul_right _ (Nat.le_trans h.2 (by decide))
theorem iv_ov {x : Nat} {n : Int} (h : Iv x n) : ov x = (n : Rat) := by
  unfold ov
  rw [if_pos h.2.1, h.2.2, Rat.intCast_mul, Rat.intCast_natCast, Rat.mul_assoc, uW_rat, Rat.mul_one]
theorem iv_lt {x : Nat} {n : Int} (h : Iv x n) : x < 18446744073709551616 := h.1

theorem rs_int (n : Int) : rs (n : Rat) = if n < 0 then -1 else if n = 0 then 0 else 1 := by
  unfold rs
  have h1 : ((n : Rat) < 0) ↔ n < 0 := by rw [← Rat.intCast_zero]; exact Rat.intCast_lt_intCast
  have h2 : ((n : Rat) = 0) ↔ n = 0 := by rw [← Rat.intCast_zero]; exact Rat.intCast_inj
  simp only [h1, h2]

theorem sumQ_int (ax ay bx bY cx cy dx dy : Int) : sumQ ax ay bx bY cx cy dx dy = (((
    ((ax - dx) * (ax - dx) + (ay - dy) * (ay - dy)) * ((bx - dx) * (cy - dy) - (cx - dx) * (bY - dy)) +
    ((bx - dx) * (bx - dx) + (bY - dy) * (bY - dy)) * ((cx - dx) * (ay - dy) - (ax - dx) * (cy - dy)) +
    ((cx - dx) * (cx - dx) + (cy - dy) * (cy - dy)) * ((ax - dx) * (bY - dy) - (bx - dx) * (ay - dy))) : Int) : Rat) := by
  unfold sumQ
  push_cast
  grind

/-- What Fast answers of small whole points: the sign, or that it is nought. -/
theorem fastV_int {det most : Nat} {D : Int} (hd : Iv det D) (h1 : most < 18446744073709551616) (h2 : rung most < inf) (h3 : 0 ≤ fv most) (h4 : fv most < (uW : Int)) :
    fastV det most = if D < 0 then .tuple #[.int .i64 (-1), .bool true] else if D = 0 then .tuple #[.int .i64 0, .bool false] else .tuple #[.int .i64 1, .bool true] := by
  have e1 : (FloatKind.f64.format.order det most == some .gt) = decide (fv most < fv det) := by
    have := order_fin (x := det) (y := most) hd.2.1 h2
    rw [show FloatKind.f64.format.order det most = Ieee.double.order det most from rfl, this]; exact cmp_gt
  have e2 : (FloatKind.f64.format.order det (fneg most) == some .lt) = decide (fv det < fv (fneg most)) := by
    have := order_fin (x := det) (y := fneg most) hd.2.1 (by rw [rung_fneg h1]; exact h2)
    rw [show FloatKind.f64.format.order det (fneg most) = Ieee.double.order det (fneg most) from rfl, this]; exact cmp_lt
  unfold fastV
  rw [e1, e2, fv_fneg h1, hd.2.2]
  have hu := uW_pos
  generalize uW = u at *
  have hu' : (0 : Int) < u := by omega
  rcases Int.lt_trichotomy D 0 with h | h | h
  · have h5 : D * (u : Int) ≤ -1 * (u : Int) := Int.mul_le_mul_of_nonneg_right (by omega) (by omega)
    rw [if_neg (by simp; omega), if_pos (by simp; omega), if_pos h]
  · subst h
    rw [if_neg (by simp; omega), if_neg (by simp; omega), if_neg (by omega), if_pos rfl]
  · have h5 : 1 * (u : Int) ≤ D * (u : Int) := Int.mul_le_mul_of_nonneg_right (by omega) (by omega)
    rw [if_pos (by simp; omega), if_neg (by omega), if_neg (by omega)]

set_option maxRecDepth 1000000 in
set_option maxHeartbeats 8000000 in
set_option maxRecDepth 1000000 in
set_option maxHeartbeats 8000000 in
theorem CircleKnows_walk (n0 n1 n2 n3 n4 n5 n6 n7 : Int) (w : World) :
    Calls Try.prog 3 #[.agg #[.int .i64 n0, .int .i64 n1, .int .i64 n2, .int .i64 n3, .int .i64 n4, .int .i64 n5, .int .i64 n6, .int .i64 n7]] w fun e w' => e = .returned (.bool true) ∧ Below w.heap.size w w' := by
  have ib0 := ib_of n0
  have ib1 := ib_of n1
  have ib2 := ib_of n2
  have ib3 := ib_of n3
  have ib4 := ib_of n4
  have ib5 := ib_of n5
  have ib6 := ib_of n6
  have ib7 := ib_of n7
  obtain ⟨D, hD⟩ : ∃ D : Int, D = ((n0.tmod 1025 - n6.tmod 1025) * (n0.tmod 1025 - n6.tmod 1025) + (n1.tmod 1025 - n7.tmod 1025) * (n1.tmod 1025 - n7.tmod 1025)) * ((n2.tmod 1025 - n6.tmod 1025) * (n5.tmod 1025 - n7.tmod 1025) - (n4.tmod 1025 - n6.tmod 1025) * (n3.tmod 1025 - n7.tmod 1025)) + ((n2.tmod 1025 - n6.tmod 1025) * (n2.tmod 1025 - n6.tmod 1025) + (n3.tmod 1025 - n7.tmod 1025) * (n3.tmod 1025 - n7.tmod 1025)) * ((n4.tmod 1025 - n6.tmod 1025) * (n1.tmod 1025 - n7.tmod 1025) - (n0.tmod 1025 - n6.tmod 1025) * (n5.tmod 1025 - n7.tmod 1025)) + ((n4.tmod 1025 - n6.tmod 1025) * (n4.tmod 1025 - n6.tmod 1025) + (n5.tmod 1025 - n7.tmod 1025) * (n5.tmod 1025 - n7.tmod 1025)) * ((n0.tmod 1025 - n6.tmod 1025) * (n3.tmod 1025 - n7.tmod 1025) - (n2.tmod 1025 - n6.tmod 1025) * (n1.tmod 1025 - n7.tmod 1025)) := ⟨_, rfl⟩
  obtain ⟨x0, hx0⟩ : ∃ z, z = ofI (n0.tmod 1025) := ⟨_, rfl⟩
  rw [← hx0] at ib0
  obtain ⟨x1, hx1⟩ : ∃ z, z = ofI (n1.tmod 1025) := ⟨_, rfl⟩
  rw [← hx1] at ib1
  obtain ⟨x2, hx2⟩ : ∃ z, z = ofI (n2.tmod 1025) := ⟨_, rfl⟩
  rw [← hx2] at ib2
  obtain ⟨x3, hx3⟩ : ∃ z, z = ofI (n3.tmod 1025) := ⟨_, rfl⟩
  rw [← hx3] at ib3
  obtain ⟨x4, hx4⟩ : ∃ z, z = ofI (n4.tmod 1025) := ⟨_, rfl⟩
  rw [← hx4] at ib4
  obtain ⟨x5, hx5⟩ : ∃ z, z = ofI (n5.tmod 1025) := ⟨_, rfl⟩
  rw [← hx5] at ib5
  obtain ⟨x6, hx6⟩ : ∃ z, z = ofI (n6.tmod 1025) := ⟨_, rfl⟩
  rw [← hx6] at ib6
  obtain ⟨x7, hx7⟩ : ∃ z, z = ofI (n7.tmod 1025) := ⟨_, rfl⟩
  rw [← hx7] at ib7
  have HX0 := Lib.hid hx0
  have HX1 := Lib.hid hx1
  have HX2 := Lib.hid hx2
  have HX3 := Lib.hid hx3
  have HX4 := Lib.hid hx4
  have HX5 := Lib.hid hx5
  have HX6 := Lib.hid hx6
  have HX7 := Lib.hid hx7
  clear hx0 hx1 hx2 hx3 hx4 hx5 hx6 hx7
  generalize n0.tmod 1025 = m0 at ib0 hD
  generalize n1.tmod 1025 = m1 at ib1 hD
  generalize n2.tmod 1025 = m2 at ib2 hD
  generalize n3.tmod 1025 = m3 at ib3 hD
  generalize n4.tmod 1025 = m4 at ib4 hD
  generalize n5.tmod 1025 = m5 at ib5 hD
  generalize n6.tmod 1025 = m6 at ib6 hD
  generalize n7.tmod 1025 = m7 at ib7 hD
  obtain ⟨sa, ia⟩ := ib0.sub ib6 (by decide)
  obtain ⟨sb, ib⟩ := ib1.sub ib7 (by decide)
  obtain ⟨sc, ic⟩ := ib2.sub ib6 (by decide)
  obtain ⟨sd, i_d⟩ := ib3.sub ib7 (by decide)
  obtain ⟨se, ie⟩ := ib4.sub ib6 (by decide)
  obtain ⟨sf, i_f⟩ := ib5.sub ib7 (by decide)
  obtain ⟨hok, hdet, hm2, hm3, hm4⟩ := fast_val ia ib ic i_d ie i_f
  have hgood : ((mayB x0 && mayB x1) && (mayB x2 && mayB x3) && (mayB x4 && mayB x5) && (mayB x6 && mayB x7)) = true := by rw [ib0.may, ib1.may, ib2.may, ib3.may, ib4.may, ib5.may, ib6.may, ib7.may]; rfl
  rw [← hD] at hdet
  have hfast := fastV_int hdet hok.most hm2 hm3 hm4
  have hsum : rs (sumQ (ov x0) (ov x1) (ov x2) (ov x3) (ov x4) (ov x5) (ov x6) (ov x7)) = if D < 0 then -1 else if D = 0 then 0 else 1 := by
    rw [iv_ov ib0.1, iv_ov ib1.1, iv_ov ib2.1, iv_ov ib3.1, iv_ov ib4.1, iv_ov ib5.1, iv_ov ib6.1, iv_ov ib7.1, sumQ_int, ← hD, rs_int]
  have HS := Lib.hid (fun (W : World) => (Sign_calls x0 x1 x2 x3 x4 x5 x6 x7 (iv_lt ib0.1) (iv_lt ib1.1) (iv_lt ib2.1) (iv_lt ib3.1) (iv_lt ib4.1) (iv_lt ib5.1) (iv_lt ib6.1) (iv_lt ib7.1) W))
  have HF := Lib.hid (fun (W : World) => (Fast_calls x0 x1 x2 x3 x4 x5 x6 x7 (iv_lt ib0.1) (iv_lt ib1.1) (iv_lt ib2.1) (iv_lt ib3.1) (iv_lt ib4.1) (iv_lt ib5.1) (iv_lt ib6.1) (iv_lt ib7.1) W hgood sa sb sc sd se sf hok))
  rw [hfast] at HF
  rw [hgood, if_pos rfl, hsum] at HS
  clear hD hok hdet hm2 hm3 hm4 hgood hfast hsum sa sb sc sd se sf ia ib ic i_d ie i_f ib0 ib1 ib2 ib3 ib4 ib5 ib6 ib7 m0 m1 m2 m3 m4 m5 m6 m7
  go_enter Try.func3, Try.ntmps3
  go_wp2_with fail
  obtain ⟨wn, hwn⟩ : ∃ z, z = w.alloc (.cells #[.int .i64 n0, .int .i64 n1, .int .i64 n2, .int .i64 n3, .int .i64 n4, .int .i64 n5, .int .i64 n6, .int .i64 n7] 22) := ⟨_, rfl⟩
  have kn : wn.heap[w.heap.size]? = some (.cells #[.int .i64 n0, .int .i64 n1, .int .i64 n2, .int .i64 n3, .int .i64 n4, .int .i64 n5, .int .i64 n6, .int .i64 n7] 22 (0, 0)) := by rw [hwn]; exact heap_alloc_new _ _
  have HW := Lib.hid (show Below w.heap.size w wn by rw [hwn]; exact kp_alloc _ _)
  rw [← hwn]
  have HN := Lib.hid kn
  clear hwn kn
  refine (point_calls n0 n1 _).mono ?_
  rintro e v0 ⟨rfl, hb⟩
  rw [← HX0.out, ← HX1.out]
  have HW := Lib.hid (HW.out.trans (hb.mono HW.out.size))
  have HN := Lib.hid (keep_block hb HN.out)
  have hlt := block_lt HN.out
  have y0 : v0.cell? ⟨w.heap.size, 0, none⟩ = some (.int .i64 n0) := cell_of_block HN.out 0
  have y1 : v0.cell? ⟨w.heap.size, 1, none⟩ = some (.int .i64 n1) := cell_of_block HN.out 1
  have y2 : v0.cell? ⟨w.heap.size, 2, none⟩ = some (.int .i64 n2) := cell_of_block HN.out 2
  have y3 : v0.cell? ⟨w.heap.size, 3, none⟩ = some (.int .i64 n3) := cell_of_block HN.out 3
  have y4 : v0.cell? ⟨w.heap.size, 4, none⟩ = some (.int .i64 n4) := cell_of_block HN.out 4
  have y5 : v0.cell? ⟨w.heap.size, 5, none⟩ = some (.int .i64 n5) := cell_of_block HN.out 5
  have y6 : v0.cell? ⟨w.heap.size, 6, none⟩ = some (.int .i64 n6) := cell_of_block HN.out 6
  have y7 : v0.cell? ⟨w.heap.size, 7, none⟩ = some (.int .i64 n7) := cell_of_block HN.out 7
  clear hb
  go_wp2_with fail
  obtain ⟨z0, hz⟩ : ∃ z, z = v0.alloc (.cells #[.float .f64 x0, .float .f64 x1] 25) := ⟨_, rfl⟩
  obtain ⟨b0, hbk⟩ : ∃ z, z = v0.heap.size := ⟨_, rfl⟩
  have HP0 := Lib.hid (show z0.heap[b0]? = some (.cells #[.float .f64 x0, .float .f64 x1] 25 (0, 0)) by rw [hz, hbk]; exact heap_alloc_new _ _)
  have hz2 : Below v0.heap.size v0 z0 := by rw [hz]; exact kp_alloc _ _
  have HW := Lib.hid (HW.out.trans (hz2.mono HW.out.size))
  have HN := Lib.hid (keep_block hz2 HN.out)
  rw [← hz, ← hbk]
  clear hz hbk hz2 hlt y0 y1 y2 y3 y4 y5 y6 y7 
  refine (point_calls n2 n3 _).mono ?_
  rintro e v1 ⟨rfl, hb⟩
  rw [← HX2.out, ← HX3.out]
  have HW := Lib.hid (HW.out.trans (hb.mono HW.out.size))
  have HN := Lib.hid (keep_block hb HN.out)
  have HP0 := Lib.hid (keep_block hb HP0.out)
  have hlt := block_lt HN.out
  have y0 : v1.cell? ⟨w.heap.size, 0, none⟩ = some (.int .i64 n0) := cell_of_block HN.out 0
  have y1 : v1.cell? ⟨w.heap.size, 1, none⟩ = some (.int .i64 n1) := cell_of_block HN.out 1
  have y2 : v1.cell? ⟨w.heap.size, 2, none⟩ = some (.int .i64 n2) := cell_of_block HN.out 2
  have y3 : v1.cell? ⟨w.heap.size, 3, none⟩ = some (.int .i64 n3) := cell_of_block HN.out 3
  have y4 : v1.cell? ⟨w.heap.size, 4, none⟩ = some (.int .i64 n4) := cell_of_block HN.out 4
  have y5 : v1.cell? ⟨w.heap.size, 5, none⟩ = some (.int .i64 n5) := cell_of_block HN.out 5
  have y6 : v1.cell? ⟨w.heap.size, 6, none⟩ = some (.int .i64 n6) := cell_of_block HN.out 6
  have y7 : v1.cell? ⟨w.heap.size, 7, none⟩ = some (.int .i64 n7) := cell_of_block HN.out 7
  have p00 : v1.cell? ⟨b0, 0, none⟩ = some (.float .f64 x0) := cell_of_block HP0.out 0
  have p01 : v1.cell? ⟨b0, 1, none⟩ = some (.float .f64 x1) := cell_of_block HP0.out 1
  have q0 := block_lt HP0.out
  clear hb
  go_wp2_with fail
  obtain ⟨z1, hz⟩ : ∃ z, z = v1.alloc (.cells #[.float .f64 x2, .float .f64 x3] 25) := ⟨_, rfl⟩
  obtain ⟨b1, hbk⟩ : ∃ z, z = v1.heap.size := ⟨_, rfl⟩
  have HP1 := Lib.hid (show z1.heap[b1]? = some (.cells #[.float .f64 x2, .float .f64 x3] 25 (0, 0)) by rw [hz, hbk]; exact heap_alloc_new _ _)
  have hz2 : Below v1.heap.size v1 z1 := by rw [hz]; exact kp_alloc _ _
  have HW := Lib.hid (HW.out.trans (hz2.mono HW.out.size))
  have HN := Lib.hid (keep_block hz2 HN.out)
  have HP0 := Lib.hid (keep_block hz2 HP0.out)
  rw [← hz, ← hbk]
  clear hz hbk hz2 hlt y0 y1 y2 y3 y4 y5 y6 y7 p00 p01 q0
  refine (point_calls n4 n5 _).mono ?_
  rintro e v2 ⟨rfl, hb⟩
  rw [← HX4.out, ← HX5.out]
  have HW := Lib.hid (HW.out.trans (hb.mono HW.out.size))
  have HN := Lib.hid (keep_block hb HN.out)
  have HP0 := Lib.hid (keep_block hb HP0.out)
  have HP1 := Lib.hid (keep_block hb HP1.out)
  have hlt := block_lt HN.out
  have y0 : v2.cell? ⟨w.heap.size, 0, none⟩ = some (.int .i64 n0) := cell_of_block HN.out 0
  have y1 : v2.cell? ⟨w.heap.size, 1, none⟩ = some (.int .i64 n1) := cell_of_block HN.out 1
  have y2 : v2.cell? ⟨w.heap.size, 2, none⟩ = some (.int .i64 n2) := cell_of_block HN.out 2
  have y3 : v2.cell? ⟨w.heap.size, 3, none⟩ = some (.int .i64 n3) := cell_of_block HN.out 3
  have y4 : v2.cell? ⟨w.heap.size, 4, none⟩ = some (.int .i64 n4) := cell_of_block HN.out 4
  have y5 : v2.cell? ⟨w.heap.size, 5, none⟩ = some (.int .i64 n5) := cell_of_block HN.out 5
  have y6 : v2.cell? ⟨w.heap.size, 6, none⟩ = some (.int .i64 n6) := cell_of_block HN.out 6
  have y7 : v2.cell? ⟨w.heap.size, 7, none⟩ = some (.int .i64 n7) := cell_of_block HN.out 7
  have p00 : v2.cell? ⟨b0, 0, none⟩ = some (.float .f64 x0) := cell_of_block HP0.out 0
  have p01 : v2.cell? ⟨b0, 1, none⟩ = some (.float .f64 x1) := cell_of_block HP0.out 1
  have q0 := block_lt HP0.out
  have p10 : v2.cell? ⟨b1, 0, none⟩ = some (.float .f64 x2) := cell_of_block HP1.out 0
  have p11 : v2.cell? ⟨b1, 1, none⟩ = some (.float .f64 x3) := cell_of_block HP1.out 1
  have q1 := block_lt HP1.out
  clear hb
  go_wp2_with fail
  obtain ⟨z2, hz⟩ : ∃ z, z = v2.alloc (.cells #[.float .f64 x4, .float .f64 x5] 25) := ⟨_, rfl⟩
  obtain ⟨b2, hbk⟩ : ∃ z, z = v2.heap.size := ⟨_, rfl⟩
  have HP2 := Lib.hid (show z2.heap[b2]? = some (.cells #[.float .f64 x4, .float .f64 x5] 25 (0, 0)) by rw [hz, hbk]; exact heap_alloc_new _ _)
  have hz2 : Below v2.heap.size v2 z2 := by rw [hz]; exact kp_alloc _ _
  have HW := Lib.hid (HW.out.trans (hz2.mono HW.out.size))
  have HN := Lib.hid (keep_block hz2 HN.out)
  have HP0 := Lib.hid (keep_block hz2 HP0.out)
  have HP1 := Lib.hid (keep_block hz2 HP1.out)
  rw [← hz, ← hbk]
  clear hz hbk hz2 hlt y0 y1 y2 y3 y4 y5 y6 y7 p00 p01 q0 p10 p11 q1
  refine (point_calls n6 n7 _).mono ?_
  rintro e v3 ⟨rfl, hb⟩
  rw [← HX6.out, ← HX7.out]
  have HW := Lib.hid (HW.out.trans (hb.mono HW.out.size))
  have HN := Lib.hid (keep_block hb HN.out)
  have HP0 := Lib.hid (keep_block hb HP0.out)
  have HP1 := Lib.hid (keep_block hb HP1.out)
  have HP2 := Lib.hid (keep_block hb HP2.out)
  have hlt := block_lt HN.out
  have y0 : v3.cell? ⟨w.heap.size, 0, none⟩ = some (.int .i64 n0) := cell_of_block HN.out 0
  have y1 : v3.cell? ⟨w.heap.size, 1, none⟩ = some (.int .i64 n1) := cell_of_block HN.out 1
  have y2 : v3.cell? ⟨w.heap.size, 2, none⟩ = some (.int .i64 n2) := cell_of_block HN.out 2
  have y3 : v3.cell? ⟨w.heap.size, 3, none⟩ = some (.int .i64 n3) := cell_of_block HN.out 3
  have y4 : v3.cell? ⟨w.heap.size, 4, none⟩ = some (.int .i64 n4) := cell_of_block HN.out 4
  have y5 : v3.cell? ⟨w.heap.size, 5, none⟩ = some (.int .i64 n5) := cell_of_block HN.out 5
  have y6 : v3.cell? ⟨w.heap.size, 6, none⟩ = some (.int .i64 n6) := cell_of_block HN.out 6
  have y7 : v3.cell? ⟨w.heap.size, 7, none⟩ = some (.int .i64 n7) := cell_of_block HN.out 7
  have p00 : v3.cell? ⟨b0, 0, none⟩ = some (.float .f64 x0) := cell_of_block HP0.out 0
  have p01 : v3.cell? ⟨b0, 1, none⟩ = some (.float .f64 x1) := cell_of_block HP0.out 1
  have q0 := block_lt HP0.out
  have p10 : v3.cell? ⟨b1, 0, none⟩ = some (.float .f64 x2) := cell_of_block HP1.out 0
  have p11 : v3.cell? ⟨b1, 1, none⟩ = some (.float .f64 x3) := cell_of_block HP1.out 1
  have q1 := block_lt HP1.out
  have p20 : v3.cell? ⟨b2, 0, none⟩ = some (.float .f64 x4) := cell_of_block HP2.out 0
  have p21 : v3.cell? ⟨b2, 1, none⟩ = some (.float .f64 x5) := cell_of_block HP2.out 1
  have q2 := block_lt HP2.out
  clear hb
  go_wp2_with fail
  obtain ⟨z3, hz⟩ : ∃ z, z = v3.alloc (.cells #[.float .f64 x6, .float .f64 x7] 25) := ⟨_, rfl⟩
  obtain ⟨b3, hbk⟩ : ∃ z, z = v3.heap.size := ⟨_, rfl⟩
  have HP3 := Lib.hid (show z3.heap[b3]? = some (.cells #[.float .f64 x6, .float .f64 x7] 25 (0, 0)) by rw [hz, hbk]; exact heap_alloc_new _ _)
  have hz2 : Below v3.heap.size v3 z3 := by rw [hz]; exact kp_alloc _ _
  have HW := Lib.hid (HW.out.trans (hz2.mono HW.out.size))
  have HN := Lib.hid (keep_block hz2 HN.out)
  have HP0 := Lib.hid (keep_block hz2 HP0.out)
  have HP1 := Lib.hid (keep_block hz2 HP1.out)
  have HP2 := Lib.hid (keep_block hz2 HP2.out)
  rw [← hz, ← hbk]
  clear hz hbk hz2 hlt y0 y1 y2 y3 y4 y5 y6 y7 p00 p01 q0 p10 p11 q1 p20 p21 q2
  have p00 : z3.cell? ⟨b0, 0, none⟩ = some (.float .f64 x0) := cell_of_block HP0.out 0
  have p01 : z3.cell? ⟨b0, 1, none⟩ = some (.float .f64 x1) := cell_of_block HP0.out 1
  have p10 : z3.cell? ⟨b1, 0, none⟩ = some (.float .f64 x2) := cell_of_block HP1.out 0
  have p11 : z3.cell? ⟨b1, 1, none⟩ = some (.float .f64 x3) := cell_of_block HP1.out 1
  have p20 : z3.cell? ⟨b2, 0, none⟩ = some (.float .f64 x4) := cell_of_block HP2.out 0
  have p21 : z3.cell? ⟨b2, 1, none⟩ = some (.float .f64 x5) := cell_of_block HP2.out 1
  have p30 : z3.cell? ⟨b3, 0, none⟩ = some (.float .f64 x6) := cell_of_block HP3.out 0
  have p31 : z3.cell? ⟨b3, 1, none⟩ = some (.float .f64 x7) := cell_of_block HP3.out 1
  refine (HS.out _).mono ?_
  rintro e v4 ⟨rfl, hb⟩
  have p00 := keep_cell hb p00
  have p01 := keep_cell hb p01
  have p10 := keep_cell hb p10
  have p11 := keep_cell hb p11
  have p20 := keep_cell hb p20
  have p21 := keep_cell hb p21
  have p30 := keep_cell hb p30
  have p31 := keep_cell hb p31
  have HW := Lib.hid (HW.out.trans (hb.mono HW.out.size))
  clear hb
  rcases Int.lt_trichotomy D 0 with h | h | h
  · rw [if_pos h] at HF
    rw [if_pos h]
    go_wp2_with fail
    refine (HF.out _).mono ?_
    rintro e v5 ⟨rfl, hb⟩
    have HW := Lib.hid (HW.out.trans (hb.mono HW.out.size))
    clear hb
    go_wp2_with fail
    go_ret
    exact ⟨rfl, HW.out⟩
  · subst h
    rw [if_neg (by omega), if_pos rfl] at HF
    rw [if_neg (by omega), if_pos rfl]
    go_wp2_with fail
    refine (HF.out _).mono ?_
    rintro e v5 ⟨rfl, hb⟩
    have HW := Lib.hid (HW.out.trans (hb.mono HW.out.size))
    clear hb
    go_wp2_with fail
    go_ret
    exact ⟨rfl, HW.out⟩
  · rw [if_neg (by omega), if_neg (by omega)] at HF
    rw [if_neg (by omega), if_neg (by omega)]
    go_wp2_with fail
    refine (HF.out _).mono ?_
    rintro e v5 ⟨rfl, hb⟩
    have HW := Lib.hid (HW.out.trans (hb.mono HW.out.size))
    clear hb
    go_wp2_with fail
    go_ret
    exact ⟨rfl, HW.out⟩

end Go.Proofs.Ytiiipgbfhcbjdaa
