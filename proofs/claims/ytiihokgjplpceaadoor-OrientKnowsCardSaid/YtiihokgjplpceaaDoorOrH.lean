/- Package orient, walked: within, On. -/
import Derived.Test.YtiihokgjplpceaaDoorOrF
import Derived.Test.YtiihokgjplpceaaDoorOrG
namespace Go.Proofs.YtiihokgjplpceaaDoor
open Go.RowKit TV
set_option linter.unusedVariables false

theorem run_min_f64 {P : Program} {x y z : Nat} (h : FloatKind.f64.format.order x y = some .lt ∧ z = x ∨ FloatKind.f64.format.order x y = some .gt ∧ z = y ∨ FloatKind.f64.format.order x y = some .eq ∧ z = (if (FloatKind.f64.decode x).neg then x else y)) (ts : Array TypeId) (t : TypeId) (w : World) :
    (Builtin.min_ ts t #[.float .f64 x, .float .f64 y]).run P w = .ok (.float .f64 z) w := by
  rcases h with ⟨h, rfl⟩ | ⟨h, rfl⟩ | ⟨h, rfl⟩ <;> simp [Builtin.min_, Builtin.min2, h]
theorem run_max_f64 {P : Program} {x y z : Nat} (h : FloatKind.f64.format.order x y = some .gt ∧ z = x ∨ FloatKind.f64.format.order x y = some .lt ∧ z = y ∨ FloatKind.f64.format.order x y = some .eq ∧ z = (if (FloatKind.f64.decode x).neg then y else x)) (ts : Array TypeId) (t : TypeId) (w : World) :
    (Builtin.max_ ts t #[.float .f64 x, .float .f64 y]).run P w = .ok (.float .f64 z) w := by
  rcases h with ⟨h, rfl⟩ | ⟨h, rfl⟩ | ⟨h, rfl⟩ <;> simp [Builtin.max_, Builtin.max2, h]
theorem order_cmp {x y : Nat} (hx : rung x < inf) (hy : rung y < inf) : FloatKind.f64.format.order x y = some (compare (fv x) (fv y)) := order_fin hx hy
theorem min_ex {x y : Nat} (hx : rung x < inf) (hy : rung y < inf) : ∃ z, (∀ (P : Program) (ts : Array TypeId) (t : TypeId) (w : World), (Builtin.min_ ts t #[.float .f64 x, .float .f64 y]).run P w = .ok (.float .f64 z) w) ∧ rung z < inf ∧ fv z = min (fv x) (fv y) := by
  have ho := order_cmp hx hy
  rcases Int.lt_trichotomy (fv x) (fv y) with h | h | h
  · rw [Int.compare_eq_lt.2 h] at ho
    exact ⟨x, fun P ts t w => run_min_f64 (Or.inl ⟨ho, rfl⟩) ts t w, hx, by omega⟩
  · rw [Int.compare_eq_eq.2 h] at ho
    refine ⟨_, fun P ts t w => run_min_f64 (Or.inr (Or.inr ⟨ho, rfl⟩)) ts t w, ?_, ?_⟩ <;> split <;> first | assumption | omega
  · rw [Int.compare_eq_gt.2 h] at ho
    exact ⟨y, fun P ts t w => run_min_f64 (Or.inr (Or.inl ⟨ho, rfl⟩)) ts t w, hy, by omega⟩
theorem max_ex {x y : Nat} (hx : rung x < inf) (hy : rung y < inf) : ∃ z, (∀ (P : Program) (ts : Array TypeId) (t : TypeId) (w : World), (Builtin.max_ ts t #[.float .f64 x, .float .f64 y]).run P w = .ok (.float .f64 z) w) ∧ rung z < inf ∧ fv z = max (fv x) (fv y) := by
  have ho := order_cmp hx hy
  rcases Int.lt_trichotomy (fv x) (fv y) with h | h | h
  · rw [Int.compare_eq_lt.2 h] at ho
    exact ⟨y, fun P ts t w => run_max_f64 (Or.inr (Or.inl ⟨ho, rfl⟩)) ts t w, hy, by omega⟩
  · rw [Int.compare_eq_eq.2 h] at ho
    refine ⟨_, fun P ts t w => run_max_f64 (Or.inr (Or.inr ⟨ho, rfl⟩)) ts t w, ?_, ?_⟩ <;> split <;> first | assumption | omega
  · rw [Int.compare_eq_gt.2 h] at ho
    exact ⟨x, fun P ts t w => run_max_f64 (Or.inl ⟨ho, rfl⟩) ts t w, hx, by omega⟩
theorem le_fin {x y : Nat} (hx : rung x < inf) (hy : rung y < inf) : (FloatKind.f64.format.order x y == some .lt || FloatKind.f64.format.order x y == some .eq) = decide (fv x ≤ fv y) := by
  rw [order_cmp hx hy]
  rcases Int.lt_trichotomy (fv x) (fv y) with h | h | h
  · rw [Int.compare_eq_lt.2 h, decide_eq_true (by omega)]; rfl
  · rw [Int.compare_eq_eq.2 h, decide_eq_true (by omega)]; rfl
  · rw [Int.compare_eq_gt.2 h, decide_eq_false (by omega)]; rfl
/-- Does a number lie from one to another one? -/
def inI (x y z : Nat) : Bool := decide (min (fv x) (fv y) ≤ fv z) && decide (fv z ≤ max (fv x) (fv y))
set_option maxHeartbeats 1000000 in
theorem owithin_calls (x y z : Nat) (hx : rung x < inf) (hy : rung y < inf) (hz : rung z < inf) (w : World) :
    Calls Tryd.prog 29 #[.float .f64 x, .float .f64 y, .float .f64 z] w fun e w' => e = .returned (.bool (inI x y z)) ∧ w = w' := by
  obtain ⟨a, ha, ha1, ha2⟩ := min_ex hx hy
  obtain ⟨b, hb, hb1, hb2⟩ := max_ex hx hy
  have h1 := le_fin ha1 hz
  have h2 := le_fin hz hb1
  have hmin := ha Tryd.prog
  have hmax := hb Tryd.prog
  have he : inI x y z = (decide (fv a ≤ fv z) && decide (fv z ≤ fv b)) := by unfold inI; rw [ha2, hb2]
  rw [he]
  obtain ⟨d1, hd1⟩ : ∃ d, d = decide (fv a ≤ fv z) := ⟨_, rfl⟩
  obtain ⟨d2, hd2⟩ : ∃ d, d = decide (fv z ≤ fv b) := ⟨_, rfl⟩
  rw [← hd1] at h1 ⊢
  rw [← hd2] at h2 ⊢
  clear ha hb ha1 ha2 hb1 hb2 he hd1 hd2 hx hy hz
  cases d1 <;> cases d2
  all_goals
    go_enter Tryd.func29, Tryd.ntmps29
    go_wp2_with fail
    go_ret
    exact ⟨rfl, rfl⟩
/-- Does a point lie on a segment? -/
def onB (ax ay bx bY cx cy : Nat) : Bool := mayL [(ax, ay), (bx, bY), (cx, cy)] && ((osg ax ay bx bY cx cy == 0) && (inI ax bx cx && inI ay bY cy))
set_option maxRecDepth 100000 in
set_option maxHeartbeats 2000000 in
theorem oon_calls {w : World} (ht : TabOk w) (ax ay bx bY cx cy : Nat) (hax : ax < 18446744073709551616) (hay : ay < 18446744073709551616) (hbx : bx < 18446744073709551616) (hby : bY < 18446744073709551616) (hcx : cx < 18446744073709551616) (hcy : cy < 18446744073709551616) :
    Calls Tryd.prog 15 #[.agg #[.float .f64 ax, .float .f64 ay], .agg #[.float .f64 bx, .float .f64 bY], .agg #[.float .f64 cx, .float .f64 cy]] w fun e w' => e = .returned (.bool (onB ax ay bx bY cx cy)) ∧ Below w.heap.size w w' := by
  have HS := Lib.hid (fun (W : World) (hT : TabOk W) => osign_calls hT ax ay bx bY cx cy hax hay hbx hby hcx hcy)
  have HMay := Lib.hid (fun (W : World) (b c : Nat) (h : Pts W b 0 [(ax, ay), (bx, bY), (cx, cy)]) (hb : b < W.heap.size) => omay_calls [(ax, ay), (bx, bY), (cx, cy)] (wf3 hax hay hbx hby hcx hcy) (by simp) b c W h hb)
  have HI := Lib.hid (fun (hm : mayL [(ax, ay), (bx, bY), (cx, cy)] = true) => (by
    obtain ⟨m1, m2, m3, m4, m5, m6⟩ := mayL3 hm
    exact ⟨fun W => owithin_calls ax bx cx (mayB_co hax m1).1.2 (mayB_co hbx m3).1.2 (mayB_co hcx m5).1.2 W, fun W => owithin_calls ay bY cy (mayB_co hay m2).1.2 (mayB_co hby m4).1.2 (mayB_co hcy m6).1.2 W⟩ :
      (∀ W, Calls Tryd.prog 29 #[.float .f64 ax, .float .f64 bx, .float .f64 cx] W fun e w' => e = .returned (.bool (inI ax bx cx)) ∧ W = w') ∧ (∀ W, Calls Tryd.prog 29 #[.float .f64 ay, .float .f64 bY, .float .f64 cy] W fun e w' => e = .returned (.bool (inI ay bY cy)) ∧ W = w')))
  have HPT := Lib.hid (fun (W : World) => pt3 W 24 ax ay bx bY cx cy)
  unfold onB
  obtain ⟨SS, hSS⟩ : ∃ S, S = osg ax ay bx bY cx cy := ⟨_, rfl⟩
  obtain ⟨ME, hME⟩ : ∃ M, M = mayL [(ax, ay), (bx, bY), (cx, cy)] := ⟨_, rfl⟩
  obtain ⟨I1, hI1⟩ : ∃ M, M = inI ax bx cx := ⟨_, rfl⟩
  obtain ⟨I2, hI2⟩ : ∃ M, M = inI ay bY cy := ⟨_, rfl⟩
  rw [← hSS] at HS
  rw [← hME] at HMay HI
  rw [← hI1, ← hI2] at HI
  rw [← hSS, ← hME, ← hI1, ← hI2]
  obtain ⟨wn, hwn, HW0, hsz, k0, k1, k2⟩ := three_cells w (.cells #[.float .f64 ax, .float .f64 ay] 24) (.cells #[.float .f64 bx, .float .f64 bY] 24) (.cells #[.float .f64 cx, .float .f64 cy] 24)
  have HK0 := Lib.hid k0
  have HK1 := Lib.hid k1
  have HK2 := Lib.hid k2
  have HW := Lib.hid HW0
  have HT := Lib.hid (ht.keep HW0)
  have HPN := HPT.out wn
  have e3 : wn.heap.size = w.heap.size + 1 + 1 + 1 := hsz
  rw [e3] at HPN
  have HP3 := Lib.hid HPN
  have HLT := Lib.hid (show w.heap.size + 1 + 1 + 1 < (wn.alloc (.cells #[.float .f64 ax, .float .f64 ay, .float .f64 bx, .float .f64 bY, .float .f64 cx, .float .f64 cy] 24)).heap.size by rw [World.size_alloc]; omega)
  clear hSS hME hI1 hI2 hax hay hbx hby hcx hcy k0 k1 k2 HW0 ht HPN e3 hsz
  go_enter Tryd.func15, Tryd.ntmps15
  go_wp2_with fail
  rw [← hwn]
  clear hwn
  refine (HMay.out _ _ _ HP3.out HLT.out).mono ?_
  rintro _ w1 ⟨rfl, b1⟩
  have B1 := (kp_alloc wn (.cells #[.float .f64 ax, .float .f64 ay, .float .f64 bx, .float .f64 bY, .float .f64 cx, .float .f64 cy] 24)).trans (b1.mono (by simp))
  have HW1 := Lib.hid (bl_pack HW.out HW.out.size B1)
  have HT1 := Lib.hid (HT.out.keep B1)
  have a0 : w1.cell? ⟨w.heap.size, 0, none⟩ = some (.float .f64 ax) := keep_cell B1 (cell_of_block HK0.out 0)
  have a1 : w1.cell? ⟨w.heap.size, 1, none⟩ = some (.float .f64 ay) := keep_cell B1 (cell_of_block HK0.out 1)
  have b0 : w1.cell? ⟨w.heap.size + 1, 0, none⟩ = some (.float .f64 bx) := keep_cell B1 (cell_of_block HK1.out 0)
  have b2 : w1.cell? ⟨w.heap.size + 1, 1, none⟩ = some (.float .f64 bY) := keep_cell B1 (cell_of_block HK1.out 1)
  have c0 : w1.cell? ⟨w.heap.size + 1 + 1, 0, none⟩ = some (.float .f64 cx) := keep_cell B1 (cell_of_block HK2.out 0)
  have c1 : w1.cell? ⟨w.heap.size + 1 + 1, 1, none⟩ = some (.float .f64 cy) := keep_cell B1 (cell_of_block HK2.out 1)
  clear b1 B1
  cases ME with
  | false =>
    go_wp2_with fail
    go_ret
    exact ⟨rfl, HW1.out⟩
  | true =>
    obtain ⟨i1, i2⟩ := HI.out rfl
    have HI1 := Lib.hid i1
    have HI2 := Lib.hid i2
    have HS1 := Lib.hid (HS.out w1 HT1.out)
    clear i1 i2
    go_wp2_with fail
    refine HS1.out.mono ?_
    rintro _ w2 ⟨rfl, b3⟩
    have HW2 := Lib.hid (bl_pack HW1.out HW1.out.size b3)
    have a0 := keep_cell b3 a0
    have a1 := keep_cell b3 a1
    have b0 := keep_cell b3 b0
    have b2 := keep_cell b3 b2
    have c0 := keep_cell b3 c0
    have c1 := keep_cell b3 c1
    clear b3
    obtain ⟨z, hz⟩ : ∃ z, (SS == 0) = z := ⟨_, rfl⟩
    have HZ := Lib.hid hz
    cases z with
    | false =>
      go_wp2_with fail
      go_ret
      exact ⟨ret_bool (by rw [HZ.out]; rfl), HW2.out⟩
    | true =>
      go_wp2_with fail
      refine (HI1.out _).mono ?_
      rintro _ w3 ⟨rfl, rfl⟩
      cases I1 with
      | false =>
        go_wp2_with fail
        go_ret
        exact ⟨ret_bool (by rw [HZ.out]; rfl), HW2.out⟩
      | true =>
        go_wp2_with fail
        refine (HI2.out _).mono ?_
        rintro _ w3 ⟨rfl, rfl⟩
        go_wp2_with fail
        go_ret
        exact ⟨ret_bool (by rw [HZ.out]; rfl), HW2.out⟩
end Go.Proofs.YtiihokgjplpceaaDoor
