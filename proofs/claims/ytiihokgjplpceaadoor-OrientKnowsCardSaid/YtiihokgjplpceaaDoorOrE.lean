/- Package orient, walked: sign, Fast. -/
import Derived.Test.YtiihokgjplpceaaDoorOrC
import Derived.Test.YtiihokgjplpceaaDoorOrB
import Derived.Test.YtiihokgjplpceaaDoorEwJ
namespace Go.Proofs.YtiihokgjplpceaaDoor
open Go.RowKit TV
set_option linter.unusedVariables false

theorem osign1_calls (d : Nat) (hf : rung d < inf) (w : World) :
    Calls Tryd.prog 26 #[.float .f64 d] w fun e w' => e = .returned (.int .i64 (TV.sg (fv d))) ∧ w = w' := by
  have h1 := order_le (x := d) (y := 0) (by omega) (by decide)
  have h2 : fv 0 = 0 := by decide
  rw [h2] at h1
  have h3 : FloatKind.f64.format.order d 0 = some (compare (fv d) 0) := h1
  unfold TV.sg
  rcases Int.lt_trichotomy (fv d) 0 with h | h | h
  · rw [Int.compare_eq_lt.2 h] at h3
    rw [if_pos h]
    clear h h1 h2 hf
    go_enter Tryd.func26, Tryd.ntmps26
    go_wp2_with fail
    go_ret
    exact ⟨rfl, rfl⟩
  · rw [Int.compare_eq_eq.2 h] at h3
    rw [if_neg (by omega), if_pos h]
    clear h h1 h2 hf
    go_enter Tryd.func26, Tryd.ntmps26
    go_wp2_with fail
    go_ret
    exact ⟨rfl, rfl⟩
  · rw [Int.compare_eq_gt.2 h] at h3
    rw [if_neg (by omega), if_neg (by omega)]
    clear h h1 h2 hf
    go_enter Tryd.func26, Tryd.ntmps26
    go_wp2_with fail
    go_ret
    exact ⟨rfl, rfl⟩
/-- A coordinate that may be, in units. -/
theorem mayB_co {x : Nat} (hx : x < 18446744073709551616) (h : mayB x = true) : Co x := by
  unfold mayB at h
  rw [Bool.and_eq_true] at h
  have h1 := of_decide_eq_true h.1
  have h2 := of_decide_eq_true h.2
  have hi := C100_inf
  refine ⟨⟨hx, by omega⟩, ?_, ?_⟩
  · have h3 := mag_le h1
    rw [fv_natAbs]
    have h4 : mag C100 = kC := by unfold C100 kC; decide +kernel
    omega
  · have h4 : ((uL : Nat) : Int) ∣ fv x := by rw [Int.ofNat_dvd_left, fv_natAbs]; exact h2
    unfold uL at h4
    rw [show uE - 100 = j974 from rfl] at h4
    exact h4
/-- The sum of three points, in units. -/
def osum (ax ay bx bY cx cy : Nat) : Int := (fv bx - fv ax) * (fv cy - fv ay) - (fv bY - fv ay) * (fv cx - fv ax)
/-- Its sign, if the points may be. -/
def osg (ax ay bx bY cx cy : Nat) : Int := if mayL [(ax, ay), (bx, bY), (cx, cy)] = true then TV.sg (osum ax ay bx bY cx cy) else 0
def fX (ax ay bx bY cx cy : Nat) : Nat := fmul (fsub bx ax) (fsub cy ay)
def fY (ax ay bx bY cx cy : Nat) : Nat := fmul (fsub bY ay) (fsub cx ax)
/-- Is it told fast? -/
def fastOk (ax ay bx bY cx cy : Nat) : Bool := mayL [(ax, ay), (bx, bY), (cx, cy)] &&
  decide (Rn ((((fv (fX ax ay bx bY cx cy)).natAbs + (fv (fY ax ay bx bY cx cy)).natAbs : Nat)) : Int) < (((fv (fsub (fX ax ay bx bY cx cy) (fY ax ay bx bY cx cy))).natAbs * 1125899906842624 : Nat) : Int))
theorem mayL3 {ax ay bx bY cx cy : Nat} (h : mayL [(ax, ay), (bx, bY), (cx, cy)] = true) : mayB ax = true ∧ mayB ay = true ∧ mayB bx = true ∧ mayB bY = true ∧ mayB cx = true ∧ mayB cy = true := by
  simp only [mayL, List.all_cons, List.all_nil, Bool.and_true, Bool.and_eq_true] at h
  exact ⟨h.1.1, h.1.2, h.2.1.1, h.2.1.2, h.2.2.1, h.2.2.2⟩
theorem sg_mul {n : Int} {U : Nat} (h : 0 < U) : TV.sg (n * (U : Int)) = TV.sg n := by
  have hU : (0 : Int) < (U : Int) := by omega
  unfold TV.sg
  rcases Int.lt_trichotomy n 0 with h1 | h1 | h1
  · rw [if_pos h1, if_pos (Int.mul_neg_of_neg_of_pos h1 hU)]
  · rw [h1, Int.zero_mul]
  · have := Int.mul_pos h1 hU
    rw [if_neg (by omega), if_neg (by omega), if_neg (by omega), if_neg (by omega)]
theorem pt3 (w : World) (T : TypeId) (ax ay bx bY cx cy : Nat) : Pts (w.alloc (.cells #[.float .f64 ax, .float .f64 ay, .float .f64 bx, .float .f64 bY, .float .f64 cx, .float .f64 cy] T)) w.heap.size 0 [(ax, ay), (bx, bY), (cx, cy)] := by
  have h := heap_alloc_new w (.cells #[.float .f64 ax, .float .f64 ay, .float .f64 bx, .float .f64 bY, .float .f64 cx, .float .f64 cy] T)
  intro k hk
  match k with
  | 0 => exact ⟨cell_of_block h 0, cell_of_block h 1⟩
  | 1 => exact ⟨cell_of_block h 2, cell_of_block h 3⟩
  | 2 => exact ⟨cell_of_block h 4, cell_of_block h 5⟩
  | k + 3 => simp at hk; omega
theorem wf3 {ax ay bx bY cx cy : Nat} (hax : ax < 18446744073709551616) (hay : ay < 18446744073709551616) (hbx : bx < 18446744073709551616) (hby : bY < 18446744073709551616) (hcx : cx < 18446744073709551616) (hcy : cy < 18446744073709551616) :
    ∀ p ∈ [(ax, ay), (bx, bY), (cx, cy)], p.1 < 18446744073709551616 ∧ p.2 < 18446744073709551616 := fun p hp => by
  simp only [List.mem_cons, List.not_mem_nil, or_false] at hp
  rcases hp with rfl | rfl | rfl
  · exact ⟨hax, hay⟩
  · exact ⟨hbx, hby⟩
  · exact ⟨hcx, hcy⟩
/-- What Fast reckons, and that it is right. -/
theorem fast_facts {ax ay bx bY cx cy : Nat} (hax : Co ax) (hay : Co ay) (hbx : Co bx) (hby : Co bY) (hcx : Co cx) (hcy : Co cy) (hc : Rn ((((fv (fX ax ay bx bY cx cy)).natAbs + (fv (fY ax ay bx bY cx cy)).natAbs : Nat)) : Int) < (((fv (fsub (fX ax ay bx bY cx cy) (fY ax ay bx bY cx cy))).natAbs * 1125899906842624 : Nat) : Int)) :
    TV.sg (fv (fsub (fX ax ay bx bY cx cy) (fY ax ay bx bY cx cy))) = TV.sg (osum ax ay bx bY cx cy) := by
  obtain ⟨-, -, -, -, -, -, x, y, hx, hy, -, -, -, -, -, -, -, -, -, hd, -, ⟨t, t1, t2⟩, s, s1, s2⟩ := fast_vals hax hay hbx hby hcx hcy
  have ex : fX ax ay bx bY cx cy = x := hx.symm
  have ey : fY ax ay bx bY cx cy = y := hy.symm
  rw [ex, ey] at hc ⊢
  rw [hd, t2, s2] at hc
  obtain ⟨m1, hm1⟩ := hbx.2.2
  obtain ⟨m2, hm2⟩ := hax.2.2
  obtain ⟨m3, hm3⟩ := hcy.2.2
  obtain ⟨m4, hm4⟩ := hay.2.2
  obtain ⟨m5, hm5⟩ := hby.2.2
  obtain ⟨m6, hm6⟩ := hcx.2.2
  have hsp : ((2 ^ j974 : Nat) : Int) * ((2 ^ j974 : Nat) : Int) = ((2 ^ j874 : Nat) : Int) * (uW : Int) := by
    rw [← uE_cast, pow_split (i := j974) (j := j974) (k := j874 + uE) rfl, pow_split rfl]
  have hX : ((m1 - m2) * (m3 - m4) * ((2 ^ j874 : Nat) : Int)) * (uW : Int) = (fv bx - fv ax) * (fv cy - fv ay) := by
    rw [hm1, hm2, hm3, hm4, ← Int.mul_sub, ← Int.mul_sub, Int.mul_assoc, ← hsp]
    generalize ((2 ^ j974 : Nat) : Int) = P
    ac_rfl
  have hY : ((m5 - m4) * (m6 - m2) * ((2 ^ j874 : Nat) : Int)) * (uW : Int) = (fv bY - fv ay) * (fv cx - fv ax) := by
    rw [hm5, hm4, hm6, hm2, ← Int.mul_sub, ← Int.mul_sub, Int.mul_assoc, ← hsp]
    generalize ((2 ^ j974 : Nat) : Int) = P
    ac_rfl
  have := fast_law uW_pos t1 s1 hX hY hc
  have e : osum ax ay bx bY cx cy = ((m1 - m2) * (m3 - m4) * ((2 ^ j874 : Nat) : Int) - (m5 - m4) * (m6 - m2) * ((2 ^ j874 : Nat) : Int)) * (uW : Int) := by
    unfold osum
    rw [← hX, ← hY]; exact (Int.sub_mul _ _ _).symm
  rw [hd, t2, s2, this, e, sg_mul uW_pos]
theorem three_cells (w : World) (o0 o1 o2 : Obj) : ∃ wn, wn = ((w.alloc o0).alloc o1).alloc o2 ∧ Below w.heap.size w wn ∧ wn.heap.size = w.heap.size + 3 ∧
    wn.heap[w.heap.size]? = some o0 ∧ wn.heap[w.heap.size + 1]? = some o1 ∧ wn.heap[w.heap.size + 1 + 1]? = some o2 := by
  have a0 := heap_alloc_new w o0
  have a1 := heap_alloc_new (w.alloc o0) o1
  have a2 := heap_alloc_new ((w.alloc o0).alloc o1) o2
  simp only [World.size_alloc] at a1 a2
  refine ⟨_, rfl, (((Below.refl w.heap.size w).alloc (Nat.le_refl _) _).alloc (by simp) _).alloc (by simp <;> omega) _, by simp, ?_, ?_, a2⟩
  · exact ((Below.heap_alloc _ _ _ (by simp <;> omega)).trans (Below.heap_alloc _ _ _ (by simp))).trans a0
  · exact (Below.heap_alloc _ _ _ (by simp)).trans a1
set_option maxRecDepth 100000 in
set_option maxHeartbeats 2000000 in
theorem fast_calls (ax ay bx bY cx cy : Nat) (hax : ax < 18446744073709551616) (hay : ay < 18446744073709551616) (hbx : bx < 18446744073709551616) (hby : bY < 18446744073709551616) (hcx : cx < 18446744073709551616) (hcy : cy < 18446744073709551616) (w : World) :
    Calls Tryd.prog 10 #[.agg #[.float .f64 ax, .float .f64 ay], .agg #[.float .f64 bx, .float .f64 bY], .agg #[.float .f64 cx, .float .f64 cy]] w fun e w' =>
      e = .returned (.tuple #[.int .i64 (if fastOk ax ay bx bY cx cy = true then osg ax ay bx bY cx cy else 0), .bool (fastOk ax ay bx bY cx cy)]) ∧ Below w.heap.size w w' := by
  have HMay := Lib.hid (fun (W : World) (b c : Nat) (h : Pts W b 0 [(ax, ay), (bx, bY), (cx, cy)]) (hb : b < W.heap.size) => omay_calls [(ax, ay), (bx, bY), (cx, cy)] (wf3 hax hay hbx hby hcx hcy) (by simp) b c W h hb)
  have p3 := pt3 (((w.alloc (.cells #[.float .f64 ax, .float .f64 ay] 24)).alloc (.cells #[.float .f64 bx, .float .f64 bY] 24)).alloc (.cells #[.float .f64 cx, .float .f64 cy] 24)) 24 ax ay bx bY cx cy
  obtain ⟨wn, hwn, HW0, hsz, k0, k1, k2⟩ := three_cells w (.cells #[.float .f64 ax, .float .f64 ay] 24) (.cells #[.float .f64 bx, .float .f64 bY] 24) (.cells #[.float .f64 cx, .float .f64 cy] 24)
  rw [← hwn] at p3
  have e3 : wn.heap.size = w.heap.size + 1 + 1 + 1 := hsz
  rw [e3] at p3
  have HP3 := Lib.hid p3
  have HLT := Lib.hid (show w.heap.size + 1 + 1 + 1 < (wn.alloc (.cells #[.float .f64 ax, .float .f64 ay, .float .f64 bx, .float .f64 bY, .float .f64 cx, .float .f64 cy] 24)).heap.size by rw [World.size_alloc]; omega)
  have HK0 := Lib.hid k0
  have HK1 := Lib.hid k1
  have HK2 := Lib.hid k2
  have HWN := Lib.hid HW0
  have HNW := Lib.hid hwn
  have HSZ := Lib.hid hsz
  clear p3 hsz k0 k1 k2 HW0 e3
  by_cases hm : mayL [(ax, ay), (bx, bY), (cx, cy)] = true
  · obtain ⟨m1, m2, m3, m4, m5, m6⟩ := mayL3 hm
    have c1 := mayB_co hax m1
    have c2 := mayB_co hay m2
    have c3 := mayB_co hbx m3
    have c4 := mayB_co hby m4
    have c5 := mayB_co hcx m5
    have c6 := mayB_co hcy m6
    have hff := fast_facts c1 c2 c3 c4 c5 c6
    obtain ⟨e1, e2, e3, e4, e5, e6, x, y, hx, hy, kx, ky, e7, kd, fd, e8, e9, fm, -, -, ho, -⟩ := fast_vals c1 c2 c3 c4 c5 c6
    have ex : fX ax ay bx bY cx cy = x := hx.symm
    have ey : fY ax ay bx bY cx cy = y := hy.symm
    rw [ex, ey] at hff
    have hok : fastOk ax ay bx bY cx cy = decide (Rn ((((fv x).natAbs + (fv y).natAbs : Nat)) : Int) < (((fv (fsub x y)).natAbs * 1125899906842624 : Nat) : Int)) := by
      unfold fastOk; rw [hm, Bool.true_and, ex, ey]
    have hos : osg ax ay bx bY cx cy = TV.sg (osum ax ay bx bY cx cy) := by unfold osg; rw [if_pos hm]
    rw [hok, hos]
    rw [hm] at HMay
    change (FloatKind.f64.format.order _ _ == some .gt) = _ at ho
    unfold BND at ho e9
    have gx : fmul (fsub bx ax) (fsub cy ay) = x := hx.symm
    have gy : fmul (fsub bY ay) (fsub cx ax) = y := hy.symm
    obtain ⟨d, hd⟩ : ∃ d, fsub x y = d := ⟨_, rfl⟩
    obtain ⟨s, hs⟩ : ∃ s, fadd (rung x) (rung y) = s := ⟨_, rfl⟩
    obtain ⟨m, hmm⟩ : ∃ m, fmul 4382002437431492608 s = m := ⟨_, rfl⟩
    rw [hd] at hff ho kd fd ⊢
    rw [hs] at e9 ho
    rw [hmm] at ho
    have HAx := Lib.hid (fun W => abs_calls x kx W)
    have HAy := Lib.hid (fun W => abs_calls y ky W)
    have HAd := Lib.hid (fun W => abs_calls d kd W)
    have HSg := Lib.hid (fun W => osign1_calls d fd W)
    have hi := HSZ.out
    obtain ⟨T, hT⟩ : ∃ T, T = Rn ((((fv x).natAbs + (fv y).natAbs : Nat)) : Int) := ⟨_, rfl⟩
    obtain ⟨D, hD⟩ : ∃ D, D = (((fv d).natAbs * 1125899906842624 : Nat) : Int) := ⟨_, rfl⟩
    rw [← hT, ← hD] at hff ho ⊢
    clear hx hy hm hok hos ex ey c1 c2 c3 c4 c5 c6 m1 m2 m3 m4 m5 m6 kx ky kd fd fm hT hD
    by_cases hc : T < D
    · have hq := hff hc
      rw [decide_eq_true hc] at ho ⊢
      rw [hq] at HSg
      obtain ⟨SS, hSS⟩ : ∃ S, S = TV.sg (osum ax ay bx bY cx cy) := ⟨_, rfl⟩
      rw [← hSS] at HSg ⊢
      clear hq hff hc hSS hi
      go_enter Tryd.func10, Tryd.ntmps10
      go_wp2_with fail
      rw [← hwn]
      refine (HMay.out _ _ _ HP3.out HLT.out).mono ?_
      rintro _ w1 ⟨rfl, b1⟩
      have B1 := (kp_alloc wn (.cells #[.float .f64 ax, .float .f64 ay, .float .f64 bx, .float .f64 bY, .float .f64 cx, .float .f64 cy] 24)).trans (b1.mono (by simp))
      have HB := Lib.hid (HWN.out.trans (B1.mono HWN.out.size))
      have a0 : w1.cell? ⟨w.heap.size, 0, none⟩ = some (.float .f64 ax) := keep_cell B1 (cell_of_block HK0.out 0)
      have a1 : w1.cell? ⟨w.heap.size, 1, none⟩ = some (.float .f64 ay) := keep_cell B1 (cell_of_block HK0.out 1)
      have b0 : w1.cell? ⟨w.heap.size + 1, 0, none⟩ = some (.float .f64 bx) := keep_cell B1 (cell_of_block HK1.out 0)
      have b2 : w1.cell? ⟨w.heap.size + 1, 1, none⟩ = some (.float .f64 bY) := keep_cell B1 (cell_of_block HK1.out 1)
      have c0 : w1.cell? ⟨w.heap.size + 1 + 1, 0, none⟩ = some (.float .f64 cx) := keep_cell B1 (cell_of_block HK2.out 0)
      have c1 : w1.cell? ⟨w.heap.size + 1 + 1, 1, none⟩ = some (.float .f64 cy) := keep_cell B1 (cell_of_block HK2.out 1)
      clear b1 B1 hwn
      go_wp2_with (first
        | (go_at_call 25; (first | ((with_reducible refine (HAx.out _).mono ?_); rintro e w' ⟨rfl, rfl⟩) | ((with_reducible refine (HAy.out _).mono ?_); rintro e w' ⟨rfl, rfl⟩) | ((with_reducible refine (HAd.out _).mono ?_); rintro e w' ⟨rfl, rfl⟩)))
        | (go_at_call 26; ((with_reducible refine (HSg.out _).mono ?_); rintro e w' ⟨rfl, rfl⟩)))
      go_ret2
      exact ⟨rfl, HB.out⟩
    · rw [decide_eq_false hc] at ho ⊢
      clear hff hc hi
      go_enter Tryd.func10, Tryd.ntmps10
      go_wp2_with fail
      rw [← hwn]
      refine (HMay.out _ _ _ HP3.out HLT.out).mono ?_
      rintro _ w1 ⟨rfl, b1⟩
      have B1 := (kp_alloc wn (.cells #[.float .f64 ax, .float .f64 ay, .float .f64 bx, .float .f64 bY, .float .f64 cx, .float .f64 cy] 24)).trans (b1.mono (by simp))
      have HB := Lib.hid (HWN.out.trans (B1.mono HWN.out.size))
      have a0 : w1.cell? ⟨w.heap.size, 0, none⟩ = some (.float .f64 ax) := keep_cell B1 (cell_of_block HK0.out 0)
      have a1 : w1.cell? ⟨w.heap.size, 1, none⟩ = some (.float .f64 ay) := keep_cell B1 (cell_of_block HK0.out 1)
      have b0 : w1.cell? ⟨w.heap.size + 1, 0, none⟩ = some (.float .f64 bx) := keep_cell B1 (cell_of_block HK1.out 0)
      have b2 : w1.cell? ⟨w.heap.size + 1, 1, none⟩ = some (.float .f64 bY) := keep_cell B1 (cell_of_block HK1.out 1)
      have c0 : w1.cell? ⟨w.heap.size + 1 + 1, 0, none⟩ = some (.float .f64 cx) := keep_cell B1 (cell_of_block HK2.out 0)
      have c1 : w1.cell? ⟨w.heap.size + 1 + 1, 1, none⟩ = some (.float .f64 cy) := keep_cell B1 (cell_of_block HK2.out 1)
      clear b1 B1 hwn
      go_wp2_with (first
        | (go_at_call 25; (first | ((with_reducible refine (HAx.out _).mono ?_); rintro e w' ⟨rfl, rfl⟩) | ((with_reducible refine (HAy.out _).mono ?_); rintro e w' ⟨rfl, rfl⟩) | ((with_reducible refine (HAd.out _).mono ?_); rintro e w' ⟨rfl, rfl⟩)))
        | (go_at_call 26; ((with_reducible refine (HSg.out _).mono ?_); rintro e w' ⟨rfl, rfl⟩)))
      go_ret2
      exact ⟨rfl, HB.out⟩
  · have hm' : mayL [(ax, ay), (bx, bY), (cx, cy)] = false := by simpa using hm
    have e1 : fastOk ax ay bx bY cx cy = false := by unfold fastOk; rw [hm']; rfl
    rw [e1]
    rw [hm'] at HMay
    clear hm hm' e1
    go_enter Tryd.func10, Tryd.ntmps10
    go_wp2_with fail
    rw [← hwn]
    refine (HMay.out _ _ _ HP3.out HLT.out).mono ?_
    rintro _ w1 ⟨rfl, b1⟩
    have HB := Lib.hid (HWN.out.trans (((kp_alloc wn _ : Below wn.heap.size wn _).trans (b1.mono (by simp))).mono HWN.out.size))
    go_wp2_with fail
    go_ret2
    exact ⟨rfl, HB.out⟩
end Go.Proofs.YtiihokgjplpceaaDoor
