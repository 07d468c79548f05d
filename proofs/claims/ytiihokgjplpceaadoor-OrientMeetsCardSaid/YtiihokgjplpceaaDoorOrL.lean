/- OrientSigns walked. -/
import Derived.Test.YtiihokgjplpceaaDoorOrJ
import Derived.Test.YtiihokgjplpceaaDoorOrG
import Derived.Test.YtiihokgjplpceaaDoorOrD
namespace Go.Proofs.YtiihokgjplpceaaDoor
open Go.RowKit TV
set_option linter.unusedVariables false

theorem mayB_fin {x : Nat} (hx : x < 18446744073709551616) (h : mayB x = true) : rung x < inf := (mayB_co hx h).1.2
theorem ov_un {x : Nat} (h : rung x < inf) : ov x = un (fv x) := by unfold ov un uu; rw [if_pos h]
theorem mul_unit (n : Int) : rs ((n : Rat) * uu * uu) = TV.sg n := by
  have h0 := Rat.mul_pos uu_pos uu_pos
  unfold TV.sg
  rcases Int.lt_trichotomy n 0 with h | h | h
  · rw [if_pos h, Rat.mul_assoc]
    have h1 : 0 < ((-n : Int) : Rat) * (uu * uu) := Rat.mul_pos (Rat.intCast_pos.2 (by omega)) h0
    rw [Rat.intCast_neg] at h1
    exact rs_neg (by grind)
  · rw [h]; rw [show ((0 : Int) : Rat) = 0 from rfl, Rat.zero_mul, Rat.zero_mul]; rfl
  · rw [if_neg (by omega), if_neg (by omega), Rat.mul_assoc]
    exact rs_pos (Rat.mul_pos (Rat.intCast_pos.2 h) h0)
theorem turn_un (ax ay bx bY cx cy : Nat) : turnQ (un (fv ax)) (un (fv ay)) (un (fv bx)) (un (fv bY)) (un (fv cx)) (un (fv cy)) = (osum ax ay bx bY cx cy : Rat) * uu * uu := by
  unfold turnQ osum un
  rw [Rat.intCast_sub, Rat.intCast_mul, Rat.intCast_mul, Rat.intCast_sub, Rat.intCast_sub, Rat.intCast_sub, Rat.intCast_sub]
  grind
/-- The document's answer is osg. -/
theorem sign4_osg {ax ay bx bY cx cy : Nat} (hax : ax < 18446744073709551616) (hay : ay < 18446744073709551616) (hbx : bx < 18446744073709551616) (hby : bY < 18446744073709551616) (hcx : cx < 18446744073709551616) (hcy : cy < 18446744073709551616) :
    (if ((mayB ax && mayB ay) && ((mayB bx && mayB bY) && (mayB cx && mayB cy))) = true then rs (turnQ (ov ax) (ov ay) (ov bx) (ov bY) (ov cx) (ov cy)) else 0) = osg ax ay bx bY cx cy := by
  have e : mayL [(ax, ay), (bx, bY), (cx, cy)] = ((mayB ax && mayB ay) && ((mayB bx && mayB bY) && (mayB cx && mayB cy))) := by simp only [mayL, List.all_cons, List.all_nil, Bool.and_true]
  unfold osg
  rw [← e]
  by_cases h : mayL [(ax, ay), (bx, bY), (cx, cy)] = true
  · obtain ⟨m1, m2, m3, m4, m5, m6⟩ := mayL3 h
    rw [if_pos h, if_pos h, ov_un (mayB_fin hax m1), ov_un (mayB_fin hay m2), ov_un (mayB_fin hbx m3), ov_un (mayB_fin hby m4), ov_un (mayB_fin hcx m5), ov_un (mayB_fin hcy m6), turn_un, mul_unit]
  · rw [if_neg h, if_neg h]
theorem rsign_calls (ax ay bx bY cx cy : Nat) (hax : ax < 18446744073709551616) (hay : ay < 18446744073709551616) (hbx : bx < 18446744073709551616) (hby : bY < 18446744073709551616) (hcx : cx < 18446744073709551616) (hcy : cy < 18446744073709551616) (w : World) :
    Calls Tryd.prog 9 #[.agg #[.float .f64 ax, .float .f64 ay], .agg #[.float .f64 bx, .float .f64 bY], .agg #[.float .f64 cx, .float .f64 cy]] w fun e w' =>
      e = .returned (.int .i64 (osg ax ay bx bY cx cy)) ∧ Below w.heap.size w w' := by
  rw [← sign4_osg hax hay hbx hby hcx hcy]
  exact Sign4_calls ax ay bx bY cx cy hax hay hbx hby hcx hcy w
theorem fast_may {ax ay bx bY cx cy : Nat} (h : fastOk ax ay bx bY cx cy = true) : (mayB ax && mayB ay) = true ∧ (mayB bx && mayB bY) = true ∧ (mayB cx && mayB cy) = true := by
  unfold fastOk at h
  rw [Bool.and_eq_true] at h
  obtain ⟨m1, m2, m3, m4, m5, m6⟩ := mayL3 h.1
  rw [m1, m2, m3, m4, m5, m6]; decide
set_option maxRecDepth 100000 in
set_option maxHeartbeats 4000000 in
theorem signs_walk {w : World} (ht : TabOk w) (ax ay bx bY cx cy : Nat) (hax : ax < 18446744073709551616) (hay : ay < 18446744073709551616) (hbx : bx < 18446744073709551616) (hby : bY < 18446744073709551616) (hcx : cx < 18446744073709551616) (hcy : cy < 18446744073709551616) :
    Calls Tryd.prog 3 #[.agg #[.float .f64 ax, .float .f64 ay], .agg #[.float .f64 bx, .float .f64 bY], .agg #[.float .f64 cx, .float .f64 cy]] w fun e w' => e = .returned (.bool true) ∧ Below w.heap.size w w' := by
  have HR := Lib.hid (fun (W : World) => rsign_calls ax ay bx bY cx cy hax hay hbx hby hcx hcy W)
  have HF := Lib.hid (fun (W : World) => fast_calls ax ay bx bY cx cy hax hay hbx hby hcx hcy W)
  have HS := Lib.hid (fun (W : World) (hT : TabOk W) => osign_calls hT ax ay bx bY cx cy hax hay hbx hby hcx hcy)
  have HMa := Lib.hid (fun W => May_calls ax ay hax hay W)
  have HMb := Lib.hid (fun W => May_calls bx bY hbx hby W)
  have HMc := Lib.hid (fun W => May_calls cx cy hcx hcy W)
  have HAW := Lib.hid (fun (W : World) (hT : TabOk W) => awake_calls hT)
  have hm := @fast_may ax ay bx bY cx cy
  have hb := osg_bound ax ay bx bY cx cy
  obtain ⟨S, hS⟩ : ∃ S, S = osg ax ay bx bY cx cy := ⟨_, rfl⟩
  obtain ⟨F, hF⟩ : ∃ F, F = fastOk ax ay bx bY cx cy := ⟨_, rfl⟩
  rw [← hS] at HR HF HS hb
  rw [← hF] at HF hm
  obtain ⟨A, hA⟩ : ∃ A, A = (mayB ax && mayB ay) := ⟨_, rfl⟩
  obtain ⟨B, hB⟩ : ∃ B, B = (mayB bx && mayB bY) := ⟨_, rfl⟩
  obtain ⟨C, hC⟩ : ∃ C, C = (mayB cx && mayB cy) := ⟨_, rfl⟩
  rw [← hA] at HMa hm
  rw [← hB] at HMb hm
  rw [← hC] at HMc hm
  obtain ⟨wn, hwn, HW0, hsz, k0, k1, k2⟩ := three_cells4 w (.cells #[.float .f64 ax, .float .f64 ay] 24) (.cells #[.float .f64 bx, .float .f64 bY] 24) (.cells #[.float .f64 cx, .float .f64 cy] 24)
  have a0 : wn.cell? ⟨w.heap.size, 0, none⟩ = some (.float .f64 ax) := cell_of_block k0 0
  have a1 : wn.cell? ⟨w.heap.size, 1, none⟩ = some (.float .f64 ay) := cell_of_block k0 1
  have b0 : wn.cell? ⟨w.heap.size + 1, 0, none⟩ = some (.float .f64 bx) := cell_of_block k1 0
  have b1 : wn.cell? ⟨w.heap.size + 1, 1, none⟩ = some (.float .f64 bY) := cell_of_block k1 1
  have c0 : wn.cell? ⟨w.heap.size + 1 + 1, 0, none⟩ = some (.float .f64 cx) := cell_of_block k2 0
  have c1 : wn.cell? ⟨w.heap.size + 1 + 1, 1, none⟩ = some (.float .f64 cy) := cell_of_block k2 1
  have HW := Lib.hid HW0
  have HT := Lib.hid (ht.keep HW0)
  have hc : S = -1 ∨ S = 0 ∨ S = 1 := by omega
  have HMM := Lib.hid hm
  clear hA hB hC hS hF hb hm HW0 hsz k0 k1 k2 ht hax hay hbx hby hcx hcy
  obtain ⟨F0, hF0⟩ : ∃ z : Int, z = if F = true then S else 0 := ⟨_, rfl⟩
  rw [← hF0] at HF
  have HFS := Lib.hid hF0
  clear hF0
  have hc0 : F = false ∧ F0 = 0 ∨ F = true ∧ F0 = S := by
    have h := HFS.out
    cases F
    · exact Or.inl ⟨rfl, h⟩
    · exact Or.inr ⟨rfl, h⟩
  clear HFS
  rcases hc0 with ⟨rfl, rfl⟩ | ⟨rfl, rfl⟩
  all_goals
  rcases hc with rfl | rfl | rfl
  all_goals
    go_enter Tryd.func3, Tryd.ntmps3
    go_wp2_with fail
    rw [← hwn]
    clear hwn
    refine (HR.out _).mono ?_
    rintro _ w1 ⟨rfl, hb⟩
    have a0 := keep_cell hb a0
    have a1 := keep_cell hb a1
    have b0 := keep_cell hb b0
    have b1 := keep_cell hb b1
    have c0 := keep_cell hb c0
    have c1 := keep_cell hb c1
    have HT := Lib.hid (HT.out.keep hb)
    have HW := Lib.hid (HW.out.trans (hb.mono HW.out.size))
    clear hb
    go_wp2_with fail
    refine (HF.out _).mono ?_
    rintro _ w2 ⟨rfl, hb⟩
    have a0 := keep_cell hb a0
    have a1 := keep_cell hb a1
    have b0 := keep_cell hb b0
    have b1 := keep_cell hb b1
    have c0 := keep_cell hb c0
    have c1 := keep_cell hb c1
    have HT := Lib.hid (HT.out.keep hb)
    have HW := Lib.hid (HW.out.trans (hb.mono HW.out.size))
    clear hb
    go_wp2_with fail
    refine (HS.out _ HT.out).mono ?_
    rintro _ w3 ⟨rfl, hb⟩
    have a0 := keep_cell hb a0
    have a1 := keep_cell hb a1
    have b0 := keep_cell hb b0
    have b1 := keep_cell hb b1
    have c0 := keep_cell hb c0
    have c1 := keep_cell hb c1
    have HT := Lib.hid (HT.out.keep hb)
    have HW := Lib.hid (HW.out.trans (hb.mono HW.out.size))
    clear hb
    first
    | (obtain ⟨rfl, rfl, rfl⟩ := HMM.out (by trivial)
       go_wp2_with fail
       refine (HMa.out _).mono ?_
       rintro _ w4 ⟨rfl, hb⟩
       have a0 := keep_cell hb a0
       have a1 := keep_cell hb a1
       have b0 := keep_cell hb b0
       have b1 := keep_cell hb b1
       have c0 := keep_cell hb c0
       have c1 := keep_cell hb c1
       have HT := Lib.hid (HT.out.keep hb)
       have HW := Lib.hid (HW.out.trans (hb.mono HW.out.size))
       clear hb
       go_wp2_with fail
       refine (HMb.out _).mono ?_
       rintro _ w5 ⟨rfl, hb⟩
       have a0 := keep_cell hb a0
       have a1 := keep_cell hb a1
       have b0 := keep_cell hb b0
       have b1 := keep_cell hb b1
       have c0 := keep_cell hb c0
       have c1 := keep_cell hb c1
       have HT := Lib.hid (HT.out.keep hb)
       have HW := Lib.hid (HW.out.trans (hb.mono HW.out.size))
       clear hb
       go_wp2_with fail
       refine (HMc.out _).mono ?_
       rintro _ w6 ⟨rfl, hb⟩
       have a0 := keep_cell hb a0
       have a1 := keep_cell hb a1
       have b0 := keep_cell hb b0
       have b1 := keep_cell hb b1
       have c0 := keep_cell hb c0
       have c1 := keep_cell hb c1
       have HT := Lib.hid (HT.out.keep hb)
       have HW := Lib.hid (HW.out.trans (hb.mono HW.out.size))
       clear hb
       go_wp2_with fail
       refine (HAW.out _ HT.out).mono ?_
       rintro _ w7 ⟨rfl, hb⟩
       have a0 := keep_cell hb a0
       have a1 := keep_cell hb a1
       have b0 := keep_cell hb b0
       have b1 := keep_cell hb b1
       have c0 := keep_cell hb c0
       have c1 := keep_cell hb c1
       have HT := Lib.hid (HT.out.keep hb)
       have HW := Lib.hid (HW.out.trans (hb.mono HW.out.size))
       clear hb
       go_wp2_with fail
       go_ret
       exact ⟨rfl, HW.out⟩)
    | (go_wp2_with fail
       refine (HAW.out _ HT.out).mono ?_
       rintro _ w4 ⟨rfl, hb⟩
       have a0 := keep_cell hb a0
       have a1 := keep_cell hb a1
       have b0 := keep_cell hb b0
       have b1 := keep_cell hb b1
       have c0 := keep_cell hb c0
       have c1 := keep_cell hb c1
       have HT := Lib.hid (HT.out.keep hb)
       have HW := Lib.hid (HW.out.trans (hb.mono HW.out.size))
       clear hb
       go_wp2_with fail
       go_ret
       exact ⟨rfl, HW.out⟩)
end Go.Proofs.YtiihokgjplpceaaDoor
