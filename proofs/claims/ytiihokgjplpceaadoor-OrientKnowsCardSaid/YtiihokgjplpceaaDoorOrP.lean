/- Texts of one kind, joined. -/
import Derived.Test.YtiihokgjplpceaaDoorOrJ
import Derived.Test.YtiihokgjplpceaaDoorOrG
import Derived.Test.YtiihokgjplpceaaDoorOrD
import Derived.Test.YtiihokgjplpceaaDoorFaB
import Derived.Deep.RegionHeld3

section
/- OrientSigns walked. -/
namespace Go.Proofs.YtiihokgjplpceaaDoor
open Go.RowKit TV
set_option linter.unusedVariables false

theorem mayB_fin {x : Nat} (hx : x < 18446744073709551616) (h : mayB x = true) : rung x < inf := (mayB_co hx h).1.2
theorem ov_un {x : Nat} (h : rung x < inf) : ov x = un (fv x) := by unfold ov un uu; rw [if_pos h]
theorem mul_unit (n : Int) : rs ((n : Rat) * uu * uu) = TV.sg n := by
  have h0 := Rat.mul_pos uu_pos uu_pos
  unfold TV.sg
  rcases Int.lt_trichotomy n 0 with h | h | h
  · rw [if_pos h, Rat.mul_assoc]
    have h1 : 0 < ((-n : Int) : Rat) * (uu * uu) := Rat.mul_pos (Rat.intCast_pos.2 (by omega)) h0
    rw [Rat.intCast_neg] at h1
    exact rs_neg (by grind)
  · rw [h]; rw [show ((0 : Int) : Rat) = 0 from rfl, Rat.zero_mul, Rat.zero_mul]; rfl
  · rw [if_neg (by omega), if_neg (by omega), Rat.mul_assoc]
    exact rs_pos (Rat.mul_pos (Rat.intCast_pos.2 h) h0)
theorem turn_un (ax ay bx bY cx cy : Nat) : turnQ (un (fv ax)) (un (fv ay)) (un (fv bx)) (un (fv bY)) (un (fv cx)) (un (fv cy)) = (osum ax ay bx bY cx cy : Rat) * uu * uu := by
  unfold turnQ osum un
  rw [Rat.intCast_sub, Rat.intCast_mul, Rat.intCast_mul, Rat.intCast_sub, Rat.intCast_sub, Rat.intCast_sub, Rat.intCast_sub]
  grind
/-- The document's answer is osg. -/
theorem sign4_osg {ax ay bx bY cx cy : Nat} (hax : ax < 18446744073709551616) (hay : ay < 18446744073709551616) (hbx : bx < 18446744073709551616) (hby : bY < 18446744073709551616) (hcx : cx < 18446744073709551616) (hcy : cy < 18446744073709551616) :
    (if ((mayB ax && mayB ay) && ((mayB bx && mayB bY) && (mayB cx && mayB cy))) = true then rs (turnQ (ov ax) (ov ay) (ov bx) (ov bY) (ov cx) (ov cy)) else 0) = osg ax ay bx bY cx cy := by
  have e : mayL [(ax, ay), (bx, bY), (cx, cy)] = ((mayB ax && mayB ay) && ((mayB bx && mayB bY) && (mayB cx && mayB cy))) := by simp only [mayL, List.all_cons, List.all_nil, Bool.and_true]
  unfold osg
  rw [← e]
  by_cases h : mayL [(ax, ay), (bx, bY), (cx, cy)] = true
  · obtain ⟨m1, m2, m3, m4, m5, m6⟩ := mayL3 h
    rw [if_pos h, if_pos h, ov_un (mayB_fin hax m1), ov_un (mayB_fin hay m2), ov_un (mayB_fin hbx m3), ov_un (mayB_fin hby m4), ov_un (mayB_fin hcx m5), ov_un (mayB_fin hcy m6), turn_un, mul_unit]
  · rw [if_neg h, if_neg h]
theorem rsign_calls (ax ay bx bY cx cy : Nat) (hax : ax < 18446744073709551616) (hay : ay < 18446744073709551616) (hbx : bx < 18446744073709551616) (hby : bY < 18446744073709551616) (hcx : cx < 18446744073709551616) (hcy : cy < 18446744073709551616) (w : World) :
    Calls Tryd.prog 9 #[.agg #[.float .f64 ax, .float .f64 ay], .agg #[.float .f64 bx, .float .f64 bY], .agg #[.float .f64 cx, .float .f64 cy]] w fun e w' =>
      e = .returned (.int .i64 (osg ax ay bx bY cx cy)) ∧ Below w.heap.size w w' := by
  rw [← sign4_osg hax hay hbx hby hcx hcy]
  exact Sign4_calls ax ay bx bY cx cy hax hay hbx hby hcx hcy w
theorem fast_may {ax ay bx bY cx cy : Nat} (h : fastOk ax ay bx bY cx cy = true) : (mayB ax && mayB ay) = true ∧ (mayB bx && mayB bY) = true ∧ (mayB cx && mayB cy) = true := by
  unfold fastOk at h
  rw [Bool.and_eq_true] at h
  obtain ⟨m1, m2, m3, m4, m5, m6⟩ := mayL3 h.1
  rw [m1, m2, m3, m4, m5, m6]; decide
set_option maxRecDepth 100000 in
set_option maxHeartbeats 4000000 in
theorem signs_walk {w : World} (ht : TabOk w) (ax ay bx bY cx cy : Nat) (hax : ax < 18446744073709551616) (hay : ay < 18446744073709551616) (hbx : bx < 18446744073709551616) (hby : bY < 18446744073709551616) (hcx : cx < 18446744073709551616) (hcy : cy < 18446744073709551616) :
    Calls Tryd.prog 3 #[.agg #[.float .f64 ax, .float .f64 ay], .agg #[.float .f64 bx, .float .f64 bY], .agg #[.float .f64 cx, .float .f64 cy]] w fun e w' => e = .returned (.bool true) ∧ Below w.heap.size w w' := by
  have HR := Lib.hid (fun (W : World) => rsign_calls ax ay bx bY cx cy hax hay hbx hby hcx hcy W)
  have HF := Lib.hid (fun (W : World) => fast_calls ax ay bx bY cx cy hax hay hbx hby hcx hcy W)
  have HS := Lib.hid (fun (W : World) (hT : TabOk W) => osign_calls hT ax ay bx bY cx cy hax hay hbx hby hcx hcy)
  have HMa := Lib.hid (fun W => May_calls ax ay hax hay W)
  have HMb := Lib.hid (fun W => May_calls bx bY hbx hby W)
  have HMc := Lib.hid (fun W => May_calls cx cy hcx hcy W)
  have HAW := Lib.hid (fun (W : World) (hT : TabOk W) => awake_calls hT)
  have hm := @fast_may ax ay bx bY cx cy
  have hb := osg_bound ax ay bx bY cx cy
  obtain ⟨S, hS⟩ : ∃ S, S = osg ax ay bx bY cx cy := ⟨_, rfl⟩
  obtain ⟨F, hF⟩ : ∃ F, F = fastOk ax ay bx bY cx cy := ⟨_, rfl⟩
  rw [← hS] at HR HF HS hb
  rw [← hF] at HF hm
  obtain ⟨A, hA⟩ : ∃ A, A = (mayB ax && mayB ay) := ⟨_, rfl⟩
  obtain ⟨B, hB⟩ : ∃ B, B = (mayB bx && mayB bY) := ⟨_, rfl⟩
  obtain ⟨C, hC⟩ : ∃ C, C = (mayB cx && mayB cy) := ⟨_, rfl⟩
  rw [← hA] at HMa hm
  rw [← hB] at HMb hm
  rw [← hC] at HMc hm
  obtain ⟨wn, hwn, HW0, hsz, k0, k1, k2⟩ := three_cells4 w (.cells #[.float .f64 ax, .float .f64 ay] 24) (.cells #[.float .f64 bx, .float .f64 bY] 24) (.cells #[.float .f64 cx, .float .f64 cy] 24)
  have a0 : wn.cell? ⟨w.heap.size, 0, none⟩ = some (.float .f64 ax) := cell_of_block k0 0
  have a1 : wn.cell? ⟨w.heap.size, 1, none⟩ = some (.float .f64 ay) := cell_of_block k0 1
  have b0 : wn.cell? ⟨w.heap.size + 1, 0, none⟩ = some (.float .f64 bx) := cell_of_block k1 0
  have b1 : wn.cell? ⟨w.heap.size + 1, 1, none⟩ = some (.float .f64 bY) := cell_of_block k1 1
  have c0 : wn.cell? ⟨w.heap.size + 1 + 1, 0, none⟩ = some (.float .f64 cx) := cell_of_block k2 0
  have c1 : wn.cell? ⟨w.heap.size + 1 + 1, 1, none⟩ = some (.float .f64 cy) := cell_of_block k2 1
  have HW := Lib.hid HW0
  have HT := Lib.hid (ht.keep HW0)
  have hc : S = -1 ∨ S = 0 ∨ S = 1 := by omega
  have HMM := Lib.hid hm
  clear hA hB hC hS hF hb hm HW0 hsz k0 k1 k2 ht hax hay hbx hby hcx hcy
  obtain ⟨F0, hF0⟩ : ∃ z : Int, z = if F = true then S else 0 := ⟨_, rfl⟩
  rw [← hF0] at HF
  have HFS := Lib.hid hF0
  clear hF0
  have hc0 : F = false ∧ F0 = 0 ∨ F = true ∧ F0 = S := by
    have h := HFS.out
    cases F
    · exact Or.inl ⟨rfl, h⟩
    · exact Or.inr ⟨rfl, h⟩
  clear HFS
  rcases hc0 with ⟨rfl, rfl⟩ | ⟨rfl, rfl⟩
  all_goals
  rcases hc with rfl | rfl | rfl
  all_goals
    go_enter Tryd.func3, Tryd.ntmps3
    go_wp2_with fail
    rw [← hwn]
    clear hwn
    refine (HR.out _).mono ?_
    rintro _ w1 ⟨rfl, hb⟩
    have a0 := keep_cell hb a0
    have a1 := keep_cell hb a1
    have b0 := keep_cell hb b0
    have b1 := keep_cell hb b1
    have c0 := keep_cell hb c0
    have c1 := keep_cell hb c1
    have HT := Lib.hid (HT.out.keep hb)
    have HW := Lib.hid (HW.out.trans (hb.mono HW.out.size))
    clear hb
    go_wp2_with fail
    refine (HF.out _).mono ?_
    rintro _ w2 ⟨rfl, hb⟩
    have a0 := keep_cell hb a0
    have a1 := keep_cell hb a1
    have b0 := keep_cell hb b0
    have b1 := keep_cell hb b1
    have c0 := keep_cell hb c0
    have c1 := keep_cell hb c1
    have HT := Lib.hid (HT.out.keep hb)
    have HW := Lib.hid (HW.out.trans (hb.mono HW.out.size))
    clear hb
    go_wp2_with fail
    refine (HS.out _ HT.out).mono ?_
    rintro _ w3 ⟨rfl, hb⟩
    have a0 := keep_cell hb a0
    have a1 := keep_cell hb a1
    have b0 := keep_cell hb b0
    have b1 := keep_cell hb b1
    have c0 := keep_cell hb c0
    have c1 := keep_cell hb c1
    have HT := Lib.hid (HT.out.keep hb)
    have HW := Lib.hid (HW.out.trans (hb.mono HW.out.size))
    clear hb
    first
    | (obtain ⟨rfl, rfl, rfl⟩ := HMM.out (by trivial)
       go_wp2_with fail
       refine (HMa.out _).mono ?_
       rintro _ w4 ⟨rfl, hb⟩
       have a0 := keep_cell hb a0
       have a1 := keep_cell hb a1
       have b0 := keep_cell hb b0
       have b1 := keep_cell hb b1
       have c0 := keep_cell hb c0
       have c1 := keep_cell hb c1
       have HT := Lib.hid (HT.out.keep hb)
       have HW := Lib.hid (HW.out.trans (hb.mono HW.out.size))
       clear hb
       go_wp2_with fail
       refine (HMb.out _).mono ?_
       rintro _ w5 ⟨rfl, hb⟩
       have a0 := keep_cell hb a0
       have a1 := keep_cell hb a1
       have b0 := keep_cell hb b0
       have b1 := keep_cell hb b1
       have c0 := keep_cell hb c0
       have c1 := keep_cell hb c1
       have HT := Lib.hid (HT.out.keep hb)
       have HW := Lib.hid (HW.out.trans (hb.mono HW.out.size))
       clear hb
       go_wp2_with fail
       refine (HMc.out _).mono ?_
       rintro _ w6 ⟨rfl, hb⟩
       have a0 := keep_cell hb a0
       have a1 := keep_cell hb a1
       have b0 := keep_cell hb b0
       have b1 := keep_cell hb b1
       have c0 := keep_cell hb c0
       have c1 := keep_cell hb c1
       have HT := Lib.hid (HT.out.keep hb)
       have HW := Lib.hid (HW.out.trans (hb.mono HW.out.size))
       clear hb
       go_wp2_with fail
       refine (HAW.out _ HT.out).mono ?_
       rintro _ w7 ⟨rfl, hb⟩
       have a0 := keep_cell hb a0
       have a1 := keep_cell hb a1
       have b0 := keep_cell hb b0
       have b1 := keep_cell hb b1
       have c0 := keep_cell hb c0
       have c1 := keep_cell hb c1
       have HT := Lib.hid (HT.out.keep hb)
       have HW := Lib.hid (HW.out.trans (hb.mono HW.out.size))
       clear hb
       go_wp2_with fail
       go_ret
       exact ⟨rfl, HW.out⟩)
    | (go_wp2_with fail
       refine (HAW.out _ HT.out).mono ?_
       rintro _ w4 ⟨rfl, hb⟩
       have a0 := keep_cell hb a0
       have a1 := keep_cell hb a1
       have b0 := keep_cell hb b0
       have b1 := keep_cell hb b1
       have c0 := keep_cell hb c0
       have c1 := keep_cell hb c1
       have HT := Lib.hid (HT.out.keep hb)
       have HW := Lib.hid (HW.out.trans (hb.mono HW.out.size))
       clear hb
       go_wp2_with fail
       go_ret
       exact ⟨rfl, HW.out⟩)
end Go.Proofs.YtiihokgjplpceaaDoor
end

section
/- Small points of whole coordinates; three of them made in one statement. (Printed by gen_OrN.py.) -/
namespace Go.Proofs.YtiihokgjplpceaaDoor
open Go.RowKit TV
set_option linter.unusedVariables false

theorem small_calls (x y : Int) (w : World) :
    Calls Tryd.prog 14 #[.int .i64 x, .int .i64 y] w fun e w' => e = .returned (.agg #[.float .f64 (ofI (x.tmod 1025)), .float .f64 (ofI (y.tmod 1025))]) ∧ Below w.heap.size w w' := by
  go_enter Tryd.func14, Tryd.ntmps14
  go_wp2_with fail
  refine bodyPost_ret (v := .agg #[.float .f64 (ofI (x.tmod 1025)), .float .f64 (ofI (y.tmod 1025))]) (by simp [results, Tryd.results14, go_sem]; exact ⟨rfl, rfl⟩) rfl ?_
  exact ⟨rfl, (Below.refl _ _).alloc (Nat.le_refl _) _⟩
theorem tmod_small4 (x : Int) : (x.tmod 1025).natAbs ≤ 1024 := by
  rw [Int.natAbs_tmod]
  have := Nat.mod_lt x.natAbs (show 0 < 1025 by decide)
  have e : (1025 : Int).natAbs = 1025 := rfl
  rw [e]; omega
theorem ib_of4 (x : Int) : Ib (ofI (x.tmod 1025)) (x.tmod 1025) 1024 := ⟨iv_ofI (by have := tmod_small4 x; omega), tmod_small4 x⟩
theorem Ib.may4 {x : Nat} {n : Int} (h : Ib x n 1024) : mayB x = true := by
  unfold mayB
  rw [decide_eq_true, decide_eq_true]
  · rfl
  · rw [h.1.mag, uW_uL]
    exact Nat.dvd_trans (Nat.dvd_mul_left _ _) (Nat.dvd_mul_left _ _)
  · refine le_of_mag ?_
    rw [h.1.mag, mag_C100]
    exact Nat.mul_le_mul_right _ (Nat.le_trans h.2 (by decide))
section
variable {ax ay bx bY cx cy : Nat} {a0 a1 b0 b1 c0 c1 : Int}
theorem small_may (h0 : Ib ax a0 1024) (h1 : Ib ay a1 1024) (h2 : Ib bx b0 1024) (h3 : Ib bY b1 1024) (h4 : Ib cx c0 1024) (h5 : Ib cy c1 1024) : mayL [(ax, ay), (bx, bY), (cx, cy)] = true := by
  rw [show mayL [(ax, ay), (bx, bY), (cx, cy)] = ((mayB ax && mayB ay) && ((mayB bx && mayB bY) && (mayB cx && mayB cy))) from by simp only [mayL, List.all_cons, List.all_nil, Bool.and_true], h0.may4, h1.may4, h2.may4, h3.may4, h4.may4, h5.may4]; rfl
theorem small_osg (h0 : Ib ax a0 1024) (h1 : Ib ay a1 1024) (h2 : Ib bx b0 1024) (h3 : Ib bY b1 1024) (h4 : Ib cx c0 1024) (h5 : Ib cy c1 1024) : osg ax ay bx bY cx cy = TV.sg ((b0 - a0) * (c1 - a1) - (b1 - a1) * (c0 - a0)) := by
  unfold osg osum
  rw [if_pos (small_may h0 h1 h2 h3 h4 h5), h0.1.2.2, h1.1.2.2, h2.1.2.2, h3.1.2.2, h4.1.2.2, h5.1.2.2]
  have e : (b0 * (uW : Int) - a0 * (uW : Int)) * (c1 * (uW : Int) - a1 * (uW : Int)) - (b1 * (uW : Int) - a1 * (uW : Int)) * (c0 * (uW : Int) - a0 * (uW : Int)) = ((b0 - a0) * (c1 - a1) - (b1 - a1) * (c0 - a0)) * (uW : Int) * (uW : Int) := by grind
  rw [e, sg_mul uW_pos, sg_mul uW_pos]
theorem small_fast (h0 : Ib ax a0 1024) (h1 : Ib ay a1 1024) (h2 : Ib bx b0 1024) (h3 : Ib bY b1 1024) (h4 : Ib cx c0 1024) (h5 : Ib cy c1 1024) (hn : osg ax ay bx bY cx cy ≠ 0) : fastOk ax ay bx bY cx cy = true := by
  have hD : (b0 - a0) * (c1 - a1) - (b1 - a1) * (c0 - a0) ≠ 0 := by
    intro e
    rw [small_osg h0 h1 h2 h3 h4 h5, e] at hn
    exact hn rfl
  have hm := small_may h0 h1 h2 h3 h4 h5
  obtain ⟨-, x1⟩ := h2.sub h0 (by decide)
  obtain ⟨-, x2⟩ := h5.sub h1 (by decide)
  obtain ⟨-, x3⟩ := h3.sub h1 (by decide)
  obtain ⟨-, x4⟩ := h4.sub h0 (by decide)
  obtain ⟨-, X⟩ := x1.mul x2 (by decide)
  obtain ⟨-, Y⟩ := x3.mul x4 (by decide)
  obtain ⟨-, Z⟩ := X.sub Y (by decide)
  obtain ⟨p, hp⟩ : ∃ p, p = (b0 - a0) * (c1 - a1) := ⟨_, rfl⟩
  obtain ⟨q, hq⟩ : ∃ q, q = (b1 - a1) * (c0 - a0) := ⟨_, rfl⟩
  rw [← hp, ← hq] at hD Z
  rw [← hp] at X
  rw [← hq] at Y
  have bX := X.2
  have bY' := Y.2
  have eX : (fv (fX ax ay bx bY cx cy)) = p * (uW : Int) := X.1.2.2
  have eY : (fv (fY ax ay bx bY cx cy)) = q * (uW : Int) := Y.1.2.2
  have eZ : (fv (fsub (fX ax ay bx bY cx cy) (fY ax ay bx bY cx cy))) = (p - q) * (uW : Int) := Z.1.2.2
  unfold fastOk
  rw [hm, Bool.true_and]
  refine decide_eq_true ?_
  rw [eX, eY, eZ]
  simp only [Int.natAbs_mul, Int.natAbs_natCast]
  have e1 : ((p.natAbs * uW + q.natAbs * uW : Nat) : Int) = ((p.natAbs + q.natAbs : Nat) : Int) * (uW : Int) := by rw [← Nat.add_mul, Int.natCast_mul]
  rw [e1, Rn_fix (iv_rep (n := ((p.natAbs + q.natAbs : Nat) : Int)) (by rw [Int.natAbs_natCast]; omega)), ← Int.natCast_mul]
  have h6 : 1 ≤ (p - q).natAbs := by omega
  have h7 : (p.natAbs + q.natAbs) * uW < (p - q).natAbs * uW * 1125899906842624 := by
    rw [Nat.mul_assoc, Nat.mul_comm uW, ← Nat.mul_assoc]
    exact Nat.mul_lt_mul_of_pos_right (by omega) uW_pos
  exact Int.ofNat_lt.2 h7
end
/-- How many are left. -/
def nb (b : Bool) : Nat := if b = true then 0 else 1
theorem nb_zero {a b c d e f : Bool} (h : nb a + nb b + nb c + nb d + nb e + nb f = 0) : a = true ∧ b = true ∧ c = true ∧ d = true ∧ e = true ∧ f = true := by
  cases a <;> cases b <;> cases c <;> cases d <;> cases e <;> cases f <;> simp_all [nb]
theorem nb_more {a b c d e f : Bool} {n : Nat} (h : nb a + nb b + nb c + nb d + nb e + nb f = n + 1) : nb a + nb b + nb c + nb d + nb e + nb f ≠ 0 := by omega
theorem nb_ne {c0 c1 c2 s0 s1 s2 : Bool} {i0 i1 i2 i3 i4 i5 : Nat} {l : List Nat} (h : nb c0 + nb c1 + nb c2 + nb s0 + nb s1 + nb s2 ≠ 0) (h1 : c1 = true → c0 = true) (h2 : c2 = true → c1 = true) :
    (if c0 = true then [] else [i0]) ++ ((if c0 = true ∧ c1 = false then [i1] else []) ++ ((if c1 = true ∧ c2 = false then [i2] else []) ++ ((if s0 = true then [] else [i3]) ++ ((if s1 = true then [] else [i4]) ++ ((if s2 = true then [] else [i5]) ++ l))))) ≠ [] := by
  cases c0 <;> cases c1 <;> cases c2 <;> cases s0 <;> cases s1 <;> cases s2 <;> simp_all [nb]
theorem mem_if {p : Prop} [Decidable p] {i j : Nat} : (i ∈ if p then [j] else []) ↔ p ∧ i = j := by
  by_cases h : p <;> simp [h]
theorem mem_if_not {p : Prop} [Decidable p] {i j : Nat} : (i ∈ if p then [] else [j]) ↔ ¬ p ∧ i = j := by
  by_cases h : p <;> simp [h]
/-- A point just made. -/
def Zb (wn : World) (x : Value) (w : World) : Prop := ∃ b, x = .pointer (some ⟨b, 0, none⟩) ∧ wn.heap.size ≤ b ∧ w.heap[b]? = some (.cells #[.float .f64 0, .float .f64 0] 24 (0, 0))
theorem Zb.keep {wn w w1 : World} {x : Value} (h : Zb wn x w) (hb : Below w.heap.size w w1) : Zb wn x w1 := by
  obtain ⟨b, h1, h2, h3⟩ := h
  exact ⟨b, h1, h2, keep_block hb h3⟩
theorem Zb.new {wn w : World} (h : Kp wn w) : Zb wn (.pointer (some ⟨w.heap.size, 0, none⟩)) (w.alloc (.cells #[.float .f64 0, .float .f64 0] 24)) := ⟨_, rfl, h.out.size, heap_alloc_new _ _⟩
theorem Zb.ne {wn w : World} {x : Value} (h : Zb wn x w) : x ≠ .pointer (some ⟨w.heap.size, 0, none⟩) := by
  obtain ⟨b, rfl, h2, h3⟩ := h
  have := block_lt h3
  intro e
  simp only [Value.pointer.injEq, Option.some.injEq, Addr.mk.injEq] at e
  omega
/-- Which calls and which points are done. -/
def Jp (wn : World) (P0 P1 P2 : Value) (c0 c1 c2 s0 s1 s2 : Bool) (x0 x1 x2 y0 y1 y2 : Value) (w : World) : Prop :=
  Kp wn w ∧ (c0 = true → y0 = P0) ∧ (c1 = true → y1 = P1) ∧ (c2 = true → y2 = P2) ∧ (s0 = true → Zb wn x0 w) ∧ (s1 = true → Zb wn x1 w) ∧ (s2 = true → Zb wn x2 w) ∧
    (s0 = true → s1 = true → x0 ≠ x1) ∧ (s0 = true → s2 = true → x0 ≠ x2) ∧ (s1 = true → s2 = true → x1 ≠ x2)
section
variable {wn w w1 : World} {P0 P1 P2 : Value} {c0 c1 c2 s0 s1 s2 : Bool} {x0 x1 x2 y0 y1 y2 : Value}
theorem Jp.call0 (h : Jp wn P0 P1 P2 false false false s0 s1 s2 x0 x1 x2 y0 y1 y2 w) (hb : Below w.heap.size w w1) : Jp wn P0 P1 P2 true false false s0 s1 s2 x0 x1 x2 P0 y1 y2 w1 := by
  obtain ⟨k, -, a1, a2, z0, z1, z2, d⟩ := h
  exact ⟨k.step hb, fun _ => rfl, a1, a2, fun e => (z0 e).keep hb, fun e => (z1 e).keep hb, fun e => (z2 e).keep hb, d⟩
theorem Jp.call1 (h : Jp wn P0 P1 P2 true false false s0 s1 s2 x0 x1 x2 y0 y1 y2 w) (hb : Below w.heap.size w w1) : Jp wn P0 P1 P2 true true false s0 s1 s2 x0 x1 x2 y0 P1 y2 w1 := by
  obtain ⟨k, a0, -, a2, z0, z1, z2, d⟩ := h
  exact ⟨k.step hb, a0, fun _ => rfl, a2, fun e => (z0 e).keep hb, fun e => (z1 e).keep hb, fun e => (z2 e).keep hb, d⟩
theorem Jp.call2 (h : Jp wn P0 P1 P2 true true false s0 s1 s2 x0 x1 x2 y0 y1 y2 w) (hb : Below w.heap.size w w1) : Jp wn P0 P1 P2 true true true s0 s1 s2 x0 x1 x2 y0 y1 P2 w1 := by
  obtain ⟨k, a0, a1, -, z0, z1, z2, d⟩ := h
  exact ⟨k.step hb, a0, a1, fun _ => rfl, fun e => (z0 e).keep hb, fun e => (z1 e).keep hb, fun e => (z2 e).keep hb, d⟩
theorem Jp.make0 (h : Jp wn P0 P1 P2 c0 c1 c2 false s1 s2 x0 x1 x2 y0 y1 y2 w) : Jp wn P0 P1 P2 c0 c1 c2 true s1 s2 (.pointer (some ⟨w.heap.size, 0, none⟩)) x1 x2 y0 y1 y2 (w.alloc (.cells #[.float .f64 0, .float .f64 0] 24)) := by
  obtain ⟨k, a0, a1, a2, z0, z1, z2, d0, d1, d2⟩ := h
  have hb := kp_alloc w (.cells #[.float .f64 0, .float .f64 0] 24)
  exact ⟨k.step hb, a0, a1, a2, fun _ => Zb.new k, fun e => (z1 e).keep hb, fun e => (z2 e).keep hb, fun _ e => (z1 e).ne.symm, fun _ e => (z2 e).ne.symm, d2⟩
theorem Jp.make1 (h : Jp wn P0 P1 P2 c0 c1 c2 s0 false s2 x0 x1 x2 y0 y1 y2 w) : Jp wn P0 P1 P2 c0 c1 c2 s0 true s2 x0 (.pointer (some ⟨w.heap.size, 0, none⟩)) x2 y0 y1 y2 (w.alloc (.cells #[.float .f64 0, .float .f64 0] 24)) := by
  obtain ⟨k, a0, a1, a2, z0, z1, z2, d0, d1, d2⟩ := h
  have hb := kp_alloc w (.cells #[.float .f64 0, .float .f64 0] 24)
  exact ⟨k.step hb, a0, a1, a2, fun e => (z0 e).keep hb, fun _ => Zb.new k, fun e => (z2 e).keep hb, fun e _ => (z0 e).ne, d1, fun _ e => (z2 e).ne.symm⟩
theorem Jp.make2 (h : Jp wn P0 P1 P2 c0 c1 c2 s0 s1 false x0 x1 x2 y0 y1 y2 w) : Jp wn P0 P1 P2 c0 c1 c2 s0 s1 true x0 x1 (.pointer (some ⟨w.heap.size, 0, none⟩)) y0 y1 y2 (w.alloc (.cells #[.float .f64 0, .float .f64 0] 24)) := by
  obtain ⟨k, a0, a1, a2, z0, z1, z2, d0, d1, d2⟩ := h
  have hb := kp_alloc w (.cells #[.float .f64 0, .float .f64 0] 24)
  exact ⟨k.step hb, a0, a1, a2, fun e => (z0 e).keep hb, fun e => (z1 e).keep hb, fun _ => Zb.new k, d0, fun e _ => (z0 e).ne, fun e _ => (z1 e).ne⟩
end
theorem two_facts {w : World} {b : Nat} {T : TypeId} {u0 u1 : Value} (h : w.heap[b]? = some (.cells #[u0, u1] T (0, 0))) :
    w.cell? ⟨b, 0, none⟩ = some u0 ∧ w.cell? ⟨b, 1, none⟩ = some u1 ∧ w.frozen? ⟨b, 0, none⟩ = false ∧ w.frozen? ⟨b, 1, none⟩ = false :=
  ⟨cell_of_block h 0, cell_of_block h 1, frozen_of_block h 0, frozen_of_block h 1⟩
theorem put2_own {w : World} {b : Nat} {T : TypeId} {u0 u1 : Value} (h : w.heap[b]? = some (.cells #[u0, u1] T (0, 0))) (v0 v1 : Value) : ((w.setCell ⟨b, 0, none⟩ v0).setCell ⟨b, 1, none⟩ v1).heap[b]? = some (.cells #[v0, v1] T (0, 0)) := setCell_block (setCell_block h 0 v0) 1 v1
theorem put2_far {w : World} {b b' : Nat} {o : Obj} (h : w.heap[b]? = some o) (hne : b ≠ b') (v0 v1 : Value) : ((w.setCell ⟨b', 0, none⟩ v0).setCell ⟨b', 1, none⟩ v1).heap[b]? = some o := by
  simp [World.setCell, Array.getElem?_modify, hne.symm, h]
theorem Kp.put2p {b : Nat} {w w1 : World} (h : Kp w w1) (hb : w.heap.size ≤ b) (u0 u1 : Value) : Kp w ((w1.setCell ⟨b, 0, none⟩ u0).setCell ⟨b, 1, none⟩ u1) :=
  (Below.setCell h hb _).setCell hb _
def oN_0 : Oper := { dst := some 9, op := Op.indexAddr 31 (Operand.tmp 1) (Operand.const (Value.int IntKind.i64 0)), type := 0, pos := "law.go:23", after := #[], guard := none }
def oN_1 : Oper := { dst := some 10, op := Op.load 3 (Operand.tmp 9), type := 3, pos := "law.go:23", after := #[{ on := 0, ground := Ground.data }], guard := none }
def oN_2 : Oper := { dst := some 11, op := Op.indexAddr 31 (Operand.tmp 1) (Operand.const (Value.int IntKind.i64 1)), type := 0, pos := "law.go:23", after := #[], guard := none }
def oN_3 : Oper := { dst := some 12, op := Op.load 3 (Operand.tmp 11), type := 3, pos := "law.go:23", after := #[{ on := 2, ground := Ground.data }], guard := none }
def oN_4 : Oper := { dst := some 13, op := Op.call { callee := Callee.value (Operand.func 14), args := #[Operand.tmp 10, Operand.tmp 12], argTypes := #[3, 3] }, type := 24, pos := "law.go:23", after := #[{ on := 1, ground := Ground.data }, { on := 3, ground := Ground.data }], guard := none }
def oN_5 : Oper := { dst := some 14, op := Op.indexAddr 31 (Operand.tmp 1) (Operand.const (Value.int IntKind.i64 2)), type := 0, pos := "law.go:23", after := #[], guard := none }
def oN_6 : Oper := { dst := some 15, op := Op.load 3 (Operand.tmp 14), type := 3, pos := "law.go:23", after := #[{ on := 5, ground := Ground.data }], guard := none }
def oN_7 : Oper := { dst := some 16, op := Op.indexAddr 31 (Operand.tmp 1) (Operand.const (Value.int IntKind.i64 3)), type := 0, pos := "law.go:23", after := #[], guard := none }
def oN_8 : Oper := { dst := some 17, op := Op.load 3 (Operand.tmp 16), type := 3, pos := "law.go:23", after := #[{ on := 7, ground := Ground.data }], guard := none }
def oN_9 : Oper := { dst := some 18, op := Op.call { callee := Callee.value (Operand.func 14), args := #[Operand.tmp 15, Operand.tmp 17], argTypes := #[3, 3] }, type := 24, pos := "law.go:23", after := #[{ on := 6, ground := Ground.data }, { on := 8, ground := Ground.data }, { on := 4, ground := Ground.chain }], guard := none }
def oN_10 : Oper := { dst := some 19, op := Op.indexAddr 31 (Operand.tmp 1) (Operand.const (Value.int IntKind.i64 4)), type := 0, pos := "law.go:23", after := #[], guard := none }
def oN_11 : Oper := { dst := some 20, op := Op.load 3 (Operand.tmp 19), type := 3, pos := "law.go:23", after := #[{ on := 10, ground := Ground.data }], guard := none }
def oN_12 : Oper := { dst := some 21, op := Op.indexAddr 31 (Operand.tmp 1) (Operand.const (Value.int IntKind.i64 5)), type := 0, pos := "law.go:23", after := #[], guard := none }
def oN_13 : Oper := { dst := some 22, op := Op.load 3 (Operand.tmp 21), type := 3, pos := "law.go:23", after := #[{ on := 12, ground := Ground.data }], guard := none }
def oN_14 : Oper := { dst := some 23, op := Op.call { callee := Callee.value (Operand.func 14), args := #[Operand.tmp 20, Operand.tmp 22], argTypes := #[3, 3] }, type := 24, pos := "law.go:23", after := #[{ on := 11, ground := Ground.data }, { on := 13, ground := Ground.data }, { on := 9, ground := Ground.chain }], guard := none }
def oN_15 : Oper := { dst := some 3, op := Op.alloc 24, type := 0, pos := "law.go:23", after := #[], guard := none }
def oN_16 : Oper := { dst := some 4, op := Op.alloc 24, type := 0, pos := "law.go:23", after := #[], guard := none }
def oN_17 : Oper := { dst := some 5, op := Op.alloc 24, type := 0, pos := "law.go:23", after := #[], guard := none }
def oN_18 : Oper := { dst := none, op := Op.store 24 (Operand.tmp 3) (Operand.tmp 13), type := 0, pos := "law.go:23", after := #[{ on := 15, ground := Ground.data }, { on := 4, ground := Ground.data }, { on := 14, ground := Ground.chain }, { on := 0, ground := Ground.phase }, { on := 1, ground := Ground.phase }, { on := 2, ground := Ground.phase }, { on := 3, ground := Ground.phase }, { on := 4, ground := Ground.phase }, { on := 5, ground := Ground.textOnly Departure.lateStores }, { on := 6, ground := Ground.textOnly Departure.lateStores }, { on := 7, ground := Ground.textOnly Departure.lateStores }, { on := 8, ground := Ground.textOnly Departure.lateStores }, { on := 9, ground := Ground.textOnly Departure.lateStoresUnsure }, { on := 10, ground := Ground.textOnly Departure.lateStores }, { on := 11, ground := Ground.textOnly Departure.lateStores }, { on := 12, ground := Ground.textOnly Departure.lateStores }, { on := 13, ground := Ground.textOnly Departure.lateStores }, { on := 14, ground := Ground.textOnly Departure.lateStoresUnsure }, { on := 15, ground := Ground.phase }, { on := 16, ground := Ground.phase }, { on := 17, ground := Ground.phase }], guard := none }
def oN_19 : Oper := { dst := none, op := Op.store 24 (Operand.tmp 4) (Operand.tmp 18), type := 0, pos := "law.go:23", after := #[{ on := 16, ground := Ground.data }, { on := 9, ground := Ground.data }, { on := 18, ground := Ground.chain }, { on := 0, ground := Ground.phase }, { on := 1, ground := Ground.phase }, { on := 2, ground := Ground.phase }, { on := 3, ground := Ground.phase }, { on := 4, ground := Ground.phase }, { on := 5, ground := Ground.phase }, { on := 6, ground := Ground.phase }, { on := 7, ground := Ground.phase }, { on := 8, ground := Ground.phase }, { on := 9, ground := Ground.phase }, { on := 10, ground := Ground.textOnly Departure.lateStores }, { on := 11, ground := Ground.textOnly Departure.lateStores }, { on := 12, ground := Ground.textOnly Departure.lateStores }, { on := 13, ground := Ground.textOnly Departure.lateStores }, { on := 14, ground := Ground.textOnly Departure.lateStoresUnsure }, { on := 15, ground := Ground.phase }, { on := 16, ground := Ground.phase }, { on := 17, ground := Ground.phase }, { on := 18, ground := Ground.phase }], guard := none }
def oN_20 : Oper := { dst := none, op := Op.store 24 (Operand.tmp 5) (Operand.tmp 23), type := 0, pos := "law.go:23", after := #[{ on := 17, ground := Ground.data }, { on := 14, ground := Ground.data }, { on := 19, ground := Ground.chain }, { on := 0, ground := Ground.phase }, { on := 1, ground := Ground.phase }, { on := 2, ground := Ground.phase }, { on := 3, ground := Ground.phase }, { on := 4, ground := Ground.phase }, { on := 5, ground := Ground.phase }, { on := 6, ground := Ground.phase }, { on := 7, ground := Ground.phase }, { on := 8, ground := Ground.phase }, { on := 9, ground := Ground.phase }, { on := 10, ground := Ground.phase }, { on := 11, ground := Ground.phase }, { on := 12, ground := Ground.phase }, { on := 13, ground := Ground.phase }, { on := 14, ground := Ground.phase }, { on := 15, ground := Ground.phase }, { on := 16, ground := Ground.phase }, { on := 17, ground := Ground.phase }, { on := 18, ground := Ground.phase }, { on := 19, ground := Ground.phase }], guard := none }
def oN : Array Oper := #[oN_0, oN_1, oN_2, oN_3, oN_4, oN_5, oN_6, oN_7, oN_8, oN_9, oN_10, oN_11, oN_12, oN_13, oN_14, oN_15, oN_16, oN_17, oN_18, oN_19, oN_20]
def oNF (n0 n1 n2 n3 n4 n5 : Int) (B : Nat) (x0 x1 x2 y0 y1 y2 : Value) : Act := { tmps := #[.agg #[.int .i64 n0, .int .i64 n1, .int .i64 n2, .int .i64 n3, .int .i64 n4, .int .i64 n5], .pointer (some ⟨B, 0, none⟩), .bool false, x0, x1, x2, undef, undef, undef, .pointer (some ⟨B, 0, none⟩), .int .i64 n0, .pointer (some ⟨B, 1, none⟩), .int .i64 n1, y0, .pointer (some ⟨B, 2, none⟩), .int .i64 n2, .pointer (some ⟨B, 3, none⟩), .int .i64 n3, y1, .pointer (some ⟨B, 4, none⟩), .int .i64 n4, .pointer (some ⟨B, 5, none⟩), .int .i64 n5, y2, undef, undef, undef, undef, undef, undef, undef, undef, undef, undef, undef, undef, undef, undef, undef, undef, undef, undef, undef, undef, undef, undef, undef, undef, undef, undef, undef, undef, undef, undef, undef, undef], defers := [] }
def oNL (c0 c1 c2 s0 s1 s2 : Bool) : Array Bool := #[true, true, true, true, c0, true, true, true, true, c1, true, true, true, true, c2, s0, s1, s2, false, false, false]
theorem oN_ready (c0 c1 c2 s0 s1 s2 : Bool) (h1 : c1 = true → c0 = true) (h2 : c2 = true → c1 = true) : Region.ready .any oN (oNL c0 c1 c2 s0 s1 s2) =
    (if c0 = true then [] else [4]) ++ ((if c0 = true ∧ c1 = false then [9] else []) ++ ((if c1 = true ∧ c2 = false then [14] else []) ++ ((if s0 = true then [] else [15]) ++ ((if s1 = true then [] else [16]) ++ ((if s2 = true then [] else [17]) ++ (if c2 = true ∧ s0 = true ∧ s1 = true ∧ s2 = true then [18] else [])))))) := by
  cases c0 <;> cases c1 <;> cases c2 <;> first | (exact absurd (h1 rfl) (by decide)) | (exact absurd (h2 rfl) (by decide)) | (cases s0 <;> cases s1 <;> cases s2 <;> kernel_rfl)
set_option maxRecDepth 100000 in
set_option maxHeartbeats 8000000 in
theorem oN_inv {Q : Exit → Act → World → Prop} {n0 n1 n2 n3 n4 n5 : Int} {B : Nat} {wn : World} {P0 P1 P2 : Value}
    (HC0 : ∀ Y, Kp wn Y → Calls Tryd.prog 14 #[.int .i64 n0, .int .i64 n1] Y (fun e w' => e = .returned P0 ∧ Below Y.heap.size Y w'))
    (HC1 : ∀ Y, Kp wn Y → Calls Tryd.prog 14 #[.int .i64 n2, .int .i64 n3] Y (fun e w' => e = .returned P1 ∧ Below Y.heap.size Y w'))
    (HC2 : ∀ Y, Kp wn Y → Calls Tryd.prog 14 #[.int .i64 n4, .int .i64 n5] Y (fun e w' => e = .returned P2 ∧ Below Y.heap.size Y w'))
    (hend : ∀ x0 x1 x2 w, Jp wn P0 P1 P2 true true true true true true x0 x1 x2 P0 P1 P2 w → wpAnyH Tryd.prog .any oN Q (fun w' => w'.cell? ⟨B, 0, none⟩ = some (.int .i64 n0) ∧ w'.cell? ⟨B, 1, none⟩ = some (.int .i64 n1) ∧ w'.cell? ⟨B, 2, none⟩ = some (.int .i64 n2) ∧ w'.cell? ⟨B, 3, none⟩ = some (.int .i64 n3) ∧ w'.cell? ⟨B, 4, none⟩ = some (.int .i64 n4) ∧ w'.cell? ⟨B, 5, none⟩ = some (.int .i64 n5) ∧ Kp wn w') 3 (oNL true true true true true true) (oNF n0 n1 n2 n3 n4 n5 B x0 x1 x2 P0 P1 P2) w)
    (hS : ∀ w', Kp wn w' → w'.cell? ⟨B, 0, none⟩ = some (.int .i64 n0) ∧ w'.cell? ⟨B, 1, none⟩ = some (.int .i64 n1) ∧ w'.cell? ⟨B, 2, none⟩ = some (.int .i64 n2) ∧ w'.cell? ⟨B, 3, none⟩ = some (.int .i64 n3) ∧ w'.cell? ⟨B, 4, none⟩ = some (.int .i64 n4) ∧ w'.cell? ⟨B, 5, none⟩ = some (.int .i64 n5) ∧ Kp wn w') :
    ∀ (n : Nat) (c0 c1 c2 s0 s1 s2 : Bool) (_ : c1 = true → c0 = true) (_ : c2 = true → c1 = true) (_ : nb c0 + nb c1 + nb c2 + nb s0 + nb s1 + nb s2 = n) (x0 x1 x2 y0 y1 y2 : Value) (w : World), Jp wn P0 P1 P2 c0 c1 c2 s0 s1 s2 x0 x1 x2 y0 y1 y2 w →
      wpAnyH Tryd.prog .any oN Q (fun w' => w'.cell? ⟨B, 0, none⟩ = some (.int .i64 n0) ∧ w'.cell? ⟨B, 1, none⟩ = some (.int .i64 n1) ∧ w'.cell? ⟨B, 2, none⟩ = some (.int .i64 n2) ∧ w'.cell? ⟨B, 3, none⟩ = some (.int .i64 n3) ∧ w'.cell? ⟨B, 4, none⟩ = some (.int .i64 n4) ∧ w'.cell? ⟨B, 5, none⟩ = some (.int .i64 n5) ∧ Kp wn w') (3 + n) (oNL c0 c1 c2 s0 s1 s2) (oNF n0 n1 n2 n3 n4 n5 B x0 x1 x2 y0 y1 y2) w := by
  intro n
  induction n with
  | zero =>
    intro c0 c1 c2 s0 s1 s2 h1 h2 hn x0 x1 x2 y0 y1 y2 w hJ
    obtain ⟨rfl, rfl, rfl, rfl, rfl, rfl⟩ := nb_zero hn
    have hJ' := hJ
    obtain ⟨-, e0, e1, e2, -⟩ := hJ'
    obtain rfl := e0 rfl
    obtain rfl := e1 rfl
    obtain rfl := e2 rfl
    exact hend _ _ _ _ hJ
  | succ n ih =>
    intro c0 c1 c2 s0 s1 s2 h1 h2 hn x0 x1 x2 y0 y1 y2 w hJ
    have HH := Lib.hid (hS)
    have HI := Lib.hid ih
    have HJ := Lib.hid hJ
    have HN := Lib.hid hn
    have HK0 := Lib.hid (HC0 w hJ.1)
    have HK1 := Lib.hid (HC1 w hJ.1)
    have HK2 := Lib.hid (HC2 w hJ.1)
    have H1 := Lib.hid h1
    have H2 := Lib.hid h2
    have HR := Lib.hid (nb_more hn)
    have hrd := oN_ready c0 c1 c2 s0 s1 s2 h1 h2
    refine wpAnyH_ready hrd ?hne ?hall
    case hne => exact nb_ne HR.out h1 h2
    case hall =>
    clear hS ih hJ hn HC0 HC1 HC2 hend h1 h2 hrd
    intro i hi
    simp only [List.mem_append, mem_if, mem_if_not] at hi
    rcases hi with hi | hi | hi | hi | hi | hi | hi
    · obtain ⟨hc, rfl⟩ := hi
      obtain rfl : c0 = false := by simpa using hc
      obtain rfl : c1 = false := by cases c1 with | false => rfl | true => exact absurd (H1.out rfl) (by decide)
      obtain rfl : c2 = false := by cases c2 with | false => rfl | true => exact absurd (H2.out rfl) (by decide)
      refine (AllReadyH.cons (i := 4) (o := oN_4) rfl (fun K hK => ?_) AllReadyH.nil) 4 (List.mem_singleton.2 rfl)
      delta oN_4
      rw [if_pos (by rfl)]
      delta oNF
      go_simp
      refine HK0.out.mono ?_
      rintro _ w1 ⟨rfl, hb⟩
      go_wp2_with fail
      refine hK.out _ _ (HH.out _ (HJ.out.1.step hb)) (fun _ => ?_)
      exact HI.out true false false s0 s1 s2 (fun h => by first | rfl | exact h | cases h) (fun h => by first | rfl | exact h | cases h) (by have := HN.out; simp only [nb, if_true, if_false, Bool.false_eq_true] at this ⊢; omega) x0 x1 x2 _ y1 y2 _ (HJ.out.call0 hb)
    · obtain ⟨⟨hb, hc⟩, rfl⟩ := hi
      subst hb
      subst hc
      obtain rfl : c2 = false := by cases c2 with | false => rfl | true => exact absurd (H2.out rfl) (by decide)
      refine (AllReadyH.cons (i := 9) (o := oN_9) rfl (fun K hK => ?_) AllReadyH.nil) 9 (List.mem_singleton.2 rfl)
      delta oN_9
      rw [if_pos (by rfl)]
      delta oNF
      go_simp
      refine HK1.out.mono ?_
      rintro _ w1 ⟨rfl, hb⟩
      go_wp2_with fail
      refine hK.out _ _ (HH.out _ (HJ.out.1.step hb)) (fun _ => ?_)
      exact HI.out true true false s0 s1 s2 (fun h => by first | rfl | exact h | cases h) (fun h => by first | rfl | exact h | cases h) (by have := HN.out; simp only [nb, if_true, if_false, Bool.false_eq_true] at this ⊢; omega) x0 x1 x2 y0 _ y2 _ (HJ.out.call1 hb)
    · obtain ⟨⟨hb, hc⟩, rfl⟩ := hi
      subst hb
      subst hc
      obtain rfl : c0 = true := H1.out rfl
      refine (AllReadyH.cons (i := 14) (o := oN_14) rfl (fun K hK => ?_) AllReadyH.nil) 14 (List.mem_singleton.2 rfl)
      delta oN_14
      rw [if_pos (by rfl)]
      delta oNF
      go_simp
      refine HK2.out.mono ?_
      rintro _ w1 ⟨rfl, hb⟩
      go_wp2_with fail
      refine hK.out _ _ (HH.out _ (HJ.out.1.step hb)) (fun _ => ?_)
      exact HI.out true true true s0 s1 s2 (fun h => by first | rfl | exact h | cases h) (fun h => by first | rfl | exact h | cases h) (by have := HN.out; simp only [nb, if_true, if_false, Bool.false_eq_true] at this ⊢; omega) x0 x1 x2 y0 y1 _ _ (HJ.out.call2 hb)
    · obtain ⟨hc, rfl⟩ := hi
      obtain rfl : s0 = false := by simpa using hc
      refine (AllReadyH.cons (i := 15) (o := oN_15) rfl (fun K hK => ?_) AllReadyH.nil) 15 (List.mem_singleton.2 rfl)
      delta oN_15
      rw [if_pos (by rfl)]
      delta oNF
      go_simp
      refine hK.out _ _ (HH.out _ (HJ.out.1.step (kp_alloc _ _))) (fun _ => ?_)
      exact HI.out c0 c1 c2 true s1 s2 H1.out H2.out (by have := HN.out; simp only [nb, if_true, if_false, Bool.false_eq_true] at this ⊢; omega) _ x1 x2 y0 y1 y2 _ HJ.out.make0
    · obtain ⟨hc, rfl⟩ := hi
      obtain rfl : s1 = false := by simpa using hc
      refine (AllReadyH.cons (i := 16) (o := oN_16) rfl (fun K hK => ?_) AllReadyH.nil) 16 (List.mem_singleton.2 rfl)
      delta oN_16
      rw [if_pos (by rfl)]
      delta oNF
      go_simp
      refine hK.out _ _ (HH.out _ (HJ.out.1.step (kp_alloc _ _))) (fun _ => ?_)
      exact HI.out c0 c1 c2 s0 true s2 H1.out H2.out (by have := HN.out; simp only [nb, if_true, if_false, Bool.false_eq_true] at this ⊢; omega) x0 _ x2 y0 y1 y2 _ HJ.out.make1
    · obtain ⟨hc, rfl⟩ := hi
      obtain rfl : s2 = false := by simpa using hc
      refine (AllReadyH.cons (i := 17) (o := oN_17) rfl (fun K hK => ?_) AllReadyH.nil) 17 (List.mem_singleton.2 rfl)
      delta oN_17
      rw [if_pos (by rfl)]
      delta oNF
      go_simp
      refine hK.out _ _ (HH.out _ (HJ.out.1.step (kp_alloc _ _))) (fun _ => ?_)
      exact HI.out c0 c1 c2 s0 s1 true H1.out H2.out (by have := HN.out; simp only [nb, if_true, if_false, Bool.false_eq_true] at this ⊢; omega) x0 x1 _ y0 y1 y2 _ HJ.out.make2
    · obtain ⟨⟨rfl, rfl, rfl, rfl⟩, rfl⟩ := hi
      have := HR.out
      obtain rfl := H2.out rfl
      obtain rfl := H1.out rfl
      simp [nb] at this
set_option maxRecDepth 100000 in
set_option maxHeartbeats 8000000 in
theorem oN_end {Q : Exit → Act → World → Prop} {n0 n1 n2 n3 n4 n5 : Int} {B : Nat} {wn : World} {p0 q0 p1 q1 p2 q2 : Nat}
    (hS : ∀ w', Kp wn w' → w'.cell? ⟨B, 0, none⟩ = some (.int .i64 n0) ∧ w'.cell? ⟨B, 1, none⟩ = some (.int .i64 n1) ∧ w'.cell? ⟨B, 2, none⟩ = some (.int .i64 n2) ∧ w'.cell? ⟨B, 3, none⟩ = some (.int .i64 n3) ∧ w'.cell? ⟨B, 4, none⟩ = some (.int .i64 n4) ∧ w'.cell? ⟨B, 5, none⟩ = some (.int .i64 n5) ∧ Kp wn w')
    (hfin : ∀ b0 b1 b2 w, w.heap[b0]? = some (.cells #[.float .f64 p0, .float .f64 q0] 24 (0, 0)) → w.heap[b1]? = some (.cells #[.float .f64 p1, .float .f64 q1] 24 (0, 0)) → w.heap[b2]? = some (.cells #[.float .f64 p2, .float .f64 q2] 24 (0, 0)) → Kp wn w →
      Q .normal (oNF n0 n1 n2 n3 n4 n5 B (.pointer (some ⟨b0, 0, none⟩)) (.pointer (some ⟨b1, 0, none⟩)) (.pointer (some ⟨b2, 0, none⟩)) (.agg #[.float .f64 p0, .float .f64 q0]) (.agg #[.float .f64 p1, .float .f64 q1]) (.agg #[.float .f64 p2, .float .f64 q2])) w)
    (x0 x1 x2 : Value) (w : World) (hJ : Jp wn (.agg #[.float .f64 p0, .float .f64 q0]) (.agg #[.float .f64 p1, .float .f64 q1]) (.agg #[.float .f64 p2, .float .f64 q2]) true true true true true true x0 x1 x2 (.agg #[.float .f64 p0, .float .f64 q0]) (.agg #[.float .f64 p1, .float .f64 q1]) (.agg #[.float .f64 p2, .float .f64 q2]) w) :
    wpAnyH Tryd.prog .any oN Q (fun w' => w'.cell? ⟨B, 0, none⟩ = some (.int .i64 n0) ∧ w'.cell? ⟨B, 1, none⟩ = some (.int .i64 n1) ∧ w'.cell? ⟨B, 2, none⟩ = some (.int .i64 n2) ∧ w'.cell? ⟨B, 3, none⟩ = some (.int .i64 n3) ∧ w'.cell? ⟨B, 4, none⟩ = some (.int .i64 n4) ∧ w'.cell? ⟨B, 5, none⟩ = some (.int .i64 n5) ∧ Kp wn w') 3 (oNL true true true true true true) (oNF n0 n1 n2 n3 n4 n5 B x0 x1 x2 (.agg #[.float .f64 p0, .float .f64 q0]) (.agg #[.float .f64 p1, .float .f64 q1]) (.agg #[.float .f64 p2, .float .f64 q2])) w := by
  obtain ⟨k, -, -, -, z0, z1, z2, d0, d1, d2⟩ := hJ
  obtain ⟨b0, rfl, g0, B0⟩ := z0 rfl
  obtain ⟨b1, rfl, g1, B1⟩ := z1 rfl
  obtain ⟨b2, rfl, g2, B2⟩ := z2 rfl
  have n01 : b0 ≠ b1 := fun e => d0 rfl rfl (by rw [e])
  have n02 : b0 ≠ b2 := fun e => d1 rfl rfl (by rw [e])
  have n12 : b1 ≠ b2 := fun e => d2 rfl rfl (by rw [e])
  clear z0 z1 z2 d0 d1 d2
  have HF := Lib.hid hfin
  have HH := Lib.hid hS
  have N01 := Lib.hid n01
  have N02 := Lib.hid n02
  have N12 := Lib.hid n12
  have G0 := Lib.hid g0
  have G1 := Lib.hid g1
  have G2 := Lib.hid g2
  have K0 := Lib.hid k
  have HB0 := Lib.hid B0
  have HB1 := Lib.hid B1
  have HB2 := Lib.hid B2
  clear hfin hS n01 n02 n12 g0 g1 g2 k B0 B1 B2
  obtain ⟨u0, u1, f0, f1⟩ := two_facts HB0.out
  refine wpAnyH_ready (rs := [18]) (by kernel_rfl) (by simp) ?_
  refine AllReadyH.cons (i := 18) (o := oN_18) rfl (fun K hK => ?_) AllReadyH.nil
  delta oN_18
  rw [if_pos (by rfl)]
  delta oNF
  go_simp
  have K0 := Lib.hid (K0.out.put2p G0.out (.float .f64 p0) (.float .f64 q0))
  have HB0 := Lib.hid (put2_own HB0.out (.float .f64 p0) (.float .f64 q0))
  have HB1 := Lib.hid (put2_far HB1.out N01.out.symm (.float .f64 p0) (.float .f64 q0))
  have HB2 := Lib.hid (put2_far HB2.out N02.out.symm (.float .f64 p0) (.float .f64 q0))
  refine hK.out _ _ (HH.out _ K0.out) (fun _ => ?_)
  clear hK K u0 u1 f0 f1
  obtain ⟨u0, u1, f0, f1⟩ := two_facts HB1.out
  refine wpAnyH_ready (rs := [19]) (by kernel_rfl) (by simp) ?_
  refine AllReadyH.cons (i := 19) (o := oN_19) rfl (fun K hK => ?_) AllReadyH.nil
  delta oN_19
  rw [if_pos (by rfl)]
  go_simp
  have K0 := Lib.hid (K0.out.put2p G1.out (.float .f64 p1) (.float .f64 q1))
  have HB0 := Lib.hid (put2_far HB0.out N01.out (.float .f64 p1) (.float .f64 q1))
  have HB1 := Lib.hid (put2_own HB1.out (.float .f64 p1) (.float .f64 q1))
  have HB2 := Lib.hid (put2_far HB2.out N12.out.symm (.float .f64 p1) (.float .f64 q1))
  refine hK.out _ _ (HH.out _ K0.out) (fun _ => ?_)
  clear hK K u0 u1 f0 f1
  obtain ⟨u0, u1, f0, f1⟩ := two_facts HB2.out
  refine wpAnyH_ready (rs := [20]) (by kernel_rfl) (by simp) ?_
  refine AllReadyH.cons (i := 20) (o := oN_20) rfl (fun K hK => ?_) AllReadyH.nil
  delta oN_20
  rw [if_pos (by rfl)]
  go_simp
  have K0 := Lib.hid (K0.out.put2p G2.out (.float .f64 p2) (.float .f64 q2))
  have HB0 := Lib.hid (put2_far HB0.out N02.out (.float .f64 p2) (.float .f64 q2))
  have HB1 := Lib.hid (put2_far HB1.out N12.out (.float .f64 p2) (.float .f64 q2))
  have HB2 := Lib.hid (put2_own HB2.out (.float .f64 p2) (.float .f64 q2))
  refine hK.out _ _ (HH.out _ K0.out) (fun _ => ?_)
  clear hK K u0 u1 f0 f1
  refine wpAnyH_done (by kernel_rfl) ?_ _
  exact HF.out b0 b1 b2 _ HB0.out HB1.out HB2.out K0.out
set_option maxRecDepth 100000 in
set_option maxHeartbeats 8000000 in
theorem knows_walk {w : World} (ht : TabOk w) (n0 n1 n2 n3 n4 n5 : Int) :
    Calls Tryd.prog 4 #[.agg #[.int .i64 n0, .int .i64 n1, .int .i64 n2, .int .i64 n3, .int .i64 n4, .int .i64 n5]] w fun e w' => e = .returned (.bool true) ∧ Below w.heap.size w w' := by
  have ib0 := ib_of4 n0
  have ib1 := ib_of4 n1
  have ib2 := ib_of4 n2
  have ib3 := ib_of4 n3
  have ib4 := ib_of4 n4
  have ib5 := ib_of4 n5
  obtain ⟨x0, hx0⟩ : ∃ z, z = ofI (n0.tmod 1025) := ⟨_, rfl⟩
  rw [← hx0] at ib0
  obtain ⟨x1, hx1⟩ : ∃ z, z = ofI (n1.tmod 1025) := ⟨_, rfl⟩
  rw [← hx1] at ib1
  obtain ⟨x2, hx2⟩ : ∃ z, z = ofI (n2.tmod 1025) := ⟨_, rfl⟩
  rw [← hx2] at ib2
  obtain ⟨x3, hx3⟩ : ∃ z, z = ofI (n3.tmod 1025) := ⟨_, rfl⟩
  rw [← hx3] at ib3
  obtain ⟨x4, hx4⟩ : ∃ z, z = ofI (n4.tmod 1025) := ⟨_, rfl⟩
  rw [← hx4] at ib4
  obtain ⟨x5, hx5⟩ : ∃ z, z = ofI (n5.tmod 1025) := ⟨_, rfl⟩
  rw [← hx5] at ib5
  have HC0 := Lib.hid (fun (W : World) => small_calls n0 n1 W)
  rw [← hx0, ← hx1] at HC0
  have HC1 := Lib.hid (fun (W : World) => small_calls n2 n3 W)
  rw [← hx2, ← hx3] at HC1
  have HC2 := Lib.hid (fun (W : World) => small_calls n4 n5 W)
  rw [← hx4, ← hx5] at HC2
  have hf := small_fast ib0 ib1 ib2 ib3 ib4 ib5
  have hb := osg_bound x0 x1 x2 x3 x4 x5
  have HR := Lib.hid (fun (W : World) => rsign_calls x0 x1 x2 x3 x4 x5 ib0.1.1 ib1.1.1 ib2.1.1 ib3.1.1 ib4.1.1 ib5.1.1 W)
  have HF := Lib.hid (fun (W : World) => fast_calls x0 x1 x2 x3 x4 x5 ib0.1.1 ib1.1.1 ib2.1.1 ib3.1.1 ib4.1.1 ib5.1.1 W)
  have HAW := Lib.hid (fun (W : World) (hT : TabOk W) => awake_calls hT)
  obtain ⟨S, hS⟩ : ∃ S, S = osg x0 x1 x2 x3 x4 x5 := ⟨_, rfl⟩
  obtain ⟨F, hF⟩ : ∃ F, F = fastOk x0 x1 x2 x3 x4 x5 := ⟨_, rfl⟩
  rw [← hS] at HR HF hb hf
  rw [← hF] at HF hf
  obtain ⟨F0, hF0⟩ : ∃ z : Int, z = if F = true then S else 0 := ⟨_, rfl⟩
  rw [← hF0] at HF
  have hc : (S = 0 ∧ F0 = 0) ∨ (S = -1 ∧ F0 = -1 ∧ F = true) ∨ (S = 1 ∧ F0 = 1 ∧ F = true) := by
    by_cases h : S = 0
    · left; refine ⟨h, ?_⟩; rw [hF0, h]; cases F <;> rfl
    · have h2 := hf h
      rw [h2, if_pos rfl] at hF0
      rcases (show S = -1 ∨ S = 1 by omega) with h3 | h3
      · exact Or.inr (Or.inl ⟨h3, by rw [hF0, h3], h2⟩)
      · exact Or.inr (Or.inr ⟨h3, by rw [hF0, h3], h2⟩)
  obtain ⟨wn, hwn, HW0, hsz, k0⟩ := box_1 w (.cells #[.int .i64 n0, .int .i64 n1, .int .i64 n2, .int .i64 n3, .int .i64 n4, .int .i64 n5] 31)
  obtain ⟨B, hB⟩ : ∃ B, B = w.heap.size := ⟨_, rfl⟩
  rw [← hB] at k0 hsz
  have q0 : wn.cell? ⟨B, 0, none⟩ = some (.int .i64 n0) := cell_of_block k0 0
  have q1 : wn.cell? ⟨B, 1, none⟩ = some (.int .i64 n1) := cell_of_block k0 1
  have q2 : wn.cell? ⟨B, 2, none⟩ = some (.int .i64 n2) := cell_of_block k0 2
  have q3 : wn.cell? ⟨B, 3, none⟩ = some (.int .i64 n3) := cell_of_block k0 3
  have q4 : wn.cell? ⟨B, 4, none⟩ = some (.int .i64 n4) := cell_of_block k0 4
  have q5 : wn.cell? ⟨B, 5, none⟩ = some (.int .i64 n5) := cell_of_block k0 5
  have hS0 : ∀ w', Kp wn w' → w'.cell? ⟨B, 0, none⟩ = some (.int .i64 n0) ∧ w'.cell? ⟨B, 1, none⟩ = some (.int .i64 n1) ∧ w'.cell? ⟨B, 2, none⟩ = some (.int .i64 n2) ∧ w'.cell? ⟨B, 3, none⟩ = some (.int .i64 n3) ∧ w'.cell? ⟨B, 4, none⟩ = some (.int .i64 n4) ∧ w'.cell? ⟨B, 5, none⟩ = some (.int .i64 n5) ∧ Kp wn w' := fun w' k => ⟨keep_cell k.out q0, keep_cell k.out q1, keep_cell k.out q2, keep_cell k.out q3, keep_cell k.out q4, keep_cell k.out q5, k⟩
  have HW := Lib.hid HW0
  have HT := Lib.hid (ht.keep HW0)
  have HCC := Lib.hid hc
  have HSS := Lib.hid hS0
  clear hf hb hS hF hF0 hc k0 HW0 hsz ht ib0 hx0 ib1 hx1 ib2 hx2 ib3 hx3 ib4 hx4 ib5 hx5 hS0
  go_enter Tryd.func4, Tryd.ntmps4
  go_upto_region 1 with (fail)
  rw [← hwn, ← hB]
  clear hwn hB
  refine wp_region_held_drew (S := fun w' => w'.cell? ⟨B, 0, none⟩ = some (.int .i64 n0) ∧ w'.cell? ⟨B, 1, none⟩ = some (.int .i64 n1) ∧ w'.cell? ⟨B, 2, none⟩ = some (.int .i64 n2) ∧ w'.cell? ⟨B, 3, none⟩ = some (.int .i64 n3) ∧ w'.cell? ⟨B, 4, none⟩ = some (.int .i64 n4) ∧ w'.cell? ⟨B, 5, none⟩ = some (.int .i64 n5) ∧ Kp wn w') (by kernel_rfl) ?_ (fun hH0 => ?_)
  · exact HSS.out _ (Kp.refl wn).drew
  show wpAnyH _ _ oN _ _ _ (#[false, false, false, false, false, false, false, false, false, false, false, false, false, false, false, false, false, false, false, false, false] : Array Bool) _ _
  refine wpAnyH_take (i := 0) (oi := oN_0) (v := ?_) rfl (by kernel_rfl) (by kernel_rfl) (by kernel_rfl) (fun _ _ _ h => h) (Or.inl ⟨by rfl, ?_⟩) (by assumption) ?_
  rotate_left
  · (intro w hSw; (try dsimp only at hSw); delta oN_0; go_simp; (try with_reducible rfl))
  delta oN_0
  show wpAnyH _ _ oN _ _ _ (#[true, false, false, false, false, false, false, false, false, false, false, false, false, false, false, false, false, false, false, false, false] : Array Bool) _ _
  ((try simp only [Act.put]); (try simp only [List.setIfInBounds_toArray, List.set_cons_zero, List.set_cons_succ]))
  refine wpAnyH_take (i := 1) (oi := oN_1) (v := ?_) rfl (by kernel_rfl) (by kernel_rfl) (by kernel_rfl) (fun _ _ _ h => h) (Or.inl ⟨by rfl, ?_⟩) (by assumption) ?_
  rotate_left
  · (intro w hSw; (try dsimp only at hSw); delta oN_1; go_simp; (try with_reducible rfl))
  delta oN_1
  show wpAnyH _ _ oN _ _ _ (#[true, true, false, false, false, false, false, false, false, false, false, false, false, false, false, false, false, false, false, false, false] : Array Bool) _ _
  ((try simp only [Act.put]); (try simp only [List.setIfInBounds_toArray, List.set_cons_zero, List.set_cons_succ]))
  refine wpAnyH_take (i := 2) (oi := oN_2) (v := ?_) rfl (by kernel_rfl) (by kernel_rfl) (by kernel_rfl) (fun _ _ _ h => h) (Or.inl ⟨by rfl, ?_⟩) (by assumption) ?_
  rotate_left
  · (intro w hSw; (try dsimp only at hSw); delta oN_2; go_simp; (try with_reducible rfl))
  delta oN_2
  show wpAnyH _ _ oN _ _ _ (#[true, true, true, false, false, false, false, false, false, false, false, false, false, false, false, false, false, false, false, false, false] : Array Bool) _ _
  ((try simp only [Act.put]); (try simp only [List.setIfInBounds_toArray, List.set_cons_zero, List.set_cons_succ]))
  refine wpAnyH_take (i := 3) (oi := oN_3) (v := ?_) rfl (by kernel_rfl) (by kernel_rfl) (by kernel_rfl) (fun _ _ _ h => h) (Or.inl ⟨by rfl, ?_⟩) (by assumption) ?_
  rotate_left
  · (intro w hSw; (try dsimp only at hSw); delta oN_3; go_simp; (try with_reducible rfl))
  delta oN_3
  show wpAnyH _ _ oN _ _ _ (#[true, true, true, true, false, false, false, false, false, false, false, false, false, false, false, false, false, false, false, false, false] : Array Bool) _ _
  ((try simp only [Act.put]); (try simp only [List.setIfInBounds_toArray, List.set_cons_zero, List.set_cons_succ]))
  refine wpAnyH_take (i := 5) (oi := oN_5) (v := ?_) rfl (by kernel_rfl) (by kernel_rfl) (by kernel_rfl) (fun _ _ _ h => h) (Or.inl ⟨by rfl, ?_⟩) (by assumption) ?_
  rotate_left
  · (intro w hSw; (try dsimp only at hSw); delta oN_5; go_simp; (try with_reducible rfl))
  delta oN_5
  show wpAnyH _ _ oN _ _ _ (#[true, true, true, true, false, true, false, false, false, false, false, false, false, false, false, false, false, false, false, false, false] : Array Bool) _ _
  ((try simp only [Act.put]); (try simp only [List.setIfInBounds_toArray, List.set_cons_zero, List.set_cons_succ]))
  refine wpAnyH_take (i := 6) (oi := oN_6) (v := ?_) rfl (by kernel_rfl) (by kernel_rfl) (by kernel_rfl) (fun _ _ _ h => h) (Or.inl ⟨by rfl, ?_⟩) (by assumption) ?_
  rotate_left
  · (intro w hSw; (try dsimp only at hSw); delta oN_6; go_simp; (try with_reducible rfl))
  delta oN_6
  show wpAnyH _ _ oN _ _ _ (#[true, true, true, true, false, true, true, false, false, false, false, false, false, false, false, false, false, false, false, false, false] : Array Bool) _ _
  ((try simp only [Act.put]); (try simp only [List.setIfInBounds_toArray, List.set_cons_zero, List.set_cons_succ]))
  refine wpAnyH_take (i := 7) (oi := oN_7) (v := ?_) rfl (by kernel_rfl) (by kernel_rfl) (by kernel_rfl) (fun _ _ _ h => h) (Or.inl ⟨by rfl, ?_⟩) (by assumption) ?_
  rotate_left
  · (intro w hSw; (try dsimp only at hSw); delta oN_7; go_simp; (try with_reducible rfl))
  delta oN_7
  show wpAnyH _ _ oN _ _ _ (#[true, true, true, true, false, true, true, true, false, false, false, false, false, false, false, false, false, false, false, false, false] : Array Bool) _ _
  ((try simp only [Act.put]); (try simp only [List.setIfInBounds_toArray, List.set_cons_zero, List.set_cons_succ]))
  refine wpAnyH_take (i := 8) (oi := oN_8) (v := ?_) rfl (by kernel_rfl) (by kernel_rfl) (by kernel_rfl) (fun _ _ _ h => h) (Or.inl ⟨by rfl, ?_⟩) (by assumption) ?_
  rotate_left
  · (intro w hSw; (try dsimp only at hSw); delta oN_8; go_simp; (try with_reducible rfl))
  delta oN_8
  show wpAnyH _ _ oN _ _ _ (#[true, true, true, true, false, true, true, true, true, false, false, false, false, false, false, false, false, false, false, false, false] : Array Bool) _ _
  ((try simp only [Act.put]); (try simp only [List.setIfInBounds_toArray, List.set_cons_zero, List.set_cons_succ]))
  refine wpAnyH_take (i := 10) (oi := oN_10) (v := ?_) rfl (by kernel_rfl) (by kernel_rfl) (by kernel_rfl) (fun _ _ _ h => h) (Or.inl ⟨by rfl, ?_⟩) (by assumption) ?_
  rotate_left
  · (intro w hSw; (try dsimp only at hSw); delta oN_10; go_simp; (try with_reducible rfl))
  delta oN_10
  show wpAnyH _ _ oN _ _ _ (#[true, true, true, true, false, true, true, true, true, false, true, false, false, false, false, false, false, false, false, false, false] : Array Bool) _ _
  ((try simp only [Act.put]); (try simp only [List.setIfInBounds_toArray, List.set_cons_zero, List.set_cons_succ]))
  refine wpAnyH_take (i := 11) (oi := oN_11) (v := ?_) rfl (by kernel_rfl) (by kernel_rfl) (by kernel_rfl) (fun _ _ _ h => h) (Or.inl ⟨by rfl, ?_⟩) (by assumption) ?_
  rotate_left
  · (intro w hSw; (try dsimp only at hSw); delta oN_11; go_simp; (try with_reducible rfl))
  delta oN_11
  show wpAnyH _ _ oN _ _ _ (#[true, true, true, true, false, true, true, true, true, false, true, true, false, false, false, false, false, false, false, false, false] : Array Bool) _ _
  ((try simp only [Act.put]); (try simp only [List.setIfInBounds_toArray, List.set_cons_zero, List.set_cons_succ]))
  refine wpAnyH_take (i := 12) (oi := oN_12) (v := ?_) rfl (by kernel_rfl) (by kernel_rfl) (by kernel_rfl) (fun _ _ _ h => h) (Or.inl ⟨by rfl, ?_⟩) (by assumption) ?_
  rotate_left
  · (intro w hSw; (try dsimp only at hSw); delta oN_12; go_simp; (try with_reducible rfl))
  delta oN_12
  show wpAnyH _ _ oN _ _ _ (#[true, true, true, true, false, true, true, true, true, false, true, true, true, false, false, false, false, false, false, false, false] : Array Bool) _ _
  ((try simp only [Act.put]); (try simp only [List.setIfInBounds_toArray, List.set_cons_zero, List.set_cons_succ]))
  refine wpAnyH_take (i := 13) (oi := oN_13) (v := ?_) rfl (by kernel_rfl) (by kernel_rfl) (by kernel_rfl) (fun _ _ _ h => h) (Or.inl ⟨by rfl, ?_⟩) (by assumption) ?_
  rotate_left
  · (intro w hSw; (try dsimp only at hSw); delta oN_13; go_simp; (try with_reducible rfl))
  delta oN_13
  show wpAnyH _ _ oN _ _ _ (#[true, true, true, true, false, true, true, true, true, false, true, true, true, true, false, false, false, false, false, false, false] : Array Bool) _ _
  ((try simp only [Act.put]); (try simp only [List.setIfInBounds_toArray, List.set_cons_zero, List.set_cons_succ]))
  show wpAnyH _ _ oN _ _ (3 + 6) (oNL false false false false false false) (oNF n0 n1 n2 n3 n4 n5 B undef undef undef undef undef undef) _
  refine oN_inv (fun Y _ => HC0.out Y) (fun Y _ => HC1.out Y) (fun Y _ => HC2.out Y) (oN_end HSS.out ?_) HSS.out 6 false false false false false false (fun h => h) (fun h => h) rfl _ _ _ _ _ _ _ ⟨(Kp.refl wn).drew, fun h => (by cases h), fun h => (by cases h), fun h => (by cases h), fun h => (by cases h), fun h => (by cases h), fun h => (by cases h), fun h => (by cases h), fun h => (by cases h), fun h => (by cases h)⟩
  intro b0 b1 b2 wz B0 B1 B2 KZ
  delta oNF
  have HT := Lib.hid (HT.out.keep KZ.out)
  have HW := Lib.hid (bl_pack HW.out HW.out.size KZ.out)
  have HCC := HCC
  have p00 : wz.cell? ⟨b0, 0, none⟩ = some (.float .f64 x0) := cell_of_block B0 0
  have p01 : wz.cell? ⟨b0, 1, none⟩ = some (.float .f64 x1) := cell_of_block B0 1
  have p10 : wz.cell? ⟨b1, 0, none⟩ = some (.float .f64 x2) := cell_of_block B1 0
  have p11 : wz.cell? ⟨b1, 1, none⟩ = some (.float .f64 x3) := cell_of_block B1 1
  have p20 : wz.cell? ⟨b2, 0, none⟩ = some (.float .f64 x4) := cell_of_block B2 0
  have p21 : wz.cell? ⟨b2, 1, none⟩ = some (.float .f64 x5) := cell_of_block B2 1
  clear B0 B1 B2 KZ q0 q1 q2 q3 q4 q5 hH0 HSS HC0 HC1 HC2
  rcases HCC.out with ⟨rfl, rfl⟩ | ⟨rfl, rfl, rfl⟩ | ⟨rfl, rfl, rfl⟩
  all_goals
    go_wp2_with fail
    refine (HR.out _).mono ?_
    rintro _ w1 ⟨rfl, hb⟩
    have p00 := keep_cell hb p00
    have p01 := keep_cell hb p01
    have p10 := keep_cell hb p10
    have p11 := keep_cell hb p11
    have p20 := keep_cell hb p20
    have p21 := keep_cell hb p21
    have HT := Lib.hid (HT.out.keep hb)
    have HW := Lib.hid (bl_pack HW.out HW.out.size hb)
    clear hb
    go_wp2_with fail
    refine (HF.out _).mono ?_
    rintro _ w2 ⟨rfl, hb⟩
    have p00 := keep_cell hb p00
    have p01 := keep_cell hb p01
    have p10 := keep_cell hb p10
    have p11 := keep_cell hb p11
    have p20 := keep_cell hb p20
    have p21 := keep_cell hb p21
    have HT := Lib.hid (HT.out.keep hb)
    have HW := Lib.hid (bl_pack HW.out HW.out.size hb)
    clear hb
    go_wp2_with fail
    refine (HAW.out _ HT.out).mono ?_
    rintro _ w3 ⟨rfl, hb⟩
    have p00 := keep_cell hb p00
    have p01 := keep_cell hb p01
    have p10 := keep_cell hb p10
    have p11 := keep_cell hb p11
    have p20 := keep_cell hb p20
    have p21 := keep_cell hb p21
    have HT := Lib.hid (HT.out.keep hb)
    have HW := Lib.hid (bl_pack HW.out HW.out.size hb)
    clear hb
    go_wp2_with fail
    go_ret
    exact ⟨rfl, HW.out⟩
end Go.Proofs.YtiihokgjplpceaaDoor
end
