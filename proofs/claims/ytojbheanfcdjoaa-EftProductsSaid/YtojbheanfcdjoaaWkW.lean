/- The law EftHalves, walked. -/
import Derived.Test.YtojbheanfcdjoaaWkV
import Derived.Test.YtojbheanfcdjoaaHfA
import Derived.Test.YtojbheanfcdjoaaWkE
import Derived.Deep.RegionHeld3
namespace Go.Proofs.Ytojbheanfcdjoaa
open Go.RowKit TV
set_option linter.unusedVariables false
set_option exponentiation.threshold 3000

@[go_sem] theorem run_store_float {P : Program} (w : World) (a : Addr) (m : Mode) (k : FloatKind) (x : Nat) : (store a (.float k x) m).run P w = stored P w a (.float k x) m := run_store P w a _ m rfl

theorem half_fin {x : Nat} (h : Half x) : rung x < inf := by have := h.2.1; have := inf_eq; omega

theorem half_ov {x : Nat} (h : Half x) : ∃ (m l : Int), ov x = (m : Rat) * (2 : Rat) ^ l ∧ m.natAbs ≤ 67108864 := by
  have hf := half_fin h
  obtain ⟨-, -, m, k, h1, h2, -, -⟩ := h
  refine ⟨m, (k : Int) + -1074, ?_, h2⟩
  unfold ov; rw [if_pos hf, h1, Rat.intCast_mul, Rat.intCast_natCast, ← two_zpow_nat, two_zpow_add, Rat.mul_assoc]

theorem bits_calls (x : Nat) (hh : Half x) (w : World) :
    Calls Try.prog 21 #[.float .f64 x] w fun r w' => ∃ n : Int, r = .returned (.int .i64 n) ∧ n ≤ 26 ∧ Below w.heap.size w w' := by
  obtain ⟨m, l, hq, hm⟩ := half_ov hh
  have hx := hh.1
  have HQ := Lib.hid hq
  clear hq
  go_enter Try.func21, Try.ntmps21
  go_wp2_with fail
  refine (ofN x hx _).mono ?_
  rintro r w1 ⟨v, rfl, hN, hb1⟩
  have hN0 := hN
  obtain ⟨s, sl, ds, e, rfl, hsl, hnm, hov, hin⟩ := hN
  obtain ⟨p, cap, rfl⟩ := hsl.formMap
  have hN1 := hN0.keep ((Below.refl w1.heap.size w1).alloc (Nat.le_refl _) (.cells #[.int .i64 s, .slice p ds.length cap, .int .i64 e] 32))
  clear hov hnm hin
  obtain ⟨W, hWd⟩ : ∃ W, W = w1.alloc (.cells #[.int .i64 s, .slice p ds.length cap, .int .i64 e] 32) := ⟨_, rfl⟩
  have hres : W.heap[w1.heap.size]? = some (.cells #[.int .i64 s, .slice p ds.length cap, .int .i64 e] 32 (0, 0)) := by rw [hWd]; exact heap_alloc_new _ _
  rw [← hWd] at hN1
  have hbW : Below w.heap.size w W := by rw [hWd]; exact hb1.alloc hb1.size _
  obtain ⟨g0, g1, g2, -, -, -⟩ := res_facts hres
  go_wp2_with fail
  rw [← hWd]
  refine (signN hN1).mono ?_
  rintro r w2 ⟨rfl, hb2⟩
  have hN2 := hN1.keep hb2
  have hres2 := keep_block hb2 hres
  obtain ⟨f0, f1, f2, -, -, -⟩ := res_facts hres2
  have hbw2 := hbW.trans (hb2.mono hbW.size)
  clear hWd g0 g1 g2
  by_cases hz : rs (ov x) = 0
  · go_wp2_with fail
    go_ret
    exact ⟨0, rfl, by omega, hbw2⟩
  · have hz' : (rs (ov x) == 0) = false := by simpa using hz
    have hqn : ov x ≠ 0 := by intro hc; apply hz; rw [hc]; decide
    clear hz
    obtain ⟨wz, rfl⟩ : ∃ wz : World, wz = w2 := ⟨_, rfl⟩
    have HH := Lib.hid (fun (W : World) (h : Kp wz W) => highN (hN2.keep h.out) (by omega))
    have HL := Lib.hid (fun (W : World) (h : Kp wz W) => lowN (hN2.keep h.out) (by omega))
    go_upto_region 4 with (fail)
    go_region_held3 (fun w' => w'.cell? ⟨w1.heap.size, 0, none⟩ = some (.int .i64 s) ∧ w'.cell? ⟨w1.heap.size, 1, none⟩ = some (.slice p ds.length cap) ∧ w'.cell? ⟨w1.heap.size, 2, none⟩ = some (.int .i64 e) ∧ Kp wz w')
      (refine ⟨?_, ?_, ?_, ?_⟩ <;> first | exact keep_cell hbB (keep_cell hbA f0) | exact keep_cell hbB (keep_cell hbA f1) | exact keep_cell hbB (keep_cell hbA f2) | exact ((Kp.refl _).drew.step hbA).step hbB | exact keep_cell hbA f0 | exact keep_cell hbA f1 | exact keep_cell hbA f2 | exact (Kp.refl _).drew.step hbA | exact f0 | exact f1 | exact f2 | exact (Kp.refl _).drew)
      (first
        | (go_at_call 37; ((with_reducible refine (HH.out _ ?hq1).mono ?_); (case hq1 => exact (Kp.refl _).drew); rintro r wa ⟨hi, rfl, hi0, hi1, hi2, hbA⟩))
        | (go_at_call 38; ((with_reducible refine (HL.out _ ?hq2).mono ?_); (case hq2 => exact (Kp.refl _).drew.step hbA); rintro r wb ⟨lo, rfl, lo0, lo1, lo2, hbB⟩)))
    go_wp2_with fail
    go_ret
    refine ⟨_, rfl, ?_, hbw2.trans ((((Kp.refl _).drew.step hbA).step hbB).out.mono hbw2.size)⟩
    have hfew := few_bits HQ.out hm (hi2 hqn) (lo2 hqn)
    simp only [IntKind.wrap_i64]
    omega

/-- The same, wherever the digits lie. -/
def NumT (w : World) (v : Value) (k : Nat) (q : Rat) : Prop := NumV (fun _ => True) w v k q
def RetT (k : Nat) (q : Rat) (w : World) (x : Ending) (w' : World) : Prop := ∃ v, x = .returned v ∧ NumT w' v k q ∧ Below w.heap.size w w'
theorem RetN.t {P : Nat → Prop} {k : Nat} {q : Rat} {w : World} {x : Ending} {w' : World} (h : RetN P k q w x w') : RetT k q w x w' := by
  obtain ⟨v, h1, h2, h3⟩ := h; exact ⟨v, h1, h2.mono fun _ _ => trivial, h3⟩
theorem NumT.keep {w w1 : World} {v : Value} {k : Nat} {q : Rat} (h : NumT w v k q) (hb : Below w.heap.size w w1) : NumT w1 v k q := NumV.keep h hb
theorem NumT.more {w : World} {v : Value} {k k' : Nat} {q : Rat} (h : NumT w v k q) (hk : k ≤ k') : NumT w v k' q := NumV.more h hk

theorem ofT (x : Nat) (hx : x < 18446744073709551616) (w : World) : Calls Try.prog 20 #[.float .f64 x] w (RetT 2000 (ov x) w) := (ofN x hx w).mono fun _ _ h => h.t
theorem addT {w : World} {x y : Value} {k : Nat} {p q : Rat} (hx : NumT w x k p) (hy : NumT w y k q) (hk : k ≤ 900000000) : Calls Try.prog 19 #[x, y] w (RetT (k + 1) (p + q) w) := (addN hx hy hk).mono fun _ _ h => h.t
theorem mulT {w : World} {x y : Value} {k j : Nat} {p q : Rat} (hx : NumT w x k p) (hy : NumT w y j q) (hk : k ≤ 900000000) (hj : j ≤ 900000000) : Calls Try.prog 22 #[x, y] w (RetT (k + j) (p * q) w) := (mulN hx hy hk hj).mono fun _ _ h => h.t
theorem cmpT {w : World} {x y : Value} {k : Nat} {p q : Rat} (hx : NumT w x k p) (hy : NumT w y k q) (hk : k ≤ 900000000) :
    Calls Try.prog 18 #[x, y] w fun r w' => r = .returned (.int .i64 (rs (p - q))) ∧ Below w.heap.size w w' := cmpN hx hy hk

theorem half_ov_mul {x y : Nat} (hx : Half x) (hy : Half y) : rs (ov (fmul x y) - ov x * ov y) = 0 := by
  obtain ⟨-, -, h3, h4⟩ := half_mul hx hy
  have : ov (fmul x y) = ov x * ov y := by
    unfold ov
    rw [if_pos h3, if_pos (half_fin hx), if_pos (half_fin hy)]
    have e : ((fv (fmul x y) : Rat)) = (fv x : Rat) * (fv y : Rat) * (2 : Rat) ^ (-1074 : Int) := by
      rw [← Rat.intCast_mul, ← h4, Rat.intCast_mul, Rat.intCast_natCast, ← two_zpow_nat, Rat.mul_assoc, ← two_zpow_add]
      simp
    rw [e]; grind
  rw [this, Rat.sub_self]; rfl

theorem half_ov_add {x : Nat} (h : safeB x = true) : rs (ov (spHi x) + ov (spLo x) - ov x) = 0 := by
  obtain ⟨h1, h2⟩ := half_split h
  obtain ⟨-, -, -, -, -, -, -, -, h3, -⟩ := split_safe h
  have hf : rung x < inf := by
    rcases of_decide_eq_true h with h0 | ⟨-, h0⟩
    · rw [h0]; exact inf_pos
    · have := inf_eq; omega
  have : ov (spHi x) + ov (spLo x) = ov x := by
    unfold ov
    rw [if_pos hf, if_pos (half_fin h1), if_pos (half_fin h2), ← Rat.add_mul, ← Rat.intCast_add, h3]
  rw [this, Rat.sub_self]; rfl

def spH (x : Nat) : Nat := if safeB x then spHi x else 0
def spL (x : Nat) : Nat := if safeB x then spLo x else 0
theorem split_all (x : Nat) (hx : x < 18446744073709551616) (w : World) :
    Calls Try.prog 17 #[.float .f64 x] w fun e w' => e = .returned (.tuple #[.float .f64 (spH x), .float .f64 (spL x)]) ∧ w = w' := by
  unfold spH spL
  by_cases h : safeB x = true
  · rw [if_pos h, if_pos h]; exact split_calls x hx h w
  · rw [if_neg h, if_neg h]; exact split_no x hx (by simpa using h) w

theorem halves_no (x y : Nat) (hx : x < 18446744073709551616) (hy : y < 18446744073709551616) (h : (safeB x && safeB y) = false) (w : World) :
    Calls Try.prog 6 #[.float .f64 x, .float .f64 y] w fun e w' => e = .returned (.bool true) ∧ Below w.heap.size w w' := by
  have h1 : safeB x = false ∨ (safeB x = true ∧ safeB y = false) := by
    cases hx : safeB x
    · exact Or.inl rfl
    · rw [hx, Bool.true_and] at h; exact Or.inr ⟨rfl, h⟩
  rcases h1 with h1 | ⟨h1, h2⟩
  all_goals
    go_enter Try.func6, Try.ntmps6
    go_wp2_with (first
      | (go_at_call 17; refine (split_all _ (by assumption) _).mono ?_; rintro e w6 ⟨rfl, rfl⟩)
      | (go_at_call 12; refine (safe2_calls _ (by assumption) _).mono ?_; rintro e w6 ⟨rfl, rfl⟩)
      | (go_at_call 13; refine (awake2_calls _).mono ?_; rintro e w6 ⟨rfl, hb⟩))
    go_ret
    exact ⟨rfl, hb⟩

set_option maxRecDepth 100000 in
set_option maxHeartbeats 1000000 in
theorem halves_core (x y p q r s : Nat) (hx : x < 18446744073709551616) (hy : y < 18446744073709551616) (h1 : safeB x = true) (h2 : safeB y = true) (HPP : Hid (Half p ∧ Half q ∧ Half r ∧ Half s))
    (S1 : ∀ w, Calls Try.prog 17 #[.float .f64 x] w fun e w' => e = .returned (.tuple #[.float .f64 p, .float .f64 q]) ∧ w = w')
    (S2 : ∀ w, Calls Try.prog 17 #[.float .f64 y] w fun e w' => e = .returned (.tuple #[.float .f64 r, .float .f64 s]) ∧ w = w')
    (hadd : rs (ov p + ov q - ov x) = 0) (w : World) :
    Calls Try.prog 6 #[.float .f64 x, .float .f64 y] w fun e w' => e = .returned (.bool true) ∧ Below w.heap.size w w' := by
  go_enter Try.func6, Try.ntmps6
  go_wp2_with (first
      | (go_at_call 17; first | (with_reducible refine (S1 _).mono ?_; rintro e w6 ⟨rfl, rfl⟩) | (with_reducible refine (S2 _).mono ?_; rintro e w6 ⟨rfl, rfl⟩))
      | (go_at_call 12; refine (safe2_calls _ (by assumption) _).mono ?_; rintro e w6 ⟨rfl, rfl⟩)
      | (go_at_call 13; refine (awake2_calls _).mono ?_; rintro e w6 ⟨rfl, hb⟩))
  refine (ofT p HPP.out.1.1 _).mono ?_
  rintro t w1 ⟨v1, rfl, N1, hb1⟩
  go_wp2_with fail
  refine (ofT q HPP.out.2.1.1 _).mono ?_
  rintro t w2 ⟨v2, rfl, N2, hb2⟩
  go_wp2_with fail
  refine (addT (N1.keep hb2) N2 (by omega)).mono ?_
  rintro t w3 ⟨v3, rfl, N3, hb3⟩
  go_wp2_with fail
  refine (ofT x hx _).mono ?_
  rintro t w4 ⟨v4, rfl, N4, hb4⟩
  go_wp2_with fail
  refine (cmpT (N3.keep hb4) (N4.more (by omega)) (by omega)).mono ?_
  rw [hadd]
  rintro t w5 ⟨rfl, hb5⟩
  go_wp2_with fail
  refine (bits_calls p HPP.out.1 _).mono ?_
  rintro t w6 ⟨n1, rfl, hn1, hb6⟩
  go_wp2_with fail
  refine (bits_calls q HPP.out.2.1 _).mono ?_
  rintro t w7 ⟨n2, rfl, hn2, hb7⟩
  have hbw : Below w.heap.size w w7 := below2 (below3 hb (below3 hb1 hb2 hb3) (below2 hb4 hb5)) (below2 hb6 hb7)
  clear hb hb1 hb2 hb3 hb4 hb5 hb6 hb7 N1 N2 N3 N4 S1 S2 hadd
  go_wp2_with fail
  go_loopw [63] (fun i wr => ∃ k : Nat, k ≤ 4 ∧ i = .int .i64 k ∧ Below w.heap.size w wr) (fun i _ => 4 - (intOf i).toNat)
  case atStart => exact ⟨0, by omega, rfl, hbw⟩
  case round =>
    obtain ⟨k, hk, rfl, hbl⟩ := hrel
    clear hbw
    by_cases h4 : k < 4
    · obtain ⟨u, v, hu, hv, hix⟩ : ∃ u v, Half u ∧ Half v ∧ ∀ W, (Instr.index 37 (.agg #[.float .f64 p, .float .f64 r, .float .f64 p, .float .f64 s, .float .f64 q, .float .f64 r, .float .f64 q, .float .f64 s]) (.int .i64 (k : Int))).run Try.prog W = .ok (.agg #[.float .f64 u, .float .f64 v]) W := by
        obtain ⟨a1, a2, a3, a4⟩ := HPP.out
        have hk4 : k = 0 ∨ k = 1 ∨ k = 2 ∨ k = 3 := by omega
        rcases hk4 with rfl | rfl | rfl | rfl
        · exact ⟨p, r, a1, a3, fun _ => by kernel_rfl⟩
        · exact ⟨p, s, a1, a4, fun _ => by kernel_rfl⟩
        · exact ⟨q, r, a2, a3, fun _ => by kernel_rfl⟩
        · exact ⟨q, s, a2, a4, fun _ => by kernel_rfl⟩
      obtain ⟨f1, f2, -, -⟩ := half_mul hu hv
      have f3 := some_of f1
      have f4 := half_ov_mul hu hv
      have f5 := hu.1
      have f6 := hv.1
      clear f1 hu hv
      go_upto_region 12 with (fail)
      obtain ⟨W, hWd⟩ : ∃ W, W = wr.alloc (.cells #[.float .f64 u, .float .f64 v] 36) := ⟨_, rfl⟩
      have hnew := heap_alloc_new wr (.cells #[.float .f64 u, .float .f64 v] 36)
      rw [← hWd] at hnew ⊢
      have g0 : W.cell? ⟨wr.heap.size, 0, none⟩ = some (.float .f64 u) := cell_of_block hnew 0
      have g1 : W.cell? ⟨wr.heap.size, 1, none⟩ = some (.float .f64 v) := cell_of_block hnew 1
      have hbW : Below w.heap.size w W := by rw [hWd]; exact hbl.alloc hbl.size _
      have HBW := Lib.hid hbW
      have F4 := Lib.hid f4
      have k1 : 2000 ≤ 900000000 := by omega
      have k2 : 2000 ≤ 2000 + 2000 := by omega
      have k3 : 2000 + 2000 ≤ 900000000 := by omega
      clear hWd hbW hbl f4 hnew hix
      go_region_held3 (fun w' => w'.cell? ⟨wr.heap.size, 0, none⟩ = some (.float .f64 u) ∧ w'.cell? ⟨wr.heap.size, 1, none⟩ = some (.float .f64 v) ∧ Kp W w')
        (refine ⟨?_, ?_, ?_⟩ <;> first
          | exact keep_cell hbE (keep_cell hbD (keep_cell hbC (keep_cell hbB (keep_cell hbA g0)))) | exact keep_cell hbE (keep_cell hbD (keep_cell hbC (keep_cell hbB (keep_cell hbA g1)))) | exact (((((Kp.refl _).drew.step hbA).step hbB).step hbC).step hbD).step hbE
          | exact keep_cell hbD (keep_cell hbC (keep_cell hbB (keep_cell hbA g0))) | exact keep_cell hbD (keep_cell hbC (keep_cell hbB (keep_cell hbA g1))) | exact ((((Kp.refl _).drew.step hbA).step hbB).step hbC).step hbD
          | exact keep_cell hbC (keep_cell hbB (keep_cell hbA g0)) | exact keep_cell hbC (keep_cell hbB (keep_cell hbA g1)) | exact (((Kp.refl _).drew.step hbA).step hbB).step hbC
          | exact keep_cell hbB (keep_cell hbA g0) | exact keep_cell hbB (keep_cell hbA g1) | exact ((Kp.refl _).drew.step hbA).step hbB
          | exact keep_cell hbA g0 | exact keep_cell hbA g1 | exact (Kp.refl _).drew.step hbA
          | exact g0 | exact g1 | exact (Kp.refl _).drew)
        (first
          | (go_at_call 22; ((with_reducible refine (mulT (hN2.keep hbC) hN3 k1 k1).mono ?_); rintro t wd ⟨v9, rfl, hN4, hbD⟩))
          | (go_at_call 18; ((with_reducible refine (cmpT ((((hN1.keep hbB).keep hbC).keep hbD).more k2) hN4 k3).mono ?_); rintro t we ⟨rfl, hbE⟩))
          | (go_at_call 20; first
              | ((with_reducible refine (ofT (fmul u v) f2 _).mono ?_); rintro t wa ⟨v6, rfl, hN1, hbA⟩)
              | ((with_reducible refine (ofT u f5 _).mono ?_); rintro t wb ⟨v7, rfl, hN2, hbB⟩)
              | ((with_reducible refine (ofT v f6 _).mono ?_); rintro t wc ⟨v8, rfl, hN3, hbC⟩)))
      rw [F4.out]
      have hfin : Below w.heap.size w we := HBW.out.trans ((((((Kp.refl _).drew.step hbA).step hbB).step hbC).step hbD).step hbE |>.out.mono HBW.out.size)
      clear hbA hbB hbC hbD hbE hN1 hN2 hN3 hN4
      go_wp2_with fail
      go_roundw
      case rel => exact ⟨k + 1, by omega, by go_num, hfin⟩
      case measure => simp [intOf]; omega
    · obtain rfl : k = 4 := by omega
      go_wp2_with fail
      go_ret
      exact ⟨rfl, hbl⟩

theorem halves_yes (x y : Nat) (hx : x < 18446744073709551616) (hy : y < 18446744073709551616) (h1 : safeB x = true) (h2 : safeB y = true) (w : World) :
    Calls Try.prog 6 #[.float .f64 x, .float .f64 y] w fun e w' => e = .returned (.bool true) ∧ Below w.heap.size w w' := by
  obtain ⟨a1, a2⟩ := half_split h1
  obtain ⟨b1, b2⟩ := half_split h2
  have hadd := half_ov_add h1
  have e1 : spH x = spHi x := if_pos h1
  have e2 : spL x = spLo x := if_pos h1
  have e3 : spH y = spHi y := if_pos h2
  have e4 : spL y = spLo y := if_pos h2
  have S1 := fun w => split_all x hx w
  have S2 := fun w => split_all y hy w
  rw [e1, e2] at S1
  rw [e3, e4] at S2
  exact halves_core x y _ _ _ _ hx hy h1 h2 (Lib.hid ⟨a1, a2, b1, b2⟩) S1 S2 hadd w

theorem EftHalves_walk (x : Nat) (wx : (Lit.float .f64 x).wf = true) (y : Nat) (wy : (Lit.float .f64 y).wf = true) (w : World) :
    Calls Try.prog 6 #[.float .f64 x, .float .f64 y] w fun e w' => e = .returned (.bool true) ∧ Below w.heap.size w w' := by
  have hx := float_wf wx
  have hy := float_wf wy
  by_cases h : (safeB x && safeB y) = true
  · rw [Bool.and_eq_true] at h
    exact halves_yes x y hx hy h.1 h.2 w
  · exact halves_no x y hx hy (by simpa using h) w
end Go.Proofs.Ytojbheanfcdjoaa
