/- The document's answer: which coordinates may be (layer 4), walked. -/
import Derived.Test.YtiihokgjplpceaaDoorTrC
import Derived.Test.YtiihokgjplpceaaDoorRfB
import Derived.Test.YtiihokgjplpceaaDoorRfG
import Derived.Deep.RegionHeld3
namespace Go.Proofs.YtiihokgjplpceaaDoor
open Go.RowKit TV
set_option linter.unusedVariables false

theorem coord_nan (x : Nat) (hx : x < 18446744073709551616) (c : inf < rung x) (w : World) :
    Calls Tryd.prog 28 #[.float .f64 x] w fun e w' => e = .returned (.bool false) ∧ Below w.heap.size w w' := by
  have h1 : FloatKind.f64.format.order x x = none := order_nan_left c
  go_enter Tryd.func28, Tryd.ntmps28
  go_wp2
  go_ret
  exact ⟨rfl, Below.refl _ _⟩

theorem coord_inf (x : Nat) (hx : x < 18446744073709551616) (c : rung x = inf) (w : World) :
    Calls Tryd.prog 28 #[.float .f64 x] w fun e w' => e = .returned (.bool false) ∧ Below w.heap.size w w' := by
  have h1 := order_self (x := x) (Nat.le_of_eq c)
  have h2 : Ieee.double.sub x x = none := sub_inf_inf c c rfl
  have h3 : ∀ w, FloatKind.f64.format.order (nanAt w x x) 0 = none := fun w => order_nan_left (nanAt_nan w x x)
  go_enter Tryd.func28, Tryd.ntmps28
  go_wp2
  go_ret
  exact ⟨rfl, (Below.refl _ _).drew⟩

theorem coord_zero (x : Nat) (hx : x < 18446744073709551616) (c : rung x = 0) (w : World) :
    Calls Tryd.prog 28 #[.float .f64 x] w fun e w' => e = .returned (.bool true) ∧ Below w.heap.size w w' := by
  have hc : rung x < inf := by rw [c]; decide
  have h1 := order_self (x := x) (Nat.le_of_lt hc)
  have h2 : Ieee.double.sub x x = some 0 := fsub_self hc
  have h3 := some_of h2
  have h4 : fsub x x = 0 := by unfold fsub; rw [h2]; rfl
  have h5 : FloatKind.f64.format.order x 0 = some .eq := by
    have := eq_zero x; rw [decide_eq_true c] at this; exact eq_of_beq this
  have h6 : FloatKind.f64.format.order 0 0 = some .eq := rfl
  go_enter Tryd.func28, Tryd.ntmps28
  go_wp2
  go_ret
  exact ⟨rfl, Below.refl _ _⟩

theorem rs_le (q : Rat) : (rs q ≤ 0) ↔ q ≤ 0 := by
  unfold rs
  by_cases h : q < 0
  · rw [if_pos h]; exact ⟨fun _ => Rat.le_of_lt h, fun _ => by decide⟩
  · rw [if_neg h]
    by_cases h2 : q = 0
    · rw [if_pos h2, h2]; decide
    · rw [if_neg h2]
      exact ⟨fun h3 => absurd h3 (by decide), fun h3 => absurd (Rat.lt_of_le_of_ne h3 h2) h⟩

theorem coord_fin (x : Nat) (hx : x < 18446744073709551616) (h0 : rung x ≠ 0) (hf : rung x < inf) (w : World) :
    Calls Tryd.prog 28 #[.float .f64 x] w fun e w' => e = .returned (.bool (mayB x)) ∧ Below w.heap.size w w' := by
  have h1 := order_self (x := x) (Nat.le_of_lt hf)
  have h2 : Ieee.double.sub x x = some 0 := fsub_self hf
  have h3 := some_of h2
  have h4 : fsub x x = 0 := by unfold fsub; rw [h2]; rfl
  have h5 : (FloatKind.f64.format.order x 0 == some .eq) = false := by
    have := eq_zero x; rw [decide_eq_false h0] at this; exact this
  have h6 : FloatKind.f64.format.order 0 0 = some .eq := rfl
  go_enter Tryd.func28, Tryd.ntmps28
  go_wp2_with fail
  refine (ofT x hx _).mono ?_
  rintro e w1 ⟨v1, rfl, n1, hb1⟩
  obtain ⟨s1, p1, l1, c1, e1, rfl, -⟩ := NumV.form n1
  clear h1 h2 h3 h4 h5 h6
  go_wp2_with fail
  obtain ⟨wn, hwn⟩ : ∃ wn, wn = w1.alloc (.cells #[.int .i64 s1, .slice p1 l1 c1, .int .i64 e1] 42) := ⟨_, rfl⟩
  have hbn : Below w1.heap.size w1 wn := by rw [hwn]; exact (Below.refl _ _).alloc (Nat.le_refl _) _
  have hn0 : wn.heap[w1.heap.size]? = some (.cells #[.int .i64 s1, .slice p1 l1 c1, .int .i64 e1] 42 (0, 0)) := by rw [hwn]; exact heap_alloc_new _ _
  rw [← hwn]
  have HN := Lib.hid hn0
  have hbw : Below w.heap.size w wn := hb1.trans (hbn.mono hb1.size)
  have N1 := Lib.hid (NumT.keep n1 hbn)
  clear hwn hn0 n1 hbn
  refine (absT N1.out).mono ?_
  rintro e w2 ⟨v2, rfl, n2, hb2⟩
  obtain ⟨s2, p2, l2, c2, e2, rfl, -⟩ := NumV.form n2
  have N2 := Lib.hid n2
  clear n2
  have hn2 := keep_block hb2 HN.out
  have hs2 := block_lt hn2
  obtain ⟨x0, x1, x2, -, -, -⟩ := res_facts hn2
  have HN2 := Lib.hid hn2
  clear hn2
  go_wp2_with fail
  refine (power_calls 1 100 (by decide) (by decide) (by decide) _).mono ?_
  rintro e w3 ⟨v3, rfl, n3, hb3⟩
  obtain ⟨s3, p3, l3, c3, e3, rfl, -⟩ := NumV.form n3
  have N3 := Lib.hid (n3.t.more (k' := 2000) (by decide))
  clear n3
  have hn3 := keep_block hb3 HN2.out
  have hs3 := block_lt hn3
  clear x0 x1 x2
  obtain ⟨x0, x1, x2, -, -, -⟩ := res_facts hn3
  have HN3 := Lib.hid hn3
  clear hn3
  go_wp2_with fail
  refine (cmpT (NumT.keep N2.out hb3) N3.out (by decide)).mono ?_
  rintro e w4 ⟨rfl, hb4⟩
  have hn4 := keep_block hb4 HN3.out
  have hs4 := block_lt hn4
  clear x0 x1 x2
  obtain ⟨x0, x1, x2, -, -, -⟩ := res_facts hn4
  have hov := ov_le hf
  obtain ⟨r, hr⟩ : ∃ r, r = rs ((if ov x < 0 then -ov x else ov x) - ((1 : Nat) : Rat) * (2 : Rat) ^ (100 : Int)) := ⟨_, rfl⟩
  have hr2 : r ≤ 0 ↔ rung x ≤ C100 := by
    rw [hr, rs_le, ← hov]
    have e1 : ((1 : Nat) : Rat) * (2 : Rat) ^ (100 : Int) = (2 : Rat) ^ 100 := by rw [show (100 : Int) = ((100 : Nat) : Int) from rfl, Rat.zpow_natCast]; simp
    rw [e1]
    generalize (if ov x < 0 then -ov x else ov x) = q
    generalize (2 : Rat) ^ 100 = u
    constructor <;> intro h <;> grind
  have hr3 : -1 ≤ r ∧ r ≤ 1 := by rw [hr]; unfold rs; split <;> (try split) <;> omega
  rw [← hr]
  have hb14 : Below w.heap.size w w4 := ((hbw.trans (hb2.mono hbw.size)).trans (hb3.mono (by have := hbw.size; have := hb2.size; omega))).trans (hb4.mono (by have := hbw.size; have := hb2.size; have := hb3.size; omega))
  have HB := Lib.hid hb14
  have HL := Lib.hid (lowN (NumT.keep (NumT.keep (NumT.keep N1.out hb2) hb3) hb4) (by decide))
  have HR2 := Lib.hid hr2
  clear hr hov hr2 hb14
  by_cases hc : r ≤ 0
  · go_wp2_with fail
    refine HL.out.mono ?_
    rintro e w5 ⟨h, rfl, ⟨g1, g2⟩, -, hlow, hb5⟩
    have hq : -100 ≤ h ↔ uL ∣ mag (rung x) := low_may hf (hlow (by
      intro hz
      unfold ov at hz
      rw [if_pos hf] at hz
      have : (fv x : Rat) = 0 := by
        have hp := two_zpow_pos (-1074)
        rw [← Rat.zero_mul ((2 : Rat) ^ (-1074 : Int))] at hz
        exact mul_right_cancel_pos hp hz
      have h2 : fv x = 0 := by exact_mod_cast this
      have h3 := fv_natAbs x
      rw [h2] at h3
      exact h0 (mag_eq_zero.1 h3.symm)))
    have hm : mayB x = decide (-100 ≤ h) := by
      unfold mayB
      rw [decide_eq_true (HR2.out.1 hc), Bool.true_and]
      exact decide_eq_decide.2 hq.symm
    have HM := Lib.hid hm
    clear hq hlow hm
    go_wp2_with fail
    go_ret
    exact ⟨ret_bool (by rw [HM.out]), HB.out.trans (hb5.mono HB.out.size)⟩
  · have hm : mayB x = false := by
      unfold mayB
      rw [decide_eq_false (fun h => hc (HR2.out.2 h)), Bool.false_and]
    have HM := Lib.hid hm
    clear hm
    go_wp2_with fail
    go_ret
    exact ⟨ret_bool (by rw [HM.out]), HB.out⟩

theorem coord_calls (x : Nat) (hx : x < 18446744073709551616) (w : World) :
    Calls Tryd.prog 28 #[.float .f64 x] w fun e w' => e = .returned (.bool (mayB x)) ∧ Below w.heap.size w w' := by
  have hi := C100_inf
  by_cases c : rung x < inf
  · by_cases h0 : rung x = 0
    · have : mayB x = true := by
        unfold mayB
        rw [h0, mag_zero, decide_eq_true (by omega), decide_eq_true (Nat.dvd_zero _)]; rfl
      rw [this]; exact coord_zero x hx h0 w
    · exact coord_fin x hx h0 c w
  · have : mayB x = false := by
      unfold mayB; rw [decide_eq_false (by omega), Bool.false_and]
    rw [this]
    by_cases c2 : rung x = inf
    · exact coord_inf x hx c2 w
    · exact coord_nan x hx (by omega) w

theorem May_calls (x y : Nat) (hx : x < 18446744073709551616) (hy : y < 18446744073709551616) (w : World) :
    Calls Tryd.prog 12 #[.agg #[.float .f64 x, .float .f64 y]] w fun e w' => e = .returned (.bool (mayB x && mayB y)) ∧ Below w.heap.size w w' := by
  go_enter Tryd.func12, Tryd.ntmps12
  go_wp2_with fail
  obtain ⟨wn, hwn⟩ : ∃ wn, wn = w.alloc (.cells #[.float .f64 x, .float .f64 y] 24) := ⟨_, rfl⟩
  have hbn : Below w.heap.size w wn := by rw [hwn]; exact (Below.refl _ _).alloc (Nat.le_refl _) _
  have hn0 : wn.heap[w.heap.size]? = some (.cells #[.float .f64 x, .float .f64 y] 24 (0, 0)) := by rw [hwn]; exact heap_alloc_new _ _
  rw [← hwn]
  have HB := Lib.hid hbn
  clear hwn hbn
  refine (coord_calls x hx _).mono ?_
  rintro e w2 ⟨rfl, hb2⟩
  have hn2 := keep_block hb2 hn0
  have hs2 := block_lt hn2
  have x1 : w2.cell? ⟨w.heap.size, 1, none⟩ = some (.float .f64 y) := cell_of_block hn2 1
  have HM2 := Lib.hid hn2
  have hbw := Lib.hid (HB.out.trans (hb2.mono HB.out.size))
  clear hn0 hn2
  obtain ⟨m1, hm1⟩ : ∃ m, m = mayB x := ⟨_, rfl⟩
  rw [← hm1]
  have HM1 := Lib.hid hm1
  clear hm1
  cases m1 with
  | false =>
    go_wp2_with fail
    go_ret
    exact ⟨ret_bool (by rw [← HM1.out]; rfl), hbw.out⟩
  | true =>
    go_wp2_with fail
    refine (coord_calls y hy _).mono ?_
    rintro e w3 ⟨rfl, hb3⟩
    go_wp2_with fail
    go_ret
    exact ⟨ret_bool (by rw [← HM1.out]; simp), hbw.out.trans (hb3.mono hbw.out.size)⟩

end Go.Proofs.YtiihokgjplpceaaDoor
