/- math.Ldexp walked: of any finite float and any power. -/
import Derived.Test.YtiihokgjplpceaaDoorFtA
import Derived.Test.YtiihokgjplpceaaDoorPuB
namespace Go.Proofs.YtiihokgjplpceaaDoor
open Go.RowKit TV
set_option linter.unusedVariables false

theorem normalize_calls2 (x : Nat) (hx : x < 18446744073709551616) (h0 : 0 < rung x) (h : rung x < inf) (w : World) :
    Calls Tryd.prog 78 #[.float .f64 x] w fun e w' => e = .returned (.tuple #[.float .f64 (flo (sgn x) (frM (rung x))), .int .i64 (-(frS (rung x) : Int))]) ∧ w = w' := by
  have hi := inf_lt
  have hr : rung (rung x) = rung x := rung_small (by omega)
  have hc : (FloatKind.f64.format.order (rung x) 4503599627370496 == some Ordering.lt) = decide (rung x < 4503599627370496) := by
    have := flt_fin (x := rung x) (y := 4503599627370496) (by omega) (by rw [rung_small (by omega)]; decide)
    rw [ord_lt, this, fv_pos_rung _ (by omega), fv_pos_rung _ (by omega)]
    have e : (((mag (rung x) : Nat) : Int) < (mag 4503599627370496 : Nat)) ↔ rung x < 4503599627370496 :=
      ⟨fun a => lt_of_mag (by omega), fun a => by have := mag_lt a; omega⟩
    rw [decide_eq_decide]; exact e
  by_cases c : rung x < 4503599627370496
  · have f1 := norm_mul h0 (by omega)
    have f2 := some_of f1
    have f3 : fmul x 4841369599423283200 = flo (sgn x) (frM (rung x)) := by unfold fmul; rw [f1]; rfl
    have f4 : frS (rung x) = 52 := if_pos (by omega)
    rw [← f3, f4]
    rw [decide_eq_true c] at hc
    clear f1 f3 f4
    go_enter Tryd.func78, Tryd.ntmps78
    go_wp2_with (go_at_call 25; refine (abs_calls _ hx _).mono ?_; rintro e w' ⟨rfl, rfl⟩)
    go_ret2
    exact ⟨rfl, rfl⟩
  · have f3 : frM (rung x) = rung x := if_neg (by omega)
    have f4 : frS (rung x) = 0 := if_neg (by omega)
    rw [f3, f4, flo_eta hx]
    rw [decide_eq_false c] at hc
    clear f3 f4
    go_enter Tryd.func78, Tryd.ntmps78
    go_wp2_with (go_at_call 25; refine (abs_calls _ hx _).mono ?_; rintro e w' ⟨rfl, rfl⟩)
    go_ret2
    exact ⟨rfl, rfl⟩

theorem copysign_calls (s : Bool) (m : Nat) (h : m < 9223372036854775808) (w : World) :
    Calls Tryd.prog 79 #[.float .f64 0, .float .f64 (flo s m)] w fun e w' => e = .returned (.float .f64 (flo s 0)) ∧ w = w' := by
  have k1 := fun (x : Nat) (w : World) => callBits x w
  have k2 := fun (x : Int) (w : World) => callFrom x w
  have h1 : bits .andNot .u64 0 9223372036854775808 = 0 := by decide
  have h2 := Lib.hid (and_sign s h)
  have h3 : bits .or .u64 0 ((flo s 0 : Nat) : Int) = ((flo s 0 : Nat) : Int) := by cases s <;> decide
  have h4 := Lib.hid h3
  clear h3
  go_enter Tryd.func79, Tryd.ntmps79
  go_wp2
  go_ret
  refine ⟨?_, rfl⟩
  show Ending.returned (.float .f64 (bits .or .u64 0 (bits .and .u64 ((flo s m : Nat) : Int) 9223372036854775808)).toNat) = _
  rw [h2.out, h4.out]; rfl

theorem inf1_calls (w : World) :
    Calls Tryd.prog 80 #[.int .i64 1] w fun e w' => e = .returned (.float .f64 9218868437227405312) ∧ w = w' := by
  have k2 := fun (x : Int) (w : World) => callFrom x w
  go_enter Tryd.func80, Tryd.ntmps80
  go_wp2
  go_ret
  exact ⟨rfl, rfl⟩
theorem inf2_calls (w : World) :
    Calls Tryd.prog 80 #[.int .i64 (-1)] w fun e w' => e = .returned (.float .f64 18442240474082181120) ∧ w = w' := by
  have k2 := fun (x : Int) (w : World) => callFrom x w
  go_enter Tryd.func80, Tryd.ntmps80
  go_wp2
  go_ret
  exact ⟨rfl, rfl⟩

theorem getD_of_some {x y z : Nat} (h : Ieee.double.mul x y = some z) : fmul x y = z := by unfold fmul; rw [h]; rfl

theorem i64_and_of_u64 {n m f : Int} (h : bits .and .u64 n m = f) (h2 : f < 9223372036854775808) : bits .and .i64 n m = f := by
  have h0 : IntKind.u64.wrap ((BitVec.ofInt 64 n &&& BitVec.ofInt 64 m).toNat : Nat) = f := h
  show IntKind.i64.wrap ((BitVec.ofInt 64 n &&& BitVec.ofInt 64 m).toNat : Nat) = f
  have hl := (BitVec.ofInt 64 n &&& BitVec.ofInt 64 m).isLt
  generalize (BitVec.ofInt 64 n &&& BitVec.ofInt 64 m).toNat = X at h0 hl ⊢
  have e : IntKind.u64.wrap (X : Int) = X := by show (X : Int) % 18446744073709551616 = X; omega
  rw [e] at h0
  rw [IntWalk.i64_in _ (by omega)]; exact h0

set_option maxRecDepth 100000 in
set_option maxHeartbeats 1000000 in
theorem ldexp_calls (x : Nat) (hx : x < 18446744073709551616) (h0 : 0 < rung x) (h : rung x < inf) (k : Int) (hk : -1000000000000 ≤ k ∧ k ≤ 1000000000000) (w : World) :
    Calls Tryd.prog 62 #[.float .f64 x, .int .i64 k] w fun e w' => e = .returned (.float .f64 (ldx x k)) ∧ w = w' := by
  have hi := inf_lt
  have hie := inf_eq
  have hz : (FloatKind.f64.format.order x 0 == some Ordering.eq) = false := by
    rw [ord_eq]; exact (eq_zero x).trans (decide_eq_false (by omega))
  have hq1 : decide (rung x = inf) = false := decide_eq_false (by omega)
  have hq2 : decide (inf < rung x) = false := decide_eq_false (by omega)
  have HN := Lib.hid (normalize_calls2 x hx h0 h)
  obtain ⟨-, g1, g2, g3⟩ := frM_facts h0 h
  have hS : frS (rung x) ≤ 52 := by unfold frS; split <;> omega
  obtain ⟨r, hr⟩ : ∃ r, r = rung x := ⟨_, rfl⟩
  obtain ⟨s, hs⟩ : ∃ s, s = sgn x := ⟨_, rfl⟩
  obtain ⟨M, hM⟩ : ∃ M, M = frM r := ⟨_, rfl⟩
  obtain ⟨S, hSS⟩ : ∃ S, S = frS r := ⟨_, rfl⟩
  unfold ldx
  rw [← hr, ← hs] at HN ⊢
  rw [← hr] at g1 g2 g3 hS
  rw [← hM, ← hSS] at HN
  rw [← hM] at g1 g2 g3
  rw [← hSS] at g3 hS
  have c1 := clear_exp_s s (M := M) (by omega)
  have c3 := get_exp_s s (M := M) (by omega)
  obtain ⟨f, hf⟩ : ∃ f : Int, f = ((M / 4503599627370496 : Nat) : Int) := ⟨_, rfl⟩
  rw [← hf] at c3
  have hf0 : 0 ≤ f := by omega
  have hf1 : f ≤ 2046 := by omega
  have w1 : IntKind.i64.wrap f = f := IntWalk.i64_in _ (by omega)
  have w2 : IntKind.i64.wrap (k + -(S : Int)) = k - S := by rw [IntWalk.i64_in _ (by omega)]; omega
  have w3 : IntKind.i64.wrap (f - 1023) = f - 1023 := IntWalk.i64_in _ (by omega)
  obtain ⟨e, he⟩ : ∃ e : Int, e = k - S + f - 1023 := ⟨_, rfl⟩
  have w4 : IntKind.i64.wrap (k - S + (f - 1023)) = e := by rw [IntWalk.i64_in _ (by omega)]; omega
  have k1 := fun (x : Nat) (w : World) => callBits x w
  have k2 := fun (x : Int) (w : World) => callFrom x w
  have d0 : (e : Int) = (k - S + (M / 4503599627370496 : Nat) - 1023 : Int) := by omega
  obtain ⟨y, hy⟩ : ∃ y, y = flo s M := ⟨_, rfl⟩
  rw [← hy] at HN c1 c3
  have hyl : y < 18446744073709551616 := by rw [hy]; exact flo_lt (by omega)
  have c3 := i64_and_of_u64 c3 (by omega)
  have c4 : wrap64 ((y : Int) / 4503599627370496) = (y : Int) / 4503599627370496 := by unfold wrap64; omega
  have hy' := Lib.hid hy
  rcases Int.lt_or_le e (-1075) with u1 | u1
  · have hR : ldR r k = 0 := ld_under g1 g3 (by omega)
    rw [hR]
    have b1 : decide (e < -1075) = true := decide_eq_true u1
    have HC := Lib.hid (copysign_calls s M (by omega))
    rw [← hy] at HC
    clear he d0 hf g3 hR u1 g1 hM hr hSS hy c1 g2 hs
    go_enter Tryd.func62, Tryd.ntmps62
    go_wp2_with fail
    refine (isinf_calls _ hx _).mono ?_
    rw [hq1]
    rintro e w' ⟨rfl, rfl⟩
    go_wp2_with fail
    refine (isnan_calls _ _).mono ?_
    rw [hq2]
    rintro e w' ⟨rfl, rfl⟩
    go_wp2_with fail
    refine (HN.out _).mono ?_
    rintro e w' ⟨rfl, rfl⟩
    go_wp2_with fail
    refine (HC.out _).mono ?_
    rintro e w' ⟨rfl, rfl⟩
    go_wp2_with fail
    go_ret
    exact ⟨rfl, rfl⟩
  · have b1 : decide (e < -1075) = false := decide_eq_false (by omega)
    have hlt : (FloatKind.f64.format.order y 0 == some .lt) = s := by rw [hy]; exact flt_s s (by omega) g2
    rcases Int.lt_or_le 1023 e with u2 | u2
    · have hR : ldR r k = inf := ld_over g1 g3 (by omega)
      have b2 : decide (1023 < e) = true := decide_eq_true u2
      rw [hR]
      clear he d0 hf g3 hR u1 u2 g1 hM hr hSS hy c1 g2 hs
      cases s
      · go_enter Tryd.func62, Tryd.ntmps62
        go_wp2_with fail
        refine (isinf_calls _ hx _).mono ?_
        rw [hq1]
        rintro e w' ⟨rfl, rfl⟩
        go_wp2_with fail
        refine (isnan_calls _ _).mono ?_
        rw [hq2]
        rintro e w' ⟨rfl, rfl⟩
        go_wp2_with fail
        refine (HN.out _).mono ?_
        rintro e w' ⟨rfl, rfl⟩
        go_wp2_with fail
        refine (inf1_calls _).mono ?_
        rintro e w' ⟨rfl, rfl⟩
        go_wp2_with fail
        go_ret
        exact ⟨rfl, rfl⟩
      · go_enter Tryd.func62, Tryd.ntmps62
        go_wp2_with fail
        refine (isinf_calls _ hx _).mono ?_
        rw [hq1]
        rintro e w' ⟨rfl, rfl⟩
        go_wp2_with fail
        refine (isnan_calls _ _).mono ?_
        rw [hq2]
        rintro e w' ⟨rfl, rfl⟩
        go_wp2_with fail
        refine (HN.out _).mono ?_
        rintro e w' ⟨rfl, rfl⟩
        go_wp2_with fail
        refine (inf2_calls _).mono ?_
        rintro e w' ⟨rfl, rfl⟩
        go_wp2_with fail
        go_ret
        exact ⟨rfl, rfl⟩
    · have b2 : decide (1023 < e) = false := decide_eq_false (by omega)
      clear hlt
      obtain ⟨z, hz2⟩ : ∃ z, z = flo s (M % 4503599627370496) := ⟨_, rfl⟩
      rw [← hz2] at c1
      have hml := Nat.mod_lt M (show 0 < 4503599627370496 by omega)
      have hzl : z < 18446744073709551616 := by rw [hz2]; exact flo_lt (by omega)
      rcases Int.lt_or_le e (-1022) with u3 | u3
      · have b3 : decide (e < -1022) = true := decide_eq_true u3
        obtain ⟨F, hF⟩ : ∃ F : Nat, (F : Int) = e + 53 + 1023 := ⟨(e + 53 + 1023).toNat, by omega⟩
        have b4 : IntKind.i64.wrap (e + 53) = e + 53 := IntWalk.i64_in _ (by omega)
        have b5 : IntKind.i64.wrap (e + 53 + 1023) = F := by rw [IntWalk.i64_in _ (by omega)]; omega
        have b6 : IntKind.u64.wrap (F : Int) = F := by show (F : Int) % 18446744073709551616 = F; omega
        have b7 : IntKind.u64.wrap ((F : Int) * 4503599627370496) = ((4503599627370496 * F : Nat) : Int) := by show ((F : Int) * 4503599627370496) % 18446744073709551616 = _; omega
        have hmul := ld_den (F := F) (k := k) g1 g3 (by omega) (by omega) (by omega) s
        have hor0 := set_exp_s s hml (F := F) (by omega)
        rw [← hz2] at hor0
        obtain ⟨v, hv⟩ : ∃ v, v = flo s (4503599627370496 * F + M % 4503599627370496) := ⟨_, rfl⟩
        rw [← hv] at hor0 hmul
        have hor : bits .or .u64 (z : Int) (4503599627370496 * (F : Int)) = (v : Int) := by rw [← hor0, Int.natCast_mul]; rfl
        have hm2 : fmul 4368491638549381120 v = flo s (ldR r k) := getD_of_some hmul
        rw [← hm2]
        have hm1 := some_of hmul
        clear he d0 hf g3 u1 u2 u3 g1 hM hr hSS hy g2 hs hF hz2 hml hv hm2 hmul hor0
        go_enter Tryd.func62, Tryd.ntmps62
        go_wp2_with fail
        refine (isinf_calls _ hx _).mono ?_
        rw [hq1]
        rintro e w' ⟨rfl, rfl⟩
        go_wp2_with fail
        refine (isnan_calls _ _).mono ?_
        rw [hq2]
        rintro e w' ⟨rfl, rfl⟩
        go_wp2_with fail
        refine (HN.out _).mono ?_
        rintro e w' ⟨rfl, rfl⟩
        go_wp2_with fail
        go_ret
        exact ⟨rfl, rfl⟩
      · have b3 : decide (e < -1022) = false := decide_eq_false (by omega)
        obtain ⟨F, hF⟩ : ∃ F : Nat, (F : Int) = e + 1023 := ⟨(e + 1023).toNat, by omega⟩
        have b5 : IntKind.i64.wrap (e + 1023) = F := by rw [IntWalk.i64_in _ (by omega)]; omega
        have b6 : IntKind.u64.wrap (F : Int) = F := by show (F : Int) % 18446744073709551616 = F; omega
        have b7 : IntKind.u64.wrap ((F : Int) * 4503599627370496) = ((4503599627370496 * F : Nat) : Int) := by show ((F : Int) * 4503599627370496) % 18446744073709551616 = _; omega
        have hmul := ld_nor (F := F) (k := k) g1 g3 (by omega) (by omega) (by omega) s
        have hor0 := set_exp_s s hml (F := F) (by omega)
        rw [← hz2] at hor0
        obtain ⟨v, hv⟩ : ∃ v, v = flo s (4503599627370496 * F + M % 4503599627370496) := ⟨_, rfl⟩
        rw [← hv] at hor0 hmul
        have hor : bits .or .u64 (z : Int) (4503599627370496 * (F : Int)) = (v : Int) := by rw [← hor0, Int.natCast_mul]; rfl
        have hm2 : fmul 4607182418800017408 v = flo s (ldR r k) := getD_of_some hmul
        rw [← hm2]
        have hm1 := some_of hmul
        clear he d0 hf g3 u1 u2 u3 g1 hM hr hSS hy g2 hs hF hz2 hml hv hm2 hmul hor0
        go_enter Tryd.func62, Tryd.ntmps62
        go_wp2_with fail
        refine (isinf_calls _ hx _).mono ?_
        rw [hq1]
        rintro e w' ⟨rfl, rfl⟩
        go_wp2_with fail
        refine (isnan_calls _ _).mono ?_
        rw [hq2]
        rintro e w' ⟨rfl, rfl⟩
        go_wp2_with fail
        refine (HN.out _).mono ?_
        rintro e w' ⟨rfl, rfl⟩
        go_wp2_with fail
        go_ret
        exact ⟨rfl, rfl⟩

/-- Ldexp of any finite float. -/
theorem Ldexp_calls (x : Nat) (hx : x < 18446744073709551616) (h : rung x < inf) (k : Int) (hk : -1000000000000 ≤ k ∧ k ≤ 1000000000000) (w : World) :
    Calls Tryd.prog 49 #[.float .f64 x, .int .i64 k] w fun e w' => e = .returned (.float .f64 (ldx x k)) ∧ w = w' := by
  by_cases h0 : rung x = 0
  · rw [ldx_zero hx h0]
    have hz : (FloatKind.f64.format.order x 0 == some Ordering.eq) = true := by
      rw [ord_eq]; exact (eq_zero x).trans (decide_eq_true h0)
    clear h
    go_enter Tryd.func49, Tryd.ntmps49
    go_wp2_with fail
    go_enter Tryd.func62, Tryd.ntmps62
    go_wp2_with fail
    go_ret
    go_wp2_with fail
  · have H := Lib.hid (ldexp_calls x hx (by omega) h k hk w)
    clear h h0
    go_enter Tryd.func49, Tryd.ntmps49
    go_wp2_with fail
    refine H.out.mono ?_
    rintro e w' ⟨rfl, rfl⟩
    go_wp2_with fail
    go_ret
    exact ⟨rfl, rfl⟩
end Go.Proofs.YtiihokgjplpceaaDoor
