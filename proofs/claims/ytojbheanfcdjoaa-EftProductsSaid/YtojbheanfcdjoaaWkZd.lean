/- The law EftProducts, walked. -/
import Derived.Test.YtojbheanfcdjoaaWkZc
namespace Go.Proofs.Ytojbheanfcdjoaa
open Go.RowKit TV
set_option linter.unusedVariables false
set_option exponentiation.threshold 3000

theorem prod2_calls (a b : Nat) (ha : a < 18446744073709551616) (hb : b < 18446744073709551616) (w : World) :
    Calls Try.prog 25 #[.float .f64 a, .float .f64 b, .float .f64 (pHi a b), .float .f64 (pLo a b)] w fun e w' => e = .returned (.bool true) ∧ Below w.heap.size w w' := by
  by_cases h : (safeB a && safeB b) = true
  · obtain ⟨l1, l2, r1, r2, u, hu, v1, v2⟩ := p_any a b
    have hab := h
    rw [Bool.and_eq_true] at hab
    have hq : ov a * ov b = (u : Rat) * uu := by
      unfold pVal at hu; rw [if_pos h] at hu
      unfold ov; rw [if_pos (safe_fin hab.1), if_pos (safe_fin hab.2)]
      have e : (fv a : Rat) * (fv b : Rat) = (u : Rat) * (2 : Rat) ^ ((1074 : Nat) : Int) := by
        rw [← Rat.intCast_mul, hu, Rat.intCast_mul, Rat.intCast_natCast, ← two_zpow_nat]
      have e2 : (2 : Rat) ^ ((1074 : Nat) : Int) * (2 : Rat) ^ (-1074 : Int) = 1 := by rw [← two_zpow_add]; simp
      change (fv a : Rat) * uu * ((fv b : Rat) * uu) = u * uu
      have e3 : (fv a : Rat) * uu * ((fv b : Rat) * uu) = ((fv a : Rat) * (fv b : Rat)) * uu * uu := by grind
      rw [e3, e, Rat.mul_assoc (u : Rat)]
      change (u : Rat) * ((2 : Rat) ^ ((1074 : Nat) : Int) * (2 : Rat) ^ (-1074 : Int)) * uu = _
      rw [e2, Rat.mul_one]
    obtain ⟨f1, f2, f3⟩ := rest_facts (rest_lt r1) (rest_lt r2) v1 v2 hq
    have HE := Lib.hid (fun (Y : World) (v : Value) (hv : NumT Y v (2000 + 2000) (ov a * ov b)) => exact_calls (pHi a b) (pLo a b) l1 l2 (rest_lt r2) Y hv (by omega) f1 f2 f3)
    obtain ⟨h1, h2⟩ := hab
    clear f1 f2 f3 hq v1 v2 r1 r2 l1 l2 h hu
    generalize pHi a b = x at HE ⊢
    generalize pLo a b = y at HE ⊢
    go_enter Try.func25, Try.ntmps25
    go_wp2_with (go_at_call 12; refine (safe2_calls _ (by assumption) _).mono ?_; rintro e w6 ⟨rfl, rfl⟩)
    refine (ofT a ha _).mono ?_
    rintro t w1 ⟨v1, rfl, N1, hb1⟩
    go_wp2_with fail
    refine (ofT b hb _).mono ?_
    rintro t w2 ⟨v2, rfl, N2, hb2⟩
    go_wp2_with fail
    refine (mulT (N1.keep hb2) N2 (by omega) (by omega)).mono ?_
    rintro t w3 ⟨v3, rfl, N3, hb3⟩
    go_wp2_with fail
    refine (HE.out _ _ N3).mono ?_
    rintro t w4 ⟨rfl, hb4⟩
    go_wp2_with fail
    go_ret
    exact ⟨rfl, below2 (below3 hb1 hb2 hb3) hb4⟩
  · have h' : (safeB a && safeB b) = false := by simpa using h
    have e1 : pHi a b = 0 := by unfold pHi; rw [if_neg h]
    have e2 : pLo a b = 0 := by unfold pLo; rw [if_neg h]
    rw [e1, e2]
    have o4 : FloatKind.f64.format.order 0 0 = some .eq := rfl
    have hc : safeB a = false ∨ (safeB a = true ∧ safeB b = false) := by
      cases hx : safeB a
      · exact Or.inl rfl
      · rw [hx, Bool.true_and] at h'; exact Or.inr ⟨rfl, h'⟩
    clear h h' e1 e2
    rcases hc with h1 | ⟨h1, h2⟩
    all_goals
      go_enter Try.func25, Try.ntmps25
      go_wp2_with (go_at_call 12; refine (safe2_calls _ (by assumption) _).mono ?_; rintro e w6 ⟨rfl, rfl⟩)
      go_ret
      exact ⟨rfl, Below.refl _ _⟩

theorem split2_calls (x : Nat) (hx : x < 18446744073709551616) (w : World) :
    Calls Try.prog 24 #[.float .f64 x] w fun e w' => e = .returned (.tuple #[.float .f64 (spH x), .float .f64 (spL x)]) ∧ w = w' := by
  unfold spH spL
  by_cases h : safeB x = true
  · rw [if_pos h, if_pos h]
    obtain ⟨a1, a2, a3, a4, -⟩ := split_safe h
    replace a1 := some_of a1
    replace a2 := some_of a2
    replace a3 := some_of a3
    replace a4 := some_of a4
    unfold spHi spC at *
    go_enter Try.func24, Try.ntmps24
    go_wp2_with (go_at_call 12; refine (safe2_calls _ hx _).mono ?_; rintro e w6 ⟨rfl, rfl⟩)
    go_ret2
    exact ⟨rfl, rfl⟩
  · rw [if_neg h, if_neg h]
    have h' : safeB x = false := by simpa using h
    clear h
    go_enter Try.func24, Try.ntmps24
    go_wp2_with (go_at_call 12; refine (safe2_calls _ hx _).mono ?_; rintro e w6 ⟨rfl, rfl⟩)
    go_ret2
    exact ⟨rfl, rfl⟩

theorem split_le {x : Nat} (hx : x < 18446744073709551616) : rung (spH x) < inf ∧ rung (spL x) < inf := by
  unfold spH spL
  by_cases h : safeB x = true
  · rw [if_pos h, if_pos h]
    obtain ⟨h1, h2⟩ := half_split h
    exact ⟨half_fin h1, half_fin h2⟩
  · rw [if_neg h, if_neg h]; exact ⟨by decide, by decide⟩

theorem EftProducts_walk (x : Nat) (wx : (Lit.float .f64 x).wf = true) (y : Nat) (wy : (Lit.float .f64 y).wf = true) (w : World) :
    Calls Try.prog 8 #[.float .f64 x, .float .f64 y] w fun e w' => e = .returned (.bool true) ∧ Below w.heap.size w w' := by
  have hx := float_wf wx
  have hy := float_wf wy
  clear wx wy
  obtain ⟨z1, z2⟩ := split_le hx
  have o1 := order_self (x := spH x) (Nat.le_of_lt z1)
  have o2 := order_self (x := spL x) (Nat.le_of_lt z2)
  have S1 := Lib.hid (fun w => prod_any x y hx hy w)
  have S2 := Lib.hid (fun w => split_all x hx w)
  have S3 := Lib.hid (fun w => split2_calls x hx w)
  have T1 := Lib.hid (fun w => prod2_calls x y hx hy w)
  clear z1 z2
  generalize pHi x y = a at S1 T1
  generalize pLo x y = b at S1 T1
  generalize spH x = c at S2 S3 o1
  generalize spL x = d at S2 S3 o2
  go_enter Try.func8, Try.ntmps8
  go_wp2_with fail
  refine (S1.out _).mono ?_
  rintro t w1 ⟨rfl, hb1⟩
  go_wp2_with fail
  refine (S2.out _).mono ?_
  rintro t w2 ⟨rfl, rfl⟩
  go_wp2_with fail
  refine (S3.out _).mono ?_
  rintro t w3 ⟨rfl, rfl⟩
  go_wp2_with fail
  refine (T1.out _).mono ?_
  rintro t w4 ⟨rfl, hb4⟩
  go_wp2_with fail
  refine (awake2_calls _).mono ?_
  rintro t w5 ⟨rfl, hb5⟩
  go_wp2_with fail
  go_ret
  exact ⟨rfl, below3 hb1 hb4 hb5⟩
end Go.Proofs.Ytojbheanfcdjoaa
