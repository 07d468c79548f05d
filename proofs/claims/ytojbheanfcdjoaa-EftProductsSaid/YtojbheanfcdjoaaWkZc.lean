/- The laws EftSums and EftProducts, walked. -/
import Derived.Test.YtojbheanfcdjoaaWkZb
namespace Go.Proofs.Ytojbheanfcdjoaa
open Go.RowKit TV
set_option linter.unusedVariables false
set_option exponentiation.threshold 3000

theorem tame_fin {x : Nat} (h : tameB x = true) : rung x < inf := by have := of_decide_eq_true h; have := inf_eq; omega
theorem safe_fin {x : Nat} (h : safeB x = true) : rung x < inf := by
  rcases of_decide_eq_true h with h | ⟨-, h⟩
  · rw [h]; exact inf_pos
  · have := inf_eq; omega
theorem rest_lt {r : Nat} (h : r ≤ 9119789245425254400) : r < inf := by have := inf_eq; omega

theorem sum2_calls (a b : Nat) (ha : a < 18446744073709551616) (hb : b < 18446744073709551616) (w : World) :
    Calls Try.prog 23 #[.float .f64 a, .float .f64 b, .float .f64 (sHi a b), .float .f64 (sLo a b)] w fun e w' => e = .returned (.bool true) ∧ Below w.heap.size w w' := by
  by_cases h : (tameB a && tameB b) = true
  · obtain ⟨l1, l2, r1, r2, v1, v2⟩ := s_any a b
    have hab := h
    rw [Bool.and_eq_true] at hab
    have hq : ov a + ov b = (sVal a b : Rat) * uu := by
      unfold ov sVal; rw [if_pos h, if_pos (tame_fin hab.1), if_pos (tame_fin hab.2), ← Rat.add_mul, ← Rat.intCast_add]; rfl
    obtain ⟨f1, f2, f3⟩ := rest_facts (rest_lt r1) (rest_lt r2) v1 v2 hq
    have HE := Lib.hid (fun (Y : World) (v : Value) (hv : NumT Y v (2000 + 1) (ov a + ov b)) => exact_calls (sHi a b) (sLo a b) l1 l2 (rest_lt r2) Y hv (by omega) f1 f2 f3)
    obtain ⟨h1, h2⟩ := hab
    clear f1 f2 f3 hq v1 v2 r1 r2 l1 l2 h
    generalize sHi a b = x at HE ⊢
    generalize sLo a b = y at HE ⊢
    go_enter Try.func23, Try.ntmps23
    go_wp2_with (go_at_call 10; refine (tame2_calls _ (by assumption) _).mono ?_; rintro e w6 ⟨rfl, rfl⟩)
    refine (ofT a ha _).mono ?_
    rintro t w1 ⟨v1, rfl, N1, hb1⟩
    go_wp2_with fail
    refine (ofT b hb _).mono ?_
    rintro t w2 ⟨v2, rfl, N2, hb2⟩
    go_wp2_with fail
    refine (addT (N1.keep hb2) N2 (by omega)).mono ?_
    rintro t w3 ⟨v3, rfl, N3, hb3⟩
    go_wp2_with fail
    refine (HE.out _ _ N3).mono ?_
    rintro t w4 ⟨rfl, hb4⟩
    go_wp2_with fail
    go_ret
    exact ⟨rfl, below2 (below3 hb1 hb2 hb3) hb4⟩
  · have h' : (tameB a && tameB b) = false := by simpa using h
    have e1 : sHi a b = 0 := by unfold sHi; rw [if_neg h]
    have e2 : sLo a b = 0 := by unfold sLo; rw [if_neg h]
    rw [e1, e2]
    have o4 : FloatKind.f64.format.order 0 0 = some .eq := rfl
    have hc : tameB a = false ∨ (tameB a = true ∧ tameB b = false) := by
      cases hx : tameB a
      · exact Or.inl rfl
      · rw [hx, Bool.true_and] at h'; exact Or.inr ⟨rfl, h'⟩
    clear h h' e1 e2
    rcases hc with h1 | ⟨h1, h2⟩
    all_goals
      go_enter Try.func23, Try.ntmps23
      go_wp2_with (go_at_call 10; refine (tame2_calls _ (by assumption) _).mono ?_; rintro e w6 ⟨rfl, rfl⟩)
      go_ret
      exact ⟨rfl, Below.refl _ _⟩

theorem EftSums_walk (x : Nat) (wx : (Lit.float .f64 x).wf = true) (y : Nat) (wy : (Lit.float .f64 y).wf = true) (w : World) :
    Calls Try.prog 7 #[.float .f64 x, .float .f64 y] w fun e w' => e = .returned (.bool true) ∧ Below w.heap.size w w' := by
  have hx := float_wf wx
  have hy := float_wf wy
  clear wx wy
  have hy' := fneg_lt hy
  have S1 := Lib.hid (fun w => sum_any x y hx hy w)
  have S2 := Lib.hid (fun w => diff_any x y hx hy w)
  have T1 := Lib.hid (fun w => sum2_calls x y hx hy w)
  have T2 := Lib.hid (fun w => sum2_calls x (fneg y) hx hy' w)
  generalize sHi x y = a at S1 T1
  generalize sLo x y = b at S1 T1
  generalize sHi x (fneg y) = c at S2 T2
  generalize sLo x (fneg y) = d at S2 T2
  go_enter Try.func7, Try.ntmps7
  go_wp2_with fail
  refine (S1.out _).mono ?_
  rintro t w1 ⟨rfl, hb1⟩
  go_wp2_with fail
  refine (S2.out _).mono ?_
  rintro t w2 ⟨rfl, hb2⟩
  go_wp2_with fail
  refine (T1.out _).mono ?_
  rintro t w3 ⟨rfl, hb3⟩
  go_wp2_with fail
  refine (T2.out _).mono ?_
  rintro t w4 ⟨rfl, hb4⟩
  go_wp2_with fail
  refine (awake2_calls _).mono ?_
  rintro t w5 ⟨rfl, hb5⟩
  go_wp2_with fail
  go_ret
  exact ⟨rfl, below2 (below3 hb1 hb2 hb3) (below2 hb4 hb5)⟩
end Go.Proofs.Ytojbheanfcdjoaa
