/- The laws of layer 2 that ask no exact numbers, walked: EftKinds, EftRest, EftTurned. -/
import Derived.Test.YtojbheanfcdjoaaWkD
namespace Go.Proofs.Ytojbheanfcdjoaa
open Go.RowKit TV

theorem float_wf {x : Nat} (h : (Lit.float .f64 x).wf = true) : x < 18446744073709551616 := by simpa [Lit.wf] using h

theorem sum_any (x y : Nat) (hx : x < 18446744073709551616) (hy : y < 18446744073709551616) (w : World) :
    Calls Try.prog 14 #[.float .f64 x, .float .f64 y] w fun e w' => e = .returned (.tuple #[.float .f64 (sHi x y), .float .f64 (sLo x y)]) ∧ Below w.heap.size w w' := by
  unfold sHi sLo
  by_cases h : (tameB x && tameB y) = true
  · have h' := h
    rw [Bool.and_eq_true] at h'
    rw [if_pos h, if_pos h]; exact sum_below x y hx hy h'.1 h'.2 w
  · rw [if_neg h, if_neg h]
    exact (sum_no x y hx hy (by simpa using h) w).mono fun _ _ ⟨h, h2⟩ => ⟨h, h2 ▸ (Below.refl _ _).alloc (Nat.le_refl _) _⟩

theorem diff_any (x y : Nat) (hx : x < 18446744073709551616) (hy : y < 18446744073709551616) (w : World) :
    Calls Try.prog 15 #[.float .f64 x, .float .f64 y] w fun e w' => e = .returned (.tuple #[.float .f64 (sHi x (fneg y)), .float .f64 (sLo x (fneg y))]) ∧ Below w.heap.size w w' := by
  have hy' := fneg_lt hy
  go_enter Try.func15, Try.ntmps15
  go_wp2_with (go_at_call 14; refine (sum_any _ _ hx hy' _).mono ?_; rintro e w1 ⟨rfl, hb⟩)
  go_ret2
  exact ⟨rfl, hb⟩

theorem prod_any (x y : Nat) (hx : x < 18446744073709551616) (hy : y < 18446744073709551616) (w : World) :
    Calls Try.prog 16 #[.float .f64 x, .float .f64 y] w fun e w' => e = .returned (.tuple #[.float .f64 (pHi x y), .float .f64 (pLo x y)]) ∧ Below w.heap.size w w' := by
  unfold pHi pLo
  by_cases h : (safeB x && safeB y) = true
  · have h' := h
    rw [Bool.and_eq_true] at h'
    rw [if_pos h, if_pos h]; exact prod_calls x y hx hy h'.1 h'.2 w
  · rw [if_neg h, if_neg h]
    exact prod_no x y hx hy (by simpa using h) w

theorem EftKinds_walk (x : Nat) (wx : (Lit.float .f64 x).wf = true) (w : World) :
    Calls Try.prog 3 #[.float .f64 x] w fun e w' => e = .returned (.bool true) ∧ Below w.heap.size w w' := by
  have hx := float_wf wx
  clear wx
  go_enter Try.func3, Try.ntmps3
  go_wp2_with (first
    | (go_at_call 9; refine (tame_calls _ hx _).mono ?_; rintro e w6 ⟨rfl, rfl⟩)
    | (go_at_call 10; refine (tame2_calls _ hx _).mono ?_; rintro e w6 ⟨rfl, rfl⟩)
    | (go_at_call 11; refine (safe_calls _ hx _).mono ?_; rintro e w6 ⟨rfl, rfl⟩)
    | (go_at_call 12; refine (safe2_calls _ hx _).mono ?_; rintro e w6 ⟨rfl, rfl⟩)
    | (go_at_call 13; refine (awake2_calls _).mono ?_; rintro e w6 ⟨rfl, hb⟩))
  go_ret
  exact ⟨rfl, hb⟩

theorem below3 {w w1 w2 w3 : World} (h1 : Below w.heap.size w w1) (h2 : Below w1.heap.size w1 w2) (h3 : Below w2.heap.size w2 w3) : Below w.heap.size w w3 :=
  (h1.trans (h2.mono h1.size)).trans (h3.mono (Nat.le_trans h1.size h2.size))
theorem below2 {w w1 w2 : World} (h1 : Below w.heap.size w w1) (h2 : Below w1.heap.size w1 w2) : Below w.heap.size w w2 := h1.trans (h2.mono h1.size)

theorem EftRest_walk (x : Nat) (wx : (Lit.float .f64 x).wf = true) (y : Nat) (wy : (Lit.float .f64 y).wf = true) (w : World) :
    Calls Try.prog 4 #[.float .f64 x, .float .f64 y] w fun e w' => e = .returned (.bool true) ∧ Below w.heap.size w w' := by
  have hx := float_wf wx
  have hy := float_wf wy
  clear wx wy
  obtain ⟨-, -, r1, r2, v1, v2⟩ := s_any x y
  obtain ⟨q1, q2⟩ := unseen r1 r2 v1 v2
  clear r1 r2 v1 v2
  obtain ⟨-, -, r1, r2, v1, v2⟩ := s_any x (fneg y)
  obtain ⟨q3, q4⟩ := unseen r1 r2 v1 v2
  clear r1 r2 v1 v2
  obtain ⟨-, -, r1, r2, t, -, v1, v2⟩ := p_any x y
  obtain ⟨q5, q6⟩ := unseen r1 r2 v1 v2
  clear r1 r2 v1 v2
  change FloatKind.f64.format.order (fadd (sHi x y) (sLo x y)) (sHi x y) = some .eq at q2
  change FloatKind.f64.format.order (fadd (sHi x (fneg y)) (sLo x (fneg y))) (sHi x (fneg y)) = some .eq at q4
  change FloatKind.f64.format.order (fadd (pHi x y) (pLo x y)) (pHi x y) = some .eq at q6
  go_enter Try.func4, Try.ntmps4
  go_wp2_with (first
    | (go_at_call 14; refine (sum_any _ _ hx hy _).mono ?_; rintro e w1 ⟨rfl, hb1⟩)
    | (go_at_call 15; refine (diff_any _ _ hx hy _).mono ?_; rintro e w2 ⟨rfl, hb2⟩)
    | (go_at_call 16; refine (prod_any _ _ hx hy _).mono ?_; rintro e w3 ⟨rfl, hb3⟩)
    | (go_at_call 13; refine (awake2_calls _).mono ?_; rintro e w4 ⟨rfl, hb4⟩))
  go_ret
  exact ⟨rfl, below2 (below3 hb1 hb2 hb3) hb4⟩

theorem EftTurned_walk (x : Nat) (wx : (Lit.float .f64 x).wf = true) (y : Nat) (wy : (Lit.float .f64 y).wf = true) (w : World) :
    Calls Try.prog 5 #[.float .f64 x, .float .f64 y] w fun e w' => e = .returned (.bool true) ∧ Below w.heap.size w w' := by
  have hx := float_wf wx
  have hy := float_wf wy
  clear wx wy
  have hx' := fneg_lt hx
  have hy' := fneg_lt hy
  obtain ⟨q1, q2⟩ := s_comm x y
  obtain ⟨q3, q4⟩ := s_neg hx hy
  obtain ⟨q5, q6⟩ := d_neg hx hy
  obtain ⟨q7, q8⟩ := p_comm x y
  obtain ⟨q9, q10⟩ := p_neg (b := y) hx
  change FloatKind.f64.format.order _ _ = some .eq at q1 q2 q3 q4 q5 q6 q7 q8 q9 q10
  go_enter Try.func5, Try.ntmps5
  go_wp2_with fail
  refine (sum_any _ _ hx hy _).mono ?_; rintro e w1 ⟨rfl, hb1⟩
  go_wp2_with fail
  refine (sum_any _ _ hy hx _).mono ?_; rintro e w2 ⟨rfl, hb2⟩
  go_wp2_with fail
  refine (sum_any _ _ hx' hy' _).mono ?_; rintro e w3 ⟨rfl, hb3⟩
  go_wp2_with fail
  refine (diff_any _ _ hx hy _).mono ?_; rintro e w4 ⟨rfl, hb4⟩
  go_wp2_with fail
  refine (diff_any _ _ hy hx _).mono ?_; rintro e w5 ⟨rfl, hb5⟩
  go_wp2_with fail
  refine (prod_any _ _ hx hy _).mono ?_; rintro e w6 ⟨rfl, hb6⟩
  go_wp2_with fail
  refine (prod_any _ _ hy hx _).mono ?_; rintro e w7 ⟨rfl, hb7⟩
  go_wp2_with fail
  refine (prod_any _ _ hx' hy _).mono ?_; rintro e w8 ⟨rfl, hb8⟩
  go_wp2_with (go_at_call 13; refine (awake2_calls _).mono ?_; rintro e w9 ⟨rfl, hb9⟩)
  go_ret
  exact ⟨rfl, below3 (below3 hb1 hb2 hb3) (below3 hb4 hb5 hb6) (below3 hb7 hb8 hb9)⟩
end Go.Proofs.Ytojbheanfcdjoaa
