/- The reference's test of rounding, of any number; Exact, Sum, Prod of trivetref02. -/
import Derived.Test.YtojbheanfcdjoaaWkY
namespace Go.Proofs.Ytojbheanfcdjoaa
open Go.RowKit TV
set_option linter.unusedVariables false
set_option exponentiation.threshold 3000

set_option maxRecDepth 100000 in
theorem rounds_inf (x : Nat) (hx : x < 18446744073709551616) (hi : rung x = inf) (hs : sgn x = false) {v : Value} {k : Nat} {q : Rat} (w : World) (hv : NumT w v k q) (hk : k ≤ 100000) (hq : 0 ≤ q) (hR : gq ≤ q) :
    Calls Try.prog 46 #[v, .float .f64 x] w fun e w' => e = .returned (.bool true) ∧ Below w.heap.size w w' := by
  obtain ⟨s, p, n, c, e, rfl, hsg⟩ := hv.form
  have s0 : 0 ≤ s := by rw [hsg]; unfold rs; rw [if_neg (by grind)]; split <;> decide
  have ge : 0 ≤ rs (q - gq) := by unfold rs; rw [if_neg (by grind)]; split <;> decide
  have o1 := order_self (x := x) (Nat.le_of_eq hi)
  have o2 : Ieee.double.sub x x = none := sub_inf_inf hi hi rfl
  have o3 : ∀ w, FloatKind.f64.format.order (nanAt w x x) 0 = none := fun w => order_nan_left (nanAt_nan w x x)
  have o5 : FloatKind.f64.format.order x 0 = some .gt := by have := order_inf_fin (x := x) (y := 0) hi (by decide); rw [hs] at this; exact this
  clear hsg hq hR hi hs
  go_enter Try.func46, Try.ntmps46
  go_wp2_with fail
  refine (great_calls _).mono ?_
  rintro t w1 ⟨v5, rfl, N5, hb1⟩
  obtain ⟨s5, p5, n5, c5, e5, rfl, -⟩ := N5.form
  have B2 : w1.heap[w.heap.size]? = some (.cells #[.int .i64 s, .slice p n c, .int .i64 e] 32 (0, 0)) := keep_block hb1 (heap_alloc_new w _)
  have N2 := (hv.keep ((Below.refl w.heap.size w).alloc (Nat.le_refl _) (.cells #[.int .i64 s, .slice p n c, .int .i64 e] 32))).keep hb1
  have L1 : Below w.heap.size w w1 := ((Below.refl w.heap.size w).alloc (Nat.le_refl _) (.cells #[.int .i64 s, .slice p n c, .int .i64 e] 32)).trans (hb1.mono (by simp))
  obtain ⟨g0, g1, g2, -, -, -⟩ := res_facts B2
  have z1 := block_lt B2
  go_wp2_with fail
  have A1 : Below w1.heap.size w1 (w1.alloc (.cells #[.int .i64 s5, .slice p5 n5 c5, .int .i64 e5] 32)) := (Below.refl _ _).alloc (Nat.le_refl _) _
  refine (cmpT ((N2.keep A1).more hk) (N5.keep A1) (by omega)).mono ?_
  rintro t w2 ⟨rfl, hb2⟩
  have A2 := below2 A1 hb2
  have L2 := L1.trans (A2.mono L1.size)
  clear g0 g1 g2 N5 hb1 hb2 A1 A2 L1 hv z1 B2 N2
  go_wp2_with fail
  go_ret
  exact ⟨rfl, L2.drew⟩

/-- Rounds of a number not below nought. -/
theorem rounds_pos (x : Nat) (hx : x < 18446744073709551616) (hs : rung x = 0 ∨ sgn x = false) {v : Value} {k : Nat} {q : Rat} (w : World) (hv : NumT w v k q) (hk : k ≤ 100000) (hq : 0 ≤ q) (hR : RndQ q (rung x)) :
    Calls Try.prog 46 #[v, .float .f64 x] w fun e w' => e = .returned (.bool true) ∧ Below w.heap.size w w' := by
  have hi := inf_eq
  by_cases hz : rung x = 0
  · exact rounds_zero x hx hz w hv hk hq hR
  · have hs' : sgn x = false := by rcases hs with h | h; exact absurd h hz; exact h
    by_cases h1 : rung x = inf
    · rw [h1] at hR; exact rounds_inf x hx h1 hs' w hv hk hq (rnd_inf hR)
    · have hl : rung x < inf := by rcases hR with ⟨h, -⟩ | ⟨h, -⟩; exact h; exact absurd h h1
      have e := pos_bits hx hs'
      rw [e]
      by_cases h2 : rung x = 9218868437227405311
      · exact rounds_max (rung x) h2 w hv hk hq hR
      · exact rounds_mid (rung x) (by omega) (by omega) w hv hk hq hR

/-- Rounds of any number: the nearest float, of the number's sign. -/
theorem roundsT (x : Nat) (hx : x < 18446744073709551616) {v : Value} {k : Nat} {q : Rat} (w : World) (hv : NumT w v k q) (hk : k ≤ 100000) (hs : rung x = 0 ∨ sgn x = decide (q < 0)) (hR : RndQ (if q < 0 then -q else q) (rung x)) :
    Calls Try.prog 46 #[v, .float .f64 x] w fun e w' => e = .returned (.bool true) ∧ Below w.heap.size w w' := by
  by_cases hq : q < 0
  · rw [if_pos hq] at hR
    rw [decide_eq_true hq] at hs
    obtain ⟨s, p, n, c, e, rfl, hsg⟩ := hv.form
    have s0 : s < 0 := by rw [hsg]; unfold rs; rw [if_pos hq]; decide
    have hf := fneg_lt hx
    have hle : rung x ≤ inf := by rcases hR with ⟨h, -⟩ | ⟨h, -⟩ <;> omega
    have o1 := order_self (x := x) hle
    have hN := fun (W : World) (h : Below w.heap.size w W) => (negN (P := fun _ => True) (hv.keep h)).mono fun _ _ h => RetN.t h
    have hP := fun (W : World) (u : Value) (hu : NumT W u k (-q)) => rounds_pos (fneg x) hf (by rw [rung_fneg hx, sgn_fneg hx]; rcases hs with h | h; exact Or.inl h; exact Or.inr (by rw [h]; rfl)) W hu hk (by grind) (by rw [rung_fneg hx]; exact hR)
    have HN := Lib.hid hN
    have HP := Lib.hid hP
    clear hN hP hR hq hsg hs hle
    go_enter Try.func46, Try.ntmps46
    go_wp2_with fail
    refine (HN.out _ ((Below.refl _ _).alloc (Nat.le_refl _) _)).mono ?_
    rintro t w1 ⟨v5, rfl, N5, hb1⟩
    go_wp2_with fail
    refine (HP.out _ _ N5).mono ?_
    rintro t w2 ⟨rfl, hb2⟩
    go_wp2_with fail
    go_ret
    exact ⟨rfl, below3 ((Below.refl _ _).alloc (Nat.le_refl _) _) hb1 hb2⟩
  · rw [if_neg hq] at hR
    rw [decide_eq_false hq] at hs
    exact rounds_pos x hx hs w hv hk (by grind) hR
end Go.Proofs.Ytojbheanfcdjoaa
