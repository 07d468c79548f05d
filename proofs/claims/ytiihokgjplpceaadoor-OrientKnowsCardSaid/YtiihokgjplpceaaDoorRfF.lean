/- Texts of one kind, joined. -/
import Derived.Test.YtiihokgjplpceaaDoorRfE
import Derived.Test.YtiihokgjplpceaaDoorFtA
import Derived.Test.YtiihokgjplpceaaDoorPuB
import Derived.Test.YtiihokgjplpceaaDoorGeA
import Derived.Laws.FloatArith

section
/- math.Frexp walked, and the number of a float. -/
namespace Go.Proofs.YtiihokgjplpceaaDoor
open Go.RowKit TV
set_option linter.unusedVariables false

theorem normalize_calls (r : Nat) (h0 : 0 < r) (h : r < inf) (w : World) :
    Calls Tryd.prog 78 #[.float .f64 r] w fun e w' => e = .returned (.tuple #[.float .f64 (frM r), .int .i64 (-(frS r : Int))]) ∧ w = w' := by
  obtain ⟨f1, -⟩ := frM_facts h0 h
  have hi := inf_lt
  have hr : rung r = r := rung_small (by omega)
  have hc : (FloatKind.f64.format.order r 4503599627370496 == some Ordering.lt) = decide (r < 4503599627370496) := by
    have := flt_fin (x := r) (y := 4503599627370496) (by rw [hr]; exact h) (by rw [rung_small (by omega)]; decide)
    rw [ord_lt, this, fv_pos_rung _ (by omega), fv_pos_rung _ (by omega)]
    have e : (((mag r : Nat) : Int) < (mag 4503599627370496 : Nat)) ↔ r < 4503599627370496 :=
      ⟨fun a => lt_of_mag (by omega), fun a => by have := mag_lt a; omega⟩
    rw [decide_eq_decide]; exact e
  by_cases c : r < 4503599627370496
  · have f2 := some_of (f1 c)
    have f3 : frM r = fmul r 4841369599423283200 := if_pos c
    have f4 : frS r = 52 := if_pos c
    rw [f3, f4]
    rw [decide_eq_true c] at hc
    clear f1 f3 f4
    go_enter Tryd.func78, Tryd.ntmps78
    go_wp2_with (go_at_call 25; refine (abs_calls _ (by omega) _).mono ?_; rw [hr]; rintro e w' ⟨rfl, rfl⟩)
    go_ret2
    exact ⟨rfl, rfl⟩
  · have f3 : frM r = r := if_neg c
    have f4 : frS r = 0 := if_neg c
    rw [f3, f4]
    rw [decide_eq_false c] at hc
    clear f1 f3 f4
    go_enter Tryd.func78, Tryd.ntmps78
    go_wp2_with (go_at_call 25; refine (abs_calls _ (by omega) _).mono ?_; rw [hr]; rintro e w' ⟨rfl, rfl⟩)
    go_ret2
    exact ⟨rfl, rfl⟩

theorem frexp_calls (r : Nat) (h0 : 0 < r) (h : r < inf) (w : World) :
    Calls Tryd.prog 75 #[.float .f64 r] w fun e w' => e = .returned (.tuple #[.float .f64 (frF r), .int .i64 (frE r)]) ∧ w = w' := by
  have hi := inf_lt
  have hr : rung r = r := rung_small (by omega)
  obtain ⟨-, g1, g2, -⟩ := frM_facts h0 h
  have hz : (FloatKind.f64.format.order r 0 == some Ordering.eq) = false := by
    have := eq_zero r; rw [hr] at this; rw [ord_eq]; exact this.trans (decide_eq_false (by omega))
  have hq1 : decide (rung r = inf) = false := by rw [hr]; exact decide_eq_false (by omega)
  have hq2 : decide (inf < rung r) = false := by rw [hr]; exact decide_eq_false (by omega)
  have k1 := fun (x : Nat) (w : World) => callBits x w
  have k2 := fun (x : Int) (w : World) => callFrom x w
  go_enter Tryd.func75, Tryd.ntmps75
  go_wp2_with (first
   | (go_at_call 76; refine (isinf_calls _ (by omega) _).mono ?_; rw [hq1]; rintro e w' ⟨rfl, rfl⟩)
   | (go_at_call 77; refine (isnan_calls _ _).mono ?_; rw [hq2]; rintro e w' ⟨rfl, rfl⟩)
   | (go_at_call 78; refine (normalize_calls _ h0 h _).mono ?_; rintro e w' ⟨rfl, rfl⟩))
  go_ret2
  have c1 := clear_exp (M := frM r) (by omega)
  have c2 := set_exp (m := frM r % 4503599627370496) (Nat.mod_lt _ (by omega))
  have c3 := get_exp (M := frM r) (by omega)
  have hs : frS r ≤ 52 := by unfold frS; split <;> omega
  refine ⟨ret_fi ?_ ?_, rfl⟩
  · rw [c1, c2]; rfl
  · rw [c3, w64 (n := ((frM r / 4503599627370496 : Nat) : Int)) (by omega) (by omega), w64 (n := _ - 1023) (by omega) (by omega), w64 (n := _ + 1) (by omega) (by omega), w64 (by omega) (by omega)]
    unfold frE; omega

theorem Frexp_calls (r : Nat) (h0 : 0 < r) (h : r < inf) (w : World) :
    Calls Tryd.prog 58 #[.float .f64 r] w fun e w' => e = .returned (.tuple #[.float .f64 (frF r), .int .i64 (frE r)]) ∧ w = w' := by
  go_enter Tryd.func58, Tryd.ntmps58
  go_wp2_with (go_at_call 75; refine (frexp_calls _ h0 h _).mono ?_; rintro e w' ⟨rfl, rfl⟩)
  go_ret2
  exact ⟨rfl, rfl⟩

end Go.Proofs.YtiihokgjplpceaaDoor
end

section
/- The number of a float, walked. -/
namespace Go.Proofs.YtiihokgjplpceaaDoor
open Go.RowKit TV
set_option linter.unusedVariables false
set_option exponentiation.threshold 3000

/-- What a float tells, as the reference has it: nothing tells nought. -/
def ov (x : Nat) : Rat := if rung x < inf then (fv x : Rat) * (2 : Rat) ^ (-1074 : Int) else 0

/-- The NaN that is drawn where none is fixed. -/
def nanAt (w : World) (x y : Nat) : Nat := (Question.nanBits .f64 x y).cut (w.tape w.drawn (.nanBits .f64 x y))
@[go_sem] theorem run_fsub_nan {P : Program} (w : World) (t : TypeId) (x y : Nat) (h : Ieee.double.sub x y = none) : (binOp .sub t (.float .f64 x) (.float .f64 y)).run P w = .ok (.float .f64 (nanAt w x y)) w.drew := by
  have h' : FloatKind.f64.format.sub x y = none := h
  simp [binOp, Op.floatArith, h', Question.forced, nanAt]
theorem nanAt_nan (w : World) (x y : Nat) : inf < rung (nanAt w x y) := by
  unfold nanAt
  generalize w.tape w.drawn _ = t
  have e : (Question.nanBits .f64 x y).cut t = t % 2 * 9223372036854775808 + 9218868437227405312 + 1 + t / 2 % 4503599627370495 := rfl
  rw [e]; unfold rung inf
  have := Nat.mod_lt (t / 2) (show 0 < 4503599627370495 by omega)
  generalize t / 2 % 4503599627370495 = u at *
  omega
theorem fsub_self {x : Nat} (h : rung x < inf) : Ieee.double.sub x x = some 0 := by
  rw [sub_fin h h, Int.sub_self]
  cases sgn x <;> rfl
theorem order_self {x : Nat} (h : rung x ≤ inf) : FloatKind.f64.format.order x x = some .eq := by
  have := feq_self x; rw [decide_eq_true h] at this; exact eq_of_beq this

theorem of_nan (x : Nat) (hx : x < 18446744073709551616) (c : inf < rung x) (w : World) :
    Calls Tryd.prog 41 #[.float .f64 x] w fun e w' => e = .returned (.agg #[.int .i64 0, .slice none 0 0, .int .i64 0]) ∧ Below w.heap.size w w' := by
  have h1 : FloatKind.f64.format.order x x = none := order_nan_left c
  go_enter Tryd.func41, Tryd.ntmps41
  go_wp2
  refine bodyPost_ret (v := .agg #[.int .i64 0, .slice none 0 0, .int .i64 0]) (by simp [results, Tryd.results41, go_sem]) rfl ?_
  exact ⟨rfl, (Below.refl _ _).alloc (Nat.le_refl _) _⟩

theorem of_inf (x : Nat) (hx : x < 18446744073709551616) (c : rung x = inf) (w : World) :
    Calls Tryd.prog 41 #[.float .f64 x] w fun e w' => e = .returned (.agg #[.int .i64 0, .slice none 0 0, .int .i64 0]) ∧ Below w.heap.size w w' := by
  have h1 := order_self (x := x) (Nat.le_of_eq c)
  have h2 : Ieee.double.sub x x = none := sub_inf_inf c c rfl
  have h3 : ∀ w, FloatKind.f64.format.order (nanAt w x x) 0 = none := fun w => order_nan_left (nanAt_nan w x x)
  go_enter Tryd.func41, Tryd.ntmps41
  go_wp2
  refine bodyPost_ret (v := .agg #[.int .i64 0, .slice none 0 0, .int .i64 0]) (by simp [results, Tryd.results41, go_sem]) rfl ?_
  exact ⟨rfl, ((Below.refl _ _).alloc (Nat.le_refl _) _).drew⟩

theorem of_zero (x : Nat) (hx : x < 18446744073709551616) (c : rung x = 0) (w : World) :
    Calls Tryd.prog 41 #[.float .f64 x] w fun e w' => e = .returned (.agg #[.int .i64 0, .slice none 0 0, .int .i64 0]) ∧ Below w.heap.size w w' := by
  have hc : rung x < inf := by rw [c]; decide
  have h1 := order_self (x := x) (Nat.le_of_lt hc)
  have h2 : Ieee.double.sub x x = some 0 := fsub_self hc
  have h3 := some_of h2
  have h4 : fsub x x = 0 := by unfold fsub; rw [h2]; rfl
  have h5 : FloatKind.f64.format.order x 0 = some .eq := by
    have := eq_zero x; rw [decide_eq_true c] at this; exact eq_of_beq this
  have h6 : FloatKind.f64.format.order 0 0 = some .eq := rfl
  go_enter Tryd.func41, Tryd.ntmps41
  go_wp2
  refine bodyPost_ret (v := .agg #[.int .i64 0, .slice none 0 0, .int .i64 0]) (by simp [results, Tryd.results41, go_sem]) rfl ?_
  exact ⟨rfl, (Below.refl _ _).alloc (Nat.le_refl _) _⟩

theorem Frexp_at (y r : Nat) (hy : y = r) (h0 : 0 < r) (h : r < inf) (w : World) :
    Calls Tryd.prog 58 #[.float .f64 y] w fun e w' => e = .returned (.tuple #[.float .f64 (frF r), .int .i64 (frE r)]) ∧ w = w' := by
  subst hy; exact Frexp_calls y h0 h w

theorem fr_int (r : Nat) (w : World) : (convert 22 53 (.float .f64 (fmul (frF r) 4845873199050653696))).run Tryd.prog w = .ok (.int .u64 (frQ r)) w := by
  have : fmul (frF r) 4845873199050653696 = frP r := by unfold fmul; rw [frP_mul]; rfl
  rw [this]
  exact run_convert_float_int w 22 53 .f64 .u64 _ _ (by rw [Tryd.underlying22]; rfl) Tryd.underlying53 (frP_int r)

theorem frE_bound {r : Nat} (h0 : 0 < r) (h : r < inf) : -1100 ≤ frE r ∧ frE r ≤ 1100 := by
  obtain ⟨-, g1, g2, -⟩ := frM_facts h0 h
  have hs : frS r ≤ 52 := by unfold frS; split <;> omega
  have hi := inf_eq
  unfold frE; omega
theorem frQ_lt (r : Nat) : frQ r < 18446744073709551616 := by unfold frQ; have := Nat.mod_lt (frM r) (show 0 < 4503599627370496 by omega); omega

theorem of_pos (x : Nat) (hx : x < 18446744073709551616) (h0 : 0 < rung x) (hf : rung x < inf) (hs : sgn x = false) (w : World) :
    Calls Tryd.prog 41 #[.float .f64 x] w (RetN (fun _ => False) 2000 (ov x) w) := by
  have e0 : x = rung x := by have := flo_eta hx; rw [hs] at this; exact this.symm
  have hv : ov x = (mag (rung x) : Rat) * (2 : Rat) ^ (-1074 : Int) := by
    unfold ov; rw [if_pos hf]; unfold fv; rw [hs]; unfold sm; simp only [Bool.false_eq_true, if_false, Rat.intCast_natCast]
  rw [hv, ← fr_value h0 hf]
  have h1 := order_self (x := x) (Nat.le_of_lt hf)
  have h2 : Ieee.double.sub x x = some 0 := fsub_self hf
  have h3 := some_of h2
  have h4 : fsub x x = 0 := by unfold fsub; rw [h2]; rfl
  have h5 : FloatKind.f64.format.order x 0 = some .gt := by
    have := order_fin (x := x) (y := 0) hf (by decide)
    have hz : fv 0 = 0 := by decide
    have hp : 0 < fv x := by
      have : fv x = mag (rung x) := by unfold fv sm; rw [hs]; simp
      have : 0 < mag (rung x) := by have := mag_lt h0; rw [mag_zero] at this; exact this
      omega
    rw [hz] at this
    exact this.trans (by rw [show compare (fv x) 0 = .gt by rw [Int.compare_eq_gt]; exact hp])
  have h6 : FloatKind.f64.format.order 0 0 = some .eq := rfl
  have h7 := some_of (frP_mul (rung x))
  have h8 := fr_int (rung x)
  obtain ⟨h9, h10⟩ := frE_bound h0 hf
  clear hv h2
  have HP := fun w => power_calls (frQ (rung x)) (frE (rung x) - 53) (frQ_lt _) (by omega) (by omega) w
  have HF := fun w => Frexp_at x (rung x) e0 h0 hf w
  have E0 := Lib.hid e0
  clear e0
  go_enter Tryd.func41, Tryd.ntmps41
  go_wp2_with (first
    | (go_at_call 58; refine (HF _).mono ?_; rintro e w' ⟨rfl, rfl⟩))
  refine (HP _).mono ?_
  rintro x2 w2 ⟨v, rfl, ⟨s, sl, ds, e, rfl, hsl, hnm, hq, hin⟩, hb⟩
  obtain ⟨p', cap, rfl⟩ := hsl.formMap
  have hres : w2.heap[w.heap.size]? = some (.cells #[.int .i64 0, .slice none 0 0, .int .i64 0] 42 (0, 0)) := keep_block hb (heap_alloc_new w _)
  obtain ⟨y0, y1, y2, z0, z1, z2⟩ := res_facts hres
  have hsz := block_lt hres
  have HQ := Lib.hid hq
  clear hq
  go_wp2_with fail
  obtain ⟨r0, r1, r2⟩ := put_facts hres (.int .i64 s) (.slice p' ds.length cap) (.int .i64 e)
  refine bodyPost_ret (v := .agg #[.int .i64 s, .slice p' ds.length cap, .int .i64 e]) (by simp [results, Tryd.results41, go_sem, r0, r1, r2, hsz]) rfl ?_
  have hin' : In (fun b => w.heap.size + 1 ≤ b) (.slice p' ds.length cap) := hin.mono fun _ h => by simpa using h
  have hn' : Nm s ds e 2000 := ⟨hnm.dok, hnm.sgn, by have := hnm.lo; omega, by have := hnm.hi; omega⟩
  exact ⟨_, rfl, ⟨s, _, ds, e, rfl, (((hsl.put hin' (by simp) _).put hin' (by simp) _).put hin' (by simp) _).keep ((Below.refl _ _).alloc (Nat.le_refl _) _), hn', HQ.out, hin'.mono fun _ h => Or.inr (by omega)⟩,
    ((((((Below.refl w.heap.size w).alloc (Nat.le_refl _) _).trans (hb.mono (by simp))).setCell (by simp) _).setCell (by simp) _).setCell (by simp) _).alloc (by simp; omega) _⟩
theorem of_neg (x : Nat) (hx : x < 18446744073709551616) (h0 : 0 < rung x) (hf : rung x < inf) (hs : sgn x = true) (w : World) :
    Calls Tryd.prog 41 #[.float .f64 x] w (RetN (fun _ => False) 2000 (ov x) w) := by
  have e0 : fneg x = rung x := by rw [fneg_eq hx, hs]; rfl
  have hv : ov x = -((mag (rung x) : Rat) * (2 : Rat) ^ (-1074 : Int)) := by
    unfold ov; rw [if_pos hf]; unfold fv; rw [hs]; unfold sm; simp only [if_true, Rat.intCast_neg, Rat.intCast_natCast, Rat.neg_mul]
  rw [hv, ← fr_value h0 hf]
  have h1 := order_self (x := x) (Nat.le_of_lt hf)
  have h2 : Ieee.double.sub x x = some 0 := fsub_self hf
  have h3 := some_of h2
  have h4 : fsub x x = 0 := by unfold fsub; rw [h2]; rfl
  have h5 : FloatKind.f64.format.order x 0 = some .lt := by
    have := order_fin (x := x) (y := 0) hf (by decide)
    have hz : fv 0 = 0 := by decide
    have hp : fv x < 0 := by
      have : fv x = -(mag (rung x) : Int) := by unfold fv sm; rw [hs]; simp
      have : 0 < mag (rung x) := by have := mag_lt h0; rw [mag_zero] at this; exact this
      omega
    rw [hz] at this
    exact this.trans (by rw [show compare (fv x) 0 = .lt by rw [Int.compare_eq_lt]; exact hp])
  have h6 : FloatKind.f64.format.order 0 0 = some .eq := rfl
  have h7 := some_of (frP_mul (rung x))
  have h8 := fr_int (rung x)
  obtain ⟨h9, h10⟩ := frE_bound h0 hf
  clear hv h2
  have HP := fun w => power_calls (frQ (rung x)) (frE (rung x) - 53) (frQ_lt _) (by omega) (by omega) w
  have HF := fun w => Frexp_at (fneg x) (rung x) e0 h0 hf w
  have E0 := Lib.hid e0
  clear e0
  go_enter Tryd.func41, Tryd.ntmps41
  go_wp2_with (first
    | (go_at_call 58; refine (HF _).mono ?_; rintro e w' ⟨rfl, rfl⟩))
  refine (HP _).mono ?_
  rintro x2 w2 ⟨v, rfl, ⟨s, sl, ds, e, rfl, hsl, hnm, hq, hin⟩, hb⟩
  obtain ⟨p', cap, rfl⟩ := hsl.formMap
  have hres : w2.heap[w.heap.size]? = some (.cells #[.int .i64 0, .slice none 0 0, .int .i64 0] 42 (0, 0)) := keep_block hb (heap_alloc_new w _)
  obtain ⟨y0, y1, y2, z0, z1, z2⟩ := res_facts hres
  have hsz := block_lt hres
  have hs1 : s = 1 := by
    rw [← rs_nv hnm, ← hq]
    have h1 : (0 : Rat) < (frQ (rung x) : Rat) := by have : 0 < frQ (rung x) := by { unfold frQ; omega }; exact_mod_cast this
    have h2 : (0 : Rat) < (frQ (rung x) : Rat) * (2 : Rat) ^ (frE (rung x) - 53) := Rat.mul_pos h1 (two_zpow_pos _)
    unfold rs; rw [if_neg (by grind), if_neg (by grind)]
  subst hs1
  have HQ := Lib.hid hq
  clear hq
  go_wp2_with fail
  obtain ⟨r0, r1, r2⟩ := put_facts hres (.int .i64 (-1)) (.slice p' ds.length cap) (.int .i64 e)
  refine bodyPost_ret (v := .agg #[.int .i64 (-1), .slice p' ds.length cap, .int .i64 e]) (by simp [results, Tryd.results41, go_sem, r0, r1, r2, hsz]) rfl ?_
  have hin' : In (fun b => w.heap.size + 1 ≤ b) (.slice p' ds.length cap) := hin.mono fun _ h => by simpa using h
  have hn' : Nm (-1) ds e 2000 := ⟨hnm.dok, by have := hnm.sgn; omega, by have := hnm.lo; omega, by have := hnm.hi; omega⟩
  refine ⟨_, rfl, ⟨-1, _, ds, e, rfl, (((hsl.put hin' (by simp) _).put hin' (by simp) _).put hin' (by simp) _).keep ((Below.refl _ _).alloc (Nat.le_refl _) _), hn', ?_, hin'.mono fun _ h => Or.inr (by omega)⟩,
    ((((((Below.refl w.heap.size w).alloc (Nat.le_refl _) _).trans (hb.mono (by simp))).setCell (by simp) _).setCell (by simp) _).setCell (by simp) _).alloc (by simp; omega) _⟩
  rw [HQ.out]
  unfold nv
  rw [Int.neg_mul, Rat.intCast_neg, Rat.neg_mul]

theorem NumV.zero (P : Nat → Prop) (w : World) (k : Nat) : NumV P w (.agg #[.int .i64 0, .slice none 0 0, .int .i64 0]) k 0 :=
  ⟨0, _, [], 0, rfl, Or.inl ⟨rfl, rfl⟩, ⟨fun i => by simp, Or.inl ⟨rfl, rfl⟩, by omega, by simp⟩, by rw [zero_nv], In.nil⟩

/-- Of. -/
theorem ofN (x : Nat) (hx : x < 18446744073709551616) (w : World) :
    Calls Tryd.prog 41 #[.float .f64 x] w (RetN (fun _ => False) 2000 (ov x) w) := by
  by_cases c : rung x < inf
  · by_cases z : rung x = 0
    · have : ov x = 0 := by unfold ov; rw [if_pos c, fv_zero_of z]; simp
      rw [this]
      exact (of_zero x hx z w).mono fun e w' ⟨h1, h2⟩ => ⟨_, h1, NumV.zero _ _ _, h2⟩
    · by_cases s : sgn x = true
      · exact of_neg x hx (by omega) c s w
      · exact of_pos x hx (by omega) c (by simpa using s) w
  · have : ov x = 0 := if_neg c
    rw [this]
    by_cases z : rung x = inf
    · exact (of_inf x hx z w).mono fun e w' ⟨h1, h2⟩ => ⟨_, h1, NumV.zero _ _ _, h2⟩
    · exact (of_nan x hx (by omega) w).mono fun e w' ⟨h1, h2⟩ => ⟨_, h1, NumV.zero _ _ _, h2⟩
end Go.Proofs.YtiihokgjplpceaaDoor
end
