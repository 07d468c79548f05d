/- Texts of one kind, joined. -/
import Derived.Test.YtiiipgbfhcbjdaaDoorRfG
import Derived.Test.YtiiipgbfhcbjdaaDoorPuA

section
/- math.Nextafter towards the greatest float and towards nought, walked. -/
namespace Go.Proofs.YtiiipgbfhcbjdaaDoor
open Go.RowKit TV
set_option linter.unusedVariables false
set_option exponentiation.threshold 3000

theorem pos_bits {x : Nat} (hx : x < 18446744073709551616) (hs : sgn x = false) : x = rung x := by
  have := flo_eta hx; rw [hs] at this; exact this.symm
theorem fv_pos {x : Nat} (hs : sgn x = false) : fv x = mag (rung x) := by unfold fv sm; rw [hs]; rfl
theorem ord_of {x y : Nat} (hx : rung x < inf) (hy : rung y < inf) (h : fv x < fv y) : FloatKind.f64.format.order x y = some .lt := by
  exact (order_fin hx hy).trans (by rw [Int.compare_eq_lt.2 h])
theorem ord_of' {x y : Nat} (hx : rung x < inf) (hy : rung y < inf) (h : fv y < fv x) : FloatKind.f64.format.order x y = some .gt := by
  exact (order_fin hx hy).trans (by rw [Int.compare_eq_gt.2 h])

theorem sign_at (w : World) : Calls Tryd.prog 64 #[.float .f64 1, .float .f64 9218868437227405311] w fun e w' => e = .returned (.float .f64 1) ∧ w = w' := by
  have k1 := fun (x : Nat) (w : World) => callBits x w
  have k2 := fun (x : Int) (w : World) => callFrom x w
  go_enter Tryd.func64, Tryd.ntmps64
  go_wp2
  go_ret
  refine ⟨ret_float ?_, rfl⟩
  decide

theorem next_up_zero (x : Nat) (hx : x < 18446744073709551616) (hz : rung x = 0) (w : World) :
    Calls Tryd.prog 50 #[.float .f64 x, .float .f64 9218868437227405311] w fun e w' => e = .returned (.float .f64 1) ∧ w = w' := by
  have hi := inf_eq
  have hm : rung 9218868437227405311 = 9218868437227405311 := rung_small (by omega)
  have k1 := fun (x : Nat) (w : World) => callBits x w
  have k2 := fun (x : Int) (w : World) => callFrom x w
  have n1 : decide (inf < rung x) = false := decide_eq_false (by omega)
  have n2 : decide (inf < rung 9218868437227405311) = false := decide_eq_false (by omega)
  have o1 : FloatKind.f64.format.order x 9218868437227405311 = some .lt := by
    apply ord_of (by omega) (by omega)
    rw [fv_zero_of hz, fv_pos (by decide), hm]
    have := mag_lt (r := 0) (s := 9218868437227405311) (by omega)
    omega
  have o2 : FloatKind.f64.format.order x 0 = some .eq := by
    have := eq_zero x; rw [decide_eq_true hz] at this; exact eq_of_beq this
  go_enter Tryd.func50, Tryd.ntmps50
  go_wp2_with (first
    | (go_at_call 63; refine (isnan_calls _ _).mono ?_; (first | rw [n1] | rw [n2]); rintro e w' ⟨rfl, rfl⟩)
    | (go_at_call 64; refine (sign_at _).mono ?_; rintro e w' ⟨rfl, rfl⟩))
  go_ret
  exact ⟨rfl, rfl⟩

theorem next_up_max (w : World) :
    Calls Tryd.prog 50 #[.float .f64 9218868437227405311, .float .f64 9218868437227405311] w fun e w' => e = .returned (.float .f64 9218868437227405311) ∧ w = w' := by
  have hi := inf_eq
  have hm : rung 9218868437227405311 = 9218868437227405311 := rung_small (by omega)
  have n2 : decide (inf < rung 9218868437227405311) = false := decide_eq_false (by omega)
  have o1 := order_self (x := 9218868437227405311) (by omega)
  go_enter Tryd.func50, Tryd.ntmps50
  go_wp2_with (first
    | (go_at_call 63; refine (isnan_calls _ _).mono ?_; rw [n2]; rintro e w' ⟨rfl, rfl⟩))
  go_ret
  exact ⟨rfl, rfl⟩

theorem next_up_pos (r : Nat) (h0 : 0 < r) (h1 : r < 9218868437227405311) (w : World) :
    Calls Tryd.prog 50 #[.float .f64 r, .float .f64 9218868437227405311] w fun e w' => e = .returned (.float .f64 (r + 1)) ∧ w = w' := by
  have hi := inf_eq
  have hr : rung r = r := rung_small (by omega)
  have hm : rung 9218868437227405311 = 9218868437227405311 := rung_small (by omega)
  have k1 := fun (x : Nat) (w : World) => callBits x w
  have k2 := fun (x : Int) (w : World) => callFrom x w
  have n1 : decide (inf < rung r) = false := decide_eq_false (by omega)
  have n2 : decide (inf < rung 9218868437227405311) = false := decide_eq_false (by omega)
  have v1 : fv r = mag r := fv_pos_rung r (by omega)
  have v2 : fv 9218868437227405311 = mag 9218868437227405311 := fv_pos_rung _ (by omega)
  have hlt := mag_lt h1
  have hv0 : fv 0 = 0 := by decide
  have hlt0 := mag_lt h0
  have hz : mag 0 = 0 := mag_zero
  have o1 : FloatKind.f64.format.order r 9218868437227405311 = some .lt := ord_of (by omega) (by omega) (by omega)
  have o2 : FloatKind.f64.format.order r 0 = some .gt := ord_of' (by omega) (by decide) (by omega)
  have o3 : FloatKind.f64.format.order 9218868437227405311 r = some .gt := ord_of' (by omega) (by omega) (by omega)
  clear v1 v2 hlt hlt0 hz hm
  go_enter Tryd.func50, Tryd.ntmps50
  go_wp2_with (first
    | (go_at_call 63; refine (isnan_calls _ _).mono ?_; (first | rw [n1] | rw [n2]); rintro e w' ⟨rfl, rfl⟩))
  go_ret
  exact ⟨ret_float (by omega), rfl⟩

theorem next_down (r : Nat) (h0 : 0 < r) (h1 : r < inf) (w : World) :
    Calls Tryd.prog 50 #[.float .f64 r, .float .f64 0] w fun e w' => e = .returned (.float .f64 (r - 1)) ∧ w = w' := by
  have hi := inf_eq
  have hr : rung r = r := rung_small (by omega)
  have k1 := fun (x : Nat) (w : World) => callBits x w
  have k2 := fun (x : Int) (w : World) => callFrom x w
  have n1 : decide (inf < rung r) = false := decide_eq_false (by omega)
  have n2 : decide (inf < rung 0) = false := by decide
  have v1 : fv r = mag r := fv_pos_rung r (by omega)
  have v2 : fv 0 = 0 := by decide
  have hlt0 := mag_lt h0
  have hz : mag 0 = 0 := mag_zero
  have o2 : FloatKind.f64.format.order r 0 = some .gt := ord_of' (by omega) (by decide) (by omega)
  have o3 : FloatKind.f64.format.order 0 r = some .lt := ord_of (by decide) (by omega) (by omega)
  clear v1 v2 hlt0 hz
  go_enter Tryd.func50, Tryd.ntmps50
  go_wp2_with (first
    | (go_at_call 63; refine (isnan_calls _ _).mono ?_; (first | rw [n1] | rw [n2]); rintro e w' ⟨rfl, rfl⟩))
  go_ret
  exact ⟨ret_float (by omega), rfl⟩
end Go.Proofs.YtiiipgbfhcbjdaaDoor
end

section
/- The reference's test of rounding, walked: it tells the nearest float. -/
namespace Go.Proofs.YtiiipgbfhcbjdaaDoor
open Go.RowKit TV
set_option linter.unusedVariables false
set_option exponentiation.threshold 3000

theorem powerT (n : Nat) (k : Int) (hn : n < 18446744073709551616) (hk : -1000000 ≤ k) (hk2 : k ≤ 1000000) (w : World) :
    Calls Tryd.prog 32 #[.int .u64 n, .int .i64 k] w (RetT (k.natAbs + 8) ((n : Rat) * (2 : Rat) ^ k) w) := (power_calls n k hn hk hk2 w).mono fun _ _ h => h.t

theorem RetT.to {k k' : Nat} {q q' : Rat} {w : World} {x : Ending} {w' : World} (h : RetT k q w x w') (hk : k ≤ k') (hq : q = q') : RetT k' q' w x w' := by
  obtain ⟨v, h1, h2, h3⟩ := h; subst hq; exact ⟨v, h1, h2.more hk, h3⟩
theorem great_calls (w : World) : Calls Tryd.prog 32 #[.int .u64 18014398509481983, .int .i64 970] w (RetT 100000 gq w) :=
  (powerT 18014398509481983 970 (by omega) (by omega) (by omega) w).mono fun _ _ h => h.to (by decide) rfl
theorem top_calls (w : World) : Calls Tryd.prog 32 #[.int .u64 1, .int .i64 1024] w (RetT 100000 ((mag inf : Rat) * uu) w) :=
  (powerT 1 1024 (by omega) (by omega) (by omega) w).mono fun _ _ h => h.to (by decide) (by rw [inf_uu]; simp)
theorem bot_calls (w : World) : Calls Tryd.prog 32 #[.int .u64 1, .int .i64 (-1074)] w (RetT 2000 uu w) :=
  (powerT 1 (-1074) (by omega) (by omega) (by omega) w).mono fun _ _ h => h.to (by decide) (by unfold uu; simp)
theorem two_calls (w : World) : Calls Tryd.prog 32 #[.int .u64 2, .int .i64 0] w (RetT 100000 2 w) :=
  (powerT 2 0 (by omega) (by omega) (by omega) w).mono fun _ _ h => h.to (by decide) (by simp)

theorem NumT.form {w : World} {v : Value} {k : Nat} {q : Rat} (h : NumT w v k q) : ∃ s p n c e, v = .agg #[.int .i64 s, .slice p n c, .int .i64 e] ∧ s = rs q := by
  obtain ⟨s, sl, ds, e, rfl, hs, hn, hq, -⟩ := h
  obtain ⟨p, c, rfl⟩ := hs.formMap
  exact ⟨s, p, _, c, e, rfl, by rw [hq, rs_nv hn]⟩
theorem NumT.put {w : World} {s e : Int} {sl : Value} {k : Nat} {q : Rat} (h : NumT w (.agg #[.int .i64 s, sl, .int .i64 e]) k q) {b i : Nat} (hi : In (fun x => x ≠ b) sl) (u : Value) :
    NumT (w.setCell ⟨b, i, none⟩ u) (.agg #[.int .i64 s, sl, .int .i64 e]) k q := by
  obtain ⟨s', sl', ds, e', hv, hs, hn, hq, hP⟩ := h
  simp only [Value.agg.injEq, Array.mk.injEq, List.cons.injEq, Value.int.injEq, true_and, and_true] at hv
  obtain ⟨rfl, rfl, rfl⟩ := hv
  exact ⟨s, sl, ds, e, rfl, hs.put hi (by simp) u, hn, hq, hP⟩
theorem NumT.ne {w : World} {s e : Int} {sl : Value} {k : Nat} {q : Rat} (h : NumT w (.agg #[.int .i64 s, sl, .int .i64 e]) k q) {b : Nat} (hb : w.heap.size ≤ b) : In (fun x => x ≠ b) sl := by
  obtain ⟨s', sl', ds, e', hv, hs, hn, hq, hP⟩ := h
  simp only [Value.agg.injEq, Array.mk.injEq, List.cons.injEq, Value.int.injEq, true_and, and_true] at hv
  obtain ⟨rfl, rfl, rfl⟩ := hv
  exact hs.lt.mono fun x hx => by omega
theorem NumT.mix {w : World} {s e t g : Int} {sl sm : Value} {q q' : Rat} (h : NumT w (.agg #[.int .i64 s, sl, .int .i64 e]) 2000 q) (h' : NumT w (.agg #[.int .i64 t, sm, .int .i64 g]) 2000 q') (hq : 0 < q) :
    ∃ d, d < 0 ∧ NumT w (.agg #[.int .i64 (-1), sl, .int .i64 g]) 6000 d := by
  obtain ⟨s1, sl1, ds, e1, hv, hs, hn, hq1, -⟩ := h
  simp only [Value.agg.injEq, Array.mk.injEq, List.cons.injEq, Value.int.injEq, true_and, and_true] at hv
  obtain ⟨rfl, rfl, rfl⟩ := hv
  obtain ⟨t1, sm1, dt, g1, hv, ht, hn', hq2, -⟩ := h'
  simp only [Value.agg.injEq, Array.mk.injEq, List.cons.injEq, Value.int.injEq, true_and, and_true] at hv
  obtain ⟨rfl, rfl, rfl⟩ := hv
  have hp : 0 < dval ds := by
    rcases hn.sgn with ⟨rfl, -⟩ | ⟨-, h⟩
    · rw [zero_nv] at hq1; rw [hq1] at hq; exact absurd hq (by decide)
    · exact h
  refine ⟨nv (-1) ds g, ?_, -1, sl, ds, g, rfl, hs, ⟨hn.dok, Or.inr ⟨Or.inr rfl, hp⟩, by have := hn'.lo; omega, by have := hn'.hi; have := hn'.lo; have := hn.lo; have := hn.hi; omega⟩, rfl, fun _ _ _ _ => trivial⟩
  unfold nv
  rw [Int.neg_mul, Int.one_mul, Rat.intCast_neg, Rat.neg_mul]
  have h1 : (0 : Rat) < (dval ds : Rat) := by rw [← Rat.intCast_zero]; exact Rat.intCast_lt_intCast.2 hp
  have := Rat.mul_pos h1 (two_zpow_pos (24 * g))
  grind
theorem ov_pos {x : Nat} (hf : rung x < inf) (hs : rung x = 0 ∨ sgn x = false) : ov x = (mag (rung x) : Rat) * uu := by
  unfold ov uu; rw [if_pos hf]
  rcases hs with h | h
  · rw [fv_zero_of h, h, mag_zero]; rfl
  · rw [fv_pos h]; rw [Rat.intCast_natCast]
theorem ov_rung {r : Nat} (hf : r < inf) : ov r = (mag r : Rat) * uu := by
  have hi := inf_lt
  have hr : rung r = r := rung_small (by omega)
  have := ov_pos (x := r) (by omega) (Or.inr (sgn_small (by omega)))
  rw [this, hr]
set_option maxRecDepth 100000 in
set_option maxHeartbeats 2000000 in
theorem rounds_mid (r : Nat) (h0 : 0 < r) (h1 : r < 9218868437227405311) {v : Value} {k : Nat} {q : Rat} (w : World) (hv : NumT w v k q) (hk : k ≤ 100000) (hq : 0 ≤ q) (hR : RndQ q r) :
    Calls Tryd.prog 26 #[v, .float .f64 r] w fun e w' => e = .returned (.bool true) ∧ Below w.heap.size w w' := by
  have hi := inf_eq
  obtain ⟨s, p, n, c, e, rfl, hs⟩ := hv.form
  have s0 : 0 ≤ s := by rw [hs]; unfold rs; rw [if_neg (by grind)]; split <;> decide
  have hl : r < inf := by omega
  obtain ⟨t1, t2, t3⟩ := rnd_tests hq hR hl
  have lt : rs (q - gq) < 0 := rs_lt.2 t1
  have hr : rung r = r := rung_small (by omega)
  have hf : rung r < inf := by omega
  have eo : ov r = (mag r : Rat) * uu := ov_rung hl
  have o1 := order_self (x := r) (by omega)
  have o2 := some_of (fsub_self hf)
  have o3 : fsub r r = 0 := by unfold fsub; rw [fsub_self hf]; rfl
  have o4 : FloatKind.f64.format.order 0 0 = some .eq := rfl
  have o5 : FloatKind.f64.format.order r 0 = some .gt := ord_of' hf (by decide) (by have e0 : fv 0 = 0 := by { decide }; rw [e0, fv_pos (sgn_small (by omega)), hr]; have := mag_lt (r := 0) (s := r) (by omega); omega)
  have ed : ov (r - 1) = dnq r := by unfold dnq; rw [if_neg (by omega)]; exact ov_rung (by omega)
  have o6 : FloatKind.f64.format.order (r + 1) r = some .gt := ord_of' (by rw [rung_small (by omega)]; omega) hf (by rw [fv_pos (sgn_small (by omega)), fv_pos (sgn_small (by omega)), hr, rung_small (by omega)]; have := mag_lt_succ r; omega)
  have eu : ov (r + 1) = (mag (r + 1) : Rat) * uu := ov_rung (by omega)
  have k1 := fun (x : Nat) (w : World) => callBits x w
  have HA0 : Hid (rs (2 * q - (ov r + ov (r + 1))) < 0 ∨ (rs (2 * q - (ov r + ov (r + 1))) = 0 ∧ r % 2 = 0)) := by rw [eo, eu]; exact t2
  have HB0 : Hid (0 < rs (2 * q - (ov r + ov (r - 1))) ∨ (rs (2 * q - (ov r + ov (r - 1))) = 0 ∧ r % 2 = 0)) := by rw [eo, ed]; exact t3
  clear t1 t2 t3 hR eo eu ed
  have HQ := Lib.hid hq
  clear hq hs
  go_enter Tryd.func26, Tryd.ntmps26
  go_wp2_with fail
  refine (great_calls _).mono ?_
  rintro t w1 ⟨v5, rfl, N5, hb1⟩
  obtain ⟨s5, p5, n5, c5, e5, rfl, -⟩ := N5.form
  have B2 : w1.heap[w.heap.size]? = some (.cells #[.int .i64 s, .slice p n c, .int .i64 e] 46 (0, 0)) := keep_block hb1 (heap_alloc_new w _)
  have N2 := (hv.keep ((Below.refl w.heap.size w).alloc (Nat.le_refl _) (.cells #[.int .i64 s, .slice p n c, .int .i64 e] 46))).keep hb1
  have L1 : Below w.heap.size w w1 := ((Below.refl w.heap.size w).alloc (Nat.le_refl _) (.cells #[.int .i64 s, .slice p n c, .int .i64 e] 46)).trans (hb1.mono (by simp))
  obtain ⟨g0, g1, g2, -, -, -⟩ := res_facts B2
  have z1 := block_lt B2
  go_wp2_with fail
  have A1 : Below w1.heap.size w1 (w1.alloc (.cells #[.int .i64 s5, .slice p5 n5 c5, .int .i64 e5] 46)) := (Below.refl _ _).alloc (Nat.le_refl _) _
  refine (cmpT ((N2.keep A1).more hk) (N5.keep A1) (by omega)).mono ?_
  rintro t w2 ⟨rfl, hb2⟩
  have A2 := below2 A1 hb2
  replace B2 := keep_block A2 B2
  replace N2 := N2.keep A2
  have L2 := L1.trans (A2.mono L1.size)
  clear g0 g1 g2 N5 hb1 hb2 A1 A2 L1 hv z1
  obtain ⟨g0, g1, g2, -, -, -⟩ := res_facts B2
  go_wp2_with fail
  refine (top_calls _).mono ?_
  rintro t w3 ⟨v6, rfl, N6, hb3⟩
  obtain ⟨s6, p6, n6, c6, e6, rfl, -⟩ := N6.form
  replace B2 := keep_block hb3 B2
  replace N2 := N2.keep hb3
  have L3 := L2.trans (hb3.mono L2.size)
  have Z3 : w.heap.size ≠ w3.heap.size := by have := block_lt B2; omega
  have A3 : Below w3.heap.size w3 (w3.alloc (.cells #[.int .i64 s6, .slice p6 n6 c6, .int .i64 e6] 46)) := (Below.refl _ _).alloc (Nat.le_refl _) _
  clear g0 g1 g2 hb3 L2
  go_wp2_with (go_at_call 50; refine (next_up_pos r h0 h1 _).mono ?_; rintro t w9 ⟨rfl, rfl⟩)
  refine (ofN (r + 1) (by omega) _).mono ?_
  rintro t w4 ⟨v7, rfl, ⟨s7, sl7, ds7, e7, rfl, hsl7, hnm7, hq7, hin7⟩, hb4⟩
  obtain ⟨p7, c7, rfl⟩ := hsl7.formMap
  obtain ⟨n7, hn7⟩ : ∃ n7, n7 = ds7.length := ⟨_, rfl⟩
  rw [← hn7] at hsl7 hin7 ⊢
  have B6 : w4.heap[w3.heap.size]? = some (.cells #[.int .i64 s6, .slice p6 n6 c6, .int .i64 e6] 46 (0, 0)) := keep_block hb4 (heap_alloc_new w3 _)
  have A4 := below2 A3 hb4
  have NE2 := N2.ne (Nat.le_refl _)
  replace B2 := keep_block A4 B2
  replace N2 := N2.keep A4
  have L4 := L3.trans (A4.mono L3.size)
  have hin7b : In (fun x => x ≠ w3.heap.size) (.slice p7 n7 c7) := hin7.mono fun x hx => by have : w3.heap.size + 1 ≤ x := by { simpa using hx }; omega
  have N7 : NumT w4 (.agg #[.int .i64 s7, .slice p7 n7 c7, .int .i64 e7]) 2000 (ov (r + 1)) := ⟨s7, _, ds7, e7, rfl, hsl7, hnm7, hq7, fun _ _ _ _ => trivial⟩
  obtain ⟨y0, y1, y2, y3, y4, y5⟩ := res_facts B6
  clear hsl7 hnm7 hq7 hin7 hn7
  go_wp2_with fail
  obtain ⟨W, hW⟩ : ∃ W, W = ((w4.setCell ⟨w3.heap.size, 0, none⟩ (.int .i64 s7)).setCell ⟨w3.heap.size, 1, none⟩ (.slice p7 n7 c7)).setCell ⟨w3.heap.size, 2, none⟩ (.int .i64 e7) := ⟨_, rfl⟩
  have zb : w.heap.size < w3.heap.size := by have := block_lt B2; have := L3.size; have z := B2; exact Nat.lt_of_lt_of_le (Nat.lt_of_le_of_ne L3.size Z3) (Nat.le_refl _)
  have B6w : W.heap[w3.heap.size]? = some (.cells #[.int .i64 s7, .slice p7 n7 c7, .int .i64 e7] 46 (0, 0)) := by rw [hW]; have := setCell_block (setCell_block (setCell_block B6 0 (.int .i64 s7)) 1 (.slice p7 n7 c7)) 2 (.int .i64 e7); simpa using this
  have N6w : NumT W (.agg #[.int .i64 s7, .slice p7 n7 c7, .int .i64 e7]) 2000 (ov (r + 1)) := by rw [hW]; exact ((N7.put hin7b _).put hin7b _).put hin7b _
  have N2w : NumT W (.agg #[.int .i64 s, .slice p n c, .int .i64 e]) k q := by rw [hW]; exact ((N2.put NE2 _).put NE2 _).put NE2 _
  have B2w : W.heap[w.heap.size]? = some (.cells #[.int .i64 s, .slice p n c, .int .i64 e] 46 (0, 0)) := by rw [hW, Below.heap_setCell _ _ _ _ (by simp; omega), Below.heap_setCell _ _ _ _ (by simp; omega), Below.heap_setCell _ _ _ _ (by simp; omega)]; exact B2
  have LW : Below w.heap.size w W := by rw [hW]; exact ((L4.setCell (by simp; omega) _).setCell (by simp; omega) _).setCell (by simp; omega) _
  rw [← hW]
  obtain ⟨b6, hb6⟩ : ∃ b6, b6 = w3.heap.size := ⟨_, rfl⟩
  rw [← hb6] at B6w ⊢
  clear hW hb6 B6 B2 N2 N7 N6 NE2 A4 A3 L3 L4 hin7b hb4 y0 y1 y2 y3 y4 y5 zb Z3
  refine (bot_calls _).mono ?_
  rintro t w5 ⟨v8, rfl, N8, hb5⟩
  obtain ⟨s8, p8, n8, c8, e8, rfl, -⟩ := N8.form
  replace B2 := keep_block hb5 B2w
  replace N2 := N2w.keep hb5
  replace B6 := keep_block hb5 B6w
  replace N6 := N6w.keep hb5
  have L5 := LW.trans (hb5.mono LW.size)
  have hf8 : ∀ W, (Instr.field 46 (.agg #[.int .i64 s8, .slice p8 n8 c8, .int .i64 e8]) 1).run Tryd.prog W = .ok (.slice p8 n8 c8) W := fun _ => by kernel_rfl
  clear B2w N2w B6w N6w LW hb5
  go_wp2_with fail
  refine (bot_calls _).mono ?_
  rintro t w6 ⟨v9, rfl, N9, hb6⟩
  obtain ⟨s9, p9, n9, c9, e9, rfl, -⟩ := N9.form
  replace B2 := keep_block hb6 B2
  replace N2 := N2.keep hb6
  replace B6 := keep_block hb6 B6
  replace N6 := N6.keep hb6
  replace L5 := L5.trans (hb6.mono L5.size)
  have hf9 : ∀ W, (Instr.field 46 (.agg #[.int .i64 s9, .slice p9 n9 c9, .int .i64 e9]) 2).run Tryd.prog W = .ok (.int .i64 e9) W := fun _ => by kernel_rfl
  replace N8 := N8.keep hb6
  clear hb6
  go_wp2_with (go_at_call 50; refine (next_down r (by omega) (by omega) _).mono ?_; rintro t w9 ⟨rfl, rfl⟩)
  refine (ofN (r - 1) (by omega) _).mono ?_
  rintro t w7 ⟨v10, rfl, ⟨s10, sl10, ds10, e10, rfl, hsl10, hnm10, hq10, hin10⟩, hb7⟩
  obtain ⟨p10, c10, rfl⟩ := hsl10.formMap
  obtain ⟨n10, hn10⟩ : ∃ n10, n10 = ds10.length := ⟨_, rfl⟩
  rw [← hn10] at hsl10 hin10 ⊢
  have A7 : Below w6.heap.size w6 (w6.alloc (.cells #[.int .i64 (-1), .slice p8 n8 c8, .int .i64 e9] 46)) := (Below.refl _ _).alloc (Nat.le_refl _) _
  have B7 : w7.heap[w6.heap.size]? = some (.cells #[.int .i64 (-1), .slice p8 n8 c8, .int .i64 e9] 46 (0, 0)) := keep_block hb7 (heap_alloc_new w6 _)
  have NE2 := N2.ne (Nat.le_refl _)
  have NE6 := N6.ne (Nat.le_refl _)
  have Z2 : w.heap.size < w6.heap.size := block_lt B2
  have Z6 : b6 < w6.heap.size := block_lt B6
  have A8 := below2 A7 hb7
  replace B2 := keep_block A8 B2
  replace N2 := N2.keep A8
  replace B6 := keep_block A8 B6
  replace N6 := N6.keep A8
  replace L5 := L5.trans (A8.mono L5.size)
  have hin10b : In (fun x => x ≠ w6.heap.size) (.slice p10 n10 c10) := hin10.mono fun x hx => by have : w6.heap.size + 1 ≤ x := by { simpa using hx }; omega
  have N10 : NumT w7 (.agg #[.int .i64 s10, .slice p10 n10 c10, .int .i64 e10]) 2000 (ov (r - 1)) := ⟨s10, _, ds10, e10, rfl, hsl10, hnm10, hq10, fun _ _ _ _ => trivial⟩
  obtain ⟨y0, y1, y2, y3, y4, y5⟩ := res_facts B7
  clear hsl10 hnm10 hq10 hin10 hn10 A7 A8 hb7
  go_wp2_with fail
  obtain ⟨W, hW⟩ : ∃ W, W = ((w7.setCell ⟨w6.heap.size, 0, none⟩ (.int .i64 s10)).setCell ⟨w6.heap.size, 1, none⟩ (.slice p10 n10 c10)).setCell ⟨w6.heap.size, 2, none⟩ (.int .i64 e10) := ⟨_, rfl⟩
  have B7w : W.heap[w6.heap.size]? = some (.cells #[.int .i64 s10, .slice p10 n10 c10, .int .i64 e10] 46 (0, 0)) := by rw [hW]; have := setCell_block (setCell_block (setCell_block B7 0 (.int .i64 s10)) 1 (.slice p10 n10 c10)) 2 (.int .i64 e10); simpa using this
  have N7w : NumT W (.agg #[.int .i64 s10, .slice p10 n10 c10, .int .i64 e10]) 2000 (ov (r - 1)) := by rw [hW]; exact ((N10.put hin10b _).put hin10b _).put hin10b _
  have N2w : NumT W (.agg #[.int .i64 s, .slice p n c, .int .i64 e]) k q := by rw [hW]; exact ((N2.put NE2 _).put NE2 _).put NE2 _
  have N6w : NumT W (.agg #[.int .i64 s7, .slice p7 n7 c7, .int .i64 e7]) 2000 (ov (r + 1)) := by rw [hW]; exact ((N6.put NE6 _).put NE6 _).put NE6 _
  have B2w : W.heap[w.heap.size]? = some (.cells #[.int .i64 s, .slice p n c, .int .i64 e] 46 (0, 0)) := by rw [hW, Below.heap_setCell _ _ _ _ (by simp; omega), Below.heap_setCell _ _ _ _ (by simp; omega), Below.heap_setCell _ _ _ _ (by simp; omega)]; exact B2
  have B6w : W.heap[b6]? = some (.cells #[.int .i64 s7, .slice p7 n7 c7, .int .i64 e7] 46 (0, 0)) := by rw [hW, Below.heap_setCell _ _ _ _ (by simp; omega), Below.heap_setCell _ _ _ _ (by simp; omega), Below.heap_setCell _ _ _ _ (by simp; omega)]; exact B6
  have LW : Below w.heap.size w W := by rw [hW]; exact ((L5.setCell (by simp; omega) _).setCell (by simp; omega) _).setCell (by simp; omega) _
  rw [← hW]
  obtain ⟨b7, hb7⟩ : ∃ b7, b7 = w6.heap.size := ⟨_, rfl⟩
  rw [← hb7] at B7w ⊢
  clear hW hb7 B7 B6 B2 N2 N6 N10 NE2 NE6 L5 hin10b y0 y1 y2 y3 y4 y5 Z2 Z6 N8 N9 hf8 hf9
  refine (two_calls _).mono ?_
  rintro t w8 ⟨v11, rfl, N11, hb8⟩
  obtain ⟨s12, p12, n12, c12, e12, rfl, -⟩ := N11.form
  have A9 : Below w8.heap.size w8 (w8.alloc (.cells #[.int .i64 s12, .slice p12 n12 c12, .int .i64 e12] 46)) := (Below.refl _ _).alloc (Nat.le_refl _) _
  have A8 := below2 hb8 A9
  obtain ⟨Z, hZ⟩ : ∃ Z, Z = w8.alloc (.cells #[.int .i64 s12, .slice p12 n12 c12, .int .i64 e12] 46) := ⟨_, rfl⟩
  have B8 : Z.heap[w8.heap.size]? = some (.cells #[.int .i64 s12, .slice p12 n12 c12, .int .i64 e12] 46 (0, 0)) := by rw [hZ]; exact heap_alloc_new w8 _
  have N8 : NumT Z (.agg #[.int .i64 s12, .slice p12 n12 c12, .int .i64 e12]) 100000 2 := by rw [hZ]; exact N11.keep A9
  rw [← hZ] at A8
  have B2 := keep_block A8 B2w
  have N2 := (N2w.keep A8).more hk
  have B6 := keep_block A8 B6w
  have KU : 2000 ≤ 100000 := by omega
  have KD : 2000 ≤ 100000 := by omega
  have N6 := (N6w.keep A8).more KU
  have B7 := keep_block A8 B7w
  have N7 := (N7w.keep A8).more KD
  have LZ := LW.trans (A8.mono LW.size)
  clear N11 hb8 A8 B2w N2w B6w N6w B7w N7w LW
  obtain ⟨ga_0, ga_1, ga_2, -, -, -⟩ := res_facts B2
  obtain ⟨g7_0, g7_1, g7_2, -, -, -⟩ := res_facts B6
  obtain ⟨g8_0, g8_1, g8_2, -, -, -⟩ := res_facts B8
  have h100 : 100000 ≤ 900000000 := by omega
  have h200 : 100000 + 100000 ≤ 900000000 := by omega
  have HM := Lib.hid (fun (Y : World) (h : Kp Z Y) => mulT (N8.keep h.out) (N2.keep h.out) h100 h100)
  have HO := Lib.hid (fun (Y : World) => (ofT r (by omega) Y).mono fun _ _ (h : RetT 2000 (ov r) Y _ _) => h.to (show 2000 ≤ 100000 by omega) rfl)
  have HA := Lib.hid (fun (Y : World) (h : Kp Z Y) (v : Value) (hn : NumT Y v 100000 (ov r)) => addT hn (N6.keep h.out) h100)
  have HD := Lib.hid (fun (Y : World) (h : Kp Z Y) (v : Value) (hn : NumT Y v 100000 (ov r)) => addT hn (N7.keep h.out) h100)
  have HC := Lib.hid (fun (Y : World) (v u : Value) (t : Rat) (hn : NumT Y v (100000 + 100000) (2 * q)) (hm : NumT Y u (100000 + 1) t) => cmpT hn (hm.more (show 100000 + 1 ≤ 100000 + 100000 by omega)) h200)
  obtain ⟨b8, hb8⟩ : ∃ b8, b8 = w8.heap.size := ⟨_, rfl⟩
  go_upto_region 17 with (fail)
  rw [← hZ, ← hb8]
  rw [← hb8] at B8 g8_0 g8_1 g8_2
  clear hZ hb8 A9
  go_region_held3 (fun w' => w'.cell? ⟨w.heap.size, 0, none⟩ = some (.int .i64 s) ∧ w'.cell? ⟨w.heap.size, 1, none⟩ = some (.slice p n c) ∧ w'.cell? ⟨w.heap.size, 2, none⟩ = some (.int .i64 e) ∧ w'.cell? ⟨b6, 0, none⟩ = some (.int .i64 s7) ∧ w'.cell? ⟨b6, 1, none⟩ = some (.slice p7 n7 c7) ∧ w'.cell? ⟨b6, 2, none⟩ = some (.int .i64 e7) ∧ w'.cell? ⟨b8, 0, none⟩ = some (.int .i64 s12) ∧ w'.cell? ⟨b8, 1, none⟩ = some (.slice p12 n12 c12) ∧ w'.cell? ⟨b8, 2, none⟩ = some (.int .i64 e12) ∧ Kp Z w')
    (refine ⟨?_, ?_, ?_, ?_, ?_, ?_, ?_, ?_, ?_, ?_⟩ <;> first | exact keep_cell hbD (keep_cell hbC (keep_cell hbB (keep_cell hbA ga_0))) | exact keep_cell hbD (keep_cell hbC (keep_cell hbB (keep_cell hbA ga_1))) | exact keep_cell hbD (keep_cell hbC (keep_cell hbB (keep_cell hbA ga_2))) | exact keep_cell hbD (keep_cell hbC (keep_cell hbB (keep_cell hbA g7_0))) | exact keep_cell hbD (keep_cell hbC (keep_cell hbB (keep_cell hbA g7_1))) | exact keep_cell hbD (keep_cell hbC (keep_cell hbB (keep_cell hbA g7_2))) | exact keep_cell hbD (keep_cell hbC (keep_cell hbB (keep_cell hbA g8_0))) | exact keep_cell hbD (keep_cell hbC (keep_cell hbB (keep_cell hbA g8_1))) | exact keep_cell hbD (keep_cell hbC (keep_cell hbB (keep_cell hbA g8_2))) | exact (((((Kp.refl _).drew).step hbA).step hbB).step hbC).step hbD | exact keep_cell hbC (keep_cell hbB (keep_cell hbA ga_0)) | exact keep_cell hbC (keep_cell hbB (keep_cell hbA ga_1)) | exact keep_cell hbC (keep_cell hbB (keep_cell hbA ga_2)) | exact keep_cell hbC (keep_cell hbB (keep_cell hbA g7_0)) | exact keep_cell hbC (keep_cell hbB (keep_cell hbA g7_1)) | exact keep_cell hbC (keep_cell hbB (keep_cell hbA g7_2)) | exact keep_cell hbC (keep_cell hbB (keep_cell hbA g8_0)) | exact keep_cell hbC (keep_cell hbB (keep_cell hbA g8_1)) | exact keep_cell hbC (keep_cell hbB (keep_cell hbA g8_2)) | exact ((((Kp.refl _).drew).step hbA).step hbB).step hbC | exact keep_cell hbB (keep_cell hbA ga_0) | exact keep_cell hbB (keep_cell hbA ga_1) | exact keep_cell hbB (keep_cell hbA ga_2) | exact keep_cell hbB (keep_cell hbA g7_0) | exact keep_cell hbB (keep_cell hbA g7_1) | exact keep_cell hbB (keep_cell hbA g7_2) | exact keep_cell hbB (keep_cell hbA g8_0) | exact keep_cell hbB (keep_cell hbA g8_1) | exact keep_cell hbB (keep_cell hbA g8_2) | exact (((Kp.refl _).drew).step hbA).step hbB | exact keep_cell hbA ga_0 | exact keep_cell hbA ga_1 | exact keep_cell hbA ga_2 | exact keep_cell hbA g7_0 | exact keep_cell hbA g7_1 | exact keep_cell hbA g7_2 | exact keep_cell hbA g8_0 | exact keep_cell hbA g8_1 | exact keep_cell hbA g8_2 | exact ((Kp.refl _).drew).step hbA | exact ga_0 | exact ga_1 | exact ga_2 | exact g7_0 | exact g7_1 | exact g7_2 | exact g8_0 | exact g8_1 | exact g8_2 | exact (Kp.refl _).drew)
    (first
      | (go_at_call 29; ((with_reducible refine (HM.out _ ?hq1).mono ?_); (case hq1 => exact (Kp.refl _).drew); rintro t wa ⟨va, rfl, hNA, hbA⟩))
      | (go_at_call 28; ((with_reducible refine (HO.out _).mono ?_); rintro t wb ⟨vb, rfl, hNB, hbB⟩))
      | (go_at_call 27; ((with_reducible refine (HA.out _ ?hq3 _ hNB).mono ?_); (case hq3 => exact ((Kp.refl _).drew.step hbA).step hbB); rintro t wc ⟨vc, rfl, hNC, hbC⟩))
      | (go_at_call 36; ((with_reducible refine (HC.out _ _ _ _ ((hNA.keep hbB).keep hbC) hNC).mono ?_); rintro t wd ⟨rfl, hbD⟩)))

  have AZ : Below Z.heap.size Z wd := (((((Kp.refl _).drew.step hbA).step hbB).step hbC).step hbD).out
  replace B2 := keep_block AZ B2
  replace B7 := keep_block AZ B7
  replace B8 := keep_block AZ B8
  replace N2 := N2.keep AZ
  replace N7 := N7.keep AZ
  replace N8 := N8.keep AZ
  replace LZ := LZ.trans (AZ.mono LZ.size)
  clear hbA hbB hbC hbD hNA hNB hNC HM HD HA ga_0 ga_1 ga_2 g7_0 g7_1 g7_2 g8_0 g8_1 g8_2 AZ B6 N6
  obtain ⟨Y, rfl⟩ : ∃ Y : World, Y = wd := ⟨_, rfl⟩
  obtain ⟨ga_0, ga_1, ga_2, -, -, -⟩ := res_facts B2
  obtain ⟨g10_0, g10_1, g10_2, -, -, -⟩ := res_facts B7
  obtain ⟨g8_0, g8_1, g8_2, -, -, -⟩ := res_facts B8
  have HM := Lib.hid (fun (V : World) (h : Kp Y V) => mulT (N8.keep h.out) (N2.keep h.out) h100 h100)
  have HD := Lib.hid (fun (V : World) (h : Kp Y V) (v : Value) (hn : NumT V v 100000 (ov r)) => addT hn (N7.keep h.out) h100)
  go_upto_region 18 with (fail)
  go_region_held3 (fun w' => w'.cell? ⟨w.heap.size, 0, none⟩ = some (.int .i64 s) ∧ w'.cell? ⟨w.heap.size, 1, none⟩ = some (.slice p n c) ∧ w'.cell? ⟨w.heap.size, 2, none⟩ = some (.int .i64 e) ∧ w'.cell? ⟨b7, 0, none⟩ = some (.int .i64 s10) ∧ w'.cell? ⟨b7, 1, none⟩ = some (.slice p10 n10 c10) ∧ w'.cell? ⟨b7, 2, none⟩ = some (.int .i64 e10) ∧ w'.cell? ⟨b8, 0, none⟩ = some (.int .i64 s12) ∧ w'.cell? ⟨b8, 1, none⟩ = some (.slice p12 n12 c12) ∧ w'.cell? ⟨b8, 2, none⟩ = some (.int .i64 e12) ∧ Kp Y w')
    (refine ⟨?_, ?_, ?_, ?_, ?_, ?_, ?_, ?_, ?_, ?_⟩ <;> first | exact keep_cell hcD (keep_cell hcC (keep_cell hcB (keep_cell hcA ga_0))) | exact keep_cell hcD (keep_cell hcC (keep_cell hcB (keep_cell hcA ga_1))) | exact keep_cell hcD (keep_cell hcC (keep_cell hcB (keep_cell hcA ga_2))) | exact keep_cell hcD (keep_cell hcC (keep_cell hcB (keep_cell hcA g10_0))) | exact keep_cell hcD (keep_cell hcC (keep_cell hcB (keep_cell hcA g10_1))) | exact keep_cell hcD (keep_cell hcC (keep_cell hcB (keep_cell hcA g10_2))) | exact keep_cell hcD (keep_cell hcC (keep_cell hcB (keep_cell hcA g8_0))) | exact keep_cell hcD (keep_cell hcC (keep_cell hcB (keep_cell hcA g8_1))) | exact keep_cell hcD (keep_cell hcC (keep_cell hcB (keep_cell hcA g8_2))) | exact (((((Kp.refl _).drew).step hcA).step hcB).step hcC).step hcD | exact keep_cell hcC (keep_cell hcB (keep_cell hcA ga_0)) | exact keep_cell hcC (keep_cell hcB (keep_cell hcA ga_1)) | exact keep_cell hcC (keep_cell hcB (keep_cell hcA ga_2)) | exact keep_cell hcC (keep_cell hcB (keep_cell hcA g10_0)) | exact keep_cell hcC (keep_cell hcB (keep_cell hcA g10_1)) | exact keep_cell hcC (keep_cell hcB (keep_cell hcA g10_2)) | exact keep_cell hcC (keep_cell hcB (keep_cell hcA g8_0)) | exact keep_cell hcC (keep_cell hcB (keep_cell hcA g8_1)) | exact keep_cell hcC (keep_cell hcB (keep_cell hcA g8_2)) | exact ((((Kp.refl _).drew).step hcA).step hcB).step hcC | exact keep_cell hcB (keep_cell hcA ga_0) | exact keep_cell hcB (keep_cell hcA ga_1) | exact keep_cell hcB (keep_cell hcA ga_2) | exact keep_cell hcB (keep_cell hcA g10_0) | exact keep_cell hcB (keep_cell hcA g10_1) | exact keep_cell hcB (keep_cell hcA g10_2) | exact keep_cell hcB (keep_cell hcA g8_0) | exact keep_cell hcB (keep_cell hcA g8_1) | exact keep_cell hcB (keep_cell hcA g8_2) | exact (((Kp.refl _).drew).step hcA).step hcB | exact keep_cell hcA ga_0 | exact keep_cell hcA ga_1 | exact keep_cell hcA ga_2 | exact keep_cell hcA g10_0 | exact keep_cell hcA g10_1 | exact keep_cell hcA g10_2 | exact keep_cell hcA g8_0 | exact keep_cell hcA g8_1 | exact keep_cell hcA g8_2 | exact ((Kp.refl _).drew).step hcA | exact ga_0 | exact ga_1 | exact ga_2 | exact g10_0 | exact g10_1 | exact g10_2 | exact g8_0 | exact g8_1 | exact g8_2 | exact (Kp.refl _).drew)
    (first
      | (go_at_call 29; ((with_reducible refine (HM.out _ ?hq1).mono ?_); (case hq1 => exact (Kp.refl _).drew); rintro t wa ⟨va, rfl, hNA, hcA⟩))
      | (go_at_call 28; ((with_reducible refine (HO.out _).mono ?_); rintro t wb ⟨vb, rfl, hNB, hcB⟩))
      | (go_at_call 27; ((with_reducible refine (HD.out _ ?hq3 _ hNB).mono ?_); (case hq3 => exact ((Kp.refl _).drew.step hcA).step hcB); rintro t wc ⟨vc, rfl, hNC, hcC⟩))
      | (go_at_call 36; ((with_reducible refine (HC.out _ _ _ _ ((hNA.keep hcB).keep hcC) hNC).mono ?_); rintro t wd ⟨rfl, hcD⟩)))

  have LF := LZ.trans ((((((Kp.refl _).drew.step hcA).step hcB).step hcC).step hcD).out.mono LZ.size)
  clear hcA hcB hcC hcD hNA hNB hNC HM HD HC HO ga_0 ga_1 ga_2 g10_0 g10_1 g10_2 g8_0 g8_1 g8_2 B2 B7 B8 N2 N7 N8 LZ
  have hA := HA0.out
  have hB := HB0.out
  clear HA0 HB0
  generalize rs (2 * q - (ov r + (ov (r + 1)))) = cA at hA ⊢
  generalize rs (2 * q - (ov r + (ov (r - 1)))) = cB at hB ⊢
  have ev : r % 2 = 0 → (r : Int) % 2 = 0 := fun h => by omega
  rcases hA with hA | ⟨rfl, he⟩ <;> rcases hB with hB | ⟨rfl, he2⟩
  · clear ev
    go_wp2_with fail
    go_ret
    exact ⟨by simp_all, LF⟩
  · have e1 := ev he2
    clear ev he2
    go_wp2_with fail
    go_ret
    exact ⟨by simp_all, LF⟩
  · have e1 := ev he
    clear ev he
    go_wp2_with fail
    go_ret
    exact ⟨by simp_all, LF⟩
  · have e1 := ev he
    clear ev he he2
    go_wp2_with fail
    go_ret
    exact ⟨by simp_all, LF⟩
set_option maxRecDepth 100000 in
set_option maxHeartbeats 2000000 in
theorem rounds_max (r : Nat) (hrm : r = 9218868437227405311) {v : Value} {k : Nat} {q : Rat} (w : World) (hv : NumT w v k q) (hk : k ≤ 100000) (hq : 0 ≤ q) (hR : RndQ q r) :
    Calls Tryd.prog 26 #[v, .float .f64 r] w fun e w' => e = .returned (.bool true) ∧ Below w.heap.size w w' := by
  have hi := inf_eq
  obtain ⟨s, p, n, c, e, rfl, hs⟩ := hv.form
  have s0 : 0 ≤ s := by rw [hs]; unfold rs; rw [if_neg (by grind)]; split <;> decide
  have hl : r < inf := by omega
  obtain ⟨t1, t2, t3⟩ := rnd_tests hq hR hl
  have lt : rs (q - gq) < 0 := rs_lt.2 t1
  have hr : rung r = r := rung_small (by omega)
  have hf : rung r < inf := by omega
  have eo : ov r = (mag r : Rat) * uu := ov_rung hl
  have o1 := order_self (x := r) (by omega)
  have o2 := some_of (fsub_self hf)
  have o3 : fsub r r = 0 := by unfold fsub; rw [fsub_self hf]; rfl
  have o4 : FloatKind.f64.format.order 0 0 = some .eq := rfl
  have o5 : FloatKind.f64.format.order r 0 = some .gt := ord_of' hf (by decide) (by have e0 : fv 0 = 0 := by { decide }; rw [e0, fv_pos (sgn_small (by omega)), hr]; have := mag_lt (r := 0) (s := r) (by omega); omega)
  have ed : ov (r - 1) = dnq r := by unfold dnq; rw [if_neg (by omega)]; exact ov_rung (by omega)
  have k1 := fun (x : Nat) (w : World) => callBits x w
  have em : r + 1 = inf := by omega
  rw [em] at t2
  have HNX : Hid (∀ w, Calls Tryd.prog 50 #[.float .f64 r, .float .f64 9218868437227405311] w fun e w' => e = .returned (.float .f64 r) ∧ w = w') := fun w => by rw [hrm]; exact next_up_max w
  obtain ⟨tp, htp⟩ : ∃ tp, tp = (mag inf : Rat) * uu := ⟨_, rfl⟩
  have HTOP : Hid (∀ w, Calls Tryd.prog 32 #[.int .u64 1, .int .i64 1024] w (RetT 100000 tp w)) := fun w => by rw [htp]; exact top_calls w
  rw [← htp] at t2
  clear htp
  have HA0 : Hid (rs (2 * q - (ov r + tp)) < 0 ∨ (rs (2 * q - (ov r + tp)) = 0 ∧ r % 2 = 0)) := by rw [eo]; exact t2
  have HB0 : Hid (0 < rs (2 * q - (ov r + ov (r - 1))) ∨ (rs (2 * q - (ov r + ov (r - 1))) = 0 ∧ r % 2 = 0)) := by rw [eo, ed]; exact t3
  clear t1 t2 t3 hR eo ed em
  have HQ := Lib.hid hq
  clear hq hs
  have h0 : 0 < r := by omega
  clear hrm
  go_enter Tryd.func26, Tryd.ntmps26
  go_wp2_with fail
  refine (great_calls _).mono ?_
  rintro t w1 ⟨v5, rfl, N5, hb1⟩
  obtain ⟨s5, p5, n5, c5, e5, rfl, -⟩ := N5.form
  have B2 : w1.heap[w.heap.size]? = some (.cells #[.int .i64 s, .slice p n c, .int .i64 e] 46 (0, 0)) := keep_block hb1 (heap_alloc_new w _)
  have N2 := (hv.keep ((Below.refl w.heap.size w).alloc (Nat.le_refl _) (.cells #[.int .i64 s, .slice p n c, .int .i64 e] 46))).keep hb1
  have L1 : Below w.heap.size w w1 := ((Below.refl w.heap.size w).alloc (Nat.le_refl _) (.cells #[.int .i64 s, .slice p n c, .int .i64 e] 46)).trans (hb1.mono (by simp))
  obtain ⟨g0, g1, g2, -, -, -⟩ := res_facts B2
  have z1 := block_lt B2
  go_wp2_with fail
  have A1 : Below w1.heap.size w1 (w1.alloc (.cells #[.int .i64 s5, .slice p5 n5 c5, .int .i64 e5] 46)) := (Below.refl _ _).alloc (Nat.le_refl _) _
  refine (cmpT ((N2.keep A1).more hk) (N5.keep A1) (by omega)).mono ?_
  rintro t w2 ⟨rfl, hb2⟩
  have A2 := below2 A1 hb2
  replace B2 := keep_block A2 B2
  replace N2 := N2.keep A2
  have L2 := L1.trans (A2.mono L1.size)
  clear g0 g1 g2 N5 hb1 hb2 A1 A2 L1 hv z1
  obtain ⟨g0, g1, g2, -, -, -⟩ := res_facts B2
  go_wp2_with fail
  refine (HTOP.out _).mono ?_
  rintro t w3 ⟨v6, rfl, N6, hb3⟩
  obtain ⟨s7, p7, n7, c7, e7, rfl, -⟩ := N6.form
  replace B2 := keep_block hb3 B2
  replace N2 := N2.keep hb3
  have L3 := L2.trans (hb3.mono L2.size)
  have Z3 : w.heap.size ≠ w3.heap.size := by have := block_lt B2; omega
  have A3 : Below w3.heap.size w3 (w3.alloc (.cells #[.int .i64 s7, .slice p7 n7 c7, .int .i64 e7] 46)) := (Below.refl _ _).alloc (Nat.le_refl _) _
  clear g0 g1 g2 hb3 L2
  go_wp2_with (go_at_call 50; refine (HNX.out _).mono ?_; rintro t w9 ⟨rfl, rfl⟩)
  obtain ⟨W, hW⟩ : ∃ W, W = w3.alloc (.cells #[.int .i64 s7, .slice p7 n7 c7, .int .i64 e7] 46) := ⟨_, rfl⟩
  have B6w : W.heap[w3.heap.size]? = some (.cells #[.int .i64 s7, .slice p7 n7 c7, .int .i64 e7] 46 (0, 0)) := by rw [hW]; exact heap_alloc_new w3 _
  rw [← hW] at A3
  have N6w := N6.keep A3
  have N2w := N2.keep A3
  have B2w := keep_block A3 B2
  have LW := L3.trans (A3.mono L3.size)
  rw [← hW]
  obtain ⟨b6, hb6⟩ : ∃ b6, b6 = w3.heap.size := ⟨_, rfl⟩
  rw [← hb6] at B6w ⊢
  clear hW hb6 B2 N2 N6 A3 L3 Z3
  refine (bot_calls _).mono ?_
  rintro t w5 ⟨v8, rfl, N8, hb5⟩
  obtain ⟨s8, p8, n8, c8, e8, rfl, -⟩ := N8.form
  replace B2 := keep_block hb5 B2w
  replace N2 := N2w.keep hb5
  replace B6 := keep_block hb5 B6w
  replace N6 := N6w.keep hb5
  have L5 := LW.trans (hb5.mono LW.size)
  have hf8 : ∀ W, (Instr.field 46 (.agg #[.int .i64 s8, .slice p8 n8 c8, .int .i64 e8]) 1).run Tryd.prog W = .ok (.slice p8 n8 c8) W := fun _ => by kernel_rfl
  clear B2w N2w B6w N6w LW hb5
  go_wp2_with fail
  refine (bot_calls _).mono ?_
  rintro t w6 ⟨v9, rfl, N9, hb6⟩
  obtain ⟨s9, p9, n9, c9, e9, rfl, -⟩ := N9.form
  replace B2 := keep_block hb6 B2
  replace N2 := N2.keep hb6
  replace B6 := keep_block hb6 B6
  replace N6 := N6.keep hb6
  replace L5 := L5.trans (hb6.mono L5.size)
  have hf9 : ∀ W, (Instr.field 46 (.agg #[.int .i64 s9, .slice p9 n9 c9, .int .i64 e9]) 2).run Tryd.prog W = .ok (.int .i64 e9) W := fun _ => by kernel_rfl
  replace N8 := N8.keep hb6
  clear hb6
  go_wp2_with (go_at_call 50; refine (next_down r (by omega) (by omega) _).mono ?_; rintro t w9 ⟨rfl, rfl⟩)
  refine (ofN (r - 1) (by omega) _).mono ?_
  rintro t w7 ⟨v10, rfl, ⟨s10, sl10, ds10, e10, rfl, hsl10, hnm10, hq10, hin10⟩, hb7⟩
  obtain ⟨p10, c10, rfl⟩ := hsl10.formMap
  obtain ⟨n10, hn10⟩ : ∃ n10, n10 = ds10.length := ⟨_, rfl⟩
  rw [← hn10] at hsl10 hin10 ⊢
  have A7 : Below w6.heap.size w6 (w6.alloc (.cells #[.int .i64 (-1), .slice p8 n8 c8, .int .i64 e9] 46)) := (Below.refl _ _).alloc (Nat.le_refl _) _
  have B7 : w7.heap[w6.heap.size]? = some (.cells #[.int .i64 (-1), .slice p8 n8 c8, .int .i64 e9] 46 (0, 0)) := keep_block hb7 (heap_alloc_new w6 _)
  have NE2 := N2.ne (Nat.le_refl _)
  have NE6 := N6.ne (Nat.le_refl _)
  have Z2 : w.heap.size < w6.heap.size := block_lt B2
  have Z6 : b6 < w6.heap.size := block_lt B6
  have A8 := below2 A7 hb7
  replace B2 := keep_block A8 B2
  replace N2 := N2.keep A8
  replace B6 := keep_block A8 B6
  replace N6 := N6.keep A8
  replace L5 := L5.trans (A8.mono L5.size)
  have hin10b : In (fun x => x ≠ w6.heap.size) (.slice p10 n10 c10) := hin10.mono fun x hx => by have : w6.heap.size + 1 ≤ x := by { simpa using hx }; omega
  have N10 : NumT w7 (.agg #[.int .i64 s10, .slice p10 n10 c10, .int .i64 e10]) 2000 (ov (r - 1)) := ⟨s10, _, ds10, e10, rfl, hsl10, hnm10, hq10, fun _ _ _ _ => trivial⟩
  obtain ⟨y0, y1, y2, y3, y4, y5⟩ := res_facts B7
  clear hsl10 hnm10 hq10 hin10 hn10 A7 A8 hb7
  go_wp2_with fail
  obtain ⟨W, hW⟩ : ∃ W, W = ((w7.setCell ⟨w6.heap.size, 0, none⟩ (.int .i64 s10)).setCell ⟨w6.heap.size, 1, none⟩ (.slice p10 n10 c10)).setCell ⟨w6.heap.size, 2, none⟩ (.int .i64 e10) := ⟨_, rfl⟩
  have B7w : W.heap[w6.heap.size]? = some (.cells #[.int .i64 s10, .slice p10 n10 c10, .int .i64 e10] 46 (0, 0)) := by rw [hW]; have := setCell_block (setCell_block (setCell_block B7 0 (.int .i64 s10)) 1 (.slice p10 n10 c10)) 2 (.int .i64 e10); simpa using this
  have N7w : NumT W (.agg #[.int .i64 s10, .slice p10 n10 c10, .int .i64 e10]) 2000 (ov (r - 1)) := by rw [hW]; exact ((N10.put hin10b _).put hin10b _).put hin10b _
  have N2w : NumT W (.agg #[.int .i64 s, .slice p n c, .int .i64 e]) k q := by rw [hW]; exact ((N2.put NE2 _).put NE2 _).put NE2 _
  have N6w : NumT W (.agg #[.int .i64 s7, .slice p7 n7 c7, .int .i64 e7]) 100000 tp := by rw [hW]; exact ((N6.put NE6 _).put NE6 _).put NE6 _
  have B2w : W.heap[w.heap.size]? = some (.cells #[.int .i64 s, .slice p n c, .int .i64 e] 46 (0, 0)) := by rw [hW, Below.heap_setCell _ _ _ _ (by simp; omega), Below.heap_setCell _ _ _ _ (by simp; omega), Below.heap_setCell _ _ _ _ (by simp; omega)]; exact B2
  have B6w : W.heap[b6]? = some (.cells #[.int .i64 s7, .slice p7 n7 c7, .int .i64 e7] 46 (0, 0)) := by rw [hW, Below.heap_setCell _ _ _ _ (by simp; omega), Below.heap_setCell _ _ _ _ (by simp; omega), Below.heap_setCell _ _ _ _ (by simp; omega)]; exact B6
  have LW : Below w.heap.size w W := by rw [hW]; exact ((L5.setCell (by simp; omega) _).setCell (by simp; omega) _).setCell (by simp; omega) _
  rw [← hW]
  obtain ⟨b7, hb7⟩ : ∃ b7, b7 = w6.heap.size := ⟨_, rfl⟩
  rw [← hb7] at B7w ⊢
  clear hW hb7 B7 B6 B2 N2 N6 N10 NE2 NE6 L5 hin10b y0 y1 y2 y3 y4 y5 Z2 Z6 N8 N9 hf8 hf9
  refine (two_calls _).mono ?_
  rintro t w8 ⟨v11, rfl, N11, hb8⟩
  obtain ⟨s12, p12, n12, c12, e12, rfl, -⟩ := N11.form
  have A9 : Below w8.heap.size w8 (w8.alloc (.cells #[.int .i64 s12, .slice p12 n12 c12, .int .i64 e12] 46)) := (Below.refl _ _).alloc (Nat.le_refl _) _
  have A8 := below2 hb8 A9
  obtain ⟨Z, hZ⟩ : ∃ Z, Z = w8.alloc (.cells #[.int .i64 s12, .slice p12 n12 c12, .int .i64 e12] 46) := ⟨_, rfl⟩
  have B8 : Z.heap[w8.heap.size]? = some (.cells #[.int .i64 s12, .slice p12 n12 c12, .int .i64 e12] 46 (0, 0)) := by rw [hZ]; exact heap_alloc_new w8 _
  have N8 : NumT Z (.agg #[.int .i64 s12, .slice p12 n12 c12, .int .i64 e12]) 100000 2 := by rw [hZ]; exact N11.keep A9
  rw [← hZ] at A8
  have B2 := keep_block A8 B2w
  have N2 := (N2w.keep A8).more hk
  have B6 := keep_block A8 B6w
  have KU : 100000 ≤ 100000 := by omega
  have KD : 2000 ≤ 100000 := by omega
  have N6 := (N6w.keep A8).more KU
  have B7 := keep_block A8 B7w
  have N7 := (N7w.keep A8).more KD
  have LZ := LW.trans (A8.mono LW.size)
  clear N11 hb8 A8 B2w N2w B6w N6w B7w N7w LW
  obtain ⟨ga_0, ga_1, ga_2, -, -, -⟩ := res_facts B2
  obtain ⟨g7_0, g7_1, g7_2, -, -, -⟩ := res_facts B6
  obtain ⟨g8_0, g8_1, g8_2, -, -, -⟩ := res_facts B8
  have h100 : 100000 ≤ 900000000 := by omega
  have h200 : 100000 + 100000 ≤ 900000000 := by omega
  have HM := Lib.hid (fun (Y : World) (h : Kp Z Y) => mulT (N8.keep h.out) (N2.keep h.out) h100 h100)
  have HO := Lib.hid (fun (Y : World) => (ofT r (by omega) Y).mono fun _ _ (h : RetT 2000 (ov r) Y _ _) => h.to (show 2000 ≤ 100000 by omega) rfl)
  have HA := Lib.hid (fun (Y : World) (h : Kp Z Y) (v : Value) (hn : NumT Y v 100000 (ov r)) => addT hn (N6.keep h.out) h100)
  have HD := Lib.hid (fun (Y : World) (h : Kp Z Y) (v : Value) (hn : NumT Y v 100000 (ov r)) => addT hn (N7.keep h.out) h100)
  have HC := Lib.hid (fun (Y : World) (v u : Value) (t : Rat) (hn : NumT Y v (100000 + 100000) (2 * q)) (hm : NumT Y u (100000 + 1) t) => cmpT hn (hm.more (show 100000 + 1 ≤ 100000 + 100000 by omega)) h200)
  obtain ⟨b8, hb8⟩ : ∃ b8, b8 = w8.heap.size := ⟨_, rfl⟩
  go_upto_region 17 with (fail)
  rw [← hZ, ← hb8]
  rw [← hb8] at B8 g8_0 g8_1 g8_2
  clear hZ hb8 A9
  go_region_held3 (fun w' => w'.cell? ⟨w.heap.size, 0, none⟩ = some (.int .i64 s) ∧ w'.cell? ⟨w.heap.size, 1, none⟩ = some (.slice p n c) ∧ w'.cell? ⟨w.heap.size, 2, none⟩ = some (.int .i64 e) ∧ w'.cell? ⟨b6, 0, none⟩ = some (.int .i64 s7) ∧ w'.cell? ⟨b6, 1, none⟩ = some (.slice p7 n7 c7) ∧ w'.cell? ⟨b6, 2, none⟩ = some (.int .i64 e7) ∧ w'.cell? ⟨b8, 0, none⟩ = some (.int .i64 s12) ∧ w'.cell? ⟨b8, 1, none⟩ = some (.slice p12 n12 c12) ∧ w'.cell? ⟨b8, 2, none⟩ = some (.int .i64 e12) ∧ Kp Z w')
    (refine ⟨?_, ?_, ?_, ?_, ?_, ?_, ?_, ?_, ?_, ?_⟩ <;> first | exact keep_cell hbD (keep_cell hbC (keep_cell hbB (keep_cell hbA ga_0))) | exact keep_cell hbD (keep_cell hbC (keep_cell hbB (keep_cell hbA ga_1))) | exact keep_cell hbD (keep_cell hbC (keep_cell hbB (keep_cell hbA ga_2))) | exact keep_cell hbD (keep_cell hbC (keep_cell hbB (keep_cell hbA g7_0))) | exact keep_cell hbD (keep_cell hbC (keep_cell hbB (keep_cell hbA g7_1))) | exact keep_cell hbD (keep_cell hbC (keep_cell hbB (keep_cell hbA g7_2))) | exact keep_cell hbD (keep_cell hbC (keep_cell hbB (keep_cell hbA g8_0))) | exact keep_cell hbD (keep_cell hbC (keep_cell hbB (keep_cell hbA g8_1))) | exact keep_cell hbD (keep_cell hbC (keep_cell hbB (keep_cell hbA g8_2))) | exact (((((Kp.refl _).drew).step hbA).step hbB).step hbC).step hbD | exact keep_cell hbC (keep_cell hbB (keep_cell hbA ga_0)) | exact keep_cell hbC (keep_cell hbB (keep_cell hbA ga_1)) | exact keep_cell hbC (keep_cell hbB (keep_cell hbA ga_2)) | exact keep_cell hbC (keep_cell hbB (keep_cell hbA g7_0)) | exact keep_cell hbC (keep_cell hbB (keep_cell hbA g7_1)) | exact keep_cell hbC (keep_cell hbB (keep_cell hbA g7_2)) | exact keep_cell hbC (keep_cell hbB (keep_cell hbA g8_0)) | exact keep_cell hbC (keep_cell hbB (keep_cell hbA g8_1)) | exact keep_cell hbC (keep_cell hbB (keep_cell hbA g8_2)) | exact ((((Kp.refl _).drew).step hbA).step hbB).step hbC | exact keep_cell hbB (keep_cell hbA ga_0) | exact keep_cell hbB (keep_cell hbA ga_1) | exact keep_cell hbB (keep_cell hbA ga_2) | exact keep_cell hbB (keep_cell hbA g7_0) | exact keep_cell hbB (keep_cell hbA g7_1) | exact keep_cell hbB (keep_cell hbA g7_2) | exact keep_cell hbB (keep_cell hbA g8_0) | exact keep_cell hbB (keep_cell hbA g8_1) | exact keep_cell hbB (keep_cell hbA g8_2) | exact (((Kp.refl _).drew).step hbA).step hbB | exact keep_cell hbA ga_0 | exact keep_cell hbA ga_1 | exact keep_cell hbA ga_2 | exact keep_cell hbA g7_0 | exact keep_cell hbA g7_1 | exact keep_cell hbA g7_2 | exact keep_cell hbA g8_0 | exact keep_cell hbA g8_1 | exact keep_cell hbA g8_2 | exact ((Kp.refl _).drew).step hbA | exact ga_0 | exact ga_1 | exact ga_2 | exact g7_0 | exact g7_1 | exact g7_2 | exact g8_0 | exact g8_1 | exact g8_2 | exact (Kp.refl _).drew)
    (first
      | (go_at_call 29; ((with_reducible refine (HM.out _ ?hq1).mono ?_); (case hq1 => exact (Kp.refl _).drew); rintro t wa ⟨va, rfl, hNA, hbA⟩))
      | (go_at_call 28; ((with_reducible refine (HO.out _).mono ?_); rintro t wb ⟨vb, rfl, hNB, hbB⟩))
      | (go_at_call 27; ((with_reducible refine (HA.out _ ?hq3 _ hNB).mono ?_); (case hq3 => exact ((Kp.refl _).drew.step hbA).step hbB); rintro t wc ⟨vc, rfl, hNC, hbC⟩))
      | (go_at_call 36; ((with_reducible refine (HC.out _ _ _ _ ((hNA.keep hbB).keep hbC) hNC).mono ?_); rintro t wd ⟨rfl, hbD⟩)))

  have AZ : Below Z.heap.size Z wd := (((((Kp.refl _).drew.step hbA).step hbB).step hbC).step hbD).out
  replace B2 := keep_block AZ B2
  replace B7 := keep_block AZ B7
  replace B8 := keep_block AZ B8
  replace N2 := N2.keep AZ
  replace N7 := N7.keep AZ
  replace N8 := N8.keep AZ
  replace LZ := LZ.trans (AZ.mono LZ.size)
  clear hbA hbB hbC hbD hNA hNB hNC HM HD HA ga_0 ga_1 ga_2 g7_0 g7_1 g7_2 g8_0 g8_1 g8_2 AZ B6 N6
  obtain ⟨Y, rfl⟩ : ∃ Y : World, Y = wd := ⟨_, rfl⟩
  obtain ⟨ga_0, ga_1, ga_2, -, -, -⟩ := res_facts B2
  obtain ⟨g10_0, g10_1, g10_2, -, -, -⟩ := res_facts B7
  obtain ⟨g8_0, g8_1, g8_2, -, -, -⟩ := res_facts B8
  have HM := Lib.hid (fun (V : World) (h : Kp Y V) => mulT (N8.keep h.out) (N2.keep h.out) h100 h100)
  have HD := Lib.hid (fun (V : World) (h : Kp Y V) (v : Value) (hn : NumT V v 100000 (ov r)) => addT hn (N7.keep h.out) h100)
  go_upto_region 18 with (fail)
  go_region_held3 (fun w' => w'.cell? ⟨w.heap.size, 0, none⟩ = some (.int .i64 s) ∧ w'.cell? ⟨w.heap.size, 1, none⟩ = some (.slice p n c) ∧ w'.cell? ⟨w.heap.size, 2, none⟩ = some (.int .i64 e) ∧ w'.cell? ⟨b7, 0, none⟩ = some (.int .i64 s10) ∧ w'.cell? ⟨b7, 1, none⟩ = some (.slice p10 n10 c10) ∧ w'.cell? ⟨b7, 2, none⟩ = some (.int .i64 e10) ∧ w'.cell? ⟨b8, 0, none⟩ = some (.int .i64 s12) ∧ w'.cell? ⟨b8, 1, none⟩ = some (.slice p12 n12 c12) ∧ w'.cell? ⟨b8, 2, none⟩ = some (.int .i64 e12) ∧ Kp Y w')
    (refine ⟨?_, ?_, ?_, ?_, ?_, ?_, ?_, ?_, ?_, ?_⟩ <;> first | exact keep_cell hcD (keep_cell hcC (keep_cell hcB (keep_cell hcA ga_0))) | exact keep_cell hcD (keep_cell hcC (keep_cell hcB (keep_cell hcA ga_1))) | exact keep_cell hcD (keep_cell hcC (keep_cell hcB (keep_cell hcA ga_2))) | exact keep_cell hcD (keep_cell hcC (keep_cell hcB (keep_cell hcA g10_0))) | exact keep_cell hcD (keep_cell hcC (keep_cell hcB (keep_cell hcA g10_1))) | exact keep_cell hcD (keep_cell hcC (keep_cell hcB (keep_cell hcA g10_2))) | exact keep_cell hcD (keep_cell hcC (keep_cell hcB (keep_cell hcA g8_0))) | exact keep_cell hcD (keep_cell hcC (keep_cell hcB (keep_cell hcA g8_1))) | exact keep_cell hcD (keep_cell hcC (keep_cell hcB (keep_cell hcA g8_2))) | exact (((((Kp.refl _).drew).step hcA).step hcB).step hcC).step hcD | exact keep_cell hcC (keep_cell hcB (keep_cell hcA ga_0)) | exact keep_cell hcC (keep_cell hcB (keep_cell hcA ga_1)) | exact keep_cell hcC (keep_cell hcB (keep_cell hcA ga_2)) | exact keep_cell hcC (keep_cell hcB (keep_cell hcA g10_0)) | exact keep_cell hcC (keep_cell hcB (keep_cell hcA g10_1)) | exact keep_cell hcC (keep_cell hcB (keep_cell hcA g10_2)) | exact keep_cell hcC (keep_cell hcB (keep_cell hcA g8_0)) | exact keep_cell hcC (keep_cell hcB (keep_cell hcA g8_1)) | exact keep_cell hcC (keep_cell hcB (keep_cell hcA g8_2)) | exact ((((Kp.refl _).drew).step hcA).step hcB).step hcC | exact keep_cell hcB (keep_cell hcA ga_0) | exact keep_cell hcB (keep_cell hcA ga_1) | exact keep_cell hcB (keep_cell hcA ga_2) | exact keep_cell hcB (keep_cell hcA g10_0) | exact keep_cell hcB (keep_cell hcA g10_1) | exact keep_cell hcB (keep_cell hcA g10_2) | exact keep_cell hcB (keep_cell hcA g8_0) | exact keep_cell hcB (keep_cell hcA g8_1) | exact keep_cell hcB (keep_cell hcA g8_2) | exact (((Kp.refl _).drew).step hcA).step hcB | exact keep_cell hcA ga_0 | exact keep_cell hcA ga_1 | exact keep_cell hcA ga_2 | exact keep_cell hcA g10_0 | exact keep_cell hcA g10_1 | exact keep_cell hcA g10_2 | exact keep_cell hcA g8_0 | exact keep_cell hcA g8_1 | exact keep_cell hcA g8_2 | exact ((Kp.refl _).drew).step hcA | exact ga_0 | exact ga_1 | exact ga_2 | exact g10_0 | exact g10_1 | exact g10_2 | exact g8_0 | exact g8_1 | exact g8_2 | exact (Kp.refl _).drew)
    (first
      | (go_at_call 29; ((with_reducible refine (HM.out _ ?hq1).mono ?_); (case hq1 => exact (Kp.refl _).drew); rintro t wa ⟨va, rfl, hNA, hcA⟩))
      | (go_at_call 28; ((with_reducible refine (HO.out _).mono ?_); rintro t wb ⟨vb, rfl, hNB, hcB⟩))
      | (go_at_call 27; ((with_reducible refine (HD.out _ ?hq3 _ hNB).mono ?_); (case hq3 => exact ((Kp.refl _).drew.step hcA).step hcB); rintro t wc ⟨vc, rfl, hNC, hcC⟩))
      | (go_at_call 36; ((with_reducible refine (HC.out _ _ _ _ ((hNA.keep hcB).keep hcC) hNC).mono ?_); rintro t wd ⟨rfl, hcD⟩)))

  have LF := LZ.trans ((((((Kp.refl _).drew.step hcA).step hcB).step hcC).step hcD).out.mono LZ.size)
  clear hcA hcB hcC hcD hNA hNB hNC HM HD HC HO ga_0 ga_1 ga_2 g10_0 g10_1 g10_2 g8_0 g8_1 g8_2 B2 B7 B8 N2 N7 N8 LZ
  have hA := HA0.out
  have hB := HB0.out
  clear HA0 HB0
  generalize rs (2 * q - (ov r + tp)) = cA at hA ⊢
  generalize rs (2 * q - (ov r + (ov (r - 1)))) = cB at hB ⊢
  have ev : r % 2 = 0 → (r : Int) % 2 = 0 := fun h => by omega
  rcases hA with hA | ⟨rfl, he⟩ <;> rcases hB with hB | ⟨rfl, he2⟩
  · clear ev
    go_wp2_with fail
    go_ret
    exact ⟨by simp_all, LF⟩
  · have e1 := ev he2
    clear ev he2
    go_wp2_with fail
    go_ret
    exact ⟨by simp_all, LF⟩
  · have e1 := ev he
    clear ev he
    go_wp2_with fail
    go_ret
    exact ⟨by simp_all, LF⟩
  · have e1 := ev he
    clear ev he he2
    go_wp2_with fail
    go_ret
    exact ⟨by simp_all, LF⟩
set_option maxRecDepth 100000 in
set_option maxHeartbeats 2000000 in
theorem rounds_zero (x : Nat) (hx : x < 18446744073709551616) (hz : rung x = 0) {v : Value} {k : Nat} {q : Rat} (w : World) (hv : NumT w v k q) (hk : k ≤ 100000) (hq : 0 ≤ q) (hR : RndQ q (rung x)) :
    Calls Tryd.prog 26 #[v, .float .f64 x] w fun e w' => e = .returned (.bool true) ∧ Below w.heap.size w w' := by
  have hi := inf_eq
  obtain ⟨s, p, n, c, e, rfl, hs⟩ := hv.form
  have s0 : 0 ≤ s := by rw [hs]; unfold rs; rw [if_neg (by grind)]; split <;> decide
  have hl : (rung x) < inf := by omega
  obtain ⟨t1, t2, t3⟩ := rnd_tests hq hR hl
  have lt : rs (q - gq) < 0 := rs_lt.2 t1
  have hf : rung x < inf := hl
  have eo : ov x = (mag (rung x) : Rat) * uu := ov_pos hl (Or.inl hz)
  have hev : (x : Int) % 2 = ((rung x % 2 : Nat) : Int) := by unfold rung; omega
  have o1 := order_self (x := x) (by omega)
  have o2 := some_of (fsub_self hf)
  have o3 : fsub x x = 0 := by unfold fsub; rw [fsub_self hf]; rfl
  have o4 : FloatKind.f64.format.order 0 0 = some .eq := rfl
  have o5 : FloatKind.f64.format.order x 0 = some .eq := by have := eq_zero x; rw [decide_eq_true hz] at this; exact eq_of_beq this
  have o6 : FloatKind.f64.format.order 1 x = some .gt := ord_of' (by decide) hl (by rw [fv_zero_of hz]; decide)
  have eu : ov 1 = (mag (rung x + 1) : Rat) * uu := by rw [hz]; exact ov_rung (by omega)
  have k1 := fun (x : Nat) (w : World) => callBits x w
  have HA0 : Hid (rs (2 * q - (ov x + ov 1)) < 0 ∨ (rs (2 * q - (ov x + ov 1)) = 0 ∧ (rung x) % 2 = 0)) := by rw [eo, eu]; exact t2
  have EZ : Hid (ov x = 0) := by show ov x = 0; rw [eo, hz, mag_zero]; simp
  clear t1 t2 t3 hR eo eu
  have HQ := Lib.hid hq
  clear hq hs
  go_enter Tryd.func26, Tryd.ntmps26
  go_wp2_with fail
  refine (great_calls _).mono ?_
  rintro t w1 ⟨v5, rfl, N5, hb1⟩
  obtain ⟨s5, p5, n5, c5, e5, rfl, -⟩ := N5.form
  have B2 : w1.heap[w.heap.size]? = some (.cells #[.int .i64 s, .slice p n c, .int .i64 e] 46 (0, 0)) := keep_block hb1 (heap_alloc_new w _)
  have N2 := (hv.keep ((Below.refl w.heap.size w).alloc (Nat.le_refl _) (.cells #[.int .i64 s, .slice p n c, .int .i64 e] 46))).keep hb1
  have L1 : Below w.heap.size w w1 := ((Below.refl w.heap.size w).alloc (Nat.le_refl _) (.cells #[.int .i64 s, .slice p n c, .int .i64 e] 46)).trans (hb1.mono (by simp))
  obtain ⟨g0, g1, g2, -, -, -⟩ := res_facts B2
  have z1 := block_lt B2
  go_wp2_with fail
  have A1 : Below w1.heap.size w1 (w1.alloc (.cells #[.int .i64 s5, .slice p5 n5 c5, .int .i64 e5] 46)) := (Below.refl _ _).alloc (Nat.le_refl _) _
  refine (cmpT ((N2.keep A1).more hk) (N5.keep A1) (by omega)).mono ?_
  rintro t w2 ⟨rfl, hb2⟩
  have A2 := below2 A1 hb2
  replace B2 := keep_block A2 B2
  replace N2 := N2.keep A2
  have L2 := L1.trans (A2.mono L1.size)
  clear g0 g1 g2 N5 hb1 hb2 A1 A2 L1 hv z1
  obtain ⟨g0, g1, g2, -, -, -⟩ := res_facts B2
  go_wp2_with fail
  refine (top_calls _).mono ?_
  rintro t w3 ⟨v6, rfl, N6, hb3⟩
  obtain ⟨s6, p6, n6, c6, e6, rfl, -⟩ := N6.form
  replace B2 := keep_block hb3 B2
  replace N2 := N2.keep hb3
  have L3 := L2.trans (hb3.mono L2.size)
  have Z3 : w.heap.size ≠ w3.heap.size := by have := block_lt B2; omega
  have A3 : Below w3.heap.size w3 (w3.alloc (.cells #[.int .i64 s6, .slice p6 n6 c6, .int .i64 e6] 46)) := (Below.refl _ _).alloc (Nat.le_refl _) _
  clear g0 g1 g2 hb3 L2
  go_wp2_with (go_at_call 50; refine (next_up_zero x hx hz _).mono ?_; rintro t w9 ⟨rfl, rfl⟩)
  refine (ofN 1 (by omega) _).mono ?_
  rintro t w4 ⟨v7, rfl, ⟨s7, sl7, ds7, e7, rfl, hsl7, hnm7, hq7, hin7⟩, hb4⟩
  obtain ⟨p7, c7, rfl⟩ := hsl7.formMap
  obtain ⟨n7, hn7⟩ : ∃ n7, n7 = ds7.length := ⟨_, rfl⟩
  rw [← hn7] at hsl7 hin7 ⊢
  have B6 : w4.heap[w3.heap.size]? = some (.cells #[.int .i64 s6, .slice p6 n6 c6, .int .i64 e6] 46 (0, 0)) := keep_block hb4 (heap_alloc_new w3 _)
  have A4 := below2 A3 hb4
  have NE2 := N2.ne (Nat.le_refl _)
  replace B2 := keep_block A4 B2
  replace N2 := N2.keep A4
  have L4 := L3.trans (A4.mono L3.size)
  have hin7b : In (fun x => x ≠ w3.heap.size) (.slice p7 n7 c7) := hin7.mono fun x hx => by have : w3.heap.size + 1 ≤ x := by { simpa using hx }; omega
  have N7 : NumT w4 (.agg #[.int .i64 s7, .slice p7 n7 c7, .int .i64 e7]) 2000 (ov 1) := ⟨s7, _, ds7, e7, rfl, hsl7, hnm7, hq7, fun _ _ _ _ => trivial⟩
  obtain ⟨y0, y1, y2, y3, y4, y5⟩ := res_facts B6
  clear hsl7 hnm7 hq7 hin7 hn7
  go_wp2_with fail
  obtain ⟨W, hW⟩ : ∃ W, W = ((w4.setCell ⟨w3.heap.size, 0, none⟩ (.int .i64 s7)).setCell ⟨w3.heap.size, 1, none⟩ (.slice p7 n7 c7)).setCell ⟨w3.heap.size, 2, none⟩ (.int .i64 e7) := ⟨_, rfl⟩
  have zb : w.heap.size < w3.heap.size := by have := block_lt B2; have := L3.size; have z := B2; exact Nat.lt_of_lt_of_le (Nat.lt_of_le_of_ne L3.size Z3) (Nat.le_refl _)
  have B6w : W.heap[w3.heap.size]? = some (.cells #[.int .i64 s7, .slice p7 n7 c7, .int .i64 e7] 46 (0, 0)) := by rw [hW]; have := setCell_block (setCell_block (setCell_block B6 0 (.int .i64 s7)) 1 (.slice p7 n7 c7)) 2 (.int .i64 e7); simpa using this
  have N6w : NumT W (.agg #[.int .i64 s7, .slice p7 n7 c7, .int .i64 e7]) 2000 (ov 1) := by rw [hW]; exact ((N7.put hin7b _).put hin7b _).put hin7b _
  have N2w : NumT W (.agg #[.int .i64 s, .slice p n c, .int .i64 e]) k q := by rw [hW]; exact ((N2.put NE2 _).put NE2 _).put NE2 _
  have B2w : W.heap[w.heap.size]? = some (.cells #[.int .i64 s, .slice p n c, .int .i64 e] 46 (0, 0)) := by rw [hW, Below.heap_setCell _ _ _ _ (by simp; omega), Below.heap_setCell _ _ _ _ (by simp; omega), Below.heap_setCell _ _ _ _ (by simp; omega)]; exact B2
  have LW : Below w.heap.size w W := by rw [hW]; exact ((L4.setCell (by simp; omega) _).setCell (by simp; omega) _).setCell (by simp; omega) _
  rw [← hW]
  obtain ⟨b6, hb6⟩ : ∃ b6, b6 = w3.heap.size := ⟨_, rfl⟩
  rw [← hb6] at B6w ⊢
  clear hW hb6 B6 B2 N2 N7 N6 NE2 A4 A3 L3 L4 hin7b hb4 y0 y1 y2 y3 y4 y5 zb Z3
  refine (bot_calls _).mono ?_
  rintro t w5 ⟨v8, rfl, N8, hb5⟩
  obtain ⟨s8, p8, n8, c8, e8, rfl, -⟩ := N8.form
  replace B2 := keep_block hb5 B2w
  replace N2 := N2w.keep hb5
  replace B6 := keep_block hb5 B6w
  replace N6 := N6w.keep hb5
  have L5 := LW.trans (hb5.mono LW.size)
  have hf8 : ∀ W, (Instr.field 46 (.agg #[.int .i64 s8, .slice p8 n8 c8, .int .i64 e8]) 1).run Tryd.prog W = .ok (.slice p8 n8 c8) W := fun _ => by kernel_rfl
  clear B2w N2w B6w N6w LW hb5
  go_wp2_with fail
  refine (bot_calls _).mono ?_
  rintro t w6 ⟨v9, rfl, N9, hb6⟩
  obtain ⟨s9, p9, n9, c9, e9, rfl, -⟩ := N9.form
  replace B2 := keep_block hb6 B2
  replace N2 := N2.keep hb6
  replace B6 := keep_block hb6 B6
  replace N6 := N6.keep hb6
  replace L5 := L5.trans (hb6.mono L5.size)
  have hf9 : ∀ W, (Instr.field 46 (.agg #[.int .i64 s9, .slice p9 n9 c9, .int .i64 e9]) 2).run Tryd.prog W = .ok (.int .i64 e9) W := fun _ => by kernel_rfl
  replace N8 := N8.keep hb6
  obtain ⟨d, hd, N10⟩ := NumT.mix N8 N9 uu_pos
  clear hb6
  go_wp2_with fail
  have A7 : Below w6.heap.size w6 (w6.alloc (.cells #[.int .i64 (-1), .slice p8 n8 c8, .int .i64 e9] 46)) := (Below.refl _ _).alloc (Nat.le_refl _) _
  obtain ⟨W, hW⟩ : ∃ W, W = w6.alloc (.cells #[.int .i64 (-1), .slice p8 n8 c8, .int .i64 e9] 46) := ⟨_, rfl⟩
  have B7w : W.heap[w6.heap.size]? = some (.cells #[.int .i64 (-1), .slice p8 n8 c8, .int .i64 e9] 46 (0, 0)) := by rw [hW]; exact heap_alloc_new w6 _
  rw [← hW] at A7
  have N7w := N10.keep A7
  have N6w := N6.keep A7
  have N2w := N2.keep A7
  have B2w := keep_block A7 B2
  have B6w := keep_block A7 B6
  have LW := L5.trans (A7.mono L5.size)
  have HB0 : Hid (0 < rs (2 * q - (ov x + d)) ∨ (rs (2 * q - (ov x + d)) = 0 ∧ (rung x) % 2 = 0)) := Or.inl (rs_gt.2 (by have h1 := EZ.out; have h2 := HQ.out; rw [h1]; grind))
  rw [← hW]
  obtain ⟨b7, hb7⟩ : ∃ b7, b7 = w6.heap.size := ⟨_, rfl⟩
  rw [← hb7] at B7w ⊢
  clear hW hb7 B6 B2 N2 N6 N10 L5 A7 N8 N9 hf8 hf9
  refine (two_calls _).mono ?_
  rintro t w8 ⟨v11, rfl, N11, hb8⟩
  obtain ⟨s12, p12, n12, c12, e12, rfl, -⟩ := N11.form
  have A9 : Below w8.heap.size w8 (w8.alloc (.cells #[.int .i64 s12, .slice p12 n12 c12, .int .i64 e12] 46)) := (Below.refl _ _).alloc (Nat.le_refl _) _
  have A8 := below2 hb8 A9
  obtain ⟨Z, hZ⟩ : ∃ Z, Z = w8.alloc (.cells #[.int .i64 s12, .slice p12 n12 c12, .int .i64 e12] 46) := ⟨_, rfl⟩
  have B8 : Z.heap[w8.heap.size]? = some (.cells #[.int .i64 s12, .slice p12 n12 c12, .int .i64 e12] 46 (0, 0)) := by rw [hZ]; exact heap_alloc_new w8 _
  have N8 : NumT Z (.agg #[.int .i64 s12, .slice p12 n12 c12, .int .i64 e12]) 100000 2 := by rw [hZ]; exact N11.keep A9
  rw [← hZ] at A8
  have B2 := keep_block A8 B2w
  have N2 := (N2w.keep A8).more hk
  have B6 := keep_block A8 B6w
  have KU : 2000 ≤ 100000 := by omega
  have KD : 6000 ≤ 100000 := by omega
  have N6 := (N6w.keep A8).more KU
  have B7 := keep_block A8 B7w
  have N7 := (N7w.keep A8).more KD
  have LZ := LW.trans (A8.mono LW.size)
  clear N11 hb8 A8 B2w N2w B6w N6w B7w N7w LW
  obtain ⟨ga_0, ga_1, ga_2, -, -, -⟩ := res_facts B2
  obtain ⟨g7_0, g7_1, g7_2, -, -, -⟩ := res_facts B6
  obtain ⟨g8_0, g8_1, g8_2, -, -, -⟩ := res_facts B8
  have h100 : 100000 ≤ 900000000 := by omega
  have h200 : 100000 + 100000 ≤ 900000000 := by omega
  have HM := Lib.hid (fun (Y : World) (h : Kp Z Y) => mulT (N8.keep h.out) (N2.keep h.out) h100 h100)
  have HO := Lib.hid (fun (Y : World) => (ofT x (by omega) Y).mono fun _ _ (h : RetT 2000 (ov x) Y _ _) => h.to (show 2000 ≤ 100000 by omega) rfl)
  have HA := Lib.hid (fun (Y : World) (h : Kp Z Y) (v : Value) (hn : NumT Y v 100000 (ov x)) => addT hn (N6.keep h.out) h100)
  have HD := Lib.hid (fun (Y : World) (h : Kp Z Y) (v : Value) (hn : NumT Y v 100000 (ov x)) => addT hn (N7.keep h.out) h100)
  have HC := Lib.hid (fun (Y : World) (v u : Value) (t : Rat) (hn : NumT Y v (100000 + 100000) (2 * q)) (hm : NumT Y u (100000 + 1) t) => cmpT hn (hm.more (show 100000 + 1 ≤ 100000 + 100000 by omega)) h200)
  obtain ⟨b8, hb8⟩ : ∃ b8, b8 = w8.heap.size := ⟨_, rfl⟩
  go_upto_region 17 with (fail)
  rw [← hZ, ← hb8]
  rw [← hb8] at B8 g8_0 g8_1 g8_2
  clear hZ hb8 A9
  go_region_held3 (fun w' => w'.cell? ⟨w.heap.size, 0, none⟩ = some (.int .i64 s) ∧ w'.cell? ⟨w.heap.size, 1, none⟩ = some (.slice p n c) ∧ w'.cell? ⟨w.heap.size, 2, none⟩ = some (.int .i64 e) ∧ w'.cell? ⟨b6, 0, none⟩ = some (.int .i64 s7) ∧ w'.cell? ⟨b6, 1, none⟩ = some (.slice p7 n7 c7) ∧ w'.cell? ⟨b6, 2, none⟩ = some (.int .i64 e7) ∧ w'.cell? ⟨b8, 0, none⟩ = some (.int .i64 s12) ∧ w'.cell? ⟨b8, 1, none⟩ = some (.slice p12 n12 c12) ∧ w'.cell? ⟨b8, 2, none⟩ = some (.int .i64 e12) ∧ Kp Z w')
    (refine ⟨?_, ?_, ?_, ?_, ?_, ?_, ?_, ?_, ?_, ?_⟩ <;> first | exact keep_cell hbD (keep_cell hbC (keep_cell hbB (keep_cell hbA ga_0))) | exact keep_cell hbD (keep_cell hbC (keep_cell hbB (keep_cell hbA ga_1))) | exact keep_cell hbD (keep_cell hbC (keep_cell hbB (keep_cell hbA ga_2))) | exact keep_cell hbD (keep_cell hbC (keep_cell hbB (keep_cell hbA g7_0))) | exact keep_cell hbD (keep_cell hbC (keep_cell hbB (keep_cell hbA g7_1))) | exact keep_cell hbD (keep_cell hbC (keep_cell hbB (keep_cell hbA g7_2))) | exact keep_cell hbD (keep_cell hbC (keep_cell hbB (keep_cell hbA g8_0))) | exact keep_cell hbD (keep_cell hbC (keep_cell hbB (keep_cell hbA g8_1))) | exact keep_cell hbD (keep_cell hbC (keep_cell hbB (keep_cell hbA g8_2))) | exact (((((Kp.refl _).drew).step hbA).step hbB).step hbC).step hbD | exact keep_cell hbC (keep_cell hbB (keep_cell hbA ga_0)) | exact keep_cell hbC (keep_cell hbB (keep_cell hbA ga_1)) | exact keep_cell hbC (keep_cell hbB (keep_cell hbA ga_2)) | exact keep_cell hbC (keep_cell hbB (keep_cell hbA g7_0)) | exact keep_cell hbC (keep_cell hbB (keep_cell hbA g7_1)) | exact keep_cell hbC (keep_cell hbB (keep_cell hbA g7_2)) | exact keep_cell hbC (keep_cell hbB (keep_cell hbA g8_0)) | exact keep_cell hbC (keep_cell hbB (keep_cell hbA g8_1)) | exact keep_cell hbC (keep_cell hbB (keep_cell hbA g8_2)) | exact ((((Kp.refl _).drew).step hbA).step hbB).step hbC | exact keep_cell hbB (keep_cell hbA ga_0) | exact keep_cell hbB (keep_cell hbA ga_1) | exact keep_cell hbB (keep_cell hbA ga_2) | exact keep_cell hbB (keep_cell hbA g7_0) | exact keep_cell hbB (keep_cell hbA g7_1) | exact keep_cell hbB (keep_cell hbA g7_2) | exact keep_cell hbB (keep_cell hbA g8_0) | exact keep_cell hbB (keep_cell hbA g8_1) | exact keep_cell hbB (keep_cell hbA g8_2) | exact (((Kp.refl _).drew).step hbA).step hbB | exact keep_cell hbA ga_0 | exact keep_cell hbA ga_1 | exact keep_cell hbA ga_2 | exact keep_cell hbA g7_0 | exact keep_cell hbA g7_1 | exact keep_cell hbA g7_2 | exact keep_cell hbA g8_0 | exact keep_cell hbA g8_1 | exact keep_cell hbA g8_2 | exact ((Kp.refl _).drew).step hbA | exact ga_0 | exact ga_1 | exact ga_2 | exact g7_0 | exact g7_1 | exact g7_2 | exact g8_0 | exact g8_1 | exact g8_2 | exact (Kp.refl _).drew)
    (first
      | (go_at_call 29; ((with_reducible refine (HM.out _ ?hq1).mono ?_); (case hq1 => exact (Kp.refl _).drew); rintro t wa ⟨va, rfl, hNA, hbA⟩))
      | (go_at_call 28; ((with_reducible refine (HO.out _).mono ?_); rintro t wb ⟨vb, rfl, hNB, hbB⟩))
      | (go_at_call 27; ((with_reducible refine (HA.out _ ?hq3 _ hNB).mono ?_); (case hq3 => exact ((Kp.refl _).drew.step hbA).step hbB); rintro t wc ⟨vc, rfl, hNC, hbC⟩))
      | (go_at_call 36; ((with_reducible refine (HC.out _ _ _ _ ((hNA.keep hbB).keep hbC) hNC).mono ?_); rintro t wd ⟨rfl, hbD⟩)))

  have AZ : Below Z.heap.size Z wd := (((((Kp.refl _).drew.step hbA).step hbB).step hbC).step hbD).out
  replace B2 := keep_block AZ B2
  replace B7 := keep_block AZ B7
  replace B8 := keep_block AZ B8
  replace N2 := N2.keep AZ
  replace N7 := N7.keep AZ
  replace N8 := N8.keep AZ
  replace LZ := LZ.trans (AZ.mono LZ.size)
  clear hbA hbB hbC hbD hNA hNB hNC HM HD HA ga_0 ga_1 ga_2 g7_0 g7_1 g7_2 g8_0 g8_1 g8_2 AZ B6 N6
  obtain ⟨Y, rfl⟩ : ∃ Y : World, Y = wd := ⟨_, rfl⟩
  obtain ⟨ga_0, ga_1, ga_2, -, -, -⟩ := res_facts B2
  obtain ⟨gD_0, gD_1, gD_2, -, -, -⟩ := res_facts B7
  obtain ⟨g8_0, g8_1, g8_2, -, -, -⟩ := res_facts B8
  have HM := Lib.hid (fun (V : World) (h : Kp Y V) => mulT (N8.keep h.out) (N2.keep h.out) h100 h100)
  have HD := Lib.hid (fun (V : World) (h : Kp Y V) (v : Value) (hn : NumT V v 100000 (ov x)) => addT hn (N7.keep h.out) h100)
  go_upto_region 18 with (fail)
  go_region_held3 (fun w' => w'.cell? ⟨w.heap.size, 0, none⟩ = some (.int .i64 s) ∧ w'.cell? ⟨w.heap.size, 1, none⟩ = some (.slice p n c) ∧ w'.cell? ⟨w.heap.size, 2, none⟩ = some (.int .i64 e) ∧ w'.cell? ⟨b7, 0, none⟩ = some (.int .i64 (-1)) ∧ w'.cell? ⟨b7, 1, none⟩ = some (.slice p8 n8 c8) ∧ w'.cell? ⟨b7, 2, none⟩ = some (.int .i64 e9) ∧ w'.cell? ⟨b8, 0, none⟩ = some (.int .i64 s12) ∧ w'.cell? ⟨b8, 1, none⟩ = some (.slice p12 n12 c12) ∧ w'.cell? ⟨b8, 2, none⟩ = some (.int .i64 e12) ∧ Kp Y w')
    (refine ⟨?_, ?_, ?_, ?_, ?_, ?_, ?_, ?_, ?_, ?_⟩ <;> first | exact keep_cell hcD (keep_cell hcC (keep_cell hcB (keep_cell hcA ga_0))) | exact keep_cell hcD (keep_cell hcC (keep_cell hcB (keep_cell hcA ga_1))) | exact keep_cell hcD (keep_cell hcC (keep_cell hcB (keep_cell hcA ga_2))) | exact keep_cell hcD (keep_cell hcC (keep_cell hcB (keep_cell hcA gD_0))) | exact keep_cell hcD (keep_cell hcC (keep_cell hcB (keep_cell hcA gD_1))) | exact keep_cell hcD (keep_cell hcC (keep_cell hcB (keep_cell hcA gD_2))) | exact keep_cell hcD (keep_cell hcC (keep_cell hcB (keep_cell hcA g8_0))) | exact keep_cell hcD (keep_cell hcC (keep_cell hcB (keep_cell hcA g8_1))) | exact keep_cell hcD (keep_cell hcC (keep_cell hcB (keep_cell hcA g8_2))) | exact (((((Kp.refl _).drew).step hcA).step hcB).step hcC).step hcD | exact keep_cell hcC (keep_cell hcB (keep_cell hcA ga_0)) | exact keep_cell hcC (keep_cell hcB (keep_cell hcA ga_1)) | exact keep_cell hcC (keep_cell hcB (keep_cell hcA ga_2)) | exact keep_cell hcC (keep_cell hcB (keep_cell hcA gD_0)) | exact keep_cell hcC (keep_cell hcB (keep_cell hcA gD_1)) | exact keep_cell hcC (keep_cell hcB (keep_cell hcA gD_2)) | exact keep_cell hcC (keep_cell hcB (keep_cell hcA g8_0)) | exact keep_cell hcC (keep_cell hcB (keep_cell hcA g8_1)) | exact keep_cell hcC (keep_cell hcB (keep_cell hcA g8_2)) | exact ((((Kp.refl _).drew).step hcA).step hcB).step hcC | exact keep_cell hcB (keep_cell hcA ga_0) | exact keep_cell hcB (keep_cell hcA ga_1) | exact keep_cell hcB (keep_cell hcA ga_2) | exact keep_cell hcB (keep_cell hcA gD_0) | exact keep_cell hcB (keep_cell hcA gD_1) | exact keep_cell hcB (keep_cell hcA gD_2) | exact keep_cell hcB (keep_cell hcA g8_0) | exact keep_cell hcB (keep_cell hcA g8_1) | exact keep_cell hcB (keep_cell hcA g8_2) | exact (((Kp.refl _).drew).step hcA).step hcB | exact keep_cell hcA ga_0 | exact keep_cell hcA ga_1 | exact keep_cell hcA ga_2 | exact keep_cell hcA gD_0 | exact keep_cell hcA gD_1 | exact keep_cell hcA gD_2 | exact keep_cell hcA g8_0 | exact keep_cell hcA g8_1 | exact keep_cell hcA g8_2 | exact ((Kp.refl _).drew).step hcA | exact ga_0 | exact ga_1 | exact ga_2 | exact gD_0 | exact gD_1 | exact gD_2 | exact g8_0 | exact g8_1 | exact g8_2 | exact (Kp.refl _).drew)
    (first
      | (go_at_call 29; ((with_reducible refine (HM.out _ ?hq1).mono ?_); (case hq1 => exact (Kp.refl _).drew); rintro t wa ⟨va, rfl, hNA, hcA⟩))
      | (go_at_call 28; ((with_reducible refine (HO.out _).mono ?_); rintro t wb ⟨vb, rfl, hNB, hcB⟩))
      | (go_at_call 27; ((with_reducible refine (HD.out _ ?hq3 _ hNB).mono ?_); (case hq3 => exact ((Kp.refl _).drew.step hcA).step hcB); rintro t wc ⟨vc, rfl, hNC, hcC⟩))
      | (go_at_call 36; ((with_reducible refine (HC.out _ _ _ _ ((hNA.keep hcB).keep hcC) hNC).mono ?_); rintro t wd ⟨rfl, hcD⟩)))

  have LF := LZ.trans ((((((Kp.refl _).drew.step hcA).step hcB).step hcC).step hcD).out.mono LZ.size)
  clear hcA hcB hcC hcD hNA hNB hNC HM HD HC HO ga_0 ga_1 ga_2 gD_0 gD_1 gD_2 g8_0 g8_1 g8_2 B2 B7 B8 N2 N7 N8 LZ
  have hA := HA0.out
  have hB := HB0.out
  clear HA0 HB0
  generalize rs (2 * q - (ov x + (ov 1))) = cA at hA ⊢
  generalize rs (2 * q - (ov x + d)) = cB at hB ⊢
  have ev : (rung x) % 2 = 0 → (x : Int) % 2 = 0 := fun h => by omega
  rcases hA with hA | ⟨rfl, he⟩ <;> rcases hB with hB | ⟨rfl, he2⟩
  · clear ev
    go_wp2_with fail
    go_ret
    exact ⟨by simp_all, LF⟩
  · have e1 := ev he2
    clear ev he2
    go_wp2_with fail
    go_ret
    exact ⟨by simp_all, LF⟩
  · have e1 := ev he
    clear ev he
    go_wp2_with fail
    go_ret
    exact ⟨by simp_all, LF⟩
  · have e1 := ev he
    clear ev he he2
    go_wp2_with fail
    go_ret
    exact ⟨by simp_all, LF⟩
end Go.Proofs.YtiiipgbfhcbjdaaDoor
end

section
/- The reference's test of rounding, of any number; Exact, Sum, Prod of trivetref02. -/
namespace Go.Proofs.YtiiipgbfhcbjdaaDoor
open Go.RowKit TV
set_option linter.unusedVariables false
set_option exponentiation.threshold 3000

set_option maxRecDepth 100000 in
theorem rounds_inf (x : Nat) (hx : x < 18446744073709551616) (hi : rung x = inf) (hs : sgn x = false) {v : Value} {k : Nat} {q : Rat} (w : World) (hv : NumT w v k q) (hk : k ≤ 100000) (hq : 0 ≤ q) (hR : gq ≤ q) :
    Calls Tryd.prog 26 #[v, .float .f64 x] w fun e w' => e = .returned (.bool true) ∧ Below w.heap.size w w' := by
  obtain ⟨s, p, n, c, e, rfl, hsg⟩ := hv.form
  have s0 : 0 ≤ s := by rw [hsg]; unfold rs; rw [if_neg (by grind)]; split <;> decide
  have ge : 0 ≤ rs (q - gq) := by unfold rs; rw [if_neg (by grind)]; split <;> decide
  have o1 := order_self (x := x) (Nat.le_of_eq hi)
  have o2 : Ieee.double.sub x x = none := sub_inf_inf hi hi rfl
  have o3 : ∀ w, FloatKind.f64.format.order (nanAt w x x) 0 = none := fun w => order_nan_left (nanAt_nan w x x)
  have o5 : FloatKind.f64.format.order x 0 = some .gt := by have := order_inf_fin (x := x) (y := 0) hi (by decide); rw [hs] at this; exact this
  clear hsg hq hR hi hs
  go_enter Tryd.func26, Tryd.ntmps26
  go_wp2_with fail
  refine (great_calls _).mono ?_
  rintro t w1 ⟨v5, rfl, N5, hb1⟩
  obtain ⟨s5, p5, n5, c5, e5, rfl, -⟩ := N5.form
  have B2 : w1.heap[w.heap.size]? = some (.cells #[.int .i64 s, .slice p n c, .int .i64 e] 46 (0, 0)) := keep_block hb1 (heap_alloc_new w _)
  have N2 := (hv.keep ((Below.refl w.heap.size w).alloc (Nat.le_refl _) (.cells #[.int .i64 s, .slice p n c, .int .i64 e] 46))).keep hb1
  have L1 : Below w.heap.size w w1 := ((Below.refl w.heap.size w).alloc (Nat.le_refl _) (.cells #[.int .i64 s, .slice p n c, .int .i64 e] 46)).trans (hb1.mono (by simp))
  obtain ⟨g0, g1, g2, -, -, -⟩ := res_facts B2
  have z1 := block_lt B2
  go_wp2_with fail
  have A1 : Below w1.heap.size w1 (w1.alloc (.cells #[.int .i64 s5, .slice p5 n5 c5, .int .i64 e5] 46)) := (Below.refl _ _).alloc (Nat.le_refl _) _
  refine (cmpT ((N2.keep A1).more hk) (N5.keep A1) (by omega)).mono ?_
  rintro t w2 ⟨rfl, hb2⟩
  have A2 := below2 A1 hb2
  have L2 := L1.trans (A2.mono L1.size)
  clear g0 g1 g2 N5 hb1 hb2 A1 A2 L1 hv z1 B2 N2
  go_wp2_with fail
  go_ret
  exact ⟨rfl, L2.drew⟩

/-- Rounds of a number not below nought. -/
theorem rounds_pos (x : Nat) (hx : x < 18446744073709551616) (hs : rung x = 0 ∨ sgn x = false) {v : Value} {k : Nat} {q : Rat} (w : World) (hv : NumT w v k q) (hk : k ≤ 100000) (hq : 0 ≤ q) (hR : RndQ q (rung x)) :
    Calls Tryd.prog 26 #[v, .float .f64 x] w fun e w' => e = .returned (.bool true) ∧ Below w.heap.size w w' := by
  have hi := inf_eq
  by_cases hz : rung x = 0
  · exact rounds_zero x hx hz w hv hk hq hR
  · have hs' : sgn x = false := by rcases hs with h | h; exact absurd h hz; exact h
    by_cases h1 : rung x = inf
    · rw [h1] at hR; exact rounds_inf x hx h1 hs' w hv hk hq (rnd_inf hR)
    · have hl : rung x < inf := by rcases hR with ⟨h, -⟩ | ⟨h, -⟩; exact h; exact absurd h h1
      have e := pos_bits hx hs'
      rw [e]
      by_cases h2 : rung x = 9218868437227405311
      · exact rounds_max (rung x) h2 w hv hk hq hR
      · exact rounds_mid (rung x) (by omega) (by omega) w hv hk hq hR

/-- Rounds of any number: the nearest float, of the number's sign. -/
theorem roundsT (x : Nat) (hx : x < 18446744073709551616) {v : Value} {k : Nat} {q : Rat} (w : World) (hv : NumT w v k q) (hk : k ≤ 100000) (hs : rung x = 0 ∨ sgn x = decide (q < 0)) (hR : RndQ (if q < 0 then -q else q) (rung x)) :
    Calls Tryd.prog 26 #[v, .float .f64 x] w fun e w' => e = .returned (.bool true) ∧ Below w.heap.size w w' := by
  by_cases hq : q < 0
  · rw [if_pos hq] at hR
    rw [decide_eq_true hq] at hs
    obtain ⟨s, p, n, c, e, rfl, hsg⟩ := hv.form
    have s0 : s < 0 := by rw [hsg]; unfold rs; rw [if_pos hq]; decide
    have hf := fneg_lt hx
    have hle : rung x ≤ inf := by rcases hR with ⟨h, -⟩ | ⟨h, -⟩ <;> omega
    have o1 := order_self (x := x) hle
    have hN := fun (W : World) (h : Below w.heap.size w W) => (negN (P := fun _ => True) (hv.keep h)).mono fun _ _ h => RetN.t h
    have hP := fun (W : World) (u : Value) (hu : NumT W u k (-q)) => rounds_pos (fneg x) hf (by rw [rung_fneg hx, sgn_fneg hx]; rcases hs with h | h; exact Or.inl h; exact Or.inr (by rw [h]; rfl)) W hu hk (by grind) (by rw [rung_fneg hx]; exact hR)
    have HN := Lib.hid hN
    have HP := Lib.hid hP
    clear hN hP hR hq hsg hs hle
    go_enter Tryd.func26, Tryd.ntmps26
    go_wp2_with fail
    refine (HN.out _ ((Below.refl _ _).alloc (Nat.le_refl _) _)).mono ?_
    rintro t w1 ⟨v5, rfl, N5, hb1⟩
    go_wp2_with fail
    refine (HP.out _ _ N5).mono ?_
    rintro t w2 ⟨rfl, hb2⟩
    go_wp2_with fail
    go_ret
    exact ⟨rfl, below3 ((Below.refl _ _).alloc (Nat.le_refl _) _) hb1 hb2⟩
  · rw [if_neg hq] at hR
    rw [decide_eq_false hq] at hs
    exact rounds_pos x hx hs w hv hk (by grind) hR
end Go.Proofs.YtiiipgbfhcbjdaaDoor
end
