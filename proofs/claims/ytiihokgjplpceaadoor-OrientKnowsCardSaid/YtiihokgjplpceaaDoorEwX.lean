/- Texts of one kind, joined. -/
import Derived.Test.YtiihokgjplpceaaDoorEwS
import Derived.Test.YtiihokgjplpceaaDoorLdB
import Derived.Test.YtiihokgjplpceaaDoorRfF
import Derived.Test.YtiihokgjplpceaaDoorNwE
import Derived.Test.YtiihokgjplpceaaDoorEpX
import Derived.Test.YtiihokgjplpceaaDoorRfG

section
/- Package expand, walked: within, low. -/
namespace Go.Proofs.YtiihokgjplpceaaDoor
open Go.RowKit TV
set_option linter.unusedVariables false
set_option exponentiation.threshold 3000

theorem mag_frP (r : Nat) : mag (frP r) = frQ r * 2 ^ 1074 := by
  rw [← mag_at (k := 1074) (q := frQ r) (Or.inr (by unfold frQ; omega)) (by unfold frQ; omega)]
  congr 1; unfold frP frQ; omega
theorem mag_frF (r : Nat) : mag (frF r) = frQ r * 2 ^ 1021 := by
  rw [← mag_at (k := 1021) (q := frQ r) (Or.inr (by unfold frQ; omega)) (by unfold frQ; omega)]
  congr 1; unfold frF frQ; omega
theorem frF_small (r : Nat) : frF r < 9223372036854775808 := by unfold frF; omega
theorem frP_small (r : Nat) : frP r < inf := by have := inf_eq; unfold frP; omega
theorem ldx_frF (r : Nat) : ldx (frF r) 53 = frP r := by
  have h1 := rung_small (frF_small r)
  have h2 := sgn_small (frF_small r)
  unfold ldx ldR ldN
  rw [h1, h2]
  have e : mag (frF r) * 2 ^ (53 : Int).toNat = mag (frP r) := by
    rw [mag_frF, mag_frP, Nat.mul_assoc, ← Nat.pow_add]; rfl
  rw [e]
  have e2 : ((-53 : Int)).toNat = 0 := rfl
  rw [e2, rnd_exact0]
  have := frP_small r
  rw [Nat.min_eq_left (Nat.le_of_lt this)]; rfl
theorem elow_int (r : Nat) (w : World) : (convert 22 53 (.float .f64 (frP r))).run Tryd.prog w = .ok (.int .u64 (frQ r)) w :=
  run_convert_float_int w 22 53 .f64 .u64 _ _ (by rw [Tryd.underlying22]; rfl) Tryd.underlying53 (frP_int r)

/-- The lowest bit of a float, as a float. -/
def LowF (r y : Nat) : Prop := y < inf ∧ mag y = lowb (mag r)
theorem elow_end {r n j : Nat} (h0 : 0 < r) (h : r < inf) (hn : frQ r = n * 2 ^ j) (ho : n % 2 = 1) : -1200 ≤ frE r - 53 + j ∧ frE r - 53 + j ≤ 1100 ∧ LowF r (ldx 4607182418800017408 (frE r - 53 + j)) := by
  have hv := fr_value h0 h
  have hb := frE_bound h0 h
  have hq : frQ r < 9007199254740992 := by unfold frQ; omega
  have hj : j < 53 := by
    apply Classical.byContradiction
    intro c
    have h1 : 2 ^ 53 ≤ 2 ^ j := Nat.pow_le_pow_right (by omega) (by omega)
    have h2 : 2 ^ j ≤ n * 2 ^ j := Nat.le_mul_of_pos_left _ (by omega)
    have h3 : (2 : Nat) ^ 53 = 9007199254740992 := by decide
    omega
  have hp : 0 ≤ frE r - 53 + j + 1074 := by
    apply Classical.byContradiction
    intro c
    obtain ⟨d, hd⟩ : ∃ d : Nat, ((d + 1 : Nat) : Int) = -(frE r - 53 + j + 1074) := ⟨(-(frE r - 53 + j + 1074) - 1).toNat, by omega⟩
    have h1 : ((mag r * 2 ^ (d + 1) : Nat) : Rat) = ((n : Nat) : Rat) := by
      have h2 : ((mag r : Nat) : Rat) = ((frQ r : Nat) : Rat) * (2 : Rat) ^ (frE r - 53 + 1074) := by
        rw [two_zpow_add, ← Rat.mul_assoc, hv, Rat.mul_assoc, ← two_zpow_add]; simp
      rw [Rat.natCast_mul, h2, hn, Rat.natCast_mul, ← two_zpow_nat, ← two_zpow_nat, Rat.mul_assoc, Rat.mul_assoc, ← two_zpow_add, ← two_zpow_add, show (j : Int) + (frE r - 53 + 1074 + ((d + 1 : Nat) : Int)) = 0 by omega, Rat.zpow_zero, Rat.mul_one]
    have h3 : mag r * 2 ^ (d + 1) = n := by exact_mod_cast h1
    have h4 : n = 2 * (mag r * 2 ^ d) := by rw [← h3, Nat.pow_succ]; ac_rfl
    omega
  obtain ⟨t, ht⟩ : ∃ t : Nat, (t : Int) = frE r - 53 + j + 1074 := ⟨(frE r - 53 + j + 1074).toNat, by omega⟩
  have hm : mag r = n * 2 ^ t := by
    have h1 : ((mag r : Nat) : Rat) = ((n * 2 ^ t : Nat) : Rat) := by
      have h2 : ((mag r : Nat) : Rat) = ((frQ r : Nat) : Rat) * (2 : Rat) ^ (frE r - 53 + 1074) := by
        rw [two_zpow_add, ← Rat.mul_assoc, hv, Rat.mul_assoc, ← two_zpow_add]; simp
      rw [h2, hn, Rat.natCast_mul, Rat.natCast_mul, ← two_zpow_nat, ← two_zpow_nat, Rat.mul_assoc, ← two_zpow_add, ht]
      congr 2; omega
    exact_mod_cast h1
  refine ⟨by omega, by omega, ?_⟩
  have ht2 : t < 2098 := by
    have := mag_lt h
    rw [mag_inf] at this
    apply Classical.byContradiction
    intro c
    have h1 : 2 ^ 2098 ≤ 2 ^ t := Nat.pow_le_pow_right (by omega) (by omega)
    have h2 : 2 ^ t ≤ n * 2 ^ t := Nat.le_mul_of_pos_left _ (by omega)
    have h3 : (9007199254740992 : Nat) * 2 ^ 2045 = 2 ^ 2098 := by decide +kernel
    omega
  obtain ⟨s, hs⟩ : Rep ((2 ^ t : Nat) : Int) := Rep_mk (m := 1) (k := t) (by simp) (by decide)
  rw [Int.natAbs_natCast] at hs
  have hsi : s < inf := by
    apply mag_lt_iff.1
    rw [← hs, mag_inf]
    have h1 : 2 ^ t < 2 ^ 2098 := Nat.pow_lt_pow_right (by omega) ht2
    have h3 : (9007199254740992 : Nat) * 2 ^ 2045 = 2 ^ 2098 := by decide +kernel
    omega
  have hO : mag 4607182418800017408 = 2 ^ 1074 := by decide +kernel
  have hy : ldx 4607182418800017408 (frE r - 53 + j) = s := by
    obtain ⟨e, he⟩ : ∃ e, e = frE r - 53 + (j : Int) := ⟨_, rfl⟩
    rw [← he] at ht ⊢
    unfold ldx ldR ldN
    rw [rung_small (by decide), sgn_small (by decide), hO]
    have e1 : 2 ^ 1074 * 2 ^ e.toNat = mag s * 2 ^ (-e).toNat := by
      rw [← hs, ← Nat.pow_add, ← Nat.pow_add]; congr 1; omega
    rw [e1, rnd_exact, Nat.min_eq_left (Nat.le_of_lt hsi)]; rfl
  rw [hy]
  exact ⟨hsi, by rw [← hs, hm, lowb_mk ho]⟩
theorem abs_at (x r : Nat) (hx : x < 18446744073709551616) (hr : r = rung x) (w : World) : Calls Tryd.prog 25 #[.float .f64 x] w fun e w' => e = .returned (.float .f64 r) ∧ w = w' := by
  rw [hr]; exact abs_calls x hx w
theorem ld_frF (r : Nat) (w : World) : Calls Tryd.prog 49 #[.float .f64 (frF r), .int .i64 53] w fun e w' => e = .returned (.float .f64 (frP r)) ∧ w = w' := by
  have h1 := frF_small r
  have h2 : rung (frF r) < inf := by
    rw [rung_small h1]
    have := inf_eq
    have hm : frM r % 4503599627370496 < 4503599627370496 := Nat.mod_lt _ (by omega)
    have e : frF r = 4602678819172646912 + frM r % 4503599627370496 := rfl
    omega
  have h3 := Ldexp_calls (frF r) (by omega) h2 53 ⟨by omega, by omega⟩ w
  rw [ldx_frF] at h3
  exact h3
set_option maxRecDepth 100000 in
set_option maxHeartbeats 1000000 in
theorem elow_calls (x : Nat) (hx : x < 18446744073709551616) (h0 : 0 < rung x) (h : rung x < inf) (w : World) :
    Calls Tryd.prog 82 #[.float .f64 x] w fun e w' => ∃ y, e = .returned (.float .f64 y) ∧ LowF (rung x) y ∧ w = w' := by
  obtain ⟨r, hr⟩ : ∃ r, r = rung x := ⟨_, rfl⟩
  rw [← hr] at h0 h ⊢
  have hb := frE_bound h0 h
  obtain ⟨hb1, hb2⟩ := hb
  have HI := elow_int r
  have HFx := Lib.hid (fun w => Frexp_at r r rfl h0 h w)
  have HAb := Lib.hid (fun w => abs_at x r hx hr w)
  have HE := Lib.hid (fun n j => @elow_end r n j h0 h)
  have hq0 : 0 < frQ r ∧ frQ r < 9007199254740992 := by unfold frQ; omega
  have HQ := Lib.hid hq0
  clear hr hq0 h0 h
  have HLd := Lib.hid (fun w => ld_frF r w)
  go_enter Tryd.func82, Tryd.ntmps82
  go_wp2_with (first
    | (go_at_call 25; ((with_reducible refine (HAb.out _).mono ?_); rintro e w1 ⟨rfl, rfl⟩))
    | (go_at_call 58; ((with_reducible refine (HFx.out _).mono ?_); rintro e w1 ⟨rfl, rfl⟩))
    | (go_at_call 49; ((with_reducible refine (HLd.out _).mono ?_); rintro e w1 ⟨rfl, rfl⟩)))
  go_loopw [4, 5] (fun ev nv wr => ∃ (j n : Nat), wr = w ∧ nv = .int .u64 n ∧ ev = .int .i64 (frE r - 53 + (j : Int)) ∧ 0 < n ∧ n < 9007199254740992 ∧ j + n ≤ 9007199254740992 ∧ Hid (frQ r = n * 2 ^ j)) (fun _ nv _ => (intOf nv).toNat)
  case atStart => exact ⟨0, frQ r, rfl, rfl, by simp, HQ.out.1, HQ.out.2, by have := HQ.out.2; omega, by show _ = _; simp⟩
  case round =>
    obtain ⟨j, n, rfl, rfl, rfl, hn0, hn1, hj, HN⟩ := hrel
    have b1 : bits .and .u64 (n : Int) 1 = ((n % 2 : Nat) : Int) := by
      have := u64_and_nat n 1 (by omega) (by omega)
      rw [Nat.and_one_is_mod] at this; exact this
    rcases Nat.mod_two_eq_zero_or_one n with ho | ho
    · rw [ho] at b1
      have b2 : (((0 : Nat) : Int) == 0) = true := rfl
      have hstep : frQ r = n / 2 * 2 ^ (j + 1) := by
        have e : n = n / 2 * 2 := by omega
        rw [HN.out, Nat.pow_succ]
        conv => lhs; rw [e]
        ac_rfl
      go_wp2_with fail
      go_roundw
      case rel => exact ⟨j + 1, n / 2, by first | rfl | trivial, by congr 1, by congr 1; omega, by omega, by omega, by omega, hstep⟩
      case measure => simp [intOf]; omega
    · rw [ho] at b1
      have b2 : (((1 : Nat) : Int) == 0) = false := rfl
      obtain ⟨k1, k2, k3⟩ := HE.out n j HN.out ho
      have HLe := Lib.hid (fun w => Ldexp_calls 4607182418800017408 (by decide) (by decide) (frE r - 53 + (j : Int)) ⟨by omega, by omega⟩ w)
      go_wp2_with (go_at_call 49; ((with_reducible refine (HLe.out _).mono ?_); rintro e w1 ⟨rfl, rfl⟩))
      go_ret
      exact ⟨_, rfl, k3, rfl⟩
end Go.Proofs.YtiihokgjplpceaaDoor
end

section
/- Package expand, walked: within, all. -/
namespace Go.Proofs.YtiihokgjplpceaaDoor
open Go.RowKit TV
set_option linter.unusedVariables false

theorem ord_r {r c : Nat} (hr : r ≤ inf) (hc : c ≤ inf) : FloatKind.f64.format.order r c = some (compare r c) := by
  have hl := inf_lt
  have h1 := rung_small (show r < 9223372036854775808 by omega)
  have h2 := rung_small (show c < 9223372036854775808 by omega)
  have e1 : fv r = (mag r : Int) := by unfold fv sm; rw [sgn_small (by omega), h1]; rfl
  have e2 : fv c = (mag c : Int) := by unfold fv sm; rw [sgn_small (by omega), h2]; rfl
  refine (order_le (by rw [h1]; exact hr) (by rw [h2]; exact hc)).trans ?_
  rw [e1, e2]
  congr 1
  rcases Nat.lt_trichotomy r c with h | h | h
  · rw [Nat.compare_eq_lt.2 h, Int.compare_eq_lt.2 (by have := mag_lt h; omega)]
  · rw [h, Nat.compare_eq_eq.2 rfl, Int.compare_eq_eq.2 rfl]
  · rw [Nat.compare_eq_gt.2 h, Int.compare_eq_gt.2 (by have := mag_lt h; omega)]
theorem ord_nan {r c : Nat} (hr : inf < r) (hr2 : r < 9223372036854775808) : FloatKind.f64.format.order r c = none := order_nan_left (by rw [rung_small hr2]; exact hr)
def inB (a b x : Nat) : Bool := decide (a ≤ rung x ∧ rung x ≤ b)

theorem within_calls (x a b : Nat) (hx : x < 18446744073709551616) (ha : a ≤ inf) (hb : b ≤ inf) (w : World) :
    Calls Tryd.prog 68 #[.float .f64 x, .float .f64 a, .float .f64 b] w fun e w' => e = .returned (.bool (inB a b x)) ∧ w = w' := by
  obtain ⟨r, hr⟩ : ∃ r, r = rung x := ⟨_, rfl⟩
  have hrl := rung_lt x
  have HAb := Lib.hid (fun w => abs_at x r hx hr w)
  unfold inB
  rw [← hr] at hrl ⊢
  clear hr
  by_cases hn : inf < r
  · have o1 := ord_nan (c := a) hn hrl
    have hd : decide (a ≤ r ∧ r ≤ b) = false := decide_eq_false (by omega)
    rw [hd]
    clear hd
    go_enter Tryd.func68, Tryd.ntmps68
    go_wp2_with (go_at_call 25; ((with_reducible refine (HAb.out _).mono ?_); rintro e w1 ⟨rfl, rfl⟩))
    go_ret
    exact ⟨rfl, rfl⟩
  · have o1 := ord_r (r := r) (c := a) (by omega) ha
    have o2 := ord_r (r := r) (c := b) (by omega) hb
    have key : ∀ v : Bool, decide (a ≤ r ∧ r ≤ b) = v → Calls Tryd.prog 68 #[.float .f64 x, .float .f64 a, .float .f64 b] w fun e w' => e = .returned (.bool v) ∧ w = w' := by
      intro v hv
      rcases Nat.lt_trichotomy r a with h | h | h
      · rw [Nat.compare_eq_lt.2 h] at o1
        obtain rfl : v = false := by rw [← hv]; exact decide_eq_false (by omega)
        clear hv o2
        go_enter Tryd.func68, Tryd.ntmps68
        go_wp2_with (go_at_call 25; ((with_reducible refine (HAb.out _).mono ?_); rintro e w1 ⟨rfl, rfl⟩))
        go_ret
        exact ⟨rfl, rfl⟩
      · rw [Nat.compare_eq_eq.2 h] at o1
        rcases Nat.lt_trichotomy r b with h' | h' | h'
        · rw [Nat.compare_eq_lt.2 h'] at o2
          obtain rfl : v = true := by rw [← hv]; exact decide_eq_true (by omega)
          clear hv h h'
          go_enter Tryd.func68, Tryd.ntmps68
          go_wp2_with (go_at_call 25; ((with_reducible refine (HAb.out _).mono ?_); rintro e w1 ⟨rfl, rfl⟩))
          go_ret
          exact ⟨rfl, rfl⟩
        · rw [Nat.compare_eq_eq.2 h'] at o2
          obtain rfl : v = true := by rw [← hv]; exact decide_eq_true (by omega)
          clear hv h h'
          go_enter Tryd.func68, Tryd.ntmps68
          go_wp2_with (go_at_call 25; ((with_reducible refine (HAb.out _).mono ?_); rintro e w1 ⟨rfl, rfl⟩))
          go_ret
          exact ⟨rfl, rfl⟩
        · rw [Nat.compare_eq_gt.2 h'] at o2
          obtain rfl : v = false := by rw [← hv]; exact decide_eq_false (by omega)
          clear hv h h'
          go_enter Tryd.func68, Tryd.ntmps68
          go_wp2_with (go_at_call 25; ((with_reducible refine (HAb.out _).mono ?_); rintro e w1 ⟨rfl, rfl⟩))
          go_ret
          exact ⟨rfl, rfl⟩
      · rw [Nat.compare_eq_gt.2 h] at o1
        rcases Nat.lt_trichotomy r b with h' | h' | h'
        · rw [Nat.compare_eq_lt.2 h'] at o2
          obtain rfl : v = true := by rw [← hv]; exact decide_eq_true (by omega)
          clear hv h h'
          go_enter Tryd.func68, Tryd.ntmps68
          go_wp2_with (go_at_call 25; ((with_reducible refine (HAb.out _).mono ?_); rintro e w1 ⟨rfl, rfl⟩))
          go_ret
          exact ⟨rfl, rfl⟩
        · rw [Nat.compare_eq_eq.2 h'] at o2
          obtain rfl : v = true := by rw [← hv]; exact decide_eq_true (by omega)
          clear hv h h'
          go_enter Tryd.func68, Tryd.ntmps68
          go_wp2_with (go_at_call 25; ((with_reducible refine (HAb.out _).mono ?_); rintro e w1 ⟨rfl, rfl⟩))
          go_ret
          exact ⟨rfl, rfl⟩
        · rw [Nat.compare_eq_gt.2 h'] at o2
          obtain rfl : v = false := by rw [← hv]; exact decide_eq_false (by omega)
          clear hv h h'
          go_enter Tryd.func68, Tryd.ntmps68
          go_wp2_with (go_at_call 25; ((with_reducible refine (HAb.out _).mono ?_); rintro e w1 ⟨rfl, rfl⟩))
          go_ret
          exact ⟨rfl, rfl⟩
    exact key _ rfl
end Go.Proofs.YtiihokgjplpceaaDoor
end

section
/- Package expand, walked: all. -/
namespace Go.Proofs.YtiihokgjplpceaaDoor
open Go.RowKit TV
set_option linter.unusedVariables false

theorem lowF_ex {r : Nat} (h0 : 0 < r) (h : r < inf) : ∃ s, LowF r s := by
  have hm : mag r ≠ 0 := by have := mag_lt h0; rw [mag_zero] at this; omega
  obtain ⟨m, k, h1, h2, h3⟩ := lowb_parts (mag r) hm
  obtain ⟨s, hs⟩ : Rep ((2 ^ k : Nat) : Int) := Rep_mk (m := 1) (k := k) (by simp) (by decide)
  rw [Int.natAbs_natCast] at hs
  refine ⟨s, mag_lt_iff.1 ?_, by rw [← hs, h3]⟩
  have h4 := lowb_le hm
  have h5 := mag_lt h
  rw [h3] at h4
  rw [← hs]; omega
theorem elow_at (x s : Nat) (hx : x < 18446744073709551616) (h0 : 0 < rung x) (h : rung x < inf) (hs : LowF (rung x) s) (w : World) :
    Calls Tryd.prog 82 #[.float .f64 x] w fun e w' => e = .returned (.float .f64 s) ∧ w = w' := by
  refine (elow_calls x hx h0 h w).mono ?_
  rintro e w' ⟨y, rfl, hy, rfl⟩
  rw [mag_inj (hy.2.trans hs.2.symm)]; exact ⟨rfl, rfl⟩
/-- The rung of the float ahead of place k. -/
def prevR (l : List Nat) : Nat → Option Nat
  | 0 => none
  | k + 1 => some (rung (l.getD k 0))
set_option maxRecDepth 100000 in
set_option maxHeartbeats 1000000 in
theorem all_calls {w : World} {v : Value} {l : List Nat} (hs : Sl w v (fvs l)) (hl : ∀ x ∈ l, x < 18446744073709551616) (a b : Nat) (ha0 : 0 < a) (ha : a ≤ inf) (hb : b ≤ inf) (hfin : ∀ x ∈ l, rung x ≤ b → rung x < inf) (hn : l.length ≤ 1000000000) :
    Calls Tryd.prog 67 #[v, .float .f64 a, .float .f64 b] w fun x w' => x = .returned (.bool (allB a b l)) ∧ Below w.heap.size w w' := by
  obtain ⟨p, cap, rfl⟩ := hs.form
  have hll : (fvs l).length = l.length := by simp [fvs]
  rw [hll] at hs ⊢
  by_cases hlen : l.length ≤ 64
  · have h1 : decide ((64 : Int) < l.length) = false := decide_eq_false (by omega)
    go_enter Tryd.func67, Tryd.ntmps67
    go_wp2_with fail
    go_loopw [7, 8, 14] (fun _ _ iv wr => ∃ (k m : Nat), k ≤ l.length ∧ iv = .int .i64 k ∧ wr = w.drewN m ∧ Hid (allFrom a b none l = allFrom a b (prevR l k) (l.drop k)) ∧ Hid (∀ j, k = j + 1 → rung (l.getD j 0) ≤ inf)) (fun _ _ iv _ => l.length - (intOf iv).toNat)
    case atStart => exact ⟨0, 0, Nat.zero_le _, rfl, rfl, by show _ = _; rfl, fun j h => by omega⟩
    case round =>
      obtain ⟨k, m, hk, rfl, rfl, HA, HP⟩ := hrel
      have hbw : Below w.heap.size w (w.drewN m) := below_drewN (Below.refl _ _) m
      by_cases hlt : k < l.length
      · obtain ⟨bb, oo, rfl, hcell⟩ := sl_atf hs hlt
        have hx := hl l[k] (List.getElem_mem hlt)
        have hf := hfin l[k] (List.getElem_mem hlt)
        have hA := HA.out
        rw [List.drop_eq_getElem_cons hlt] at hA
        have hP := HP.out
        have hg : l.getD k 0 = l[k] := by rw [List.getD_eq_getElem?_getD, List.getElem?_eq_getElem hlt]; rfl
        obtain ⟨x, hxx⟩ : ∃ x, x = l[k] := ⟨_, rfl⟩
        rw [← hxx] at hcell hx hf hA hg
        simp only [allFrom] at hA
        have HW1 := Lib.hid (fun w => within_calls x a b hx ha hb w)
        by_cases c1 : inB a b x = true
        · rw [c1] at HW1
          have c2 := c1
          unfold inB at c2
          rw [c2, Bool.true_and] at hA
          obtain ⟨c3, c4⟩ := of_decide_eq_true c2
          have hx0 : 0 < rung x := by omega
          have hxi := hf c4
          obtain ⟨s, hS⟩ := lowF_ex hx0 hxi
          have HLo := Lib.hid (fun w => elow_at x s hx hx0 hxi hS w)
          have hR := Lib.hid (show rung x ≤ inf by omega)
          cases k with
          | zero =>
            simp only [prevR, Bool.true_and] at hA
            have HA2 := Lib.hid hA
            have HG := Lib.hid hg
            have HR1 : Hid (allFrom a b none l = allFrom a b (prevR l 1) (l.drop 1)) := by
              show _ = _
              rw [HA2.out]; simp only [prevR]; rw [HG.out]
            have HR2 : Hid (∀ j, 1 = j + 1 → rung (l.getD j 0) ≤ inf) := by
              intro j h
              obtain rfl : j = 0 := by omega
              rw [HG.out]; exact hR.out
            rw [Nat.add_zero] at hcell
            have hj1 : (0 : Int) < l.length := by omega
            clear hA hxx c1 c2 c3 c4 hP hx0 hxi hf hg HA HP
            rw [show ((0 : Nat) : Int) = (0 : Int) from rfl]
            go_wp2_with (go_at_call 68; ((with_reducible refine (HW1.out _).mono ?_); rintro e w1 ⟨rfl, rfl⟩))
            go_roundw
            case rel => exact ⟨1, m, by omega, rfl, rfl, HR1, HR2⟩
            case measure => simp [intOf]; omega
          | succ k =>
            have hk2 : k < l.length := by omega
            obtain ⟨b2, o2, h2, hcell2⟩ := sl_atf hs hk2
            simp only [Option.some.injEq, Addr.mk.injEq, and_true] at h2
            obtain ⟨rfl, rfl⟩ := h2
            have hgy : l.getD k 0 = l[k] := by rw [List.getD_eq_getElem?_getD, List.getElem?_eq_getElem hk2]; rfl
            have hyl := hl l[k] (List.getElem_mem hk2)
            have hyi := hP k rfl
            simp only [prevR] at hA
            obtain ⟨y, hyy⟩ : ∃ y, y = l[k] := ⟨_, rfl⟩
            rw [← hyy] at hcell2 hgy hyl
            rw [hgy] at hyi hA
            obtain ⟨ry, hry⟩ : ∃ ry, ry = rung y := ⟨_, rfl⟩
            have HAy := Lib.hid (fun w => abs_at y ry hyl hry w)
            rw [← hry] at hyi hA
            have ho := ord_r (r := ry) (c := s) hyi (Nat.le_of_lt hS.1)
            have hmg : decide (mag ry < lowb (mag (rung x))) = decide (ry < s) := by rw [← hS.2]; exact decide_eq_decide.2 mag_lt_iff
            rw [hmg] at hA
            have HG := Lib.hid hg
            have hj2 : (0 : Int) < (k : Int) + 1 := by omega
            have hj3 : (k : Int) + 1 - 1 = k := by omega
            have hj4 : (k : Int) < l.length := by omega
            have hj5 : (0 : Int) ≤ k := by omega
            by_cases c5 : ry < s
            · rw [Nat.compare_eq_lt.2 c5] at ho
              rw [decide_eq_true c5, Bool.true_and] at hA
              have HA2 := Lib.hid hA
              have HR1 : Hid (allFrom a b none l = allFrom a b (prevR l (k + 1 + 1)) (l.drop (k + 1 + 1))) := by
                show _ = _
                rw [HA2.out]; simp only [prevR]; rw [HG.out]
              have HR2 : Hid (∀ j, k + 1 + 1 = j + 1 → rung (l.getD j 0) ≤ inf) := by
                intro j h
                obtain rfl : j = k + 1 := by omega
                rw [HG.out]; exact hR.out
              clear hA hxx c1 c2 c3 c4 hP hx0 hxi hf hg HA HP hyy hgy hry hmg c5 hyi hyl hS
              go_wp2_with (first
                | (go_at_call 68; ((with_reducible refine (HW1.out _).mono ?_); rintro e w1 ⟨rfl, rfl⟩))
                | (go_at_call 25; ((with_reducible refine (HAy.out _).mono ?_); rintro e w1 ⟨rfl, rfl⟩))
                | (go_at_call 82; ((with_reducible refine (HLo.out _).mono ?_); rintro e w1 ⟨rfl, rfl⟩)))
              go_roundw
              case rel => exact ⟨k + 1 + 1, m, by omega, by go_num, rfl, HR1, HR2⟩
              case measure => simp [intOf]; omega
            · have ho' : FloatKind.f64.format.order ry s = some .eq ∨ FloatKind.f64.format.order ry s = some .gt := by
                rcases Nat.lt_or_eq_of_le (Nat.le_of_not_lt c5) with h | h
                · exact Or.inr (by rw [ho, Nat.compare_eq_gt.2 h])
                · exact Or.inl (by rw [ho, Nat.compare_eq_eq.2 h.symm])
              rw [decide_eq_false c5, Bool.false_and] at hA
              have e : allB a b l = false := by unfold allB; rw [hA]; simp
              clear ho hA hxx c1 c2 c3 c4 hP hx0 hxi hf hg HA HP hyy hgy hry hmg c5 hyi hyl hS
              rcases ho' with ho | ho
              · go_wp2_with (first
                  | (go_at_call 68; ((with_reducible refine (HW1.out _).mono ?_); rintro e w1 ⟨rfl, rfl⟩))
                  | (go_at_call 25; ((with_reducible refine (HAy.out _).mono ?_); rintro e w1 ⟨rfl, rfl⟩))
                  | (go_at_call 82; ((with_reducible refine (HLo.out _).mono ?_); rintro e w1 ⟨rfl, rfl⟩)))
                go_ret
                exact ⟨by rw [e]; rfl, hbw⟩
              · go_wp2_with (first
                  | (go_at_call 68; ((with_reducible refine (HW1.out _).mono ?_); rintro e w1 ⟨rfl, rfl⟩))
                  | (go_at_call 25; ((with_reducible refine (HAy.out _).mono ?_); rintro e w1 ⟨rfl, rfl⟩))
                  | (go_at_call 82; ((with_reducible refine (HLo.out _).mono ?_); rintro e w1 ⟨rfl, rfl⟩)))
                go_ret
                exact ⟨by rw [e]; rfl, hbw⟩
        · have c1' : inB a b x = false := by simpa using c1
          rw [c1'] at HW1
          have e : allB a b l = false := by
            unfold allB; rw [hA]
            unfold inB at c1'
            rw [c1']; simp
          clear hA hxx c1 c1' hg hP
          go_wp2_with (go_at_call 68; ((with_reducible refine (HW1.out _).mono ?_); rintro e w1 ⟨rfl, rfl⟩))
          go_ret
          exact ⟨by rw [e]; rfl, hbw⟩
      · obtain rfl : k = l.length := by omega
        have e : allB a b l = true := by
          unfold allB; rw [decide_eq_true hlen, HA.out, List.drop_length]; rfl
        go_wp2_with fail
        go_ret
        exact ⟨by rw [e]; rfl, hbw⟩
  · have h1 : decide ((64 : Int) < l.length) = true := decide_eq_true (by omega)
    have e : allB a b l = false := by unfold allB; rw [decide_eq_false hlen]; rfl
    go_enter Tryd.func67, Tryd.ntmps67
    go_wp2_with fail
    go_ret
    exact ⟨by rw [e]; rfl, Below.refl _ _⟩
end Go.Proofs.YtiihokgjplpceaaDoor
end

section
/- Package expand, walked: Check, Safe, Neg, Of. -/
namespace Go.Proofs.YtiihokgjplpceaaDoor
open Go.RowKit TV
set_option linter.unusedVariables false

theorem check_calls {w : World} {v : Value} {l : List Nat} (hs : Sl w v (fvs l)) (hl : ∀ x ∈ l, x < 18446744073709551616) (hn : l.length ≤ 1000000000) :
    Calls Tryd.prog 55 #[v] w fun x w' => x = .returned (.bool (allB 1 9065746049896808448 l)) ∧ Below w.heap.size w w' := by
  have HA := Lib.hid (all_calls hs hl 1 9065746049896808448 (by decide) (by decide) (by decide) (fun x _ h => by have := inf_eq; omega) hn)
  obtain ⟨p, cap, rfl⟩ := hs.form
  go_enter Tryd.func55, Tryd.ntmps55
  go_wp2_with (go_at_call 67; refine HA.out.mono ?_; rintro x w1 ⟨rfl, hb⟩)
  go_ret
  exact ⟨rfl, hb⟩
theorem safe_calls2 {w : World} {v : Value} {l : List Nat} (hs : Sl w v (fvs l)) (hl : ∀ x ∈ l, x < 18446744073709551616) (hn : l.length ≤ 1000000000) :
    Calls Tryd.prog 52 #[v] w fun x w' => x = .returned (.bool (allB 2580562586483294208 6633802251116740608 l)) ∧ Below w.heap.size w w' := by
  have HA := Lib.hid (all_calls hs hl 2580562586483294208 6633802251116740608 (by decide) (by decide) (by decide) (fun x _ h => by have := inf_eq; omega) hn)
  obtain ⟨p, cap, rfl⟩ := hs.form
  go_enter Tryd.func52, Tryd.ntmps52
  go_wp2_with (go_at_call 67; refine HA.out.mono ?_; rintro x w1 ⟨rfl, hb⟩)
  go_ret
  exact ⟨rfl, hb⟩
end Go.Proofs.YtiihokgjplpceaaDoor
end

section
/- Package expand, walked: Of. -/
namespace Go.Proofs.YtiihokgjplpceaaDoor
open Go.RowKit TV
set_option linter.unusedVariables false

def ofOk (x : Nat) : Bool := decide (rung x = 0) || inB 1 9065746049896808448 x
def ofL (x : Nat) : List Nat := if rung x = 0 then [] else if inB 1 9065746049896808448 x = true then [x] else []
end Go.Proofs.YtiihokgjplpceaaDoor
end
