/- Package expand, walked: within, low. -/
import Derived.Test.YtjogclokjonkeaaDoorEwA
import Derived.Test.YtjogclokjonkeaaDoorLdB
import Derived.Test.YtjogclokjonkeaaDoorRfF
namespace Go.Proofs.YtjogclokjonkeaaDoor
open Go.RowKit TV
set_option linter.unusedVariables false
set_option exponentiation.threshold 3000

theorem mag_frP (r : Nat) : mag (frP r) = frQ r * 2 ^ 1074 := by
  rw [← mag_at (k := 1074) (q := frQ r) (Or.inr (by unfold frQ; omega)) (by unfold frQ; omega)]
  congr 1; unfold frP frQ; omega
theorem mag_frF (r : Nat) : mag (frF r) = frQ r * 2 ^ 1021 := by
  rw [← mag_at (k := 1021) (q := frQ r) (Or.inr (by unfold frQ; omega)) (by unfold frQ; omega)]
  congr 1; unfold frF frQ; omega
theorem frF_small (r : Nat) : frF r < 9223372036854775808 := by unfold frF; omega
theorem frP_small (r : Nat) : frP r < inf := by have := inf_eq; unfold frP; omega
theorem ldx_frF (r : Nat) : ldx (frF r) 53 = frP r := by
  have h1 := rung_small (frF_small r)
  have h2 := sgn_small (frF_small r)
  unfold ldx ldR ldN
  rw [h1, h2]
  have e : mag (frF r) * 2 ^ (53 : Int).toNat = mag (frP r) := by
    rw [mag_frF, mag_frP, Nat.mul_assoc, ← Nat.pow_add]; rfl
  rw [e]
  have e2 : ((-53 : Int)).toNat = 0 := rfl
  rw [e2, rnd_exact0]
  have := frP_small r
  rw [Nat.min_eq_left (Nat.le_of_lt this)]; rfl
theorem elow_int (r : Nat) (w : World) : (convert 34 69 (.float .f64 (frP r))).run Tryd.prog w = .ok (.int .u64 (frQ r)) w :=
  run_convert_float_int w 34 69 .f64 .u64 _ _ (by rw [Tryd.underlying34]; rfl) Tryd.underlying69 (frP_int r)

/-- The lowest bit of a float, as a float. -/
def LowF (r y : Nat) : Prop := y < inf ∧ mag y = lowb (mag r)
theorem elow_end {r n j : Nat} (h0 : 0 < r) (h : r < inf) (hn : frQ r = n * 2 ^ j) (ho : n % 2 = 1) : -1200 ≤ frE r - 53 + j ∧ frE r - 53 + j ≤ 1100 ∧ LowF r (ldx 4607182418800017408 (frE r - 53 + j)) := by
  have hv := fr_value h0 h
  have hb := frE_bound h0 h
  have hq : frQ r < 9007199254740992 := by unfold frQ; omega
  have hj : j < 53 := by
    apply Classical.byContradiction
    intro c
    have h1 : 2 ^ 53 ≤ 2 ^ j := Nat.pow_le_pow_right (by omega) (by omega)
    have h2 : 2 ^ j ≤ n * 2 ^ j := Nat.le_mul_of_pos_left _ (by omega)
    have h3 : (2 : Nat) ^ 53 = 9007199254740992 := by decide
    omega
  have hp : 0 ≤ frE r - 53 + j + 1074 := by
    apply Classical.byContradiction
    intro c
    obtain ⟨d, hd⟩ : ∃ d : Nat, ((d + 1 : Nat) : Int) = -(frE r - 53 + j + 1074) := ⟨(-(frE r - 53 + j + 1074) - 1).toNat, by omega⟩
    have h1 : ((mag r * 2 ^ (d + 1) : Nat) : Rat) = ((n : Nat) : Rat) := by
      have h2 : ((mag r : Nat) : Rat) = ((frQ r : Nat) : Rat) * (2 : Rat) ^ (frE r - 53 + 1074) := by
        rw [two_zpow_add, ← Rat.mul_assoc, hv, Rat.mul_assoc, ← two_zpow_add]; simp
      rw [Rat.natCast_mul, h2, hn, Rat.natCast_mul, ← two_zpow_nat, ← two_zpow_nat, Rat.mul_assoc, Rat.mul_assoc, ← two_zpow_add, ← two_zpow_add, show (j : Int) + (frE r - 53 + 1074 + ((d + 1 : Nat) : Int)) = 0 by omega, Rat.zpow_zero, Rat.mul_one]
    have h3 : mag r * 2 ^ (d + 1) = n := by exact_mod_cast h1
    have h4 : n = 2 * (mag r * 2 ^ d) := by rw [← h3, Nat.pow_succ]; ac_rfl
    omega
  obtain ⟨t, ht⟩ : ∃ t : Nat, (t : Int) = frE r - 53 + j + 1074 := ⟨(frE r - 53 + j + 1074).toNat, by omega⟩
  have hm : mag r = n * 2 ^ t := by
    have h1 : ((mag r : Nat) : Rat) = ((n * 2 ^ t : Nat) : Rat) := by
      have h2 : ((mag r : Nat) : Rat) = ((frQ r : Nat) : Rat) * (2 : Rat) ^ (frE r - 53 + 1074) := by
        rw [two_zpow_add, ← Rat.mul_assoc, hv, Rat.mul_assoc, ← two_zpow_add]; simp
      rw [h2, hn, Rat.natCast_mul, Rat.natCast_mul, ← two_zpow_nat, ← two_zpow_nat, Rat.mul_assoc, ← two_zpow_add, ht]
      congr 2; omega
    exact_mod_cast h1
  refine ⟨by omega, by omega, ?_⟩
  have ht2 : t < 2098 := by
    have := mag_lt h
    rw [mag_inf] at this
    apply Classical.byContradiction
    intro c
    have h1 : 2 ^ 2098 ≤ 2 ^ t := Nat.pow_le_pow_right (by omega) (by omega)
    have h2 : 2 ^ t ≤ n * 2 ^ t := Nat.le_mul_of_pos_left _ (by omega)
    have h3 : (9007199254740992 : Nat) * 2 ^ 2045 = 2 ^ 2098 := by decide +kernel
    omega
  obtain ⟨s, hs⟩ : Rep ((2 ^ t : Nat) : Int) := Rep_mk (m := 1) (k := t) (by simp) (by decide)
  rw [Int.natAbs_natCast] at hs
  have hsi : s < inf := by
    apply mag_lt_iff.1
    rw [← hs, mag_inf]
    have h1 : 2 ^ t < 2 ^ 2098 := Nat.pow_lt_pow_right (by omega) ht2
    have h3 : (9007199254740992 : Nat) * 2 ^ 2045 = 2 ^ 2098 := by decide +kernel
    omega
  have hO : mag 4607182418800017408 = 2 ^ 1074 := by decide +kernel
  have hy : ldx 4607182418800017408 (frE r - 53 + j) = s := by
    obtain ⟨e, he⟩ : ∃ e, e = frE r - 53 + (j : Int) := ⟨_, rfl⟩
    rw [← he] at ht ⊢
    unfold ldx ldR ldN
    rw [rung_small (by decide), sgn_small (by decide), hO]
    have e1 : 2 ^ 1074 * 2 ^ e.toNat = mag s * 2 ^ (-e).toNat := by
      rw [← hs, ← Nat.pow_add, ← Nat.pow_add]; congr 1; omega
    rw [e1, rnd_exact, Nat.min_eq_left (Nat.le_of_lt hsi)]; rfl
  rw [hy]
  exact ⟨hsi, by rw [← hs, hm, lowb_mk ho]⟩
theorem abs_at (x r : Nat) (hx : x < 18446744073709551616) (hr : r = rung x) (w : World) : Calls Tryd.prog 31 #[.float .f64 x] w fun e w' => e = .returned (.float .f64 r) ∧ w = w' := by
  rw [hr]; exact abs_calls x hx w
theorem ld_frF (r : Nat) (w : World) : Calls Tryd.prog 73 #[.float .f64 (frF r), .int .i64 53] w fun e w' => e = .returned (.float .f64 (frP r)) ∧ w = w' := by
  have h1 := frF_small r
  have h2 : rung (frF r) < inf := by
    rw [rung_small h1]
    have := inf_eq
    have hm : frM r % 4503599627370496 < 4503599627370496 := Nat.mod_lt _ (by omega)
    have e : frF r = 4602678819172646912 + frM r % 4503599627370496 := rfl
    omega
  have h3 := Ldexp_calls (frF r) (by omega) h2 53 ⟨by omega, by omega⟩ w
  rw [ldx_frF] at h3
  exact h3
set_option maxRecDepth 100000 in
set_option maxHeartbeats 1000000 in
theorem elow_calls (x : Nat) (hx : x < 18446744073709551616) (h0 : 0 < rung x) (h : rung x < inf) (w : World) :
    Calls Tryd.prog 66 #[.float .f64 x] w fun e w' => ∃ y, e = .returned (.float .f64 y) ∧ LowF (rung x) y ∧ w = w' := by
  obtain ⟨r, hr⟩ : ∃ r, r = rung x := ⟨_, rfl⟩
  rw [← hr] at h0 h ⊢
  have hb := frE_bound h0 h
  obtain ⟨hb1, hb2⟩ := hb
  have HI := elow_int r
  have HFx := Lib.hid (fun w => Frexp_at r r rfl h0 h w)
  have HAb := Lib.hid (fun w => abs_at x r hx hr w)
  have HE := Lib.hid (fun n j => @elow_end r n j h0 h)
  have hq0 : 0 < frQ r ∧ frQ r < 9007199254740992 := by unfold frQ; omega
  have HQ := Lib.hid hq0
  clear hr hq0 h0 h
  have HLd := Lib.hid (fun w => ld_frF r w)
  go_enter Tryd.func66, Tryd.ntmps66
  go_wp2_with (first
    | (go_at_call 31; ((with_reducible refine (HAb.out _).mono ?_); rintro e w1 ⟨rfl, rfl⟩))
    | (go_at_call 70; ((with_reducible refine (HFx.out _).mono ?_); rintro e w1 ⟨rfl, rfl⟩))
    | (go_at_call 73; ((with_reducible refine (HLd.out _).mono ?_); rintro e w1 ⟨rfl, rfl⟩)))
  go_loopw [4, 5] (fun ev nv wr => ∃ (j n : Nat), wr = w ∧ nv = .int .u64 n ∧ ev = .int .i64 (frE r - 53 + (j : Int)) ∧ 0 < n ∧ n < 9007199254740992 ∧ j + n ≤ 9007199254740992 ∧ Hid (frQ r = n * 2 ^ j)) (fun _ nv _ => (intOf nv).toNat)
  case atStart => exact ⟨0, frQ r, rfl, rfl, by simp, HQ.out.1, HQ.out.2, by have := HQ.out.2; omega, by show _ = _; simp⟩
  case round =>
    obtain ⟨j, n, rfl, rfl, rfl, hn0, hn1, hj, HN⟩ := hrel
    have b1 : bits .and .u64 (n : Int) 1 = ((n % 2 : Nat) : Int) := by
      have := u64_and_nat n 1 (by omega) (by omega)
      rw [Nat.and_one_is_mod] at this; exact this
    rcases Nat.mod_two_eq_zero_or_one n with ho | ho
    · rw [ho] at b1
      have b2 : (((0 : Nat) : Int) == 0) = true := rfl
      have hstep : frQ r = n / 2 * 2 ^ (j + 1) := by
        have e : n = n / 2 * 2 := by omega
        rw [HN.out, Nat.pow_succ]
        conv => lhs; rw [e]
        ac_rfl
      go_wp2_with fail
      go_roundw
      case rel => exact ⟨j + 1, n / 2, by first | rfl | trivial, by congr 1, by congr 1; omega, by omega, by omega, by omega, hstep⟩
      case measure => simp [intOf]; omega
    · rw [ho] at b1
      have b2 : (((1 : Nat) : Int) == 0) = false := rfl
      obtain ⟨k1, k2, k3⟩ := HE.out n j HN.out ho
      have HLe := Lib.hid (fun w => Ldexp_calls 4607182418800017408 (by decide) (by decide) (frE r - 53 + (j : Int)) ⟨by omega, by omega⟩ w)
      go_wp2_with (go_at_call 73; ((with_reducible refine (HLe.out _).mono ?_); rintro e w1 ⟨rfl, rfl⟩))
      go_ret
      exact ⟨_, rfl, k3, rfl⟩
end Go.Proofs.YtjogclokjonkeaaDoor
