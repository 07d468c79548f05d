/- The halves of a float: few bits, and products that are not rounded. -/
import Derived.Test.YtojbheanfcdjoaaFlH
import Derived.Test.YtojbheanfcdjoaaNmC
namespace TV
set_option exponentiation.threshold 3000

/-- A float of at most 27 bits, of which the lowest stands high. -/
def Half (h : Nat) : Prop := h < 18446744073709551616 ∧ rung h ≤ 8696450880452427776 ∧ ∃ (m : Int) (k : Nat), fv h = m * ((2 ^ k : Nat) : Int) ∧ m.natAbs ≤ 67108864 ∧ 572 ≤ k ∧ k ≤ 1499

theorem half_zero {h : Nat} (hl : h < 18446744073709551616) (hz : rung h = 0) : Half h :=
  ⟨hl, by omega, 0, 572, by rw [fv_zero_of hz, Int.zero_mul], by decide, by omega, by omega⟩

theorem half_split {x : Nat} (h : safeB x = true) : Half (spHi x) ∧ Half (spLo x) := by
  obtain ⟨-, -, -, -, l1, l2, r1, r2, -, hz⟩ := split_safe h
  rcases of_decide_eq_true h with h0 | ⟨h1, h2⟩
  · obtain ⟨z1, z2⟩ := hz h0
    exact ⟨half_zero l1 z1, half_zero l2 z2⟩
  · obtain ⟨-, -, -, -, -, -, -, -, m, p, q, e, -, b2, b3, -, -, -, ⟨p', hp⟩, b7, b8, b9, b10⟩ := split_facts h1 h2
    refine ⟨⟨l1, r1, p', e + 27, ?_, by omega, by omega, by omega⟩, ⟨l2, r2, q, e, b3, b8, by omega, by omega⟩⟩
    rw [b2, hp, Nat.pow_add, Int.natCast_mul]
    have : ((2 ^ 27 : Nat) : Int) = 134217728 := by decide
    rw [this]; grind

theorem half_mul {x y : Nat} (hx : Half x) (hy : Half y) :
    Ieee.double.mul x y = some (fmul x y) ∧ fmul x y < 18446744073709551616 ∧ rung (fmul x y) < inf ∧ fv (fmul x y) * ((2 ^ 1074 : Nat) : Int) = fv x * fv y := by
  obtain ⟨-, x2, m, k, x3, x4, x5, x6⟩ := hx
  obtain ⟨-, y2, n, j, y3, y4, y5, y6⟩ := hy
  have hi := inf_eq
  have ex : fv x = (m * ((2 ^ (k - 572) : Nat) : Int)) * ((2 ^ 572 : Nat) : Int) := by
    rw [x3, Int.mul_assoc, ← Int.natCast_mul, ← Nat.pow_add, show k - 572 + 572 = k by omega]
  have ey : fv y = (n * ((2 ^ (j - 502) : Nat) : Int)) * ((2 ^ 502 : Nat) : Int) := by
    rw [y3, Int.mul_assoc, ← Int.natCast_mul, ← Nat.pow_add, show j - 502 + 502 = j by omega]
  have ep : (m * ((2 ^ (k - 572) : Nat) : Int)) * (n * ((2 ^ (j - 502) : Nat) : Int)) = (m * n) * ((2 ^ (k - 572 + (j - 502)) : Nat) : Int) := by
    rw [Nat.pow_add, Int.natCast_mul]; grind
  have hmn : (m * n).natAbs ≤ 4503599627370496 := by
    rw [Int.natAbs_mul]
    calc m.natAbs * n.natAbs ≤ 67108864 * 67108864 := Nat.mul_le_mul x4 y4
      _ = 4503599627370496 := by rfl
  have hle : ((m * ((2 ^ (k - 572) : Nat) : Int)) * (n * ((2 ^ (j - 502) : Nat) : Int))).natAbs ≤ mag (p2 1925) := by
    rw [ep, Int.natAbs_mul, Int.natAbs_natCast, mag_p2 (by omega)]
    calc (m * n).natAbs * 2 ^ (k - 572 + (j - 502)) ≤ 2 ^ 52 * 2 ^ 1924 := Nat.mul_le_mul (by rw [← e52]; exact hmn) (Nat.pow_le_pow_right (by omega) (by omega))
      _ = 2 ^ (51 + 1925) := by rw [← Nat.pow_add]
  obtain ⟨a1, a2, a3, a4⟩ := fmul_val (x := x) (y := y) (M := p2 1925) (k := 572) (j := 502) (by omega) (by omega) (p2_lt (by omega)) ex ey rfl hle
  refine ⟨a1, a2, Nat.lt_of_le_of_lt a3 (p2_lt (by omega)), ?_⟩
  rw [a4, Rn_fix (Rep_mk ep (by omega)), ex, ey]
  have : ((2 ^ 1074 : Nat) : Int) = ((2 ^ 572 : Nat) : Int) * ((2 ^ 502 : Nat) : Int) := by rw [← Int.natCast_mul, ← Nat.pow_add]
  rw [this]; grind

/-- At most 26 bits from the highest to the lowest. -/
theorem few_bits {q : Rat} {m : Int} {l : Int} (hq : q = (m : Rat) * (2 : Rat) ^ l) (hm : m.natAbs ≤ 67108864) {h l' : Int} (hh : HighOf q h) (hl : LowOf q l') : h - l' + 1 ≤ 26 := by
  by_cases c : m.natAbs < 67108864
  · have h1 := high_unique hh hq (b := 26) (by rw [show (2 : Nat) ^ 26 = 67108864 by decide]; exact c)
    have h2 := low_unique hl hq
    omega
  · obtain ⟨n, hn, hn1⟩ : ∃ n : Int, m = n * 67108864 ∧ n.natAbs < 2 ^ 1 := by
      rcases Int.natAbs_eq m with e | e
      · exact ⟨1, by omega, by decide⟩
      · exact ⟨-1, by omega, by decide⟩
    have hq' : q = (n : Rat) * (2 : Rat) ^ (l + 26) := by
      rw [hq, hn, Rat.intCast_mul, Int.add_comm l, two_zpow_add, ← Rat.mul_assoc]
      congr 2
    have h1 := high_unique hh hq' hn1
    have h2 := low_unique hl hq'
    omega
end TV
