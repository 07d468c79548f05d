/- Veltkamp's halves and Dekker's exact product, in whole numbers. -/
import Derived.Test.YtiiipgbfhcbjdaaDoorFlD
namespace TV

/-- Half a unit in the last place. -/
theorem Rn_half {n : Int} {k : Nat} (h : n.natAbs ≤ 9007199254740992 * 2 ^ k) : 2 * (Rn n - n).natAbs ≤ 2 ^ k := by
  by_cases heq : n.natAbs = 9007199254740992 * 2 ^ k
  · have : Rep n := Rep_mult (k := k) (Int.dvd_natAbs.1 (by rw [heq, Int.natCast_mul]; exact ⟨_, Int.mul_comm _ _⟩)) h
    rw [Rn_fix this]; simp
  have hp := Nat.two_pow_pos k
  have hq : n.natAbs / 2 ^ k < 9007199254740992 := by
    apply Nat.div_lt_of_lt_mul; rw [Nat.mul_comm]; omega
  have hd := Nat.div_add_mod n.natAbs (2 ^ k)
  have hm := Nat.mod_lt n.natAbs hp
  have r1 : Rep (((n.natAbs / 2 ^ k : Nat) : Int) * ((2 ^ k : Nat) : Int)) := Rep_mk rfl (by rw [Int.natAbs_natCast]; omega)
  have r2 : Rep (((n.natAbs / 2 ^ k + 1 : Nat) : Int) * ((2 ^ k : Nat) : Int)) := Rep_mk rfl (by rw [Int.natAbs_natCast]; omega)
  rw [← Int.natCast_mul] at r1 r2
  rw [Nat.add_mul] at r2
  rw [Nat.mul_comm] at hd
  generalize n.natAbs / 2 ^ k * 2 ^ k = A at *
  generalize n.natAbs % 2 ^ k = B at *
  generalize 2 ^ k = P at *
  by_cases c : 0 ≤ n
  · have n1 := Rn_near (n := n) r1
    have n2 := Rn_near (n := n) r2
    omega
  · have n1 := Rn_near (n := n) (Rep_neg r1)
    have n2 := Rn_near (n := n) (Rep_neg r2)
    omega

/-- What has 53 bits and is not below 2^52 2^k is a multiple of 2^k. -/
theorem Rep_dvd {n : Int} {k : Nat} (h : Rep n) (hb : 4503599627370496 * 2 ^ k ≤ n.natAbs) : ((2 ^ k : Nat) : Int) ∣ n := by
  obtain ⟨m, e, hm, hm2⟩ := Rep_parts h
  by_cases c : k ≤ e
  · rw [hm]; exact Int.dvd_trans (dvd_pow c) ⟨m, Int.mul_comm _ _⟩
  · exfalso
    have h1 : n.natAbs = m.natAbs * 2 ^ e := by rw [hm, Int.natAbs_mul, Int.natAbs_natCast]
    have h2 : 2 ^ k = 2 * 2 ^ (k - 1 - e) * 2 ^ e := by
      rw [← Nat.pow_succ', ← Nat.pow_add]; congr 1; omega
    rw [h1, h2, ← Nat.mul_assoc] at hb
    have := Nat.le_of_mul_le_mul_right hb (Nat.two_pow_pos e)
    have := Nat.two_pow_pos (k - 1 - e)
    omega

theorem e27 : (2 : Nat) ^ 27 = 134217728 := by decide
theorem e28 : (2 : Nat) ^ 28 = 268435456 := by decide

/-- Veltkamp: a of just 53 bits in two halves. -/
theorem split_pos {a c d : Int} (h1 : 4503599627370496 ≤ a) (h2 : a < 9007199254740992) (hc : c = Rn (134217729 * a)) (hd : d = Rn (c - a)) :
    Rn (c - d) = c - d ∧ Rn (a - (c - d)) = a - (c - d) ∧ (134217728 : Int) ∣ c - d ∧ (a - (c - d)).natAbs ≤ 67108864 ∧ 0 ≤ c - d ∧ c - d ≤ 9007199254740992 := by
  -- c is a multiple of 2^27, and near to 2^27 a + a
  have hcr : Rep c := by rw [hc]; exact Rep_Rn _
  have hdr : Rep d := by rw [hd]; exact Rep_Rn _
  have hclo : (604462909807314587353088 : Int) ≤ c := by
    have hr : Rep (604462909807314587353088 : Int) := Rep_mk (m := 4503599627370496) (k := 27) (by rw [e27]; rfl) (by decide)
    have := Rn_mono (n := 604462909807314587353088) (m := 134217729 * a) (by omega)
    rw [Rn_fix hr, ← hc] at this; exact this
  have hcd : (134217728 : Int) ∣ c := by
    have := Rep_dvd (k := 27) hcr (by rw [e27]; omega)
    rwa [e27] at this
  have hce : 2 * (c - 134217729 * a).natAbs ≤ 268435456 := by
    have := Rn_half (n := 134217729 * a) (k := 28) (by rw [e28]; omega)
    rwa [e28, ← hc] at this
  have hce' : 134217729 * a ≤ 1208925819614629174706176 → 2 * (c - 134217729 * a).natAbs ≤ 134217728 := by
    intro hle
    have := Rn_half (n := 134217729 * a) (k := 27) (by rw [e27]; omega)
    rwa [e27, ← hc] at this
  -- c - a is from 2^79 to 2^80
  have hlo : (604462909807314587353088 : Int) ≤ c - a := by
    by_cases e : a = 4503599627370496
    · subst e
      have hr : Rep (134217729 * 4503599627370496 : Int) := Rep_mk (m := 134217729) (k := 52) (by decide) (by decide)
      rw [Rn_fix hr] at hc; omega
    · by_cases hle : 134217729 * a ≤ 1208925819614629174706176
      · have := hce' hle; omega
      · omega
  have hhi : c - a ≤ 1208925819614629174706176 := by omega
  have hdd : (134217728 : Int) ∣ d := by
    have h3 : (604462909807314587353088 : Int) ≤ d := by
      have hr : Rep (604462909807314587353088 : Int) := Rep_mk (m := 4503599627370496) (k := 27) (by rw [e27]; rfl) (by decide)
      have := Rn_mono hlo
      rw [Rn_fix hr, ← hd] at this; exact this
    have := Rep_dvd (k := 27) hdr (by rw [e27]; omega)
    rwa [e27] at this
  have hde : 2 * (d - (c - a)).natAbs ≤ 134217728 := by
    have := Rn_half (n := c - a) (k := 27) (by rw [e27]; omega)
    rwa [e27, ← hd] at this
  have hx : (134217728 : Int) ∣ c - d := Int.dvd_sub hcd hdd
  have hy : (a - (c - d)).natAbs ≤ 67108864 := by omega
  have hxb : c - d ≤ 9007199254740992 := by
    obtain ⟨q, hq⟩ := hx
    omega
  have hx0 : 0 ≤ c - d := by omega
  refine ⟨Rn_fix (Rep_mult (k := 27) (by rw [e27]; exact hx) (by rw [e27]; omega)), Rn_fix (Rep_small (by omega)), hx, hy, hx0, hxb⟩

/-- Dekker: of halves of two floats of 53 bits the product is told exactly. -/
theorem dekker {a b p q r s x : Int} (ha : 4503599627370496 ≤ a.natAbs) (ha2 : a.natAbs < 9007199254740992) (hb : 4503599627370496 ≤ b.natAbs) (hb2 : b.natAbs < 9007199254740992)
    (hpq : a = p + q) (hrs : b = r + s) (hp : (134217728 : Int) ∣ p) (hr : (134217728 : Int) ∣ r) (hp2 : p.natAbs ≤ 9007199254740992) (hr2 : r.natAbs ≤ 9007199254740992)
    (hq : q.natAbs ≤ 67108864) (hs : s.natAbs ≤ 67108864) (hx : x = Rn (a * b)) :
    Rep (p * r) ∧ Rep (q * r) ∧ Rep (p * s) ∧ Rep (q * s) ∧ Rep (x - p * r) ∧ Rep (x - p * r - q * r) ∧ Rep (x - p * r - q * r - p * s) ∧ Rep (a * b - x) ∧
      q * s - (x - p * r - q * r - p * s) = a * b - x := by
  obtain ⟨P, rfl⟩ := hp
  obtain ⟨R, rfl⟩ := hr
  have bPR : (P * R).natAbs ≤ 67108864 * 67108864 := by
    rw [Int.natAbs_mul]; exact Nat.mul_le_mul (by omega) (by omega)
  have bqR : (q * R).natAbs ≤ 67108864 * 67108864 := by
    rw [Int.natAbs_mul]; exact Nat.mul_le_mul (by omega) (by omega)
  have bPs : (P * s).natAbs ≤ 67108864 * 67108864 := by
    rw [Int.natAbs_mul]; exact Nat.mul_le_mul (by omega) (by omega)
  have bqs : (q * s).natAbs ≤ 67108864 * 67108864 := by
    rw [Int.natAbs_mul]; exact Nat.mul_le_mul (by omega) (by omega)
  have hab : a * b = 18014398509481984 * (P * R) + 134217728 * (q * R) + 134217728 * (P * s) + q * s := by
    rw [hpq, hrs]; grind
  have e1 : 134217728 * P * (134217728 * R) = 18014398509481984 * (P * R) := by grind
  have e2 : q * (134217728 * R) = 134217728 * (q * R) := by grind
  have e3 : 134217728 * P * s = 134217728 * (P * s) := by grind
  rw [e1, e2, e3]
  have hblo : 4503599627370496 * 4503599627370496 ≤ (a * b).natAbs := by rw [Int.natAbs_mul]; exact Nat.mul_le_mul ha hb
  have hbhi : (a * b).natAbs ≤ 9007199254740992 * 9007199254740992 := by rw [Int.natAbs_mul]; exact Nat.mul_le_mul (by omega) (by omega)
  have hxr : Rep x := by rw [hx]; exact Rep_Rn _
  have hxe : 2 * (x - a * b).natAbs ≤ 9007199254740992 := by
    have := Rn_half (n := a * b) (k := 53) (by rw [← e53]; exact hbhi)
    rwa [← e53, ← hx] at this
  have hxd : (4503599627370496 : Int) ∣ x := by
    have hlo : 4503599627370496 * 2 ^ 52 ≤ x.natAbs := by
      have hr : Rep (20282409603651670423947251286016 : Int) := Rep_mk (m := 4503599627370496) (k := 52) (by decide) (by decide)
      have := Rn_abs_le (n := a * b) hr (by omega)
      rw [← hx] at this
      rw [← e52]; omega
    have := Rep_dvd (k := 52) hxr hlo
    rwa [← e52] at this
  generalize P * R = A at *
  generalize q * R = B at *
  generalize P * s = C at *
  generalize q * s = D at *
  generalize a * b = T at *
  obtain ⟨X, rfl⟩ := hxd
  have e54 : (2 : Nat) ^ 54 = 18014398509481984 := by decide
  refine ⟨?_, ?_, ?_, ?_, ?_, ?_, ?_, ?_, ?_⟩
  · exact Rep_mult (k := 54) (by rw [e54]; exact ⟨A, rfl⟩) (by rw [e54]; omega)
  · exact Rep_mult (k := 27) (by rw [e27]; exact ⟨B, rfl⟩) (by rw [e27]; omega)
  · exact Rep_mult (k := 27) (by rw [e27]; exact ⟨C, rfl⟩) (by rw [e27]; omega)
  · exact Rep_small (by omega)
  · exact Rep_mult (k := 52) (by rw [← e52]; exact ⟨X - 4 * A, by omega⟩) (by rw [← e52]; omega)
  · exact Rep_mult (k := 27) (by rw [e27]; exact ⟨33554432 * X - 134217728 * A - B, by omega⟩) (by rw [e27]; omega)
  · exact Rep_small (by omega)
  · exact Rep_small (by omega)
  · omega

def fadd (x y : Nat) : Nat := (Ieee.double.add x y).getD 0
def fsub (x y : Nat) : Nat := (Ieee.double.sub x y).getD 0
def fmul (x y : Nat) : Nat := (Ieee.double.mul x y).getD 0
def fneg (x : Nat) : Nat := x ^^^ 9223372036854775808
/-- Infinite or no number: none; else finite. -/
def finB (x : Nat) : Bool := decide (rung x < inf)

theorem rung_lt (x : Nat) : rung x < 9223372036854775808 := Nat.mod_lt _ (by omega)

theorem fneg_eq {x : Nat} (h : x < 18446744073709551616) : fneg x = flo (!sgn x) (rung x) := by
  unfold fneg
  have hx := flo_eta h
  have hr := rung_lt x
  generalize rung x = r at *
  generalize sgn x = s at *
  subst hx
  have e63 : (9223372036854775808 : Nat) = 2 ^ 63 := by decide
  have key : r ^^^ 9223372036854775808 = 9223372036854775808 + r := by
    rw [e63] at hr ⊢
    have := Nat.two_pow_add_eq_or_of_lt hr 1
    rw [Nat.mul_one] at this
    rw [Nat.xor_comm, this]
    apply Nat.eq_of_testBit_eq
    intro i
    rw [Nat.testBit_xor, Nat.testBit_or, Nat.testBit_two_pow]
    by_cases c : 63 = i
    · subst c; rw [Nat.testBit_lt_two_pow hr]; simp
    · simp [c]
  cases s
  · unfold flo; simpa using key
  · have : (9223372036854775808 + r) ^^^ 9223372036854775808 = r := by
      rw [← key, Nat.xor_assoc, Nat.xor_self, Nat.xor_zero]
    unfold flo; simpa using this

theorem fneg_lt {x : Nat} (h : x < 18446744073709551616) : fneg x < 18446744073709551616 := by
  rw [fneg_eq h]; exact flo_lt (rung_lt x)
theorem rung_fneg {x : Nat} (h : x < 18446744073709551616) : rung (fneg x) = rung x := by
  rw [fneg_eq h, rung_flo (rung_lt x)]
theorem sgn_fneg {x : Nat} (h : x < 18446744073709551616) : sgn (fneg x) = !sgn x := by
  rw [fneg_eq h, sgn_flo (rung_lt x)]
theorem sm_not (s : Bool) (n : Nat) : sm (!s) n = - sm s n := by unfold sm; cases s <;> simp
theorem fv_fneg {x : Nat} (h : x < 18446744073709551616) : fv (fneg x) = - fv x := by
  rw [fneg_eq h, fv_flo (rung_lt x), sm_not]; rfl

theorem fsub_fneg {x y : Nat} (hx : rung x < inf) (hy : rung y < inf) (h : y < 18446744073709551616) : Ieee.double.add x (fneg y) = Ieee.double.sub x y := by
  rw [add_fin hx (by rw [rung_fneg h]; exact hy), sub_fin hx hy, fv_fneg h, sgn_fneg h, ← Int.sub_eq_add_neg]

theorem sm_flo_val {n : Int} {s : Bool} (h : s = decide (n < 0) ∨ n = 0) : sm s (mag (rndAt 0 n.natAbs)) = Rn n := by
  rcases h with h | h
  · subst h; rfl
  · subst h; cases s <;> decide

/-- A sum that is not too great: a float, the nearest one. -/
theorem fadd_val {x y M : Nat} (hx : rung x < inf) (hy : rung y < inf) (hM : M < inf) (h : (fv x + fv y).natAbs ≤ mag M) :
    Ieee.double.add x y = some (fadd x y) ∧ fadd x y < 18446744073709551616 ∧ rung (fadd x y) ≤ M ∧ fv (fadd x y) = Rn (fv x + fv y) := by
  have hr : rndAt 0 (fv x + fv y).natAbs ≤ M := by
    have := rnd_mono (u := 0) h; rwa [rnd_exact0] at this
  have e := add_fin hx hy
  have hl := inf_lt
  unfold fadd
  rw [e, Option.getD_some, Nat.min_eq_left (by omega)]
  refine ⟨rfl, flo_lt (by omega), by rw [rung_flo (by omega)]; exact hr, ?_⟩
  rw [fv_flo (by omega), sm_flo_val]
  by_cases c : fv x + fv y = 0
  · exact Or.inr c
  · rw [if_neg c]; exact Or.inl rfl

theorem fsub_val {x y M : Nat} (hx : rung x < inf) (hy : rung y < inf) (hM : M < inf) (h : (fv x - fv y).natAbs ≤ mag M) :
    Ieee.double.sub x y = some (fsub x y) ∧ fsub x y < 18446744073709551616 ∧ rung (fsub x y) ≤ M ∧ fv (fsub x y) = Rn (fv x - fv y) := by
  have hr : rndAt 0 (fv x - fv y).natAbs ≤ M := by
    have := rnd_mono (u := 0) h; rwa [rnd_exact0] at this
  have e := sub_fin hx hy
  have hl := inf_lt
  unfold fsub
  rw [e, Option.getD_some, Nat.min_eq_left (by omega)]
  refine ⟨rfl, flo_lt (by omega), by rw [rung_flo (by omega)]; exact hr, ?_⟩
  rw [fv_flo (by omega), sm_flo_val]
  by_cases c : fv x - fv y = 0
  · exact Or.inr c
  · rw [if_neg c]; exact Or.inl rfl

/-- A product: its value is rounded; 'k + j' units are whole units. -/
theorem fmul_val {x y M k j : Nat} {a b : Int} (hx : rung x < inf) (hy : rung y < inf) (hM : M < inf) (ha : fv x = a * ((2 ^ k : Nat) : Int)) (hb : fv y = b * ((2 ^ j : Nat) : Int)) (hkj : k + j = 1074)
    (h : (a * b).natAbs ≤ mag M) :
    Ieee.double.mul x y = some (fmul x y) ∧ fmul x y < 18446744073709551616 ∧ rung (fmul x y) ≤ M ∧ fv (fmul x y) = Rn (a * b) := by
  have h1 : mag (rung x) * mag (rung y) = (a * b).natAbs * 2 ^ 1074 := by
    rw [← fv_natAbs, ← fv_natAbs, ha, hb, Int.natAbs_mul, Int.natAbs_mul, Int.natAbs_mul, Int.natAbs_natCast, Int.natAbs_natCast, ← hkj, Nat.pow_add]
    ac_rfl
  have h2 : rndAt 1074 (mag (rung x) * mag (rung y)) = rndAt 0 (a * b).natAbs := by
    rw [h1]; have := rnd_scale 0 (a * b).natAbs 1074; rwa [Nat.zero_add] at this
  have hr : rndAt 0 (a * b).natAbs ≤ M := by
    have := rnd_mono (u := 0) h; rwa [rnd_exact0] at this
  have e := mul_fin hx hy
  have hl := inf_lt
  unfold fmul
  rw [e, h2, Option.getD_some, Nat.min_eq_left (by omega)]
  refine ⟨rfl, flo_lt (by omega), by rw [rung_flo (by omega)]; exact hr, ?_⟩
  rw [fv_flo (by omega), sm_flo_val]
  -- the sign
  have hs : ∀ z : Nat, (sgn z = true → fv z ≤ 0) ∧ (sgn z = false → 0 ≤ fv z) := by
    intro z; unfold fv sm
    constructor
    · intro hz; rw [hz]; simp
    · intro hz; rw [hz]; simp
  have pk : (0 : Int) < ((2 ^ k : Nat) : Int) := by exact_mod_cast Nat.two_pow_pos k
  have pj : (0 : Int) < ((2 ^ j : Nat) : Int) := by exact_mod_cast Nat.two_pow_pos j
  have a1 : sgn x = true → a ≤ 0 := by
    intro hz; have := (hs x).1 hz; rw [ha] at this
    apply Int.le_of_not_gt; intro hp; have := Int.mul_pos hp pk; omega
  have a2 : sgn x = false → 0 ≤ a := by
    intro hz; have := (hs x).2 hz; rw [ha] at this
    apply Int.le_of_not_gt; intro hp; have := Int.mul_neg_of_neg_of_pos hp pk; omega
  have b1 : sgn y = true → b ≤ 0 := by
    intro hz; have := (hs y).1 hz; rw [hb] at this
    apply Int.le_of_not_gt; intro hp; have := Int.mul_pos hp pj; omega
  have b2 : sgn y = false → 0 ≤ b := by
    intro hz; have := (hs y).2 hz; rw [hb] at this
    apply Int.le_of_not_gt; intro hp; have := Int.mul_neg_of_neg_of_pos hp pj; omega
  by_cases c : a * b = 0
  · exact Or.inr c
  · left
    have ca : a ≠ 0 := by intro h0; rw [h0, Int.zero_mul] at c; exact c rfl
    have cb : b ≠ 0 := by intro h0; rw [h0, Int.mul_zero] at c; exact c rfl
    cases sx : sgn x <;> cases sy : sgn y
    · have := Int.mul_pos (a := a) (b := b) (by have := a2 sx; omega) (by have := b2 sy; omega)
      simp; omega
    · have := Int.mul_neg_of_pos_of_neg (a := a) (b := b) (by have := a2 sx; omega) (by have := b1 sy; omega)
      simp; omega
    · have := Int.mul_neg_of_neg_of_pos (a := a) (b := b) (by have := a1 sx; omega) (by have := b2 sy; omega)
      simp; omega
    · have := Int.mul_pos_of_neg_of_neg (a := a) (b := b) (by have := a1 sx; omega) (by have := b1 sy; omega)
      simp; omega

/-! Comparisons. -/
def feq (x y : Nat) : Bool := Ieee.double.order x y == some .eq
def flt (x y : Nat) : Bool := Ieee.double.order x y == some .lt

theorem cmp_lt {a b : Int} : (some (compare a b) == some Ordering.lt) = decide (a < b) := by
  simp only [compare, compareOfLessAndEq]
  by_cases h : a < b
  · simp [h]
  · by_cases h2 : a = b <;> simp [h, h2]
theorem cmp_eq {a b : Int} : (some (compare a b) == some Ordering.eq) = decide (a = b) := by
  simp only [compare, compareOfLessAndEq]
  by_cases h : a < b
  · have : a ≠ b := by omega
    simp [h, this]
  · by_cases h2 : a = b <;> simp [h, h2]
theorem cmp_gt {a b : Int} : (some (compare a b) == some Ordering.gt) = decide (b < a) := by
  simp only [compare, compareOfLessAndEq]
  by_cases h : a < b
  · have : ¬ b < a := by omega
    simp [h, this]
  · by_cases h2 : a = b
    · simp [h2]
    · have : b < a := by omega
      simp [h2, this]; omega

theorem feq_fin {x y : Nat} (hx : rung x < inf) (hy : rung y < inf) : feq x y = decide (fv x = fv y) := by
  unfold feq; rw [order_fin hx hy, cmp_eq]
theorem flt_fin {x y : Nat} (hx : rung x < inf) (hy : rung y < inf) : flt x y = decide (fv x < fv y) := by
  unfold flt; rw [order_fin hx hy, cmp_lt]

/-- No number is like any. -/
theorem feq_self (x : Nat) : feq x x = decide (rung x ≤ inf) := by
  unfold feq
  by_cases h : rung x < inf
  · rw [order_fin h h, cmp_eq]; have : rung x ≤ inf := by omega
    simp [this]
  · by_cases h2 : rung x = inf
    · rw [order_inf_inf h2 h2]; simp [h2]
    · rw [order_nan_left (by omega)]; simp; omega
theorem flt_zero_inf {x : Nat} (h : rung x = inf) : flt x 0 = sgn x := by
  unfold flt; rw [order_inf_fin h (by decide)]; cases sgn x <;> decide
theorem flt_nan_left {x y : Nat} (h : inf < rung x) : flt x y = false := by unfold flt; rw [order_nan_left h]; decide
theorem feq_nan_left {x y : Nat} (h : inf < rung x) : feq x y = false := by unfold feq; rw [order_nan_left h]; decide

theorem fv_pos_rung (r : Nat) (h : r < 9223372036854775808) : fv r = mag r := by
  have := fv_flo (s := false) h; exact this
theorem sgn_small {r : Nat} (h : r < 9223372036854775808) : sgn r = false := sgn_flo (s := false) h
theorem rung_small {r : Nat} (h : r < 9223372036854775808) : rung r = r := rung_flo (s := false) h

/-- Of floats without a sign. -/
theorem le_pos {r C : Nat} (hr : r < 9223372036854775808) (hC : C < inf) : (Ieee.double.order r C == some .lt || Ieee.double.order r C == some .eq) = decide (r ≤ C) := by
  have hl := inf_lt
  have hC' := rung_small (show C < 9223372036854775808 by omega)
  have hr' := rung_small hr
  by_cases h : r < inf
  · rw [order_fin (by omega) (by omega), cmp_lt, cmp_eq, fv_pos_rung r hr, fv_pos_rung C (by omega)]
    by_cases c : r < C
    · have := mag_lt c; have : r ≤ C := by omega
      simp [this]; omega
    · by_cases c2 : r = C
      · subst c2; simp
      · have := mag_lt (show C < r by omega)
        rw [decide_eq_false (by omega), decide_eq_false (by omega), decide_eq_false (by omega)]; rfl
  · by_cases h2 : r = inf
    · rw [order_inf_fin (by omega) (by omega), sgn_small hr]; simp; omega
    · rw [order_nan_left (by omega)]; simp; omega
theorem ge_pos {r C : Nat} (hr : r ≤ inf) (hC : C < inf) : (Ieee.double.order r C == some .gt || Ieee.double.order r C == some .eq) = decide (C ≤ r) := by
  have hl := inf_lt
  have hC' := rung_small (show C < 9223372036854775808 by omega)
  have hr' := rung_small (show r < 9223372036854775808 by omega)
  by_cases h : r < inf
  · rw [order_fin (by omega) (by omega), cmp_gt, cmp_eq, fv_pos_rung r (by omega), fv_pos_rung C (by omega)]
    by_cases c : C < r
    · have := mag_lt c; have : C ≤ r := by omega
      simp [this]; omega
    · by_cases c2 : r = C
      · subst c2; simp
      · have := mag_lt (show r < C by omega)
        rw [decide_eq_false (by omega), decide_eq_false (by omega), decide_eq_false (by omega)]; rfl
  · have h2 : r = inf := by omega
    rw [order_inf_fin (by omega) (by omega), sgn_small (by omega)]; simp; omega
theorem mag_eq_zero {r : Nat} : mag r = 0 ↔ r = 0 := ⟨fun h => mag_inj (by rw [h]; rfl), fun h => by rw [h]; rfl⟩
theorem eq_zero (x : Nat) : (Ieee.double.order x 0 == some .eq) = decide (rung x = 0) := by
  by_cases h : rung x < inf
  · rw [order_fin h (by decide), cmp_eq]
    have : fv x = fv 0 ↔ rung x = 0 := by
      rw [show fv 0 = 0 by decide, ← mag_eq_zero, ← fv_natAbs]; omega
    simp only [this]
  · have hne : rung x ≠ 0 := by have : 0 < inf := by decide
                                omega
    by_cases h2 : rung x = inf
    · rw [order_inf_fin h2 (by decide)]; simp [hne]; cases sgn x <;> simp
    · rw [order_nan_left (by omega)]; simp [hne]

set_option exponentiation.threshold 3000

def tameB (x : Nat) : Bool := decide (rung x ≤ 9110782046170513408)
def safeB (x : Nat) : Bool := decide (rung x = 0 ∨ (2580562586483294208 ≤ rung x ∧ rung x ≤ 6633802251116740608))

def sumLo (x y : Nat) : Nat :=
  fadd (fsub x (fsub (fadd x y) (fsub (fadd x y) x))) (fsub y (fsub (fadd x y) x))

theorem inf_eq : inf = 9218868437227405312 := rfl

theorem sum_facts {x y : Nat} (hx : rung x ≤ 9110782046170513408) (hy : rung y ≤ 9110782046170513408) :
    Ieee.double.add x y = some (fadd x y) ∧ Ieee.double.sub (fadd x y) x = some (fsub (fadd x y) x) ∧
    Ieee.double.sub (fadd x y) (fsub (fadd x y) x) = some (fsub (fadd x y) (fsub (fadd x y) x)) ∧
    Ieee.double.sub x (fsub (fadd x y) (fsub (fadd x y) x)) = some (fsub x (fsub (fadd x y) (fsub (fadd x y) x))) ∧
    Ieee.double.sub y (fsub (fadd x y) x) = some (fsub y (fsub (fadd x y) x)) ∧
    Ieee.double.add (fsub x (fsub (fadd x y) (fsub (fadd x y) x))) (fsub y (fsub (fadd x y) x)) = some (sumLo x y) ∧
    fadd x y < 18446744073709551616 ∧ rung (fadd x y) ≤ 9115285645797883904 ∧ fv (fadd x y) = Rn (fv x + fv y) ∧
    sumLo x y < 18446744073709551616 ∧ rung (sumLo x y) ≤ 9119789245425254400 ∧ fv (sumLo x y) = fv x + fv y - Rn (fv x + fv y) := by
  have hi := inf_eq
  have m0 := mag_le hx
  have m1 := mag_le hy
  rw [← fv_natAbs] at m0 m1
  have d1 : mag 9115285645797883904 = 2 * mag 9110782046170513408 := mag_double (r := 9110782046170513408) (by omega)
  have d2 : mag 9119789245425254400 = 2 * mag 9115285645797883904 := mag_double (r := 9115285645797883904) (by omega)
  have d3 : mag 9124292845052624896 = 2 * mag 9119789245425254400 := mag_double (r := 9119789245425254400) (by omega)
  have d4 : mag 9128796444679995392 = 2 * mag 9124292845052624896 := mag_double (r := 9124292845052624896) (by omega)
  obtain ⟨a1, a2, a3, a4⟩ := fadd_val (M := 9115285645797883904) (x := x) (y := y) (by omega) (by omega) (by omega) (by omega)
  have m2 := mag_le a3
  rw [← fv_natAbs] at m2
  obtain ⟨b1, b2, b3, b4⟩ := fsub_val (M := 9119789245425254400) (x := fadd x y) (y := x) (by omega) (by omega) (by omega) (by omega)
  have m3 := mag_le b3
  rw [← fv_natAbs] at m3
  obtain ⟨c1, c2, c3, c4⟩ := fsub_val (M := 9124292845052624896) (x := fadd x y) (y := fsub (fadd x y) x) (by omega) (by omega) (by omega) (by omega)
  have m4 := mag_le c3
  rw [← fv_natAbs] at m4
  obtain ⟨p1, p2, p3, p4⟩ := fsub_val (M := 9128796444679995392) (x := x) (y := fsub (fadd x y) (fsub (fadd x y) x)) (by omega) (by omega) (by omega) (by omega)
  obtain ⟨q1, q2, q3, q4⟩ := fsub_val (M := 9124292845052624896) (x := y) (y := fsub (fadd x y) x) (by omega) (by omega) (by omega) (by omega)
  obtain ⟨t1, t2, t3, t5⟩ := two_sum (a := fv x) (b := fv y) (x := fv (fadd x y)) (c := fv (fsub (fadd x y) x)) (d := fv (fsub (fadd x y) (fsub (fadd x y) x))) (Rep_fv x) (Rep_fv y) a4 b4 c4
  rw [t1] at p4
  rw [t2] at q4
  obtain ⟨r1, r2, r3, r4⟩ := fadd_val (M := 9119789245425254400) (x := fsub x (fsub (fadd x y) (fsub (fadd x y) x))) (y := fsub y (fsub (fadd x y) x)) (by omega) (by omega) (by omega) (by omega)
  rw [p4, q4, t3, t5, a4] at r4
  exact ⟨a1, b1, c1, p1, q1, r1, a2, a3, a4, r2, r3, r4⟩

/-! A float's halves. -/
def spC (x : Nat) : Nat := fmul 4728779608772575232 x
def spHi (x : Nat) : Nat := fsub (spC x) (fsub (spC x) x)
def spLo (x : Nat) : Nat := fsub x (spHi x)

theorem big_le {A : Int} {s : Nat} (hA : A.natAbs ≤ 5192296858534827628530496329220096) (hs : s ≤ 1870) : (A * ((2 ^ s : Nat) : Int)).natAbs ≤ mag 8696450880452427776 := by
  have e : mag 8696450880452427776 = 4503599627370496 * 2 ^ 1930 := mag_at (k := 1930) (q := 4503599627370496) (by omega) (by omega)
  rw [e, Int.natAbs_mul, Int.natAbs_natCast]
  have h1 : (2 : Nat) ^ 1930 = 2 ^ 60 * 2 ^ 1870 := by rw [← Nat.pow_add]
  have h2 : 2 ^ s ≤ 2 ^ 1870 := Nat.pow_le_pow_right (by omega) hs
  have e60 : (2 : Nat) ^ 60 = 1152921504606846976 := by decide
  rw [h1, ← Nat.mul_assoc, e60]
  exact Nat.mul_le_mul (by omega) h2

/-- A float's parts, if it is safe and not 0. -/
theorem safe_parts {x : Nat} (h1 : 2580562586483294208 ≤ rung x) (h2 : rung x ≤ 6633802251116740608) :
    ∃ (m : Int) (e : Nat), fv x = m * ((2 ^ e : Nat) : Int) ∧ 4503599627370496 ≤ m.natAbs ∧ m.natAbs < 9007199254740992 ∧ 572 ≤ e ∧ e ≤ 1472 := by
  refine ⟨sm (sgn x) (4503599627370496 + rung x % 4503599627370496), rung x / 4503599627370496 - 1, ?_, ?_, ?_, ?_, ?_⟩
  · unfold fv
    rw [show mag (rung x) = (4503599627370496 + rung x % 4503599627370496) * 2 ^ (rung x / 4503599627370496 - 1) by unfold mag; rw [if_neg (by omega)]]
    unfold sm; cases sgn x <;> simp [Int.neg_mul]
  · rw [sm_natAbs]; omega
  · rw [sm_natAbs]; omega
  · omega
  · omega

theorem fv_half : fv 4728779608772575232 = 134217729 * ((2 ^ 1074 : Nat) : Int) := by
  rw [fv_pos_rung _ (by decide)]
  have : mag 4728779608772575232 = 4503599660924928 * 2 ^ 1049 := mag_at (k := 1049) (q := 4503599660924928) (by omega) (by omega)
  rw [this, show (1074 : Nat) = 25 + 1049 by rfl, Nat.pow_add, show (2 : Nat) ^ 25 = 33554432 by decide]
  rw [Int.natCast_mul, Int.natCast_mul, ← Int.mul_assoc]
  rfl

/-- Veltkamp, whatever the sign. -/
theorem split_any {a c d : Int} (h1 : 4503599627370496 ≤ a.natAbs) (h2 : a.natAbs < 9007199254740992) (hc : c = Rn (134217729 * a)) (hd : d = Rn (c - a)) :
    Rn (c - d) = c - d ∧ Rn (a - (c - d)) = a - (c - d) ∧ (134217728 : Int) ∣ c - d ∧ (a - (c - d)).natAbs ≤ 67108864 ∧ (c - d).natAbs ≤ 9007199254740992 := by
  by_cases h : 0 ≤ a
  · obtain ⟨p1, p2, p3, p4, p5, p6⟩ := split_pos (a := a) (by omega) (by omega) hc hd
    exact ⟨p1, p2, p3, p4, by omega⟩
  · have hc' : -c = Rn (134217729 * -a) := by rw [hc, show 134217729 * -a = -(134217729 * a) by omega, Rn_neg]
    have hd' : -d = Rn (-c - -a) := by rw [hd, show -c - -a = -(c - a) by omega, Rn_neg]
    obtain ⟨p1, p2, p3, p4, p5, p6⟩ := split_pos (a := -a) (by omega) (by omega) hc' hd'
    rw [show -c - -d = -(c - d) by omega] at *
    rw [show -a - -(c - d) = -(a - (c - d)) by omega] at *
    rw [Rn_neg] at p1 p2
    exact ⟨by omega, by omega, Int.dvd_neg.1 p3, by omega, by omega⟩

theorem split_facts {x : Nat} (h1 : 2580562586483294208 ≤ rung x) (h2 : rung x ≤ 6633802251116740608) :
    Ieee.double.mul 4728779608772575232 x = some (spC x) ∧ Ieee.double.sub (spC x) x = some (fsub (spC x) x) ∧ Ieee.double.sub (spC x) (fsub (spC x) x) = some (spHi x) ∧
    Ieee.double.sub x (spHi x) = some (spLo x) ∧ spHi x < 18446744073709551616 ∧ spLo x < 18446744073709551616 ∧ rung (spHi x) ≤ 8696450880452427776 ∧ rung (spLo x) ≤ 8696450880452427776 ∧
    ∃ (m p q : Int) (e : Nat), fv x = m * ((2 ^ e : Nat) : Int) ∧ fv (spHi x) = p * ((2 ^ e : Nat) : Int) ∧ fv (spLo x) = q * ((2 ^ e : Nat) : Int) ∧ m = p + q ∧
      4503599627370496 ≤ m.natAbs ∧ m.natAbs < 9007199254740992 ∧ (134217728 : Int) ∣ p ∧ p.natAbs ≤ 9007199254740992 ∧ q.natAbs ≤ 67108864 ∧ 572 ≤ e ∧ e ≤ 1472 := by
  have hi := inf_eq
  obtain ⟨m, e, hm, hm1, hm2, he1, he2⟩ := safe_parts h1 h2
  have hK : (134217729 * m).natAbs ≤ 5192296858534827628530496329220096 := by omega
  have eK : (134217729 * fv x : Int) = (134217729 * m) * ((2 ^ e : Nat) : Int) := by rw [hm, Int.mul_assoc]
  obtain ⟨a1, a2, a3, a4⟩ := fmul_val (x := 4728779608772575232) (y := x) (M := 8696450880452427776) (k := 1074) (j := 0) (a := 134217729) (b := fv x) (by decide) (by omega) (by omega) fv_half (by simp) (by omega)
    (by rw [eK]; exact big_le hK (by omega))
  rw [eK, Rn_pow] at a4
  change fv (spC x) = _ at a4
  generalize hc : Rn (134217729 * m) = c at a4
  have hcb := Rn_half (n := 134217729 * m) (k := 28) (by rw [e28]; omega)
  rw [e28, hc] at hcb
  have e1 : fv (spC x) - fv x = (c - m) * ((2 ^ e : Nat) : Int) := by rw [a4, hm, Int.sub_mul]
  obtain ⟨b1, b2, b3, b4⟩ := fsub_val (x := spC x) (y := x) (M := 8696450880452427776) (by change rung (spC x) ≤ _ at a3; omega) (by omega) (by omega)
    (by rw [e1]; exact big_le (by omega) (by omega))
  rw [e1, Rn_pow] at b4
  generalize hd : Rn (c - m) = d at b4
  have hdb := Rn_err (c - m)
  rw [hd] at hdb
  obtain ⟨s1, s2, s3, s4, s5⟩ := split_any hm1 hm2 hc.symm hd.symm
  have e2 : fv (spC x) - fv (fsub (spC x) x) = (c - d) * ((2 ^ e : Nat) : Int) := by rw [a4, b4, Int.sub_mul]
  obtain ⟨c1, c2, c3, c4⟩ := fsub_val (x := spC x) (y := fsub (spC x) x) (M := 8696450880452427776) (by change rung (spC x) ≤ _ at a3; omega) (by omega) (by omega)
    (by rw [e2]; exact big_le (by omega) (by omega))
  rw [e2, Rn_pow, s1] at c4
  change fv (spHi x) = _ at c4
  have e3 : fv x - fv (spHi x) = (m - (c - d)) * ((2 ^ e : Nat) : Int) := by rw [c4, hm]; simp only [Int.sub_mul]
  obtain ⟨d1, d2, d3, d4⟩ := fsub_val (x := x) (y := spHi x) (M := 8696450880452427776) (by omega) (by change rung (spHi x) ≤ _ at c3; omega) (by omega)
    (by rw [e3]; exact big_le (by omega) (by omega))
  rw [e3, Rn_pow, s2] at d4
  exact ⟨a1, b1, c1, d1, c2, d2, c3, d3, m, c - d, m - (c - d), e, hm, c4, d4, by omega, hm1, hm2, s3, s5, s4, he1, he2⟩

/-! A product. -/
def prE1 (x y : Nat) : Nat := fsub (fmul x y) (fmul (spHi x) (spHi y))
def prE2 (x y : Nat) : Nat := fsub (prE1 x y) (fmul (spLo x) (spHi y))
def prE3 (x y : Nat) : Nat := fsub (prE2 x y) (fmul (spHi x) (spLo y))
def prodLo (x y : Nat) : Nat := fsub (fmul (spLo x) (spLo y)) (prE3 x y)

theorem prod_facts {x y : Nat} (hx1 : 2580562586483294208 ≤ rung x) (hx2 : rung x ≤ 6633802251116740608) (hy1 : 2580562586483294208 ≤ rung y) (hy2 : rung y ≤ 6633802251116740608) :
    ∃ (a b : Int) (s : Nat), fv x * fv y = (a * b) * ((2 ^ s : Nat) : Int) * ((2 ^ 1074 : Nat) : Int) ∧ 4503599627370496 * 4503599627370496 ≤ (a * b).natAbs ∧ (a * b).natAbs ≤ 9007199254740992 * 9007199254740992 ∧ 70 ≤ s ∧ s ≤ 1870 ∧
    Ieee.double.mul x y = some (fmul x y) ∧ Ieee.double.mul (spHi x) (spHi y) = some (fmul (spHi x) (spHi y)) ∧ Ieee.double.sub (fmul x y) (fmul (spHi x) (spHi y)) = some (prE1 x y) ∧
    Ieee.double.mul (spLo x) (spHi y) = some (fmul (spLo x) (spHi y)) ∧ Ieee.double.sub (prE1 x y) (fmul (spLo x) (spHi y)) = some (prE2 x y) ∧
    Ieee.double.mul (spHi x) (spLo y) = some (fmul (spHi x) (spLo y)) ∧ Ieee.double.sub (prE2 x y) (fmul (spHi x) (spLo y)) = some (prE3 x y) ∧
    Ieee.double.mul (spLo x) (spLo y) = some (fmul (spLo x) (spLo y)) ∧ Ieee.double.sub (fmul (spLo x) (spLo y)) (prE3 x y) = some (prodLo x y) ∧
    fmul x y < 18446744073709551616 ∧ prodLo x y < 18446744073709551616 ∧ rung (fmul x y) ≤ 8696450880452427776 ∧ rung (prodLo x y) ≤ 8696450880452427776 ∧
    fv (fmul x y) = Rn ((a * b) * ((2 ^ s : Nat) : Int)) ∧ fv (prodLo x y) = (a * b) * ((2 ^ s : Nat) : Int) - Rn ((a * b) * ((2 ^ s : Nat) : Int)) ∧
    fv (fmul (spHi x) (spHi y)) * ((2 ^ 1074 : Nat) : Int) = fv (spHi x) * fv (spHi y) ∧ fv (fmul (spLo x) (spHi y)) * ((2 ^ 1074 : Nat) : Int) = fv (spLo x) * fv (spHi y) ∧
    fv (fmul (spHi x) (spLo y)) * ((2 ^ 1074 : Nat) : Int) = fv (spHi x) * fv (spLo y) ∧ fv (fmul (spLo x) (spLo y)) * ((2 ^ 1074 : Nat) : Int) = fv (spLo x) * fv (spLo y) := by
  have hi := inf_eq
  obtain ⟨-, -, -, -, -, -, hpr, hqr, a, p, q, e, hxa, hp, hq, hpq, ha1, ha2, hpd, hpb, hqb, he1, he2⟩ := split_facts hx1 hx2
  obtain ⟨-, -, -, -, -, -, hrr, hsr, b, r, t, f, hyb, hr, ht, hrt, hb1, hb2, hrd, hrb, htb, hf1, hf2⟩ := split_facts hy1 hy2
  obtain ⟨k1, k2, k3, k4, k5, k6, k7, k8, k9⟩ := dekker ha1 ha2 hb1 hb2 hpq hrt hpd hrd hpb hrb hqb htb rfl
  have hab1 : 4503599627370496 * 4503599627370496 ≤ (a * b).natAbs := by rw [Int.natAbs_mul]; exact Nat.mul_le_mul ha1 hb1
  have hab2 : (a * b).natAbs ≤ 9007199254740992 * 9007199254740992 := by rw [Int.natAbs_mul]; exact Nat.mul_le_mul (by omega) (by omega)
  have bpr : (p * r).natAbs ≤ 9007199254740992 * 9007199254740992 := by rw [Int.natAbs_mul]; exact Nat.mul_le_mul hpb hrb
  have bqr : (q * r).natAbs ≤ 67108864 * 9007199254740992 := by rw [Int.natAbs_mul]; exact Nat.mul_le_mul hqb hrb
  have bpt : (p * t).natAbs ≤ 9007199254740992 * 67108864 := by rw [Int.natAbs_mul]; exact Nat.mul_le_mul hpb htb
  have bqt : (q * t).natAbs ≤ 67108864 * 67108864 := by rw [Int.natAbs_mul]; exact Nat.mul_le_mul hqb htb
  -- 2^e 2^f as 2^s 2^1074
  have up : ∀ (u : Int), u * ((2 ^ e : Nat) : Int) = (u * ((2 ^ (e - 537) : Nat) : Int)) * ((2 ^ 537 : Nat) : Int) := by
    intro u; rw [Int.mul_assoc, ← Int.natCast_mul, ← Nat.pow_add, show e - 537 + 537 = e by omega]
  have uf : ∀ (u : Int), u * ((2 ^ f : Nat) : Int) = (u * ((2 ^ (f - 537) : Nat) : Int)) * ((2 ^ 537 : Nat) : Int) := by
    intro u; rw [Int.mul_assoc, ← Int.natCast_mul, ← Nat.pow_add, show f - 537 + 537 = f by omega]
  have mm : ∀ u v A B : Int, (u * A) * (v * B) = (u * v) * (A * B) := by intros; ac_rfl
  have both : ∀ (u v : Int), (u * ((2 ^ (e - 537) : Nat) : Int)) * (v * ((2 ^ (f - 537) : Nat) : Int)) = (u * v) * ((2 ^ (e - 537 + (f - 537)) : Nat) : Int) := by
    intro u v; rw [Nat.pow_add, Int.natCast_mul]; exact mm _ _ _ _
  have full : ∀ (u v : Int), (u * ((2 ^ e : Nat) : Int)) * (v * ((2 ^ f : Nat) : Int)) = (u * v) * ((2 ^ (e - 537 + (f - 537)) : Nat) : Int) * ((2 ^ 1074 : Nat) : Int) := by
    intro u v
    rw [Int.mul_assoc (u * v), ← Int.natCast_mul, ← Nat.pow_add, show e - 537 + (f - 537) + 1074 = e + f by omega, Nat.pow_add, Int.natCast_mul]; exact mm _ _ _ _
  generalize hs : e - 537 + (f - 537) = s at both full
  have hs1 : 70 ≤ s := by omega
  have hs2 : s ≤ 1870 := by omega
  have prod : ∀ (z w : Nat) (u v : Int), rung z < inf → rung w < inf → fv z = u * ((2 ^ e : Nat) : Int) → fv w = v * ((2 ^ f : Nat) : Int) → (u * v).natAbs ≤ 9007199254740992 * 9007199254740992 →
      Ieee.double.mul z w = some (fmul z w) ∧ fmul z w < 18446744073709551616 ∧ rung (fmul z w) ≤ 8696450880452427776 ∧ fv (fmul z w) = Rn (u * v) * ((2 ^ s : Nat) : Int) := by
    intro z w u v hz hw hzu hwv hb
    obtain ⟨a1, a2, a3, a4⟩ := fmul_val (M := 8696450880452427776) (k := 537) (j := 537) hz hw (by omega) (hzu.trans (up u)) (hwv.trans (uf v)) (by omega) (by rw [both]; exact big_le (by omega) hs2)
    rw [both, Rn_pow] at a4
    exact ⟨a1, a2, a3, a4⟩
  have less : ∀ (z w : Nat) (u v : Int), rung z ≤ 8696450880452427776 → rung w ≤ 8696450880452427776 → fv z = u * ((2 ^ s : Nat) : Int) → fv w = v * ((2 ^ s : Nat) : Int) → Rep (u - v) → (u - v).natAbs ≤ 5192296858534827628530496329220096 →
      Ieee.double.sub z w = some (fsub z w) ∧ fsub z w < 18446744073709551616 ∧ rung (fsub z w) ≤ 8696450880452427776 ∧ fv (fsub z w) = (u - v) * ((2 ^ s : Nat) : Int) := by
    intro z w u v hz hw hzu hwv hrep hb
    have e1 : fv z - fv w = (u - v) * ((2 ^ s : Nat) : Int) := by rw [hzu, hwv, Int.sub_mul]
    obtain ⟨a1, a2, a3, a4⟩ := fsub_val (x := z) (y := w) (M := 8696450880452427776) (by omega) (by omega) (by omega) (by rw [e1]; exact big_le hb hs2)
    rw [e1, Rn_pow, Rn_fix hrep] at a4
    exact ⟨a1, a2, a3, a4⟩
  have herr := Rn_half (n := a * b) (k := 53) (by rw [← e53]; exact hab2)
  rw [← e53] at herr
  obtain ⟨A1, A2, A3, A4⟩ := prod x y a b (by omega) (by omega) hxa hyb hab2
  obtain ⟨B1, B2, B3, B4⟩ := prod (spHi x) (spHi y) p r (by omega) (by omega) hp hr (by omega)
  rw [Rn_fix k1] at B4
  obtain ⟨C1, C2, C3, C4⟩ := prod (spLo x) (spHi y) q r (by omega) (by omega) hq hr (by omega)
  rw [Rn_fix k2] at C4
  obtain ⟨D1, D2, D3, D4⟩ := prod (spHi x) (spLo y) p t (by omega) (by omega) hp ht (by omega)
  rw [Rn_fix k3] at D4
  obtain ⟨E1, E2, E3, E4⟩ := prod (spLo x) (spLo y) q t (by omega) (by omega) hq ht (by omega)
  rw [Rn_fix k4] at E4
  obtain ⟨F1, F2, F3, F4⟩ := less _ _ _ _ A3 B3 A4 B4 k5 (by omega)
  obtain ⟨G1, G2, G3, G4⟩ := less (prE1 x y) _ _ _ F3 C3 F4 C4 k6 (by omega)
  obtain ⟨H1, H2, H3, H4⟩ := less (prE2 x y) _ _ _ G3 D3 G4 D4 k7 (by omega)
  obtain ⟨I1, I2, I3, I4⟩ := less _ (prE3 x y) _ _ E3 H3 E4 H4 (by rw [k9]; exact k8) (by omega)
  rw [k9] at I4
  refine ⟨a, b, s, by rw [hxa, hyb, full], hab1, hab2, hs1, hs2, A1, B1, F1, C1, G1, D1, H1, E1, I1, A2, I2, A3, I3, by rw [Rn_pow]; exact A4, ?_, ?_, ?_, ?_, ?_⟩
  · rw [Rn_pow, ← Int.sub_mul]; exact I4
  · rw [B4, hp, hr, full]
  · rw [C4, hq, hr, full]
  · rw [D4, hp, ht, full]
  · rw [E4, hq, ht, full]

end TV
