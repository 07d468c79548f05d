/- Rounding: what has 53 bits, the nearest such number, and Knuth's exact sum, in whole numbers. -/
import Derived.Test.YtiiipgbfhcbjdaaDoorFlA
namespace TV

/-! Rounding of whole numbers (units of 2^-1074) to 53 bits; what has at most 53 bits; Knuth's sum. -/
def Rn (n : Int) : Int := sm (decide (n < 0)) (mag (rndAt 0 n.natAbs))
def Rep (n : Int) : Prop := ∃ r, n.natAbs = mag r

theorem sm_neg_nat (n : Nat) : sm true n = -(n : Int) := rfl
theorem sm_pos_nat (n : Nat) : sm false n = (n : Int) := rfl

theorem Rn_nonneg {n : Int} (h : 0 ≤ n) : Rn n = (mag (rndAt 0 n.natAbs) : Int) := by
  unfold Rn; rw [show decide (n < 0) = false by simpa using h]; rfl
theorem Rn_zero : Rn 0 = 0 := by decide
theorem Rn_neg (n : Int) : Rn (-n) = - Rn n := by
  unfold Rn
  rw [Int.natAbs_neg]
  by_cases h : n = 0
  · subst h; decide
  · by_cases h2 : n < 0
    · rw [show decide (n < 0) = true by simpa using h2, show decide (-n < 0) = false by simp; omega]; unfold sm; simp
    · rw [show decide (n < 0) = false by simpa using h2, show decide (-n < 0) = true by simp; omega]; unfold sm; simp
theorem Rn_natAbs (n : Int) : (Rn n).natAbs = mag (rndAt 0 n.natAbs) := sm_natAbs _ _
theorem Rn_nonneg_of {n : Int} (h : 0 ≤ n) : 0 ≤ Rn n := by rw [Rn_nonneg h]; omega
theorem Rn_nonpos_of {n : Int} (h : n ≤ 0) : Rn n ≤ 0 := by
  have := Rn_nonneg_of (n := -n) (by omega); rw [Rn_neg] at this; omega

theorem Rn_mono {n m : Int} (h : n ≤ m) : Rn n ≤ Rn m := by
  by_cases h1 : 0 ≤ n
  · rw [Rn_nonneg h1, Rn_nonneg (by omega)]
    exact_mod_cast mag_le (rnd_mono (by omega))
  · by_cases h2 : m ≤ 0
    · have e1 := Rn_nonneg (n := -n) (by omega)
      have e2 := Rn_nonneg (n := -m) (by omega)
      rw [Rn_neg] at e1 e2
      have : (mag (rndAt 0 (-m).natAbs) : Int) ≤ (mag (rndAt 0 (-n).natAbs) : Int) := by exact_mod_cast mag_le (rnd_mono (by omega))
      omega
    · have := Rn_nonpos_of (n := n) (by omega)
      have := Rn_nonneg_of (n := m) (by omega)
      omega

theorem Rep_neg {n : Int} (h : Rep n) : Rep (-n) := by obtain ⟨r, hr⟩ := h; exact ⟨r, by rw [Int.natAbs_neg]; exact hr⟩
theorem Rep_zero : Rep 0 := ⟨0, rfl⟩
theorem Rep_Rn (n : Int) : Rep (Rn n) := ⟨_, Rn_natAbs n⟩
theorem Rep_fv (b : Nat) : Rep (fv b) := ⟨_, fv_natAbs b⟩

theorem Rn_fix {n : Int} (h : Rep n) : Rn n = n := by
  obtain ⟨r, hr⟩ := h
  unfold Rn
  rw [hr, rnd_exact0]
  by_cases h2 : n < 0
  · rw [show decide (n < 0) = true by simpa using h2]; unfold sm; simp; omega
  · rw [show decide (n < 0) = false by simpa using h2]; unfold sm; simp; omega

theorem mag_parts (r : Nat) : ∃ q k, mag r = q * 2 ^ k ∧ q < 9007199254740992 := by
  by_cases h : r < 4503599627370496
  · exact ⟨r, 0, by rw [mag_small (by omega)]; omega, by omega⟩
  · refine ⟨4503599627370496 + r % 4503599627370496, r / 4503599627370496 - 1, ?_, by omega⟩
    unfold mag; rw [if_neg h]

theorem mag_of_parts : ∀ (k q : Nat), q ≤ 9007199254740992 → ∃ r, q * 2 ^ k = mag r := by
  intro k
  induction k with
  | zero => intro q hq; exact ⟨q, by rw [mag_small hq]; omega⟩
  | succ k ih =>
    intro q hq
    by_cases h : q < 4503599627370496
    · obtain ⟨r, hr⟩ := ih (2 * q) (by omega)
      exact ⟨r, by rw [← hr, Nat.pow_succ, Nat.mul_comm 2 q, Nat.mul_assoc, Nat.mul_comm 2]⟩
    · exact ⟨(k + 1) * 4503599627370496 + q, (mag_at (Or.inr (by omega)) hq).symm⟩

theorem Rep_mk {n m : Int} {k : Nat} (h : n = m * ((2 ^ k : Nat) : Int)) (hm : m.natAbs ≤ 9007199254740992) : Rep n := by
  obtain ⟨r, hr⟩ := mag_of_parts k m.natAbs hm
  exact ⟨r, by rw [h, Int.natAbs_mul, Int.natAbs_natCast, hr]⟩

theorem Rep_parts {n : Int} (h : Rep n) : ∃ (m : Int) (k : Nat), n = m * ((2 ^ k : Nat) : Int) ∧ m.natAbs < 9007199254740992 := by
  obtain ⟨r, hr⟩ := h
  obtain ⟨q, k, h1, h2⟩ := mag_parts r
  by_cases hn : 0 ≤ n
  · refine ⟨q, k, ?_, by omega⟩
    rw [← Int.natCast_mul, ← h1, ← hr]; omega
  · refine ⟨-q, k, ?_, by omega⟩
    rw [Int.neg_mul, ← Int.natCast_mul, ← h1, ← hr]; omega

theorem Rep_small {n : Int} (h : n.natAbs ≤ 9007199254740992) : Rep n := Rep_mk (k := 0) (m := n) (by simp) h

/-- A multiple of 2^k of magnitude at most 2^53 2^k. -/
theorem Rep_mult {n : Int} {k : Nat} (h : ((2 ^ k : Nat) : Int) ∣ n) (hb : n.natAbs ≤ 9007199254740992 * 2 ^ k) : Rep n := by
  obtain ⟨m, rfl⟩ := h
  refine Rep_mk (k := k) (m := m) (Int.mul_comm _ _) ?_
  rw [Int.natAbs_mul, Int.natAbs_natCast, Nat.mul_comm] at hb
  exact Nat.le_of_mul_le_mul_right hb (Nat.two_pow_pos k)

theorem dvd_pow {i j : Nat} (h : i ≤ j) : ((2 ^ i : Nat) : Int) ∣ ((2 ^ j : Nat) : Int) := by
  refine ⟨((2 ^ (j - i) : Nat) : Int), ?_⟩
  rw [← Int.natCast_mul, ← Nat.pow_add, show i + (j - i) = j by omega]

theorem mag_double {r : Nat} (h : 4503599627370496 ≤ r) : mag (r + 4503599627370496) = 2 * mag r := by
  unfold mag
  rw [if_neg (by omega), if_neg (by omega)]
  have e1 : (r + 4503599627370496) % 4503599627370496 = r % 4503599627370496 := by omega
  have e2 : (r + 4503599627370496) / 4503599627370496 - 1 = (r / 4503599627370496 - 1) + 1 := by omega
  rw [e1, e2, Nat.pow_succ]
  rw [← Nat.mul_assoc, Nat.mul_comm]

theorem rnd_double (N : Nat) : mag (rndAt 0 (2 * N)) = 2 * mag (rndAt 0 N) := by
  by_cases h : N ≤ 9007199254740992
  · obtain ⟨r, hr⟩ := mag_of_parts 1 N h
    obtain ⟨s, hs⟩ := mag_of_parts 0 N h
    have e1 : 2 * N = mag r := by omega
    have e2 : N = mag s := by omega
    rw [e1, rnd_exact0, ← e1, e2, rnd_exact0]
  · have hn := near_rnd 0 N
    have hlo : 9007199254740992 ≤ rndAt 0 N := by
      have := rnd_mono (u := 0) (N := mag 9007199254740992) (M := N) (by rw [mag_small (Nat.le_refl _)]; omega)
      rwa [rnd_exact0] at this
    generalize rndAt 0 N = r at hn hlo
    have : Near 0 (2 * N) (r + 4503599627370496) := by
      obtain ⟨⟨h1, h2⟩, h3⟩ := hn
      simp only [Nat.pow_zero, Nat.mul_one] at h1 h2 h3
      refine ⟨⟨?_, ?_⟩, ?_⟩ <;> simp only [Nat.pow_zero, Nat.mul_one]
      · rw [show r + 4503599627370496 + 1 = (r + 1) + 4503599627370496 by omega, mag_double (by omega), mag_double (by omega)]; omega
      · rw [show r + 4503599627370496 + 1 = (r + 1) + 4503599627370496 by omega, mag_double (by omega), mag_double (by omega)]; omega
      · intro s hs
        obtain ⟨t, rfl⟩ : ∃ t, s = t + 4503599627370496 := ⟨s - 4503599627370496, by omega⟩
        have := h3 t (by omega)
        rw [mag_double (by omega), mag_double (by omega)]; omega
    rw [rnd_of_near this, mag_double (by omega)]

theorem Rn_double (n : Int) : Rn (2 * n) = 2 * Rn n := by
  have key : ∀ n : Int, 0 ≤ n → Rn (2 * n) = 2 * Rn n := by
    intro n hn
    rw [Rn_nonneg hn, Rn_nonneg (by omega), Int.natAbs_mul, show (2 : Int).natAbs = 2 from rfl, rnd_double]; simp
  by_cases h : 0 ≤ n
  · exact key n h
  · have := key (-n) (by omega)
    rw [show 2 * -n = -(2 * n) by omega, Rn_neg, Rn_neg] at this; omega

theorem Rn_pow (n : Int) (k : Nat) : Rn (n * ((2 ^ k : Nat) : Int)) = Rn n * ((2 ^ k : Nat) : Int) := by
  induction k with
  | zero => simp
  | succ k ih =>
    rw [Nat.pow_succ, Int.natCast_mul, show n * (((2 ^ k : Nat) : Int) * ((2 : Nat) : Int)) = 2 * (n * ((2 ^ k : Nat) : Int)) by grind, Rn_double, ih]; grind

theorem Rn_dvd {n : Int} {k : Nat} (h : ((2 ^ k : Nat) : Int) ∣ n) : ((2 ^ k : Nat) : Int) ∣ Rn n := by
  obtain ⟨m, rfl⟩ := h
  rw [Int.mul_comm, Rn_pow]; exact ⟨_, Int.mul_comm _ _⟩

/-- What is rounded is as near as any that has 53 bits. -/
theorem Rn_near {n f : Int} (hf : Rep f) : (Rn n - n).natAbs ≤ (f - n).natAbs := by
  have key : ∀ n f : Int, 0 ≤ n → Rep f → (Rn n - n).natAbs ≤ (f - n).natAbs := by
    intro n f hn hf
    obtain ⟨⟨h1, -⟩, h3⟩ := near_rnd 0 n.natAbs
    rw [Rn_nonneg hn]
    generalize rndAt 0 n.natAbs = r at h1 h3
    simp only [Nat.pow_zero, Nat.mul_one] at h1 h3
    obtain ⟨s, hs⟩ := hf
    have g0 : n.natAbs = n := by omega
    by_cases h0 : f < 0
    · by_cases hr : r = 0
      · subst hr; rw [mag_zero]; omega
      · have := (h3 (r - 1) (by omega)).1
        have : mag 0 ≤ mag (r - 1) := mag_le (by omega)
        rw [mag_zero] at this
        omega
    · have g1 : f = mag s := by omega
      by_cases c : s ≤ r
      · by_cases c2 : s = r
        · subst c2; omega
        · have := (h3 (r - 1) (by omega)).1
          have : mag s ≤ mag (r - 1) := mag_le (by omega)
          have : mag (r - 1) ≤ mag r := mag_le (by omega)
          omega
      · have : mag (r + 1) ≤ mag s := mag_le (by omega)
        have : mag r ≤ mag (r + 1) := mag_le (by omega)
        omega
  by_cases h : 0 ≤ n
  · exact key n f h hf
  · have := key (-n) (-f) (by omega) (Rep_neg hf)
    rw [Rn_neg] at this; omega

theorem Rn_err (n : Int) : (Rn n - n).natAbs * 9007199254740992 ≤ n.natAbs := by
  by_cases h : n.natAbs ≤ 9007199254740992
  · rw [Rn_fix (Rep_small h)]; simp
  · obtain ⟨e, he⟩ : ∃ e, e = n.natAbs.log2 - 52 := ⟨_, rfl⟩
    have hl1 : 2 ^ n.natAbs.log2 ≤ n.natAbs := Nat.log2_self_le (by omega)
    have hl2 : n.natAbs < 2 ^ (n.natAbs.log2 + 1) := Nat.lt_log2_self
    have hl3 : 53 ≤ n.natAbs.log2 := by
      apply Nat.le_of_not_lt; intro hlt
      have : 2 ^ (n.natAbs.log2 + 1) ≤ 2 ^ 53 := Nat.pow_le_pow_right (by omega) (by omega)
      have e53 : (2 : Nat) ^ 53 = 9007199254740992 := by decide
      omega
    have hl4 : 2 ^ n.natAbs.log2 = 4503599627370496 * 2 ^ e := by
      rw [e52, ← Nat.pow_add]; congr 1; omega
    -- two neighbours at distance 2^e
    have hq : n.natAbs / 2 ^ e < 9007199254740992 := by
      apply Nat.div_lt_of_lt_mul
      rw [Nat.pow_succ, hl4] at hl2; omega
    have hd := Nat.div_add_mod n.natAbs (2 ^ e)
    have hm := Nat.mod_lt n.natAbs (Nat.two_pow_pos e)
    have r1 : Rep (((n.natAbs / 2 ^ e : Nat) : Int) * ((2 ^ e : Nat) : Int))  := Rep_mk rfl (by rw [Int.natAbs_natCast]; omega)
    have r2 : Rep (((n.natAbs / 2 ^ e + 1 : Nat) : Int) * ((2 ^ e : Nat) : Int)) := Rep_mk rfl (by rw [Int.natAbs_natCast]; omega)
    rw [← Int.natCast_mul] at r1 r2
    rw [Nat.add_mul] at r2
    rw [Nat.mul_comm] at hd
    generalize n.natAbs / 2 ^ e * 2 ^ e = A at *
    generalize n.natAbs % 2 ^ e = B at *
    generalize 2 ^ e = P at *
    by_cases c : 0 ≤ n
    · have n1 := Rn_near (n := n) r1
      have n2 := Rn_near (n := n) r2
      omega
    · have n1 := Rn_near (n := n) (Rep_neg r1)
      have n2 := Rn_near (n := n) (Rep_neg r2)
      omega

theorem Rn_abs_le {f n : Int} (hf : Rep f) (h : f.natAbs ≤ n.natAbs) : f.natAbs ≤ (Rn n).natAbs := by
  obtain ⟨r, hr⟩ := hf
  rw [Rn_natAbs, hr]
  have := rnd_mono (u := 0) h
  rw [hr, rnd_exact0] at this
  exact mag_le this

theorem Rn_abs_ge {f n : Int} (hf : Rep f) (h : n.natAbs ≤ f.natAbs) : (Rn n).natAbs ≤ f.natAbs := by
  obtain ⟨r, hr⟩ := hf
  rw [Rn_natAbs, hr]
  have := rnd_mono (u := 0) h
  rw [hr, rnd_exact0] at this
  exact mag_le this

theorem sterbenz {p q : Int} (hp : Rep p) (hq : Rep q) (h0 : 0 ≤ q) (h1 : q ≤ p) (h2 : p ≤ 2 * q) : Rep (p - q) := by
  obtain ⟨m, e, hm, hm2⟩ := Rep_parts hp
  obtain ⟨k, f, hk, hk2⟩ := Rep_parts hq
  by_cases c : e ≤ f
  · refine Rep_mult (k := e) ?_ ?_
    · exact Int.dvd_sub ⟨m, by rw [hm, Int.mul_comm]⟩ (Int.dvd_trans (dvd_pow c) ⟨k, by rw [hk, Int.mul_comm]⟩)
    · have : p.natAbs = m.natAbs * 2 ^ e := by rw [hm, Int.natAbs_mul, Int.natAbs_natCast]
      have := Nat.mul_le_mul_right (2 ^ e) (Nat.le_of_lt hm2)
      omega
  · refine Rep_mult (k := f) ?_ ?_
    · exact Int.dvd_sub (Int.dvd_trans (dvd_pow (show f ≤ e by omega)) ⟨m, by rw [hm, Int.mul_comm]⟩) ⟨k, by rw [hk, Int.mul_comm]⟩
    · have : q.natAbs = k.natAbs * 2 ^ f := by rw [hk, Int.natAbs_mul, Int.natAbs_natCast]
      have := Nat.mul_le_mul_right (2 ^ f) (Nat.le_of_lt hk2)
      omega

/-- Two numbers of one sign, neither more than twice the other. -/
theorem sterbenz' {p q : Int} (hp : Rep p) (hq : Rep q) (h : (0 ≤ p ∧ 0 ≤ q) ∨ (p ≤ 0 ∧ q ≤ 0)) (h1 : q.natAbs ≤ 2 * p.natAbs) (h2 : p.natAbs ≤ 2 * q.natAbs) : Rep (p - q) := by
  rcases h with ⟨a, b⟩ | ⟨a, b⟩
  · by_cases c : q ≤ p
    · exact sterbenz hp hq b c (by omega)
    · have := Rep_neg (sterbenz hq hp a (by omega) (by omega))
      rwa [show -(q - p) = p - q by omega] at this
  · by_cases c : q ≤ p
    · have := sterbenz (Rep_neg hq) (Rep_neg hp) (by omega) (by omega) (by omega)
      rwa [show -q - -p = p - q by omega] at this
    · have := Rep_neg (sterbenz (Rep_neg hp) (Rep_neg hq) (by omega) (by omega) (by omega))
      rwa [show -(-p - -q) = p - q by omega] at this

/-- What is rounded off a sum has 53 bits. -/
theorem Rep_rest {a b : Int} (ha : Rep a) (hb : Rep b) : Rep (a + b - Rn (a + b)) := by
  have key : ∀ (a b m k : Int) (e f : Nat), Rep b → a = m * ((2 ^ e : Nat) : Int) → m.natAbs < 9007199254740992 → b = k * ((2 ^ f : Nat) : Int) → e ≤ f → Rep (a + b - Rn (a + b)) := by
    intro a b m k e f hb ha hm hb' c
    have hd : ((2 ^ e : Nat) : Int) ∣ a + b := Int.dvd_add ⟨m, by rw [ha, Int.mul_comm]⟩ (Int.dvd_trans (dvd_pow c) ⟨k, by rw [hb', Int.mul_comm]⟩)
    refine Rep_mult (k := e) (Int.dvd_sub hd (Rn_dvd hd)) ?_
    have := Rn_near (n := a + b) hb
    have : a.natAbs = m.natAbs * 2 ^ e := by rw [ha, Int.natAbs_mul, Int.natAbs_natCast]
    have := Nat.mul_le_mul_right (2 ^ e) (Nat.le_of_lt hm)
    omega
  obtain ⟨m, e, hm, hm2⟩ := Rep_parts ha
  obtain ⟨k, f, hk, hk2⟩ := Rep_parts hb
  by_cases c : e ≤ f
  · exact key a b m k e f hb hm hm2 hk c
  · have := key b a k m f e ha hk hk2 hm (by omega)
    rwa [Int.add_comm b a] at this

/-- If a is not the lesser one in magnitude: what stands between a and the rounded sum has 53 bits. -/
theorem Rep_virtual {a b : Int} (ha : Rep a) (hb : Rep b) (h : b.natAbs ≤ a.natAbs) : Rep (Rn (a + b) - a) := by
  have key : ∀ a b : Int, Rep a → Rep b → b.natAbs ≤ a.natAbs → 0 ≤ a → Rep (Rn (a + b) - a) := by
    intro a b ha hb h h0
    by_cases c : 0 ≤ b
    · have l1 : Rn a ≤ Rn (a + b) := Rn_mono (by omega)
      have l2 : Rn (a + b) ≤ Rn (2 * a) := Rn_mono (by omega)
      rw [Rn_double] at l2
      rw [Rn_fix ha] at l1 l2
      exact sterbenz (Rep_Rn _) ha h0 l1 l2
    · by_cases c2 : 2 * b.natAbs < a.natAbs
      · have l1 : Rn (a + b) ≤ Rn a := Rn_mono (by omega)
        have l2 : Rn a ≤ Rn (2 * (a + b)) := Rn_mono (by omega)
        rw [Rn_double] at l2
        rw [Rn_fix ha] at l1 l2
        exact sterbenz' (Rep_Rn _) ha (Or.inl ⟨by omega, h0⟩) (by omega) (by omega)
      · have : Rep (a + b) := by
          have := sterbenz ha (Rep_neg hb) (by omega) (by omega) (by omega)
          rwa [show a - -b = a + b by omega] at this
        rw [Rn_fix this, show a + b - a = b by omega]; exact hb
  by_cases h0 : 0 ≤ a
  · exact key a b ha hb h h0
  · have := Rep_neg (key (-a) (-b) (Rep_neg ha) (Rep_neg hb) (by omega) (by omega))
    rwa [show -a + -b = -(a + b) by omega, Rn_neg, show -(- Rn (a + b) - -a) = Rn (a + b) - a by omega] at this

/-- Knuth's sum: what is rounded off is told exactly. -/
theorem two_sum {a b x c d : Int} (ha : Rep a) (hb : Rep b) (hx : x = Rn (a + b)) (hc : c = Rn (x - a)) (hd : d = Rn (x - c)) :
    Rn (a - d) = a - d ∧ Rn (b - c) = b - c ∧ (a - d) + (b - c) = a + b - x ∧ Rn (a + b - x) = a + b - x := by
  have hrest := Rep_rest ha hb
  rw [← hx] at hrest
  by_cases h : b.natAbs ≤ a.natAbs
  · have h1 := Rep_virtual ha hb h
    rw [← hx] at h1
    have hc' : c = x - a := by rw [hc, Rn_fix h1]
    have hd' : d = a := by rw [hd, hc', show x - (x - a) = a by omega, Rn_fix ha]
    have e1 : a - d = 0 := by omega
    have e2 : b - c = a + b - x := by omega
    rw [e1, e2, Rn_zero, Int.zero_add, Rn_fix hrest]; exact ⟨rfl, rfl, rfl, rfl⟩
  · by_cases h2 : x.natAbs < a.natAbs
    · -- much cancels: nothing is rounded off
      have hs : Rep (a + b) := by
        have hlt : (a + b).natAbs < a.natAbs := by
          apply Nat.lt_of_not_le; intro hle
          have := Rn_abs_le ha hle
          rw [← hx] at this; omega
        have := sterbenz' hb (Rep_neg ha) (by omega) (by omega) (by omega)
        rwa [show b - -a = a + b by omega] at this
      have hx' : x = a + b := by rw [hx, Rn_fix hs]
      have hc' : c = b := by rw [hc, hx', show a + b - a = b by omega, Rn_fix hb]
      have hd' : d = a := by rw [hd, hx', hc', show a + b - b = a by omega, Rn_fix ha]
      rw [hd', hc', hx', Int.sub_self, Int.sub_self, Int.sub_self, Rn_zero]; exact ⟨rfl, rfl, rfl, rfl⟩
    · have hxr : Rep x := by rw [hx]; exact Rep_Rn _
      have h3 := Rep_virtual hxr (Rep_neg ha) (by omega)
      rw [show x + -a = x - a by omega, ← hc] at h3
      have hd' : d = x - c := by
        rw [hd]; exact Rn_fix (by have := Rep_neg h3; rwa [show -(c - x) = x - c by omega] at this)
      have h4 := Rep_rest hxr (Rep_neg ha)
      rw [show x + -a = x - a by omega, ← hc] at h4
      have e1 : Rep (a - d) := by
        have := Rep_neg h4
        rwa [show -(x - a - c) = a - d by omega] at this
      have e2 : Rep (b - c) := by
        have hcr : Rep c := by rw [hc]; exact Rep_Rn _
        have n1 := Rn_err (a + b)
        have n2 := Rn_near (n := x - a) hb
        rw [← hx] at n1
        rw [← hc] at n2
        exact sterbenz' hb hcr (by omega) (by omega) (by omega)
      rw [Rn_fix e1, Rn_fix e2, show a - d + (b - c) = a + b - x by omega, Rn_fix hrest]; exact ⟨rfl, rfl, rfl, rfl⟩

end TV
