/- Package whole: numbers that have a bound, and the contracts of numbers that stay within what whole keeps. -/
import Derived.Test.YtiiipgbfhcbjdaaDoorWiA
import Derived.Test.YtiiipgbfhcbjdaaDoorWhT
import Derived.Test.YtiiipgbfhcbjdaaDoorWhJ
import Derived.Test.YtiiipgbfhcbjdaaDoorWhR
namespace TV
/-- q is a whole multiple of 2^-m, and below 2^m. -/
def Bx (m : Nat) (q : Rat) : Prop := ∃ n : Int, q = (n : Rat) * (2 : Rat) ^ (-(m : Int)) ∧ n.natAbs < 2 ^ (2 * m)

theorem Bx.zero (m : Nat) : Bx m 0 := ⟨0, by simp, Nat.two_pow_pos _⟩
theorem Bx.mono {m k : Nat} {q : Rat} (h : Bx m q) (hk : m ≤ k) : Bx k q := by
  obtain ⟨n, h1, h2⟩ := h
  obtain ⟨d, rfl⟩ : ∃ d, k = m + d := ⟨k - m, by omega⟩
  refine ⟨n * ((2 ^ d : Nat) : Int), ?_, ?_⟩
  · rw [h1]; push_cast
    rw [show ((2 : Rat) ^ d) = ((2 ^ d : Nat) : Rat) by push_cast; rfl, ← two_zpow_nat, Rat.mul_assoc, ← two_zpow_add]
    congr 2; omega
  · rw [Int.natAbs_mul, Int.natAbs_natCast]
    calc n.natAbs * 2 ^ d < 2 ^ (2 * m) * 2 ^ d := Nat.mul_lt_mul_of_pos_right h2 (Nat.two_pow_pos _)
      _ = 2 ^ (2 * m + d) := (Nat.pow_add ..).symm
      _ ≤ 2 ^ (2 * (m + d)) := Nat.pow_le_pow_right (by omega) (by omega)
theorem Bx.neg {m : Nat} {q : Rat} (h : Bx m q) : Bx m (-q) := by
  obtain ⟨n, h1, h2⟩ := h
  refine ⟨-n, by rw [h1]; push_cast; grind, by rw [Int.natAbs_neg]; exact h2⟩
theorem Bx.add {m k : Nat} {p q : Rat} (hp : Bx m p) (hq : Bx k q) {M : Nat} (h1 : m + 1 ≤ M) (h2 : k + 1 ≤ M) : Bx M (p + q) := by
  obtain ⟨L, rfl⟩ : ∃ L, M = L + 1 := ⟨M - 1, by omega⟩
  obtain ⟨a, a1, a2⟩ := hp.mono (show m ≤ L by omega)
  obtain ⟨b, b1, b2⟩ := hq.mono (show k ≤ L by omega)
  refine Bx.mono (m := L + 1) ⟨(a + b) * 2, ?_, ?_⟩ (Nat.le_refl _)
  · rw [a1, b1]; push_cast
    have e : (2 : Rat) ^ (-(L : Int)) = 2 * (2 : Rat) ^ (-((L : Int) + 1)) := by
      have : (2 : Rat) ^ (1 : Int) = 2 := by rw [Rat.zpow_one]
      have e2 := two_zpow_add 1 (-((L : Int) + 1))
      rw [this] at e2
      rw [← e2]; congr 1; omega
    rw [e]; grind
  · have e : (2 : Nat) ^ (2 * (L + 1)) = 2 ^ (2 * L) * 4 := by rw [show 2 * (L + 1) = 2 * L + 2 by omega, Nat.pow_add]
    omega
theorem Bx.mul {m k : Nat} {p q : Rat} (hp : Bx m p) (hq : Bx k q) : Bx (m + k) (p * q) := by
  obtain ⟨a, a1, a2⟩ := hp
  obtain ⟨b, b1, b2⟩ := hq
  refine ⟨a * b, ?_, ?_⟩
  · rw [a1, b1]; push_cast
    have e := two_zpow_add (-(m : Int)) (-(k : Int))
    rw [show -((m : Int) + (k : Int)) = -(m : Int) + -(k : Int) by omega, e]
    grind
  · rw [Int.natAbs_mul, show 2 * (m + k) = 2 * m + 2 * k by omega, Nat.pow_add]
    exact Nat.mul_lt_mul'' a2 b2
theorem Bx.shift {m : Nat} {q : Rat} (h : Bx m q) (k : Int) : Bx (m + k.natAbs) (q * (2 : Rat) ^ k) := by
  obtain ⟨n, h1, h2⟩ := h
  obtain ⟨d, hd⟩ : ∃ d : Nat, (d : Int) = k.natAbs + k := ⟨(k.natAbs + k).toNat, by omega⟩
  refine ⟨n * ((2 ^ d : Nat) : Int), ?_, ?_⟩
  · rw [h1]; push_cast
    rw [show ((2 : Rat) ^ d) = ((2 ^ d : Nat) : Rat) by push_cast; rfl, ← two_zpow_nat, Rat.mul_assoc, Rat.mul_assoc, ← two_zpow_add, ← two_zpow_add]
    congr 2; omega
  · rw [Int.natAbs_mul, Int.natAbs_natCast]
    calc n.natAbs * 2 ^ d < 2 ^ (2 * m) * 2 ^ d := Nat.mul_lt_mul_of_pos_right h2 (Nat.two_pow_pos _)
      _ = 2 ^ (2 * m + d) := (Nat.pow_add ..).symm
      _ ≤ 2 ^ (2 * (m + k.natAbs)) := Nat.pow_le_pow_right (by omega) (by omega)
theorem Bx.int {n : Int} {m : Nat} (h : n.natAbs < 2 ^ m) : Bx m (n : Rat) := by
  refine ⟨n * ((2 ^ m : Nat) : Int), ?_, ?_⟩
  · push_cast
    rw [show ((2 : Rat) ^ m) = ((2 ^ m : Nat) : Rat) by push_cast; rfl, ← two_zpow_nat, Rat.mul_assoc, ← two_zpow_add, show (m : Int) + -(m : Int) = 0 by omega, Rat.zpow_zero, Rat.mul_one]
  · rw [Int.natAbs_mul, Int.natAbs_natCast, show 2 * m = m + m by omega, Nat.pow_add]
    exact Nat.mul_lt_mul_of_pos_right h (Nat.two_pow_pos _)

/-- A whole number that is not nought is an odd one times a power of two. -/
theorem odd_part : ∀ (N : Nat) (n : Int), n.natAbs ≤ N → n ≠ 0 → ∃ (m : Int) (j : Nat), m % 2 = 1 ∧ n = m * ((2 ^ j : Nat) : Int)
  | 0, n, h, h0 => absurd (Int.natAbs_eq_zero.1 (by omega)) h0
  | N + 1, n, h, h0 => by
    by_cases c : n % 2 = 1
    · exact ⟨n, 0, c, by simp⟩
    · obtain ⟨m, j, h1, h2⟩ := odd_part N (n / 2) (by omega) (by omega)
      refine ⟨m, j + 1, h1, ?_⟩
      have e : n = n / 2 * 2 := by omega
      rw [Nat.pow_succ, Int.natCast_mul, ← Int.mul_assoc, ← h2]; exact e

theorem nat_high {N : Nat} (h : N ≠ 0) (l : Int) : (2 : Rat) ^ ((N.log2 : Int) + l) ≤ (N : Rat) * (2 : Rat) ^ l ∧ (N : Rat) * (2 : Rat) ^ l < (2 : Rat) ^ ((N.log2 : Int) + l + 1) := by
  have h1 : 2 ^ N.log2 ≤ N := Nat.log2_self_le h
  have h2 : N < 2 ^ (N.log2 + 1) := Nat.lt_log2_self
  constructor
  · rw [two_zpow_add, two_zpow_nat]
    exact Rat.mul_le_mul_of_nonneg_right (by exact_mod_cast h1) (Rat.le_of_lt (two_zpow_pos _))
  · rw [show (N.log2 : Int) + l + 1 = ((N.log2 + 1 : Nat) : Int) + l by omega, two_zpow_add, two_zpow_nat]
    exact Rat.mul_lt_mul_of_pos_right (by exact_mod_cast h2) (two_zpow_pos _)

/-- The ends of a number that has a bound. -/
theorem Bx.ends {m : Nat} {q : Rat} (h : Bx m q) (h0 : q ≠ 0) : ∃ h l : Int, HighOf q h ∧ LowOf q l ∧ h < m ∧ -(m : Int) ≤ l := by
  obtain ⟨n, h1, h2⟩ := h
  have hn : n ≠ 0 := by intro hc; rw [hc] at h1; exact h0 (by rw [h1]; simp)
  have hN : n.natAbs ≠ 0 := by omega
  obtain ⟨x, j, hx, hj⟩ := odd_part _ n (Nat.le_refl _) hn
  obtain ⟨g1, g2⟩ := nat_high hN (-(m : Int))
  have hlog : n.natAbs.log2 < 2 * m := (Nat.log2_lt hN).2 h2
  refine ⟨(n.natAbs.log2 : Int) + -(m : Int), (j : Int) + -(m : Int), ?_, ⟨x, hx, ?_⟩, by omega, by omega⟩
  · have e : ((n.natAbs : Nat) : Rat) * (2 : Rat) ^ (-(m : Int)) = if n < 0 then -q else q := by
      by_cases c : n < 0
      · rw [if_pos c, h1]
        have : ((n.natAbs : Nat) : Rat) = ((-n : Int) : Rat) := by
          rw [show (-n : Int) = ((n.natAbs : Nat) : Int) by omega]; rfl
        rw [this]; push_cast; grind
      · rw [if_neg c, h1]
        have : ((n.natAbs : Nat) : Rat) = (n : Rat) := by
          conv => rhs; rw [show n = ((n.natAbs : Nat) : Int) by omega]
          rfl
        rw [this]
    rw [e] at g1 g2
    by_cases c : n < 0
    · rw [if_pos c] at g1 g2; exact Or.inr ⟨g1, g2⟩
    · rw [if_neg c] at g1 g2; exact Or.inl ⟨g1, g2⟩
  · rw [h1, hj, two_zpow_add, two_zpow_nat]; push_cast; grind

theorem Bx.ok {m : Nat} {q : Rat} (h : Bx m q) (hm : m ≤ 65536) : OkR q := by
  by_cases h0 : q = 0
  · exact Or.inl h0
  · obtain ⟨a, b, h1, h2, h3, h4⟩ := h.ends h0
    exact Or.inr ⟨a, b, h1, h2, by omega, by omega⟩
end TV
namespace Go.Proofs.YtiiipgbfhcbjdaaDoor
open Go.RowKit TV
set_option linter.unusedVariables false

set_option exponentiation.threshold 3000 in
theorem fr_bound {x : Nat} (h : rung x < inf) : Bx 1074 (fr x) := by
  refine ⟨fv x, rfl, ?_⟩
  rw [fv_natAbs]
  have h1 := mag_lt h
  rw [mag_inf] at h1
  refine Nat.lt_of_lt_of_le h1 ?_
  rw [show 9007199254740992 = 2 ^ 53 by decide, ← Nat.pow_add]
  exact Nat.pow_le_pow_right (by omega) (by omega)

/-- A number in memory with a bound, its words in blocks from F on. -/
def NumB (F : Nat) (w : World) (v : Value) (q : Rat) (m : Nat) : Prop := WNum (fun b => F ≤ b) w v (some q) ∧ Bx m q
theorem NumB.keep {F : Nat} {w w1 : World} {v : Value} {q : Rat} {m : Nat} (h : NumB F w v q m) (hb : Below w.heap.size w w1) : NumB F w1 v q m := ⟨h.1.keep hb, h.2⟩
theorem NumB.less {F G : Nat} {w : World} {v : Value} {q : Rat} {m : Nat} (h : NumB F w v q m) (hG : G ≤ F) : NumB G w v q m := ⟨h.1.mono fun _ h => Nat.le_trans hG h, h.2⟩
theorem NumB.form {F : Nat} {w : World} {v : Value} {q : Rat} {m : Nat} (h : NumB F w v q m) : ∃ p n c e neg, v = .agg #[.slice p n c, .int .i64 e, .bool neg, .bool false] := by
  obtain ⟨sl, ds, e, neg, rfl, hs, -⟩ := h.1
  obtain ⟨p, c, rfl⟩ := hs.formMap
  exact ⟨_, _, _, _, _, rfl⟩
theorem NumB.put4 {F : Nat} {w : World} {v : Value} {q : Rat} {m b : Nat} (h : NumB F w v q m) (hb : b < F) (u0 u1 u2 u3 : Value) :
    NumB F ((((w.setCell ⟨b, 0, none⟩ u0).setCell ⟨b, 1, none⟩ u1).setCell ⟨b, 2, none⟩ u2).setCell ⟨b, 3, none⟩ u3) v q m :=
  ⟨h.1.put4 (fun h => by omega) _ _ _ _, h.2⟩
/-- What a contract here answers: a number with a bound. -/
def RetB (F : Nat) (q : Rat) (m : Nat) (w : World) (x : Ending) (w' : World) : Prop := ∃ v, x = .returned v ∧ NumB F w' v q m ∧ Below w.heap.size w w'
/-- The table of bits, and where numbers' words may lie. -/
structure Tb (F : Nat) (w : World) : Prop where
  tab : TabOk w
  le : F ≤ w.heap.size
theorem Tb.keep {F : Nat} {w w1 : World} (h : Tb F w) (hb : Below w.heap.size w w1) : Tb F w1 := ⟨h.tab.keep hb, Nat.le_trans h.le hb.size⟩

theorem wv_ok {q : Rat} {o : Option Rat} (h : WvOf q o) (hq : OkR q) : o = some q := h.1 hq
theorem up_le {F : Nat} {w : World} (h : Tb F w) (b : Nat) (hb : F ≤ b ∨ w.heap.size ≤ b) : F ≤ b := hb.elim id (Nat.le_trans h.le)

section
variable {F : Nat} {w : World}
theorem ofB (x : Nat) (h1 : x < 18446744073709551616) (h : rung x < inf) (ht : Tb F w) :
    Calls Tryd.prog 22 #[.float .f64 x] w (RetB F (fr x) 1074 w) := by
  have := wOf_calls x h1 w ht.tab
  rw [if_pos h] at this
  exact this.mono fun x w' ⟨v, a, b, c⟩ => ⟨v, a, ⟨b.mono fun _ h => Nat.le_trans ht.le h, fr_bound h⟩, c⟩
theorem intB (n : Int) (h0 : -9223372036854775808 ≤ n) (h1 : n ≤ 9223372036854775807) (ht : Tb F w) :
    Calls Tryd.prog 17 #[.int .i64 n] w (RetB F (n : Rat) 64 w) :=
  (wInt_calls n h0 h1 w ht.tab).mono fun x w' ⟨v, a, b, c⟩ => ⟨v, a, ⟨b.mono fun _ h => Nat.le_trans ht.le h, Bx.int (by rw [show (2 : Nat) ^ 64 = 18446744073709551616 by decide]; omega)⟩, c⟩
theorem addB {va vb : Value} {p q : Rat} {m k : Nat} (M : Nat) (ha : NumB F w va p m) (hb : NumB F w vb q k) (ht : Tb F w) (h1 : m + 1 ≤ M) (h2 : k + 1 ≤ M) (h3 : M ≤ 65536) :
    Calls Tryd.prog 10 #[va, vb] w (RetB F (p + q) M w) := by
  have hM := ha.2.add hb.2 h1 h2
  refine (wAdd_calls ha.1 hb.1 ht.tab).mono ?_
  rintro x w' ⟨o, ho, v, a, b, c⟩
  cases wv_ok ho (hM.ok h3)
  exact ⟨v, a, ⟨b.mono (up_le ht), hM⟩, c⟩
theorem subB {va vb : Value} {p q : Rat} {m k : Nat} (M : Nat) (ha : NumB F w va p m) (hb : NumB F w vb q k) (ht : Tb F w) (h1 : m + 1 ≤ M) (h2 : k + 1 ≤ M) (h3 : M ≤ 65536) :
    Calls Tryd.prog 12 #[va, vb] w (RetB F (p - q) M w) := by
  have hM := ha.2.add hb.2.neg h1 h2
  refine (wSub_calls ha.1 hb.1 ht.tab).mono ?_
  rintro x w' ⟨o, ho, v, a, b, c⟩
  cases wv_ok ho (hM.ok h3)
  rw [Rat.sub_eq_add_neg]
  exact ⟨v, a, ⟨b.mono (up_le ht), hM⟩, c⟩
theorem mulB {va vb : Value} {p q : Rat} {m k : Nat} (M : Nat) (ha : NumB F w va p m) (hb : NumB F w vb q k) (ht : Tb F w) (h1 : m + k ≤ M) (h3 : M ≤ 65536) :
    Calls Tryd.prog 14 #[va, vb] w (RetB F (p * q) M w) := by
  have hM := (ha.2.mul hb.2).mono h1
  refine (wMul_calls ha.1 hb.1 ht.tab).mono ?_
  rintro x w' ⟨o, ho, v, a, b, c⟩
  cases wv_ok ho (hM.ok h3)
  exact ⟨v, a, ⟨b.mono (up_le ht), hM⟩, c⟩
theorem shiftB {va : Value} {p : Rat} {m : Nat} (M : Nat) (k : Int) (ha : NumB F w va p m) (ht : Tb F w) (h1 : m + k.natAbs ≤ M) (h3 : M ≤ 65536) :
    Calls Tryd.prog 16 #[va, .int .i64 k] w (RetB F (p * (2 : Rat) ^ k) M w) := by
  have hM := (ha.2.shift k).mono h1
  refine (wShift_calls k ha.1 ht.tab).mono ?_
  rintro x w' ⟨o, ho, v, a, b, c⟩
  cases wv_ok ho (hM.ok h3)
  exact ⟨v, a, ⟨b.mono (up_le ht), hM⟩, c⟩
theorem negB {va : Value} {p : Rat} {m : Nat} (ha : NumB F w va p m) :
    Calls Tryd.prog 15 #[va] w (RetB F (-p) m w) :=
  (wNeg_num ha.1).mono fun x w' ⟨v, a, b, c⟩ => ⟨v, a, ⟨b, ha.2.neg⟩, c⟩
theorem signB {va : Value} {p : Rat} {m : Nat} (ha : NumB F w va p m) :
    Calls Tryd.prog 13 #[va] w fun x w' => x = .returned (.int .i64 (rs p)) ∧ Below w.heap.size w w' := wSign_num ha.1
theorem signBn {va : Value} {p : Rat} {m : Nat} (n : Int) (ha : NumB F w va p m) (hn : rs p = n) :
    Calls Tryd.prog 13 #[va] w fun x w' => x = .returned (.int .i64 n) ∧ Below w.heap.size w w' := by rw [← hn]; exact wSign_num ha.1
theorem cmpB {va vb : Value} {p q : Rat} {m k : Nat} (ha : NumB F w va p m) (hb : NumB F w vb q k) (ht : Tb F w) (h1 : m + 1 ≤ 65536) (h2 : k + 1 ≤ 65536) :
    Calls Tryd.prog 11 #[va, vb] w fun x w' => x = .returned (.int .i64 (rs (p - q))) ∧ Below w.heap.size w w' := by
  have hM := ha.2.add hb.2.neg h1 h2
  refine (wCmp_calls ha.1 hb.1 ht.tab).mono ?_
  rintro x w' ⟨o, ho, rfl, c⟩
  cases wv_ok ho (hM.ok (Nat.le_refl _))
  exact ⟨by rw [Rat.sub_eq_add_neg]; rfl, c⟩
theorem cmpBn {va vb : Value} {p q : Rat} {m k : Nat} (n : Int) (ha : NumB F w va p m) (hb : NumB F w vb q k) (ht : Tb F w) (h1 : m + 1 ≤ 65536) (h2 : k + 1 ≤ 65536) (hn : rs (p - q) = n) :
    Calls Tryd.prog 11 #[va, vb] w fun x w' => x = .returned (.int .i64 n) ∧ Below w.heap.size w w' := by rw [← hn]; exact cmpB ha hb ht h1 h2
theorem floatB {va : Value} {p : Rat} {m : Nat} (ha : NumB F w va p m) :
    Calls Tryd.prog 19 #[va] w (RetF p w) := wFloat_calls ha.1
theorem okB {va : Value} {p : Rat} {m : Nat} (ha : NumB F w va p m) :
    Calls Tryd.prog 18 #[va] w fun x w' => x = .returned (.bool true) ∧ Below w.heap.size w w' := by
  obtain ⟨p, n, c, e, neg, rfl⟩ := ha.form
  exact wOK_calls _ _ _ _ _
theorem NumB.zero (F : Nat) (w : World) : NumB F w (.agg #[.slice none 0 0, .int .i64 0, .bool false, .bool false]) 0 0 :=
  ⟨⟨.slice none 0 0, [], 0, false, rfl, Or.inl ⟨rfl, rfl⟩, fun _ _ _ h => by simp at h, by simp [W.nv, W.dval], Or.inl rfl, Or.inl ⟨rfl, rfl, rfl, rfl⟩⟩, Bx.zero 0⟩
theorem high_no (e : Int) (w : World) :
    Calls Tryd.prog 20 #[.agg #[.slice none 0 0, .int .i64 e]] w fun x w' => x = .returned (.int .i64 0) ∧ Below w.heap.size w w' := by
  go_enter Tryd.func20, Tryd.ntmps20
  go_wp2_with fail
  go_ret
  exact ⟨rfl, (Below.refl w.heap.size w).alloc (Nat.le_refl _) _⟩
theorem low_no (e : Int) (w : World) :
    Calls Tryd.prog 21 #[.agg #[.slice none 0 0, .int .i64 e]] w fun x w' => x = .returned (.int .i64 0) ∧ Below w.heap.size w w' := by
  go_enter Tryd.func21, Tryd.ntmps21
  go_wp2_with fail
  go_ret
  exact ⟨rfl, (Below.refl w.heap.size w).alloc (Nat.le_refl _) _⟩
theorem highB {p : Option Addr} {n c : Nat} {e : Int} {g : Bool} {q : Rat} {m : Nat} (h : Int) (ha : NumB F w (.agg #[.slice p n c, .int .i64 e, .bool g, .bool false]) q m) (hh : HighOf q h ∨ q = 0 ∧ h = 0) :
    Calls Tryd.prog 20 #[.agg #[.slice p n c, .int .i64 e]] w fun x w' => x = .returned (.int .i64 h) ∧ Below w.heap.size w w' := by
  obtain ⟨⟨sl, ds, e', ng, hv, hs, -, hq, -, cc⟩, -⟩ := ha
  simp only [Value.agg.injEq, Array.mk.injEq, List.cons.injEq, Value.int.injEq, Value.bool.injEq, true_and, and_true] at hv
  obtain ⟨rfl, rfl, rfl⟩ := hv
  rcases cc with ⟨rfl, rfl, rfl, hsl⟩ | ⟨hm, -⟩
  · rw [hsl]
    have z : q = 0 := by rw [hq]; simp [W.nv, W.dval]
    rcases hh with h1 | ⟨-, h1⟩
    · exact absurd z h1.ne
    · subst h1; exact high_no _ w
  · refine (high_calls _ _ ds w hs hm).mono ?_
    rintro x w' ⟨⟨h', rfl, h2, -⟩, hb⟩
    have h3 := h2 (sg g) (sg_cases g)
    rw [← hq] at h3
    rcases hh with h1 | ⟨h1, -⟩
    · rw [h3.uniq h1]; exact ⟨rfl, hb⟩
    · exact absurd h1 h3.ne
theorem lowB {p : Option Addr} {n c : Nat} {e : Int} {g : Bool} {q : Rat} {m : Nat} (l : Int) (ha : NumB F w (.agg #[.slice p n c, .int .i64 e, .bool g, .bool false]) q m) (ht : Tb F w) (hl : LowOf q l ∨ q = 0 ∧ l = 0) :
    Calls Tryd.prog 21 #[.agg #[.slice p n c, .int .i64 e]] w fun x w' => x = .returned (.int .i64 l) ∧ Below w.heap.size w w' := by
  obtain ⟨⟨sl, ds, e', ng, hv, hs, -, hq, -, cc⟩, -⟩ := ha
  simp only [Value.agg.injEq, Array.mk.injEq, List.cons.injEq, Value.int.injEq, Value.bool.injEq, true_and, and_true] at hv
  obtain ⟨rfl, rfl, rfl⟩ := hv
  rcases cc with ⟨rfl, rfl, rfl, hsl⟩ | ⟨hm, -⟩
  · rw [hsl]
    have z : q = 0 := by rw [hq]; simp [W.nv, W.dval]
    rcases hl with ⟨x, h1, h2⟩ | ⟨-, h1⟩
    · exfalso
      rw [z] at h2
      have h3 : (x : Rat) = 0 := by
        rcases Rat.mul_eq_zero.1 h2.symm with h | h
        · exact h
        · exact absurd h (two_ne l)
      have h4 : x = 0 := by exact_mod_cast h3
      omega
    · subst h1; exact low_no _ w
  · refine (low_calls _ _ ds w hs hm ht.tab).mono ?_
    rintro x w' ⟨⟨h', rfl, h2, -⟩, hb⟩
    have h3 := h2 (sg g) (sg_cases g)
    rw [← hq] at h3
    rcases hl with h1 | ⟨h1, -⟩
    · rw [h3.uniq h1]; exact ⟨rfl, hb⟩
    · exfalso
      obtain ⟨x, h4, h5⟩ := h3
      rw [h1] at h5
      have h6 : (x : Rat) = 0 := by
        rcases Rat.mul_eq_zero.1 h5.symm with h | h
        · exact h
        · exact absurd h (two_ne _)
      have h7 : x = 0 := by exact_mod_cast h6
      omega
end
end Go.Proofs.YtiiipgbfhcbjdaaDoor
