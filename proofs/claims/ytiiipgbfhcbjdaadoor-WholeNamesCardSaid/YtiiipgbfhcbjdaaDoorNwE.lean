/- Texts of one kind, joined. -/
import Derived.Test.YtiiipgbfhcbjdaaDoorWiA
import Derived.Test.YtiiipgbfhcbjdaaDoorNwD
import Derived.Test.YtiiipgbfhcbjdaaDoorWhJ
import Derived.Test.YtiiipgbfhcbjdaaDoorNwC

section
/- Package whole: numbers that have a bound, and the contracts of numbers that stay within what whole keeps. -/
namespace TV
/-- q is a whole multiple of 2^-m, and below 2^m. -/
def Bx (m : Nat) (q : Rat) : Prop := ∃ n : Int, q = (n : Rat) * (2 : Rat) ^ (-(m : Int)) ∧ n.natAbs < 2 ^ (2 * m)

theorem Bx.zero (m : Nat) : Bx m 0 := ⟨0, by simp, Nat.two_pow_pos _⟩
theorem Bx.mono {m k : Nat} {q : Rat} (h : Bx m q) (hk : m ≤ k) : Bx k q := by
  obtain ⟨n, h1, h2⟩ := h
  obtain ⟨d, rfl⟩ : ∃ d, k = m + d := ⟨k - m, by omega⟩
  refine ⟨n * ((2 ^ d : Nat) : Int), ?_, ?_⟩
  · rw [h1]; push_cast
    rw [show ((2 : Rat) ^ d) = ((2 ^ d : Nat) : Rat) by push_cast; rfl, ← two_zpow_nat, Rat.mul_assoc, ← two_zpow_add]
    congr 2; omega
  · rw [Int.natAbs_mul, Int.natAbs_natCast]
    calc n.natAbs * 2 ^ d < 2 ^ (2 * m) * 2 ^ d := Nat.mul_lt_mul_of_pos_right h2 (Nat.two_pow_pos _)
      _ = 2 ^ (2 * m + d) := (Nat.pow_add ..).symm
      _ ≤ 2 ^ (2 * (m + d)) := Nat.pow_le_pow_right (by omega) (by omega)
theorem Bx.neg {m : Nat} {q : Rat} (h : Bx m q) : Bx m (-q) := by
  obtain ⟨n, h1, h2⟩ := h
  refine ⟨-n, by rw [h1]; push_cast; grind, by rw [Int.natAbs_neg]; exact h2⟩
theorem Bx.add {m k : Nat} {p q : Rat} (hp : Bx m p) (hq : Bx k q) {M : Nat} (h1 : m + 1 ≤ M) (h2 : k + 1 ≤ M) : Bx M (p + q) := by
  obtain ⟨L, rfl⟩ : ∃ L, M = L + 1 := ⟨M - 1, by omega⟩
  obtain ⟨a, a1, a2⟩ := hp.mono (show m ≤ L by omega)
  obtain ⟨b, b1, b2⟩ := hq.mono (show k ≤ L by omega)
  refine Bx.mono (m := L + 1) ⟨(a + b) * 2, ?_, ?_⟩ (Nat.le_refl _)
  · rw [a1, b1]; push_cast
    have e : (2 : Rat) ^ (-(L : Int)) = 2 * (2 : Rat) ^ (-((L : Int) + 1)) := by
      have : (2 : Rat) ^ (1 : Int) = 2 := by rw [Rat.zpow_one]
      have e2 := two_zpow_add 1 (-((L : Int) + 1))
      rw [this] at e2
      rw [← e2]; congr 1; omega
    rw [e]; grind
  · have e : (2 : Nat) ^ (2 * (L + 1)) = 2 ^ (2 * L) * 4 := by rw [show 2 * (L + 1) = 2 * L + 2 by omega, Nat.pow_add]
    omega
theorem Bx.mul {m k : Nat} {p q : Rat} (hp : Bx m p) (hq : Bx k q) : Bx (m + k) (p * q) := by
  obtain ⟨a, a1, a2⟩ := hp
  obtain ⟨b, b1, b2⟩ := hq
  refine ⟨a * b, ?_, ?_⟩
  · rw [a1, b1]; push_cast
    have e := two_zpow_add (-(m : Int)) (-(k : Int))
    rw [show -((m : Int) + (k : Int)) = -(m : Int) + -(k : Int) by omega, e]
    grind
  · rw [Int.natAbs_mul, show 2 * (m + k) = 2 * m + 2 * k by omega, Nat.pow_add]
    exact Nat.mul_lt_mul'' a2 b2
theorem Bx.shift {m : Nat} {q : Rat} (h : Bx m q) (k : Int) : Bx (m + k.natAbs) (q * (2 : Rat) ^ k) := by
  obtain ⟨n, h1, h2⟩ := h
  obtain ⟨d, hd⟩ : ∃ d : Nat, (d : Int) = k.natAbs + k := ⟨(k.natAbs + k).toNat, by omega⟩
  refine ⟨n * ((2 ^ d : Nat) : Int), ?_, ?_⟩
  · rw [h1]; push_cast
    rw [show ((2 : Rat) ^ d) = ((2 ^ d : Nat) : Rat) by push_cast; rfl, ← two_zpow_nat, Rat.mul_assoc, Rat.mul_assoc, ← two_zpow_add, ← two_zpow_add]
    congr 2; omega
  · rw [Int.natAbs_mul, Int.natAbs_natCast]
    calc n.natAbs * 2 ^ d < 2 ^ (2 * m) * 2 ^ d := Nat.mul_lt_mul_of_pos_right h2 (Nat.two_pow_pos _)
      _ = 2 ^ (2 * m + d) := (Nat.pow_add ..).symm
      _ ≤ 2 ^ (2 * (m + k.natAbs)) := Nat.pow_le_pow_right (by omega) (by omega)
theorem Bx.int {n : Int} {m : Nat} (h : n.natAbs < 2 ^ m) : Bx m (n : Rat) := by
  refine ⟨n * ((2 ^ m : Nat) : Int), ?_, ?_⟩
  · push_cast
    rw [show ((2 : Rat) ^ m) = ((2 ^ m : Nat) : Rat) by push_cast; rfl, ← two_zpow_nat, Rat.mul_assoc, ← two_zpow_add, show (m : Int) + -(m : Int) = 0 by omega, Rat.zpow_zero, Rat.mul_one]
  · rw [Int.natAbs_mul, Int.natAbs_natCast, show 2 * m = m + m by omega, Nat.pow_add]
    exact Nat.mul_lt_mul_of_pos_right h (Nat.two_pow_pos _)

/-- A whole number that is not nought is an odd one times a power of two. -/
theorem odd_part : ∀ (N : Nat) (n : Int), n.natAbs ≤ N → n ≠ 0 → ∃ (m : Int) (j : Nat), m % 2 = 1 ∧ n = m * ((2 ^ j : Nat) : Int)
  | 0, n, h, h0 => absurd (Int.natAbs_eq_zero.1 (by omega)) h0
  | N + 1, n, h, h0 => by
    by_cases c : n % 2 = 1
    · exact ⟨n, 0, c, by simp⟩
    · obtain ⟨m, j, h1, h2⟩ := odd_part N (n / 2) (by omega) (by omega)
      refine ⟨m, j + 1, h1, ?_⟩
      have e : n = n / 2 * 2 := by omega
      rw [Nat.pow_succ, Int.natCast_mul, ← Int.mul_assoc, ← h2]; exact e

theorem nat_high {N : Nat} (h : N ≠ 0) (l : Int) : (2 : Rat) ^ ((N.log2 : Int) + l) ≤ (N : Rat) * (2 : Rat) ^ l ∧ (N : Rat) * (2 : Rat) ^ l < (2 : Rat) ^ ((N.log2 : Int) + l + 1) := by
  have h1 : 2 ^ N.log2 ≤ N := Nat.log2_self_le h
  have h2 : N < 2 ^ (N.log2 + 1) := Nat.lt_log2_self
  constructor
  · rw [two_zpow_add, two_zpow_nat]
    exact Rat.mul_le_mul_of_nonneg_right (by exact_mod_cast h1) (Rat.le_of_lt (two_zpow_pos _))
  · rw [show (N.log2 : Int) + l + 1 = ((N.log2 + 1 : Nat) : Int) + l by omega, two_zpow_add, two_zpow_nat]
    exact Rat.mul_lt_mul_of_pos_right (by exact_mod_cast h2) (two_zpow_pos _)

/-- The ends of a number that has a bound. -/
theorem Bx.ends {m : Nat} {q : Rat} (h : Bx m q) (h0 : q ≠ 0) : ∃ h l : Int, HighOf q h ∧ LowOf q l ∧ h < m ∧ -(m : Int) ≤ l := by
  obtain ⟨n, h1, h2⟩ := h
  have hn : n ≠ 0 := by intro hc; rw [hc] at h1; exact h0 (by rw [h1]; simp)
  have hN : n.natAbs ≠ 0 := by omega
  obtain ⟨x, j, hx, hj⟩ := odd_part _ n (Nat.le_refl _) hn
  obtain ⟨g1, g2⟩ := nat_high hN (-(m : Int))
  have hlog : n.natAbs.log2 < 2 * m := (Nat.log2_lt hN).2 h2
  refine ⟨(n.natAbs.log2 : Int) + -(m : Int), (j : Int) + -(m : Int), ?_, ⟨x, hx, ?_⟩, by omega, by omega⟩
  · have e : ((n.natAbs : Nat) : Rat) * (2 : Rat) ^ (-(m : Int)) = if n < 0 then -q else q := by
      by_cases c : n < 0
      · rw [if_pos c, h1]
        have : ((n.natAbs : Nat) : Rat) = ((-n : Int) : Rat) := by
          rw [show (-n : Int) = ((n.natAbs : Nat) : Int) by omega]; rfl
        rw [this]; push_cast; grind
      · rw [if_neg c, h1]
        have : ((n.natAbs : Nat) : Rat) = (n : Rat) := by
          conv => rhs; rw [show n = ((n.natAbs : Nat) : Int) by omega]
          rfl
        rw [this]
    rw [e] at g1 g2
    by_cases c : n < 0
    · rw [if_pos c] at g1 g2; exact Or.inr ⟨g1, g2⟩
    · rw [if_neg c] at g1 g2; exact Or.inl ⟨g1, g2⟩
  · rw [h1, hj, two_zpow_add, two_zpow_nat]; push_cast; grind

theorem Bx.ok {m : Nat} {q : Rat} (h : Bx m q) (hm : m ≤ 65536) : OkR q := by
  by_cases h0 : q = 0
  · exact Or.inl h0
  · obtain ⟨a, b, h1, h2, h3, h4⟩ := h.ends h0
    exact Or.inr ⟨a, b, h1, h2, by omega, by omega⟩
end TV
namespace Go.Proofs.YtiiipgbfhcbjdaaDoor
open Go.RowKit TV
set_option linter.unusedVariables false

set_option exponentiation.threshold 3000 in
theorem fr_bound {x : Nat} (h : rung x < inf) : Bx 1074 (fr x) := by
  refine ⟨fv x, rfl, ?_⟩
  rw [fv_natAbs]
  have h1 := mag_lt h
  rw [mag_inf] at h1
  refine Nat.lt_of_lt_of_le h1 ?_
  rw [show 9007199254740992 = 2 ^ 53 by decide, ← Nat.pow_add]
  exact Nat.pow_le_pow_right (by omega) (by omega)

/-- A number in memory with a bound, its words in blocks from F on. -/
def NumB (F : Nat) (w : World) (v : Value) (q : Rat) (m : Nat) : Prop := WNum (fun b => F ≤ b) w v (some q) ∧ Bx m q
theorem NumB.keep {F : Nat} {w w1 : World} {v : Value} {q : Rat} {m : Nat} (h : NumB F w v q m) (hb : Below w.heap.size w w1) : NumB F w1 v q m := ⟨h.1.keep hb, h.2⟩
theorem NumB.less {F G : Nat} {w : World} {v : Value} {q : Rat} {m : Nat} (h : NumB F w v q m) (hG : G ≤ F) : NumB G w v q m := ⟨h.1.mono fun _ h => Nat.le_trans hG h, h.2⟩
theorem NumB.form {F : Nat} {w : World} {v : Value} {q : Rat} {m : Nat} (h : NumB F w v q m) : ∃ p n c e neg, v = .agg #[.slice p n c, .int .i64 e, .bool neg, .bool false] := by
  obtain ⟨sl, ds, e, neg, rfl, hs, -⟩ := h.1
  obtain ⟨p, c, rfl⟩ := hs.formMap
  exact ⟨_, _, _, _, _, rfl⟩
theorem NumB.put4 {F : Nat} {w : World} {v : Value} {q : Rat} {m b : Nat} (h : NumB F w v q m) (hb : b < F) (u0 u1 u2 u3 : Value) :
    NumB F ((((w.setCell ⟨b, 0, none⟩ u0).setCell ⟨b, 1, none⟩ u1).setCell ⟨b, 2, none⟩ u2).setCell ⟨b, 3, none⟩ u3) v q m :=
  ⟨h.1.put4 (fun h => by omega) _ _ _ _, h.2⟩
/-- What a contract here answers: a number with a bound. -/
def RetB (F : Nat) (q : Rat) (m : Nat) (w : World) (x : Ending) (w' : World) : Prop := ∃ v, x = .returned v ∧ NumB F w' v q m ∧ Below w.heap.size w w'
/-- The table of bits, and where numbers' words may lie. -/
structure Tb (F : Nat) (w : World) : Prop where
  tab : TabOk w
  le : F ≤ w.heap.size
theorem Tb.keep {F : Nat} {w w1 : World} (h : Tb F w) (hb : Below w.heap.size w w1) : Tb F w1 := ⟨h.tab.keep hb, Nat.le_trans h.le hb.size⟩

theorem wv_ok {q : Rat} {o : Option Rat} (h : WvOf q o) (hq : OkR q) : o = some q := h.1 hq
theorem up_le {F : Nat} {w : World} (h : Tb F w) (b : Nat) (hb : F ≤ b ∨ w.heap.size ≤ b) : F ≤ b := hb.elim id (Nat.le_trans h.le)

section
variable {F : Nat} {w : World}
theorem ofB (x : Nat) (h1 : x < 18446744073709551616) (h : rung x < inf) (ht : Tb F w) :
    Calls Tryd.prog 22 #[.float .f64 x] w (RetB F (fr x) 1074 w) := by
  have := wOf_calls x h1 w ht.tab
  rw [if_pos h] at this
  exact this.mono fun x w' ⟨v, a, b, c⟩ => ⟨v, a, ⟨b.mono fun _ h => Nat.le_trans ht.le h, fr_bound h⟩, c⟩
theorem intB (n : Int) (h0 : -9223372036854775808 ≤ n) (h1 : n ≤ 9223372036854775807) (ht : Tb F w) :
    Calls Tryd.prog 17 #[.int .i64 n] w (RetB F (n : Rat) 64 w) :=
  (wInt_calls n h0 h1 w ht.tab).mono fun x w' ⟨v, a, b, c⟩ => ⟨v, a, ⟨b.mono fun _ h => Nat.le_trans ht.le h, Bx.int (by rw [show (2 : Nat) ^ 64 = 18446744073709551616 by decide]; omega)⟩, c⟩
theorem addB {va vb : Value} {p q : Rat} {m k : Nat} (M : Nat) (ha : NumB F w va p m) (hb : NumB F w vb q k) (ht : Tb F w) (h1 : m + 1 ≤ M) (h2 : k + 1 ≤ M) (h3 : M ≤ 65536) :
    Calls Tryd.prog 10 #[va, vb] w (RetB F (p + q) M w) := by
  have hM := ha.2.add hb.2 h1 h2
  refine (wAdd_calls ha.1 hb.1 ht.tab).mono ?_
  rintro x w' ⟨o, ho, v, a, b, c⟩
  cases wv_ok ho (hM.ok h3)
  exact ⟨v, a, ⟨b.mono (up_le ht), hM⟩, c⟩
theorem subB {va vb : Value} {p q : Rat} {m k : Nat} (M : Nat) (ha : NumB F w va p m) (hb : NumB F w vb q k) (ht : Tb F w) (h1 : m + 1 ≤ M) (h2 : k + 1 ≤ M) (h3 : M ≤ 65536) :
    Calls Tryd.prog 12 #[va, vb] w (RetB F (p - q) M w) := by
  have hM := ha.2.add hb.2.neg h1 h2
  refine (wSub_calls ha.1 hb.1 ht.tab).mono ?_
  rintro x w' ⟨o, ho, v, a, b, c⟩
  cases wv_ok ho (hM.ok h3)
  rw [Rat.sub_eq_add_neg]
  exact ⟨v, a, ⟨b.mono (up_le ht), hM⟩, c⟩
theorem mulB {va vb : Value} {p q : Rat} {m k : Nat} (M : Nat) (ha : NumB F w va p m) (hb : NumB F w vb q k) (ht : Tb F w) (h1 : m + k ≤ M) (h3 : M ≤ 65536) :
    Calls Tryd.prog 14 #[va, vb] w (RetB F (p * q) M w) := by
  have hM := (ha.2.mul hb.2).mono h1
  refine (wMul_calls ha.1 hb.1 ht.tab).mono ?_
  rintro x w' ⟨o, ho, v, a, b, c⟩
  cases wv_ok ho (hM.ok h3)
  exact ⟨v, a, ⟨b.mono (up_le ht), hM⟩, c⟩
theorem shiftB {va : Value} {p : Rat} {m : Nat} (M : Nat) (k : Int) (ha : NumB F w va p m) (ht : Tb F w) (h1 : m + k.natAbs ≤ M) (h3 : M ≤ 65536) :
    Calls Tryd.prog 16 #[va, .int .i64 k] w (RetB F (p * (2 : Rat) ^ k) M w) := by
  have hM := (ha.2.shift k).mono h1
  refine (wShift_calls k ha.1 ht.tab).mono ?_
  rintro x w' ⟨o, ho, v, a, b, c⟩
  cases wv_ok ho (hM.ok h3)
  exact ⟨v, a, ⟨b.mono (up_le ht), hM⟩, c⟩
theorem negB {va : Value} {p : Rat} {m : Nat} (ha : NumB F w va p m) :
    Calls Tryd.prog 15 #[va] w (RetB F (-p) m w) :=
  (wNeg_num ha.1).mono fun x w' ⟨v, a, b, c⟩ => ⟨v, a, ⟨b, ha.2.neg⟩, c⟩
theorem signB {va : Value} {p : Rat} {m : Nat} (ha : NumB F w va p m) :
    Calls Tryd.prog 13 #[va] w fun x w' => x = .returned (.int .i64 (rs p)) ∧ Below w.heap.size w w' := wSign_num ha.1
theorem signBn {va : Value} {p : Rat} {m : Nat} (n : Int) (ha : NumB F w va p m) (hn : rs p = n) :
    Calls Tryd.prog 13 #[va] w fun x w' => x = .returned (.int .i64 n) ∧ Below w.heap.size w w' := by rw [← hn]; exact wSign_num ha.1
theorem cmpB {va vb : Value} {p q : Rat} {m k : Nat} (ha : NumB F w va p m) (hb : NumB F w vb q k) (ht : Tb F w) (h1 : m + 1 ≤ 65536) (h2 : k + 1 ≤ 65536) :
    Calls Tryd.prog 11 #[va, vb] w fun x w' => x = .returned (.int .i64 (rs (p - q))) ∧ Below w.heap.size w w' := by
  have hM := ha.2.add hb.2.neg h1 h2
  refine (wCmp_calls ha.1 hb.1 ht.tab).mono ?_
  rintro x w' ⟨o, ho, rfl, c⟩
  cases wv_ok ho (hM.ok (Nat.le_refl _))
  exact ⟨by rw [Rat.sub_eq_add_neg]; rfl, c⟩
theorem cmpBn {va vb : Value} {p q : Rat} {m k : Nat} (n : Int) (ha : NumB F w va p m) (hb : NumB F w vb q k) (ht : Tb F w) (h1 : m + 1 ≤ 65536) (h2 : k + 1 ≤ 65536) (hn : rs (p - q) = n) :
    Calls Tryd.prog 11 #[va, vb] w fun x w' => x = .returned (.int .i64 n) ∧ Below w.heap.size w w' := by rw [← hn]; exact cmpB ha hb ht h1 h2
theorem floatB {va : Value} {p : Rat} {m : Nat} (ha : NumB F w va p m) :
    Calls Tryd.prog 19 #[va] w (RetF p w) := wFloat_calls ha.1
theorem okB {va : Value} {p : Rat} {m : Nat} (ha : NumB F w va p m) :
    Calls Tryd.prog 18 #[va] w fun x w' => x = .returned (.bool true) ∧ Below w.heap.size w w' := by
  obtain ⟨p, n, c, e, neg, rfl⟩ := ha.form
  exact wOK_calls _ _ _ _ _
theorem NumB.zero (F : Nat) (w : World) : NumB F w (.agg #[.slice none 0 0, .int .i64 0, .bool false, .bool false]) 0 0 :=
  ⟨⟨.slice none 0 0, [], 0, false, rfl, Or.inl ⟨rfl, rfl⟩, fun _ _ _ h => by simp at h, by simp [W.nv, W.dval], Or.inl rfl, Or.inl ⟨rfl, rfl, rfl, rfl⟩⟩, Bx.zero 0⟩
theorem high_no (e : Int) (w : World) :
    Calls Tryd.prog 20 #[.agg #[.slice none 0 0, .int .i64 e]] w fun x w' => x = .returned (.int .i64 0) ∧ Below w.heap.size w w' := by
  go_enter Tryd.func20, Tryd.ntmps20
  go_wp2_with fail
  go_ret
  exact ⟨rfl, (Below.refl w.heap.size w).alloc (Nat.le_refl _) _⟩
theorem low_no (e : Int) (w : World) :
    Calls Tryd.prog 21 #[.agg #[.slice none 0 0, .int .i64 e]] w fun x w' => x = .returned (.int .i64 0) ∧ Below w.heap.size w w' := by
  go_enter Tryd.func21, Tryd.ntmps21
  go_wp2_with fail
  go_ret
  exact ⟨rfl, (Below.refl w.heap.size w).alloc (Nat.le_refl _) _⟩
theorem highB {p : Option Addr} {n c : Nat} {e : Int} {g : Bool} {q : Rat} {m : Nat} (h : Int) (ha : NumB F w (.agg #[.slice p n c, .int .i64 e, .bool g, .bool false]) q m) (hh : HighOf q h ∨ q = 0 ∧ h = 0) :
    Calls Tryd.prog 20 #[.agg #[.slice p n c, .int .i64 e]] w fun x w' => x = .returned (.int .i64 h) ∧ Below w.heap.size w w' := by
  obtain ⟨⟨sl, ds, e', ng, hv, hs, -, hq, -, cc⟩, -⟩ := ha
  simp only [Value.agg.injEq, Array.mk.injEq, List.cons.injEq, Value.int.injEq, Value.bool.injEq, true_and, and_true] at hv
  obtain ⟨rfl, rfl, rfl⟩ := hv
  rcases cc with ⟨rfl, rfl, rfl, hsl⟩ | ⟨hm, -⟩
  · rw [hsl]
    have z : q = 0 := by rw [hq]; simp [W.nv, W.dval]
    rcases hh with h1 | ⟨-, h1⟩
    · exact absurd z h1.ne
    · subst h1; exact high_no _ w
  · refine (high_calls _ _ ds w hs hm).mono ?_
    rintro x w' ⟨⟨h', rfl, h2, -⟩, hb⟩
    have h3 := h2 (sg g) (sg_cases g)
    rw [← hq] at h3
    rcases hh with h1 | ⟨h1, -⟩
    · rw [h3.uniq h1]; exact ⟨rfl, hb⟩
    · exact absurd h1 h3.ne
theorem lowB {p : Option Addr} {n c : Nat} {e : Int} {g : Bool} {q : Rat} {m : Nat} (l : Int) (ha : NumB F w (.agg #[.slice p n c, .int .i64 e, .bool g, .bool false]) q m) (ht : Tb F w) (hl : LowOf q l ∨ q = 0 ∧ l = 0) :
    Calls Tryd.prog 21 #[.agg #[.slice p n c, .int .i64 e]] w fun x w' => x = .returned (.int .i64 l) ∧ Below w.heap.size w w' := by
  obtain ⟨⟨sl, ds, e', ng, hv, hs, -, hq, -, cc⟩, -⟩ := ha
  simp only [Value.agg.injEq, Array.mk.injEq, List.cons.injEq, Value.int.injEq, Value.bool.injEq, true_and, and_true] at hv
  obtain ⟨rfl, rfl, rfl⟩ := hv
  rcases cc with ⟨rfl, rfl, rfl, hsl⟩ | ⟨hm, -⟩
  · rw [hsl]
    have z : q = 0 := by rw [hq]; simp [W.nv, W.dval]
    rcases hl with ⟨x, h1, h2⟩ | ⟨-, h1⟩
    · exfalso
      rw [z] at h2
      have h3 : (x : Rat) = 0 := by
        rcases Rat.mul_eq_zero.1 h2.symm with h | h
        · exact h
        · exact absurd h (two_ne l)
      have h4 : x = 0 := by exact_mod_cast h3
      omega
    · subst h1; exact low_no _ w
  · refine (low_calls _ _ ds w hs hm ht.tab).mono ?_
    rintro x w' ⟨⟨h', rfl, h2, -⟩, hb⟩
    have h3 := h2 (sg g) (sg_cases g)
    rw [← hq] at h3
    rcases hl with h1 | ⟨h1, -⟩
    · rw [h3.uniq h1]; exact ⟨rfl, hb⟩
    · exfalso
      obtain ⟨x, h4, h5⟩ := h3
      rw [h1] at h5
      have h6 : (x : Rat) = 0 := by
        rcases Rat.mul_eq_zero.1 h5.symm with h | h
        · exact h
        · exact absurd h (two_ne _)
      have h7 : x = 0 := by exact_mod_cast h6
      omega
end
end Go.Proofs.YtiiipgbfhcbjdaaDoor
end

section
/- Package whole's statements: the helper of. (Printed by gen_WiC.py.) -/
namespace Go.Proofs.YtiiipgbfhcbjdaaDoor
open Go.RowKit TV
set_option linter.unusedVariables false

theorem bl_pack {B : Nat} {w w1 w2 : World} (h : Below B w w1) (hs : B ≤ w1.heap.size) (h2 : Below w1.heap.size w1 w2) : Below B w w2 := h.trans (h2.mono hs)

/-- A cell for a number. -/
theorem box_res (w : World) (o : Obj) : ∃ wn, wn = w.alloc o ∧ Below w.heap.size w wn ∧ wn.heap.size = w.heap.size + 1 ∧ wn.heap[w.heap.size]? = some o := ⟨_, rfl, kp_alloc _ _, by simp, heap_alloc_new _ _⟩

/-- What a region of calls and loads keeps. -/
theorem sv1 {wk w' : World} (K : Kp wk w') {ba : Nat} {ua0 ua1 ua2 ua3 : Value} (qa0 : wk.cell? ⟨ba, 0, none⟩ = some ua0) (qa1 : wk.cell? ⟨ba, 1, none⟩ = some ua1) (qa2 : wk.cell? ⟨ba, 2, none⟩ = some ua2) (qa3 : wk.cell? ⟨ba, 3, none⟩ = some ua3) :
    w'.cell? ⟨ba, 0, none⟩ = some ua0 ∧ w'.cell? ⟨ba, 1, none⟩ = some ua1 ∧ w'.cell? ⟨ba, 2, none⟩ = some ua2 ∧ w'.cell? ⟨ba, 3, none⟩ = some ua3 ∧ Kp wk w' :=
  ⟨keep_cell K.out qa0, keep_cell K.out qa1, keep_cell K.out qa2, keep_cell K.out qa3, K⟩
theorem sv2 {wk w' : World} (K : Kp wk w') {ba bb : Nat} {ua0 ua1 ua2 ua3 ub0 ub1 ub2 ub3 : Value} (qa0 : wk.cell? ⟨ba, 0, none⟩ = some ua0) (qa1 : wk.cell? ⟨ba, 1, none⟩ = some ua1) (qa2 : wk.cell? ⟨ba, 2, none⟩ = some ua2) (qa3 : wk.cell? ⟨ba, 3, none⟩ = some ua3) (qb0 : wk.cell? ⟨bb, 0, none⟩ = some ub0) (qb1 : wk.cell? ⟨bb, 1, none⟩ = some ub1) (qb2 : wk.cell? ⟨bb, 2, none⟩ = some ub2) (qb3 : wk.cell? ⟨bb, 3, none⟩ = some ub3) :
    w'.cell? ⟨ba, 0, none⟩ = some ua0 ∧ w'.cell? ⟨ba, 1, none⟩ = some ua1 ∧ w'.cell? ⟨ba, 2, none⟩ = some ua2 ∧ w'.cell? ⟨ba, 3, none⟩ = some ua3 ∧ w'.cell? ⟨bb, 0, none⟩ = some ub0 ∧ w'.cell? ⟨bb, 1, none⟩ = some ub1 ∧ w'.cell? ⟨bb, 2, none⟩ = some ub2 ∧ w'.cell? ⟨bb, 3, none⟩ = some ub3 ∧ Kp wk w' :=
  ⟨keep_cell K.out qa0, keep_cell K.out qa1, keep_cell K.out qa2, keep_cell K.out qa3, keep_cell K.out qb0, keep_cell K.out qb1, keep_cell K.out qb2, keep_cell K.out qb3, K⟩
theorem sv3 {wk w' : World} (K : Kp wk w') {ba bb bc : Nat} {ua0 ua1 ua2 ua3 ub0 ub1 ub2 ub3 uc0 uc1 uc2 uc3 : Value} (qa0 : wk.cell? ⟨ba, 0, none⟩ = some ua0) (qa1 : wk.cell? ⟨ba, 1, none⟩ = some ua1) (qa2 : wk.cell? ⟨ba, 2, none⟩ = some ua2) (qa3 : wk.cell? ⟨ba, 3, none⟩ = some ua3) (qb0 : wk.cell? ⟨bb, 0, none⟩ = some ub0) (qb1 : wk.cell? ⟨bb, 1, none⟩ = some ub1) (qb2 : wk.cell? ⟨bb, 2, none⟩ = some ub2) (qb3 : wk.cell? ⟨bb, 3, none⟩ = some ub3) (qc0 : wk.cell? ⟨bc, 0, none⟩ = some uc0) (qc1 : wk.cell? ⟨bc, 1, none⟩ = some uc1) (qc2 : wk.cell? ⟨bc, 2, none⟩ = some uc2) (qc3 : wk.cell? ⟨bc, 3, none⟩ = some uc3) :
    w'.cell? ⟨ba, 0, none⟩ = some ua0 ∧ w'.cell? ⟨ba, 1, none⟩ = some ua1 ∧ w'.cell? ⟨ba, 2, none⟩ = some ua2 ∧ w'.cell? ⟨ba, 3, none⟩ = some ua3 ∧ w'.cell? ⟨bb, 0, none⟩ = some ub0 ∧ w'.cell? ⟨bb, 1, none⟩ = some ub1 ∧ w'.cell? ⟨bb, 2, none⟩ = some ub2 ∧ w'.cell? ⟨bb, 3, none⟩ = some ub3 ∧ w'.cell? ⟨bc, 0, none⟩ = some uc0 ∧ w'.cell? ⟨bc, 1, none⟩ = some uc1 ∧ w'.cell? ⟨bc, 2, none⟩ = some uc2 ∧ w'.cell? ⟨bc, 3, none⟩ = some uc3 ∧ Kp wk w' :=
  ⟨keep_cell K.out qa0, keep_cell K.out qa1, keep_cell K.out qa2, keep_cell K.out qa3, keep_cell K.out qb0, keep_cell K.out qb1, keep_cell K.out qb2, keep_cell K.out qb3, keep_cell K.out qc0, keep_cell K.out qc1, keep_cell K.out qc2, keep_cell K.out qc3, K⟩
theorem sv4 {wk w' : World} (K : Kp wk w') {ba bb bc bd : Nat} {ua0 ua1 ua2 ua3 ub0 ub1 ub2 ub3 uc0 uc1 uc2 uc3 ud0 ud1 ud2 ud3 : Value} (qa0 : wk.cell? ⟨ba, 0, none⟩ = some ua0) (qa1 : wk.cell? ⟨ba, 1, none⟩ = some ua1) (qa2 : wk.cell? ⟨ba, 2, none⟩ = some ua2) (qa3 : wk.cell? ⟨ba, 3, none⟩ = some ua3) (qb0 : wk.cell? ⟨bb, 0, none⟩ = some ub0) (qb1 : wk.cell? ⟨bb, 1, none⟩ = some ub1) (qb2 : wk.cell? ⟨bb, 2, none⟩ = some ub2) (qb3 : wk.cell? ⟨bb, 3, none⟩ = some ub3) (qc0 : wk.cell? ⟨bc, 0, none⟩ = some uc0) (qc1 : wk.cell? ⟨bc, 1, none⟩ = some uc1) (qc2 : wk.cell? ⟨bc, 2, none⟩ = some uc2) (qc3 : wk.cell? ⟨bc, 3, none⟩ = some uc3) (qd0 : wk.cell? ⟨bd, 0, none⟩ = some ud0) (qd1 : wk.cell? ⟨bd, 1, none⟩ = some ud1) (qd2 : wk.cell? ⟨bd, 2, none⟩ = some ud2) (qd3 : wk.cell? ⟨bd, 3, none⟩ = some ud3) :
    w'.cell? ⟨ba, 0, none⟩ = some ua0 ∧ w'.cell? ⟨ba, 1, none⟩ = some ua1 ∧ w'.cell? ⟨ba, 2, none⟩ = some ua2 ∧ w'.cell? ⟨ba, 3, none⟩ = some ua3 ∧ w'.cell? ⟨bb, 0, none⟩ = some ub0 ∧ w'.cell? ⟨bb, 1, none⟩ = some ub1 ∧ w'.cell? ⟨bb, 2, none⟩ = some ub2 ∧ w'.cell? ⟨bb, 3, none⟩ = some ub3 ∧ w'.cell? ⟨bc, 0, none⟩ = some uc0 ∧ w'.cell? ⟨bc, 1, none⟩ = some uc1 ∧ w'.cell? ⟨bc, 2, none⟩ = some uc2 ∧ w'.cell? ⟨bc, 3, none⟩ = some uc3 ∧ w'.cell? ⟨bd, 0, none⟩ = some ud0 ∧ w'.cell? ⟨bd, 1, none⟩ = some ud1 ∧ w'.cell? ⟨bd, 2, none⟩ = some ud2 ∧ w'.cell? ⟨bd, 3, none⟩ = some ud3 ∧ Kp wk w' :=
  ⟨keep_cell K.out qa0, keep_cell K.out qa1, keep_cell K.out qa2, keep_cell K.out qa3, keep_cell K.out qb0, keep_cell K.out qb1, keep_cell K.out qb2, keep_cell K.out qb3, keep_cell K.out qc0, keep_cell K.out qc1, keep_cell K.out qc2, keep_cell K.out qc3, keep_cell K.out qd0, keep_cell K.out qd1, keep_cell K.out qd2, keep_cell K.out qd3, K⟩

set_option maxRecDepth 100000 in
set_option maxHeartbeats 4000000 in
theorem of_calls3 {F : Nat} (x y z : Nat) (hx : x < 18446744073709551616) (hy : y < 18446744073709551616) (hz : z < 18446744073709551616) (fx : rung x < inf) (fy : rung y < inf) (fz : rung z < inf) {w : World} (ht : Tb F w) :
    Calls Tryd.prog 9 #[.float .f64 x, .float .f64 y, .float .f64 z] w (RetB F (fr x + fr y * fr z) 2149 w) := by
  obtain ⟨wn, hwn, hW, hsz, k0⟩ := box_res w (.cells #[.slice none 0 0, .int .i64 0, .bool false, .bool false] 29)
  have HF := Lib.hid ht.le
  have ht : Tb (w.heap.size + 1) wn := ⟨ht.tab.keep hW, Nat.le_of_eq hsz.symm⟩
  have HW := Lib.hid hW
  clear hW
  have HX := Lib.hid (fun (W : World) (h : Tb (w.heap.size + 1) W) => ofB x hx fx h)
  have HY := Lib.hid (fun (W : World) (h : Tb (w.heap.size + 1) W) => ofB y hy fy h)
  have HZ := Lib.hid (fun (W : World) (h : Tb (w.heap.size + 1) W) => ofB z hz fz h)
  clear hx hy hz fx fy fz
  have HT := Lib.hid ht
  have HK := Lib.hid k0
  clear ht k0
  go_enter Tryd.func9, Tryd.ntmps9
  go_upto_region 1 with (fail)
  rw [← hwn]
  clear hwn
  go_wp2_with fail
  refine (HX.out _ HT.out).mono ?_
  rintro _ w1 ⟨v1, rfl, M1, b1⟩
  have HT := Lib.hid (HT.out.keep b1)
  have HK := Lib.hid (keep_block b1 HK.out)
  have HW := Lib.hid (bl_pack HW.out HW.out.size b1)
  have N1 := Lib.hid M1
  clear b1 M1
  obtain ⟨p1, n1, c1, e1, g1, rfl⟩ := N1.out.form
  have hne1 : w1.heap.size ≠ w.heap.size := Nat.ne_of_gt (block_lt HK.out)
  obtain ⟨W1, hW1, B1, -, J1⟩ := box_res w1 (.cells #[.slice p1 n1 c1, .int .i64 e1, .bool g1, .bool false] 29)
  go_upto_region 2 with (fail)
  rw [← hW1]
  clear hW1
  have HT := Lib.hid (HT.out.keep B1)
  have HK := Lib.hid (keep_block B1 HK.out)
  have HW := Lib.hid (bl_pack HW.out HW.out.size B1)
  have N1 := Lib.hid (N1.out.keep B1)
  have K1 := Lib.hid J1
  clear B1 J1
  go_wp2_with fail
  refine (HY.out _ HT.out).mono ?_
  rintro _ w2 ⟨v2, rfl, M2, b2⟩
  have HT := Lib.hid (HT.out.keep b2)
  have HK := Lib.hid (keep_block b2 HK.out)
  have HW := Lib.hid (bl_pack HW.out HW.out.size b2)
  have N1 := Lib.hid (N1.out.keep b2)
  have K1 := Lib.hid (keep_block b2 K1.out)
  have N2 := Lib.hid M2
  clear b2 M2
  obtain ⟨p2, n2, c2, e2, g2, rfl⟩ := N2.out.form
  have hne2 : w2.heap.size ≠ w.heap.size := Nat.ne_of_gt (block_lt HK.out)
  obtain ⟨W2, hW2, B2, -, J2⟩ := box_res w2 (.cells #[.slice p2 n2 c2, .int .i64 e2, .bool g2, .bool false] 29)
  go_upto_region 3 with (fail)
  rw [← hW2]
  clear hW2
  have HT := Lib.hid (HT.out.keep B2)
  have HK := Lib.hid (keep_block B2 HK.out)
  have HW := Lib.hid (bl_pack HW.out HW.out.size B2)
  have N1 := Lib.hid (N1.out.keep B2)
  have N2 := Lib.hid (N2.out.keep B2)
  have K1 := Lib.hid (keep_block B2 K1.out)
  have K2 := Lib.hid J2
  clear B2 J2
  go_wp2_with fail
  refine (HZ.out _ HT.out).mono ?_
  rintro _ w3 ⟨v3, rfl, M3, b3⟩
  have HT := Lib.hid (HT.out.keep b3)
  have HK := Lib.hid (keep_block b3 HK.out)
  have HW := Lib.hid (bl_pack HW.out HW.out.size b3)
  have N1 := Lib.hid (N1.out.keep b3)
  have N2 := Lib.hid (N2.out.keep b3)
  have K1 := Lib.hid (keep_block b3 K1.out)
  have K2 := Lib.hid (keep_block b3 K2.out)
  have N3 := Lib.hid M3
  clear b3 M3
  obtain ⟨p3, n3, c3, e3, g3, rfl⟩ := N3.out.form
  have hne3 : w3.heap.size ≠ w.heap.size := Nat.ne_of_gt (block_lt HK.out)
  obtain ⟨W3, hW3, B3, -, J3⟩ := box_res w3 (.cells #[.slice p3 n3 c3, .int .i64 e3, .bool g3, .bool false] 29)
  go_upto_region 4 with (fail)
  rw [← hW3]
  clear hW3
  have HT := Lib.hid (HT.out.keep B3)
  have HK := Lib.hid (keep_block B3 HK.out)
  have HW := Lib.hid (bl_pack HW.out HW.out.size B3)
  have N1 := Lib.hid (N1.out.keep B3)
  have N2 := Lib.hid (N2.out.keep B3)
  have N3 := Lib.hid (N3.out.keep B3)
  have K1 := Lib.hid (keep_block B3 K1.out)
  have K2 := Lib.hid (keep_block B3 K2.out)
  have K3 := Lib.hid J3
  clear B3 J3
  obtain ⟨q10, q11, q12, q13, -, -, -, -⟩ := res4_facts K1.out
  obtain ⟨q20, q21, q22, q23, -, -, -, -⟩ := res4_facts K2.out
  obtain ⟨q30, q31, q32, q33, -, -, -, -⟩ := res4_facts K3.out
  go_wp2_with fail
  refine (okB N1.out).mono ?_
  rintro _ w4 ⟨rfl, b4⟩
  have HT := Lib.hid (HT.out.keep b4)
  have HK := Lib.hid (keep_block b4 HK.out)
  have HW := Lib.hid (bl_pack HW.out HW.out.size b4)
  have N1 := Lib.hid (N1.out.keep b4)
  have N2 := Lib.hid (N2.out.keep b4)
  have N3 := Lib.hid (N3.out.keep b4)
  have K1 := Lib.hid (keep_block b4 K1.out)
  have K2 := Lib.hid (keep_block b4 K2.out)
  have K3 := Lib.hid (keep_block b4 K3.out)
  clear b4
  clear q10 q11 q12 q13 q20 q21 q22 q23 q30 q31 q32 q33
  obtain ⟨q10, q11, q12, q13, -, -, -, -⟩ := res4_facts K1.out
  obtain ⟨q20, q21, q22, q23, -, -, -, -⟩ := res4_facts K2.out
  obtain ⟨q30, q31, q32, q33, -, -, -, -⟩ := res4_facts K3.out
  go_wp2_with fail
  refine (okB N2.out).mono ?_
  rintro _ w5 ⟨rfl, b5⟩
  have HT := Lib.hid (HT.out.keep b5)
  have HK := Lib.hid (keep_block b5 HK.out)
  have HW := Lib.hid (bl_pack HW.out HW.out.size b5)
  have N1 := Lib.hid (N1.out.keep b5)
  have N2 := Lib.hid (N2.out.keep b5)
  have N3 := Lib.hid (N3.out.keep b5)
  have K1 := Lib.hid (keep_block b5 K1.out)
  have K2 := Lib.hid (keep_block b5 K2.out)
  have K3 := Lib.hid (keep_block b5 K3.out)
  clear b5
  clear q10 q11 q12 q13 q20 q21 q22 q23 q30 q31 q32 q33
  obtain ⟨q10, q11, q12, q13, -, -, -, -⟩ := res4_facts K1.out
  obtain ⟨q20, q21, q22, q23, -, -, -, -⟩ := res4_facts K2.out
  obtain ⟨q30, q31, q32, q33, -, -, -, -⟩ := res4_facts K3.out
  go_wp2_with fail
  refine (okB N3.out).mono ?_
  rintro _ w6 ⟨rfl, b6⟩
  have HT := Lib.hid (HT.out.keep b6)
  have HK := Lib.hid (keep_block b6 HK.out)
  have HW := Lib.hid (bl_pack HW.out HW.out.size b6)
  have N1 := Lib.hid (N1.out.keep b6)
  have N2 := Lib.hid (N2.out.keep b6)
  have N3 := Lib.hid (N3.out.keep b6)
  have K1 := Lib.hid (keep_block b6 K1.out)
  have K2 := Lib.hid (keep_block b6 K2.out)
  have K3 := Lib.hid (keep_block b6 K3.out)
  clear b6
  clear q10 q11 q12 q13 q20 q21 q22 q23 q30 q31 q32 q33
  obtain ⟨q10, q11, q12, q13, -, -, -, -⟩ := res4_facts K1.out
  obtain ⟨q20, q21, q22, q23, -, -, -, -⟩ := res4_facts K2.out
  obtain ⟨q30, q31, q32, q33, -, -, -, -⟩ := res4_facts K3.out
  go_wp2_with fail
  have hle : w.heap.size ≤ w.heap.size := Nat.le_refl _
  have KWr : Kp w w6 := HW.out
  have HC0 := Lib.hid (fun (Y : World) (h : Kp w6 Y) => mulB 2148 (N2.out.keep h.out) (N3.out.keep h.out) (HT.out.keep h.out) (by decide) (by decide))
  have HC1 := Lib.hid (fun (Y : World) (h : Kp w6 Y) (v : Value) (hv : NumB (w.heap.size + 1) Y v (fr y * fr z) 2148) => addB 2149 (N1.out.keep h.out) hv (HT.out.keep h.out) (by decide) (by decide) (by decide))
  go_region_held3 (fun w' => w'.cell? ⟨w1.heap.size, 0, none⟩ = some (.slice p1 n1 c1) ∧ w'.cell? ⟨w1.heap.size, 1, none⟩ = some (.int .i64 e1) ∧ w'.cell? ⟨w1.heap.size, 2, none⟩ = some (.bool g1) ∧ w'.cell? ⟨w1.heap.size, 3, none⟩ = some (.bool false) ∧ w'.cell? ⟨w2.heap.size, 0, none⟩ = some (.slice p2 n2 c2) ∧ w'.cell? ⟨w2.heap.size, 1, none⟩ = some (.int .i64 e2) ∧ w'.cell? ⟨w2.heap.size, 2, none⟩ = some (.bool g2) ∧ w'.cell? ⟨w2.heap.size, 3, none⟩ = some (.bool false) ∧ w'.cell? ⟨w3.heap.size, 0, none⟩ = some (.slice p3 n3 c3) ∧ w'.cell? ⟨w3.heap.size, 1, none⟩ = some (.int .i64 e3) ∧ w'.cell? ⟨w3.heap.size, 2, none⟩ = some (.bool g3) ∧ w'.cell? ⟨w3.heap.size, 3, none⟩ = some (.bool false) ∧ Kp w w')
    (first | with_reducible exact ⟨put4_cell (keep_cell (((Kp.refl w6).drew.step hbR_0).step hbR_1).out q10) hne1 _ _ _ _, put4_cell (keep_cell (((Kp.refl w6).drew.step hbR_0).step hbR_1).out q11) hne1 _ _ _ _, put4_cell (keep_cell (((Kp.refl w6).drew.step hbR_0).step hbR_1).out q12) hne1 _ _ _ _, put4_cell (keep_cell (((Kp.refl w6).drew.step hbR_0).step hbR_1).out q13) hne1 _ _ _ _, put4_cell (keep_cell (((Kp.refl w6).drew.step hbR_0).step hbR_1).out q20) hne2 _ _ _ _, put4_cell (keep_cell (((Kp.refl w6).drew.step hbR_0).step hbR_1).out q21) hne2 _ _ _ _, put4_cell (keep_cell (((Kp.refl w6).drew.step hbR_0).step hbR_1).out q22) hne2 _ _ _ _, put4_cell (keep_cell (((Kp.refl w6).drew.step hbR_0).step hbR_1).out q23) hne2 _ _ _ _, put4_cell (keep_cell (((Kp.refl w6).drew.step hbR_0).step hbR_1).out q30) hne3 _ _ _ _, put4_cell (keep_cell (((Kp.refl w6).drew.step hbR_0).step hbR_1).out q31) hne3 _ _ _ _, put4_cell (keep_cell (((Kp.refl w6).drew.step hbR_0).step hbR_1).out q32) hne3 _ _ _ _, put4_cell (keep_cell (((Kp.refl w6).drew.step hbR_0).step hbR_1).out q33) hne3 _ _ _ _, Kp.put4 ((KWr.drew.step hbR_0).step hbR_1) hle _ _ _ _⟩ | with_reducible exact ⟨keep_cell (((Kp.refl w6).drew.step hbR_0).step hbR_1).out q10, keep_cell (((Kp.refl w6).drew.step hbR_0).step hbR_1).out q11, keep_cell (((Kp.refl w6).drew.step hbR_0).step hbR_1).out q12, keep_cell (((Kp.refl w6).drew.step hbR_0).step hbR_1).out q13, keep_cell (((Kp.refl w6).drew.step hbR_0).step hbR_1).out q20, keep_cell (((Kp.refl w6).drew.step hbR_0).step hbR_1).out q21, keep_cell (((Kp.refl w6).drew.step hbR_0).step hbR_1).out q22, keep_cell (((Kp.refl w6).drew.step hbR_0).step hbR_1).out q23, keep_cell (((Kp.refl w6).drew.step hbR_0).step hbR_1).out q30, keep_cell (((Kp.refl w6).drew.step hbR_0).step hbR_1).out q31, keep_cell (((Kp.refl w6).drew.step hbR_0).step hbR_1).out q32, keep_cell (((Kp.refl w6).drew.step hbR_0).step hbR_1).out q33, ((KWr.drew.step hbR_0).step hbR_1)⟩ | with_reducible exact ⟨keep_cell ((Kp.refl w6).drew.step hbR_0).out q10, keep_cell ((Kp.refl w6).drew.step hbR_0).out q11, keep_cell ((Kp.refl w6).drew.step hbR_0).out q12, keep_cell ((Kp.refl w6).drew.step hbR_0).out q13, keep_cell ((Kp.refl w6).drew.step hbR_0).out q20, keep_cell ((Kp.refl w6).drew.step hbR_0).out q21, keep_cell ((Kp.refl w6).drew.step hbR_0).out q22, keep_cell ((Kp.refl w6).drew.step hbR_0).out q23, keep_cell ((Kp.refl w6).drew.step hbR_0).out q30, keep_cell ((Kp.refl w6).drew.step hbR_0).out q31, keep_cell ((Kp.refl w6).drew.step hbR_0).out q32, keep_cell ((Kp.refl w6).drew.step hbR_0).out q33, (KWr.drew.step hbR_0)⟩ | with_reducible exact ⟨keep_cell (Kp.refl w6).drew.out q10, keep_cell (Kp.refl w6).drew.out q11, keep_cell (Kp.refl w6).drew.out q12, keep_cell (Kp.refl w6).drew.out q13, keep_cell (Kp.refl w6).drew.out q20, keep_cell (Kp.refl w6).drew.out q21, keep_cell (Kp.refl w6).drew.out q22, keep_cell (Kp.refl w6).drew.out q23, keep_cell (Kp.refl w6).drew.out q30, keep_cell (Kp.refl w6).drew.out q31, keep_cell (Kp.refl w6).drew.out q32, keep_cell (Kp.refl w6).drew.out q33, KWr.drew⟩)
    (first
      | (go_at_call 10; ((with_reducible refine (HC1.out _ ?hq _ ?ha0).mono ?_); (case hq => exact ((Kp.refl w6).drew.step hbR_0)); (case ha0 => exact MR_0); rintro x wR_1 ⟨vR_1, rfl, MR_1, hbR_1⟩; obtain ⟨pR_1, nR_1, cR_1, eR_1, gR_1, rfl⟩ := NumB.form MR_1; have hres := (keep_block hbR_1 (keep_block hbR_0 HK.out)); obtain ⟨r0, r1, r2, r3, f0, f1, f2, f3⟩ := res4_facts hres))
      | (go_at_call 14; ((with_reducible refine (HC0.out _ ?hq).mono ?_); (case hq => exact (Kp.refl w6).drew); rintro x wR_0 ⟨vR_0, rfl, MR_0, hbR_0⟩; obtain ⟨pR_0, nR_0, cR_0, eR_0, gR_0, rfl⟩ := NumB.form MR_0)))
  go_wp2_with fail
  obtain ⟨u0, u1, u2, u3⟩ := put4_facts hres (.slice pR_1 nR_1 cR_1) (.int .i64 eR_1) (.bool gR_1) (.bool false)
  refine bodyPost_ret (v := .agg #[.slice pR_1 nR_1 cR_1, .int .i64 eR_1, .bool gR_1, .bool false]) (by simp [results, Tryd.results9, go_sem, u0, u1, u2, u3]) rfl ?_
  exact ⟨_, rfl, (MR_1.put4 (Nat.lt_succ_self _) _ _ _ _).less (Nat.le_trans HF.out (Nat.le_succ _)), ((KWr.drew.step hbR_0).step hbR_1).put4 hle _ _ _ _⟩

theorem NumB.more {F : Nat} {w : World} {v : Value} {q : Rat} {m k : Nat} (h : NumB F w v q m) (hk : m ≤ k) : NumB F w v q k := ⟨h.1, h.2.mono hk⟩
/-- What Of answers, by its form alone. -/
def OfF (bad : Bool) (w : World) (x : Ending) (w' : World) : Prop := ∃ p n c e g, x = .returned (.agg #[.slice p n c, .int .i64 e, .bool g, .bool bad]) ∧ Below w.heap.size w w'
theorem ofF (x : Nat) (h1 : x < 18446744073709551616) {F : Nat} {w : World} (ht : Tb F w) :
    Calls Tryd.prog 22 #[.float .f64 x] w (OfF (!decide (rung x < inf)) w) := by
  by_cases h : rung x < inf
  · rw [decide_eq_true h]
    refine (ofB x h1 h ht).mono ?_
    rintro _ w' ⟨v, rfl, N, hb⟩
    obtain ⟨p, n, c, e, g, rfl⟩ := N.form
    exact ⟨p, n, c, e, g, rfl, hb⟩
  · rw [decide_eq_false h]
    have := wOf_calls x h1 w ht.tab
    rw [if_neg h] at this
    refine this.mono ?_
    rintro _ w' ⟨v, rfl, rfl, hb⟩
    exact ⟨none, 0, 0, 0, false, rfl, hb⟩

set_option maxRecDepth 100000 in
set_option maxHeartbeats 4000000 in
theorem of_bad1 {F : Nat} (x y z : Nat) (bx by' bz : Bool) {w : World} (ht : Tb F w) (HX : Hid (∀ W : World, Tb F W → Calls Tryd.prog 22 #[.float .f64 x] W (OfF bx W))) (HY : Hid (∀ W : World, Tb F W → Calls Tryd.prog 22 #[.float .f64 y] W (OfF by' W))) (HZ : Hid (∀ W : World, Tb F W → Calls Tryd.prog 22 #[.float .f64 z] W (OfF bz W))) (hx : bx = true) :
    Calls Tryd.prog 9 #[.float .f64 x, .float .f64 y, .float .f64 z] w (RetB F 0 2149 w) := by
  obtain ⟨wn, hwn, hW, hsz, k0⟩ := box_res w (.cells #[.slice none 0 0, .int .i64 0, .bool false, .bool false] 29)
  have ht := ht.keep hW
  have HW := Lib.hid hW
  clear hW hsz
  have HT := Lib.hid ht
  have HK := Lib.hid k0
  clear ht k0
  subst hx
  go_enter Tryd.func9, Tryd.ntmps9
  go_upto_region 1 with (fail)
  rw [← hwn]
  clear hwn
  go_wp2_with fail
  refine (HX.out _ HT.out).mono ?_
  rintro _ w1 ⟨p1, n1, c1, e1, g1, rfl, b1⟩
  have HT := Lib.hid (HT.out.keep b1)
  have HK := Lib.hid (keep_block b1 HK.out)
  have HW := Lib.hid (bl_pack HW.out HW.out.size b1)
  clear b1
  obtain ⟨W1, hW1, B1, -, J1⟩ := box_res w1 (.cells #[.slice p1 n1 c1, .int .i64 e1, .bool g1, .bool true] 29)
  go_upto_region 2 with (fail)
  rw [← hW1]
  clear hW1
  have HT := Lib.hid (HT.out.keep B1)
  have HK := Lib.hid (keep_block B1 HK.out)
  have HW := Lib.hid (bl_pack HW.out HW.out.size B1)
  have K1 := Lib.hid J1
  clear B1 J1
  go_wp2_with fail
  refine (HY.out _ HT.out).mono ?_
  rintro _ w2 ⟨p2, n2, c2, e2, g2, rfl, b2⟩
  have HT := Lib.hid (HT.out.keep b2)
  have HK := Lib.hid (keep_block b2 HK.out)
  have HW := Lib.hid (bl_pack HW.out HW.out.size b2)
  have K1 := Lib.hid (keep_block b2 K1.out)
  clear b2
  obtain ⟨W2, hW2, B2, -, J2⟩ := box_res w2 (.cells #[.slice p2 n2 c2, .int .i64 e2, .bool g2, .bool by'] 29)
  go_upto_region 3 with (fail)
  rw [← hW2]
  clear hW2
  have HT := Lib.hid (HT.out.keep B2)
  have HK := Lib.hid (keep_block B2 HK.out)
  have HW := Lib.hid (bl_pack HW.out HW.out.size B2)
  have K1 := Lib.hid (keep_block B2 K1.out)
  have K2 := Lib.hid J2
  clear B2 J2
  go_wp2_with fail
  refine (HZ.out _ HT.out).mono ?_
  rintro _ w3 ⟨p3, n3, c3, e3, g3, rfl, b3⟩
  have HT := Lib.hid (HT.out.keep b3)
  have HK := Lib.hid (keep_block b3 HK.out)
  have HW := Lib.hid (bl_pack HW.out HW.out.size b3)
  have K1 := Lib.hid (keep_block b3 K1.out)
  have K2 := Lib.hid (keep_block b3 K2.out)
  clear b3
  obtain ⟨W3, hW3, B3, -, J3⟩ := box_res w3 (.cells #[.slice p3 n3 c3, .int .i64 e3, .bool g3, .bool bz] 29)
  go_upto_region 4 with (fail)
  rw [← hW3]
  clear hW3
  have HT := Lib.hid (HT.out.keep B3)
  have HK := Lib.hid (keep_block B3 HK.out)
  have HW := Lib.hid (bl_pack HW.out HW.out.size B3)
  have K1 := Lib.hid (keep_block B3 K1.out)
  have K2 := Lib.hid (keep_block B3 K2.out)
  have K3 := Lib.hid J3
  clear B3 J3
  obtain ⟨q10, q11, q12, q13, -, -, -, -⟩ := res4_facts K1.out
  obtain ⟨q20, q21, q22, q23, -, -, -, -⟩ := res4_facts K2.out
  obtain ⟨q30, q31, q32, q33, -, -, -, -⟩ := res4_facts K3.out
  go_wp2_with fail
  refine (wOK_calls _ _ _ _ _).mono ?_
  rintro _ w4 ⟨rfl, b4⟩
  have HT := Lib.hid (HT.out.keep b4)
  have HK := Lib.hid (keep_block b4 HK.out)
  have HW := Lib.hid (bl_pack HW.out HW.out.size b4)
  have K1 := Lib.hid (keep_block b4 K1.out)
  have K2 := Lib.hid (keep_block b4 K2.out)
  have K3 := Lib.hid (keep_block b4 K3.out)
  clear b4
  clear q10 q11 q12 q13 q20 q21 q22 q23 q30 q31 q32 q33
  obtain ⟨r0, r1, r2, r3, f0, f1, f2, f3⟩ := res4_facts HK.out
  obtain ⟨u0, u1, u2, u3⟩ := put4_facts HK.out (.slice none 0 0) (.int .i64 0) (.bool false) (.bool false)
  go_wp2_with fail
  refine bodyPost_ret (v := .agg #[.slice none 0 0, .int .i64 0, .bool false, .bool false]) (by simp [results, Tryd.results9, go_sem, u0, u1, u2, u3]) rfl ?_
  exact ⟨_, rfl, (NumB.zero F _).more (Nat.zero_le _), bl_put4 HW.out (Nat.le_refl _) _ _ _ _⟩

set_option maxRecDepth 100000 in
set_option maxHeartbeats 4000000 in
theorem of_bad2 {F : Nat} (x y z : Nat) (bx by' bz : Bool) {w : World} (ht : Tb F w) (HX : Hid (∀ W : World, Tb F W → Calls Tryd.prog 22 #[.float .f64 x] W (OfF bx W))) (HY : Hid (∀ W : World, Tb F W → Calls Tryd.prog 22 #[.float .f64 y] W (OfF by' W))) (HZ : Hid (∀ W : World, Tb F W → Calls Tryd.prog 22 #[.float .f64 z] W (OfF bz W))) (hx : bx = false) (hy : by' = true) :
    Calls Tryd.prog 9 #[.float .f64 x, .float .f64 y, .float .f64 z] w (RetB F 0 2149 w) := by
  obtain ⟨wn, hwn, hW, hsz, k0⟩ := box_res w (.cells #[.slice none 0 0, .int .i64 0, .bool false, .bool false] 29)
  have ht := ht.keep hW
  have HW := Lib.hid hW
  clear hW hsz
  have HT := Lib.hid ht
  have HK := Lib.hid k0
  clear ht k0
  subst hx
  subst hy
  go_enter Tryd.func9, Tryd.ntmps9
  go_upto_region 1 with (fail)
  rw [← hwn]
  clear hwn
  go_wp2_with fail
  refine (HX.out _ HT.out).mono ?_
  rintro _ w1 ⟨p1, n1, c1, e1, g1, rfl, b1⟩
  have HT := Lib.hid (HT.out.keep b1)
  have HK := Lib.hid (keep_block b1 HK.out)
  have HW := Lib.hid (bl_pack HW.out HW.out.size b1)
  clear b1
  obtain ⟨W1, hW1, B1, -, J1⟩ := box_res w1 (.cells #[.slice p1 n1 c1, .int .i64 e1, .bool g1, .bool false] 29)
  go_upto_region 2 with (fail)
  rw [← hW1]
  clear hW1
  have HT := Lib.hid (HT.out.keep B1)
  have HK := Lib.hid (keep_block B1 HK.out)
  have HW := Lib.hid (bl_pack HW.out HW.out.size B1)
  have K1 := Lib.hid J1
  clear B1 J1
  go_wp2_with fail
  refine (HY.out _ HT.out).mono ?_
  rintro _ w2 ⟨p2, n2, c2, e2, g2, rfl, b2⟩
  have HT := Lib.hid (HT.out.keep b2)
  have HK := Lib.hid (keep_block b2 HK.out)
  have HW := Lib.hid (bl_pack HW.out HW.out.size b2)
  have K1 := Lib.hid (keep_block b2 K1.out)
  clear b2
  obtain ⟨W2, hW2, B2, -, J2⟩ := box_res w2 (.cells #[.slice p2 n2 c2, .int .i64 e2, .bool g2, .bool true] 29)
  go_upto_region 3 with (fail)
  rw [← hW2]
  clear hW2
  have HT := Lib.hid (HT.out.keep B2)
  have HK := Lib.hid (keep_block B2 HK.out)
  have HW := Lib.hid (bl_pack HW.out HW.out.size B2)
  have K1 := Lib.hid (keep_block B2 K1.out)
  have K2 := Lib.hid J2
  clear B2 J2
  go_wp2_with fail
  refine (HZ.out _ HT.out).mono ?_
  rintro _ w3 ⟨p3, n3, c3, e3, g3, rfl, b3⟩
  have HT := Lib.hid (HT.out.keep b3)
  have HK := Lib.hid (keep_block b3 HK.out)
  have HW := Lib.hid (bl_pack HW.out HW.out.size b3)
  have K1 := Lib.hid (keep_block b3 K1.out)
  have K2 := Lib.hid (keep_block b3 K2.out)
  clear b3
  obtain ⟨W3, hW3, B3, -, J3⟩ := box_res w3 (.cells #[.slice p3 n3 c3, .int .i64 e3, .bool g3, .bool bz] 29)
  go_upto_region 4 with (fail)
  rw [← hW3]
  clear hW3
  have HT := Lib.hid (HT.out.keep B3)
  have HK := Lib.hid (keep_block B3 HK.out)
  have HW := Lib.hid (bl_pack HW.out HW.out.size B3)
  have K1 := Lib.hid (keep_block B3 K1.out)
  have K2 := Lib.hid (keep_block B3 K2.out)
  have K3 := Lib.hid J3
  clear B3 J3
  obtain ⟨q10, q11, q12, q13, -, -, -, -⟩ := res4_facts K1.out
  obtain ⟨q20, q21, q22, q23, -, -, -, -⟩ := res4_facts K2.out
  obtain ⟨q30, q31, q32, q33, -, -, -, -⟩ := res4_facts K3.out
  go_wp2_with fail
  refine (wOK_calls _ _ _ _ _).mono ?_
  rintro _ w4 ⟨rfl, b4⟩
  have HT := Lib.hid (HT.out.keep b4)
  have HK := Lib.hid (keep_block b4 HK.out)
  have HW := Lib.hid (bl_pack HW.out HW.out.size b4)
  have K1 := Lib.hid (keep_block b4 K1.out)
  have K2 := Lib.hid (keep_block b4 K2.out)
  have K3 := Lib.hid (keep_block b4 K3.out)
  clear b4
  clear q10 q11 q12 q13 q20 q21 q22 q23 q30 q31 q32 q33
  obtain ⟨q10, q11, q12, q13, -, -, -, -⟩ := res4_facts K1.out
  obtain ⟨q20, q21, q22, q23, -, -, -, -⟩ := res4_facts K2.out
  obtain ⟨q30, q31, q32, q33, -, -, -, -⟩ := res4_facts K3.out
  go_wp2_with fail
  refine (wOK_calls _ _ _ _ _).mono ?_
  rintro _ w5 ⟨rfl, b5⟩
  have HT := Lib.hid (HT.out.keep b5)
  have HK := Lib.hid (keep_block b5 HK.out)
  have HW := Lib.hid (bl_pack HW.out HW.out.size b5)
  have K1 := Lib.hid (keep_block b5 K1.out)
  have K2 := Lib.hid (keep_block b5 K2.out)
  have K3 := Lib.hid (keep_block b5 K3.out)
  clear b5
  clear q10 q11 q12 q13 q20 q21 q22 q23 q30 q31 q32 q33
  obtain ⟨r0, r1, r2, r3, f0, f1, f2, f3⟩ := res4_facts HK.out
  obtain ⟨u0, u1, u2, u3⟩ := put4_facts HK.out (.slice none 0 0) (.int .i64 0) (.bool false) (.bool false)
  go_wp2_with fail
  refine bodyPost_ret (v := .agg #[.slice none 0 0, .int .i64 0, .bool false, .bool false]) (by simp [results, Tryd.results9, go_sem, u0, u1, u2, u3]) rfl ?_
  exact ⟨_, rfl, (NumB.zero F _).more (Nat.zero_le _), bl_put4 HW.out (Nat.le_refl _) _ _ _ _⟩

set_option maxRecDepth 100000 in
set_option maxHeartbeats 4000000 in
theorem of_bad3 {F : Nat} (x y z : Nat) (bx by' bz : Bool) {w : World} (ht : Tb F w) (HX : Hid (∀ W : World, Tb F W → Calls Tryd.prog 22 #[.float .f64 x] W (OfF bx W))) (HY : Hid (∀ W : World, Tb F W → Calls Tryd.prog 22 #[.float .f64 y] W (OfF by' W))) (HZ : Hid (∀ W : World, Tb F W → Calls Tryd.prog 22 #[.float .f64 z] W (OfF bz W))) (hx : bx = false) (hy : by' = false) (hz : bz = true) :
    Calls Tryd.prog 9 #[.float .f64 x, .float .f64 y, .float .f64 z] w (RetB F 0 2149 w) := by
  obtain ⟨wn, hwn, hW, hsz, k0⟩ := box_res w (.cells #[.slice none 0 0, .int .i64 0, .bool false, .bool false] 29)
  have ht := ht.keep hW
  have HW := Lib.hid hW
  clear hW hsz
  have HT := Lib.hid ht
  have HK := Lib.hid k0
  clear ht k0
  subst hx
  subst hy
  subst hz
  go_enter Tryd.func9, Tryd.ntmps9
  go_upto_region 1 with (fail)
  rw [← hwn]
  clear hwn
  go_wp2_with fail
  refine (HX.out _ HT.out).mono ?_
  rintro _ w1 ⟨p1, n1, c1, e1, g1, rfl, b1⟩
  have HT := Lib.hid (HT.out.keep b1)
  have HK := Lib.hid (keep_block b1 HK.out)
  have HW := Lib.hid (bl_pack HW.out HW.out.size b1)
  clear b1
  obtain ⟨W1, hW1, B1, -, J1⟩ := box_res w1 (.cells #[.slice p1 n1 c1, .int .i64 e1, .bool g1, .bool false] 29)
  go_upto_region 2 with (fail)
  rw [← hW1]
  clear hW1
  have HT := Lib.hid (HT.out.keep B1)
  have HK := Lib.hid (keep_block B1 HK.out)
  have HW := Lib.hid (bl_pack HW.out HW.out.size B1)
  have K1 := Lib.hid J1
  clear B1 J1
  go_wp2_with fail
  refine (HY.out _ HT.out).mono ?_
  rintro _ w2 ⟨p2, n2, c2, e2, g2, rfl, b2⟩
  have HT := Lib.hid (HT.out.keep b2)
  have HK := Lib.hid (keep_block b2 HK.out)
  have HW := Lib.hid (bl_pack HW.out HW.out.size b2)
  have K1 := Lib.hid (keep_block b2 K1.out)
  clear b2
  obtain ⟨W2, hW2, B2, -, J2⟩ := box_res w2 (.cells #[.slice p2 n2 c2, .int .i64 e2, .bool g2, .bool false] 29)
  go_upto_region 3 with (fail)
  rw [← hW2]
  clear hW2
  have HT := Lib.hid (HT.out.keep B2)
  have HK := Lib.hid (keep_block B2 HK.out)
  have HW := Lib.hid (bl_pack HW.out HW.out.size B2)
  have K1 := Lib.hid (keep_block B2 K1.out)
  have K2 := Lib.hid J2
  clear B2 J2
  go_wp2_with fail
  refine (HZ.out _ HT.out).mono ?_
  rintro _ w3 ⟨p3, n3, c3, e3, g3, rfl, b3⟩
  have HT := Lib.hid (HT.out.keep b3)
  have HK := Lib.hid (keep_block b3 HK.out)
  have HW := Lib.hid (bl_pack HW.out HW.out.size b3)
  have K1 := Lib.hid (keep_block b3 K1.out)
  have K2 := Lib.hid (keep_block b3 K2.out)
  clear b3
  obtain ⟨W3, hW3, B3, -, J3⟩ := box_res w3 (.cells #[.slice p3 n3 c3, .int .i64 e3, .bool g3, .bool true] 29)
  go_upto_region 4 with (fail)
  rw [← hW3]
  clear hW3
  have HT := Lib.hid (HT.out.keep B3)
  have HK := Lib.hid (keep_block B3 HK.out)
  have HW := Lib.hid (bl_pack HW.out HW.out.size B3)
  have K1 := Lib.hid (keep_block B3 K1.out)
  have K2 := Lib.hid (keep_block B3 K2.out)
  have K3 := Lib.hid J3
  clear B3 J3
  obtain ⟨q10, q11, q12, q13, -, -, -, -⟩ := res4_facts K1.out
  obtain ⟨q20, q21, q22, q23, -, -, -, -⟩ := res4_facts K2.out
  obtain ⟨q30, q31, q32, q33, -, -, -, -⟩ := res4_facts K3.out
  go_wp2_with fail
  refine (wOK_calls _ _ _ _ _).mono ?_
  rintro _ w4 ⟨rfl, b4⟩
  have HT := Lib.hid (HT.out.keep b4)
  have HK := Lib.hid (keep_block b4 HK.out)
  have HW := Lib.hid (bl_pack HW.out HW.out.size b4)
  have K1 := Lib.hid (keep_block b4 K1.out)
  have K2 := Lib.hid (keep_block b4 K2.out)
  have K3 := Lib.hid (keep_block b4 K3.out)
  clear b4
  clear q10 q11 q12 q13 q20 q21 q22 q23 q30 q31 q32 q33
  obtain ⟨q10, q11, q12, q13, -, -, -, -⟩ := res4_facts K1.out
  obtain ⟨q20, q21, q22, q23, -, -, -, -⟩ := res4_facts K2.out
  obtain ⟨q30, q31, q32, q33, -, -, -, -⟩ := res4_facts K3.out
  go_wp2_with fail
  refine (wOK_calls _ _ _ _ _).mono ?_
  rintro _ w5 ⟨rfl, b5⟩
  have HT := Lib.hid (HT.out.keep b5)
  have HK := Lib.hid (keep_block b5 HK.out)
  have HW := Lib.hid (bl_pack HW.out HW.out.size b5)
  have K1 := Lib.hid (keep_block b5 K1.out)
  have K2 := Lib.hid (keep_block b5 K2.out)
  have K3 := Lib.hid (keep_block b5 K3.out)
  clear b5
  clear q10 q11 q12 q13 q20 q21 q22 q23 q30 q31 q32 q33
  obtain ⟨q10, q11, q12, q13, -, -, -, -⟩ := res4_facts K1.out
  obtain ⟨q20, q21, q22, q23, -, -, -, -⟩ := res4_facts K2.out
  obtain ⟨q30, q31, q32, q33, -, -, -, -⟩ := res4_facts K3.out
  go_wp2_with fail
  refine (wOK_calls _ _ _ _ _).mono ?_
  rintro _ w6 ⟨rfl, b6⟩
  have HT := Lib.hid (HT.out.keep b6)
  have HK := Lib.hid (keep_block b6 HK.out)
  have HW := Lib.hid (bl_pack HW.out HW.out.size b6)
  have K1 := Lib.hid (keep_block b6 K1.out)
  have K2 := Lib.hid (keep_block b6 K2.out)
  have K3 := Lib.hid (keep_block b6 K3.out)
  clear b6
  clear q10 q11 q12 q13 q20 q21 q22 q23 q30 q31 q32 q33
  obtain ⟨r0, r1, r2, r3, f0, f1, f2, f3⟩ := res4_facts HK.out
  obtain ⟨u0, u1, u2, u3⟩ := put4_facts HK.out (.slice none 0 0) (.int .i64 0) (.bool false) (.bool false)
  go_wp2_with fail
  refine bodyPost_ret (v := .agg #[.slice none 0 0, .int .i64 0, .bool false, .bool false]) (by simp [results, Tryd.results9, go_sem, u0, u1, u2, u3]) rfl ?_
  exact ⟨_, rfl, (NumB.zero F _).more (Nat.zero_le _), bl_put4 HW.out (Nat.le_refl _) _ _ _ _⟩

/-- The number that of tells. -/
def ofQ (x y z : Nat) : Rat := if rung x < inf ∧ rung y < inf ∧ rung z < inf then fr x + fr y * fr z else 0
theorem of_calls {F : Nat} (x y z : Nat) (hx : x < 18446744073709551616) (hy : y < 18446744073709551616) (hz : z < 18446744073709551616) {w : World} (ht : Tb F w) :
    Calls Tryd.prog 9 #[.float .f64 x, .float .f64 y, .float .f64 z] w (RetB F (ofQ x y z) 2149 w) := by
  have HX := Lib.hid (fun (W : World) (h : Tb F W) => ofF x hx h)
  have HY := Lib.hid (fun (W : World) (h : Tb F W) => ofF y hy h)
  have HZ := Lib.hid (fun (W : World) (h : Tb F W) => ofF z hz h)
  unfold ofQ
  by_cases fx : rung x < inf
  · by_cases fy : rung y < inf
    · by_cases fz : rung z < inf
      · rw [if_pos ⟨fx, fy, fz⟩]; exact of_calls3 x y z hx hy hz fx fy fz ht
      · rw [if_neg (fun h => fz h.2.2)]
        exact of_bad3 x y z _ _ _ ht HX HY HZ (by rw [decide_eq_true fx]; rfl) (by rw [decide_eq_true fy]; rfl) (by rw [decide_eq_false fz]; rfl)
    · rw [if_neg (fun h => fy h.2.1)]
      exact of_bad2 x y z _ _ _ ht HX HY HZ (by rw [decide_eq_true fx]; rfl) (by rw [decide_eq_false fy]; rfl)
  · rw [if_neg (fun h => fx h.1)]
    exact of_bad1 x y z _ _ _ ht HX HY HZ (by rw [decide_eq_false fx]; rfl)
end Go.Proofs.YtiiipgbfhcbjdaaDoor
end

section
/- The nearest float, its order. Plain numbers. -/
namespace TV
set_option exponentiation.threshold 3000

theorem RndQ.le_inf {q : Rat} {r : Nat} (h : RndQ q r) : r ≤ inf := by
  rcases h with ⟨h, -⟩ | ⟨h, -⟩ <;> omega
/-- What is greater has no lesser rung. -/
theorem RndQ.mono {p q : Rat} {r s : Nat} (hp : RndQ p r) (hq : RndQ q s) (h : p ≤ q) : r ≤ s := by
  apply Classical.byContradiction
  intro hn
  have hi := inf_eq
  have hri := hp.le_inf
  obtain ⟨t, rfl⟩ : ∃ t, r = t + 1 := ⟨r - 1, by omega⟩
  have hup : 2 * q < ((mag s + mag (s + 1) : Nat) : Rat) * uu ∨ (2 * q = ((mag s + mag (s + 1) : Nat) : Rat) * uu ∧ s % 2 = 0) := by
    rcases hq with ⟨-, h, -⟩ | ⟨h, -⟩
    · exact h
    · omega
  have hlo : ((mag t + mag (t + 1) : Nat) : Rat) * uu < 2 * p ∨ (((mag t + mag (t + 1) : Nat) : Rat) * uu = 2 * p ∧ ((t + 1) % 2 = 0 ∨ t + 1 = inf)) := by
    rcases hp with ⟨-, -, h⟩ | ⟨h1, h2⟩
    · rcases h with h | h | ⟨h, h'⟩
      · omega
      · exact Or.inl h
      · exact Or.inr ⟨h, Or.inl h'⟩
    · have e : inf - 1 = t := by omega
      rw [e, ← h1] at h2
      rcases Rat.le_iff_lt_or_eq.1 h2 with h | h
      · exact Or.inl h
      · exact Or.inr ⟨h, Or.inr h1⟩
  have hpar : s % 2 = 0 → s = t → ((t + 1) % 2 = 0 ∨ t + 1 = inf) → False := by
    intro a b c
    rcases c with c | c
    · omega
    · rw [hi] at c; omega
  have hm : mag s + mag (s + 1) ≤ mag t + mag (t + 1) := by
    have m1 : mag s ≤ mag t := mag_le (by omega)
    have m2 : mag (s + 1) ≤ mag (t + 1) := mag_le (by omega)
    omega
  have hm2 : s ≠ t → mag s + mag (s + 1) < mag t + mag (t + 1) := by
    intro hne
    have m1 : mag s < mag t := mag_lt (by omega)
    have m2 : mag (s + 1) ≤ mag (t + 1) := mag_le (by omega)
    omega
  have hu := uu_pos
  obtain ⟨A, hA⟩ : ∃ A : Rat, A = ((mag s + mag (s + 1) : Nat) : Rat) * uu := ⟨_, rfl⟩
  obtain ⟨B, hB⟩ : ∃ B : Rat, B = ((mag t + mag (t + 1) : Nat) : Rat) * uu := ⟨_, rfl⟩
  have hAB : A ≤ B := by rw [hA, hB]; exact Rat.mul_le_mul_of_nonneg_right (Rat.natCast_le_natCast.2 hm) (Rat.le_of_lt hu)
  have hAB2 : s ≠ t → A < B := by intro hne; rw [hA, hB]; exact Rat.mul_lt_mul_of_pos_right (Rat.natCast_lt_natCast.2 (hm2 hne)) hu
  rw [← hA] at hup
  rw [← hB] at hlo
  have h2 : 2 * p ≤ 2 * q := by grind
  rcases hup with h3 | ⟨h3, h4⟩
  · rcases hlo with h5 | ⟨h5, -⟩ <;> grind
  · rcases hlo with h5 | ⟨h5, h6⟩
    · grind
    · by_cases c : s = t
      · exact hpar h4 c h6
      · have := hAB2 c; grind
theorem RndQ.uniq {q : Rat} {r s : Nat} (hp : RndQ q r) (hq : RndQ q s) : r = s := Nat.le_antisymm (hp.mono hq Rat.le_refl) (hq.mono hp Rat.le_refl)
theorem RndQ.exact {r : Nat} (h : r < inf) : RndQ ((mag r : Rat) * uu) r := by
  have h1 := near_q (near_exact 0 r)
  rw [Nat.min_eq_left (Nat.le_of_lt h)] at h1
  have e : ((mag r * 2 ^ 0 : Nat) : Rat) * (2 : Rat) ^ (-1074 - ((0 : Nat) : Int)) = (mag r : Rat) * uu := by unfold uu; simp
  rw [e] at h1; exact h1

/-- Floats that are numbers or infinite stand as their values do. -/
theorem order_le {x y : Nat} (hx : rung x ≤ inf) (hy : rung y ≤ inf) : Ieee.double.order x y = some (compare (fv x) (fv y)) := by
  have key : ∀ {a b : Nat}, rung a < inf → rung b = inf → (sgn b = true → fv b < fv a) ∧ (sgn b = false → fv a < fv b) := by
    intro a b ha hb
    have hm := mag_lt ha
    have h1 : fv a ≤ mag (rung a) ∧ -(mag (rung a) : Int) ≤ fv a := by unfold fv sm; split <;> omega
    constructor
    · intro hs
      have : fv b = -(mag inf : Int) := by unfold fv sm; rw [hs, hb]; rfl
      omega
    · intro hs
      have : fv b = (mag inf : Int) := by unfold fv sm; rw [hs, hb]; rfl
      omega
  rcases Nat.lt_or_ge (rung x) inf with hx1 | hx1
  · rcases Nat.lt_or_ge (rung y) inf with hy1 | hy1
    · exact order_fin hx1 hy1
    · have hy2 : rung y = inf := Nat.le_antisymm hy hy1
      rw [order_fin_inf hx1 hy2]
      obtain ⟨k1, k2⟩ := key hx1 hy2
      cases hs : sgn y
      · have := k2 hs
        simp only [Bool.false_eq_true, if_false]; rw [Int.compare_eq_lt.2 this]
      · have := k1 hs
        simp only [if_true]; rw [Int.compare_eq_gt.2 this]
  · have hx2 : rung x = inf := Nat.le_antisymm hx hx1
    rcases Nat.lt_or_ge (rung y) inf with hy1 | hy1
    · rw [order_inf_fin hx2 hy1]
      obtain ⟨k1, k2⟩ := key hy1 hx2
      cases hs : sgn x
      · have := k2 hs
        simp only [Bool.false_eq_true, if_false]; rw [Int.compare_eq_gt.2 this]
      · have := k1 hs
        simp only [if_true]; rw [Int.compare_eq_lt.2 this]
    · have hy2 : rung y = inf := Nat.le_antisymm hy hy1
      rw [order_inf_inf hx2 hy2]
      have hp : 0 < mag inf := by have := mag_lt inf_pos; rw [mag_zero] at this; exact this
      have ex : fv x = sm (sgn x) (mag inf) := by unfold fv; rw [hx2]
      have ey : fv y = sm (sgn y) (mag inf) := by unfold fv; rw [hy2]
      rw [ex, ey]
      generalize mag inf = m at hp ⊢
      cases sgn x <;> cases sgn y
      · rw [Int.compare_eq_eq.2 rfl]; rfl
      · rw [Int.compare_eq_gt.2 (by unfold sm; simp; omega)]; rfl
      · rw [Int.compare_eq_lt.2 (by unfold sm; simp; omega)]; rfl
      · rw [Int.compare_eq_eq.2 rfl]; rfl
end TV
namespace Go.Proofs.YtiiipgbfhcbjdaaDoor
open Go.RowKit TV

theorem FloOf.le_inf {q : Rat} {f : Nat} (h : FloOf q f) : rung f ≤ inf := h.2.2.le_inf
theorem FloOf.fv_nonneg {q : Rat} {f : Nat} (h : FloOf q f) (hq : 0 ≤ q) : fv f = mag (rung f) := by
  rcases h.2.1 with h1 | h1
  · rw [fv_zero_of h1, h1, mag_zero]; rfl
  · rw [decide_eq_false (by grind)] at h1; unfold fv sm; rw [h1]; rfl
theorem FloOf.fv_neg {q : Rat} {f : Nat} (h : FloOf q f) (hq : q < 0) : fv f = -(mag (rung f) : Int) := by
  rcases h.2.1 with h1 | h1
  · rw [fv_zero_of h1, h1, mag_zero]; rfl
  · rw [decide_eq_true hq] at h1; unfold fv sm; rw [h1]; rfl
/-- What is greater has no lesser float. -/
theorem FloOf.mono {p q : Rat} {f g : Nat} (hf : FloOf p f) (hg : FloOf q g) (h : p ≤ q) : fv f ≤ fv g := by
  by_cases c : p < 0
  · rw [hf.fv_neg c]
    by_cases d : q < 0
    · rw [hg.fv_neg d]
      have h1 := hf.2.2; have h2 := hg.2.2
      rw [if_pos c] at h1; rw [if_pos d] at h2
      have h3 := mag_le (h2.mono h1 (by grind))
      omega
    · rw [hg.fv_nonneg (by grind)]; omega
  · rw [hf.fv_nonneg (by grind), hg.fv_nonneg (by grind)]
    have h1 := hf.2.2; have h2 := hg.2.2
    rw [if_neg c] at h1; rw [if_neg (by grind)] at h2
    have h3 := mag_le (h1.mono h2 h)
    omega
theorem FloOf.fin {x : Nat} (h1 : x < 18446744073709551616) (h : rung x < inf) : FloOf (fr x) x := by
  have hu := uu_pos
  have hfr : fr x = (fv x : Rat) * uu := rfl
  have hp : 0 < fv x → 0 < fr x := by
    intro h; rw [hfr]; exact Rat.mul_pos (by exact_mod_cast h) hu
  have hn : fv x < 0 → fr x < 0 := by
    intro h; rw [hfr]
    have h2 : ((0 : Int) : Rat) < ((-fv x : Int) : Rat) := by exact_mod_cast (by omega : (0 : Int) < -fv x)
    have := Rat.mul_pos h2 hu
    push_cast at this
    grind
  have hm : (if fr x < 0 then -fr x else fr x) = (mag (rung x) : Rat) * uu := by
    rcases Int.lt_trichotomy (fv x) 0 with c | c | c
    · rw [if_pos (hn c), hfr]
      have : fv x = -(mag (rung x) : Int) := by have := fv_natAbs x; omega
      rw [this]; push_cast; grind
    · have e : mag (rung x) = 0 := by have := fv_natAbs x; omega
      have z : fr x = 0 := by rw [hfr, c]; simp
      rw [z, if_neg (by grind), e]; simp
    · have := hp c
      rw [if_neg (by grind), hfr]
      have : fv x = (mag (rung x) : Int) := by have := fv_natAbs x; omega
      rw [this]; rfl
  refine ⟨h1, ?_, by rw [hm]; exact RndQ.exact h⟩
  rcases Int.lt_trichotomy (fv x) 0 with c | c | c
  · right; rw [decide_eq_true (hn c)]
    cases hs : sgn x
    · unfold fv sm at c; rw [hs] at c; simp at c; omega
    · rfl
  · left
    have e : mag (rung x) = 0 := by have := fv_natAbs x; omega
    exact mag_eq_zero.1 e
  · right
    have := hp c
    rw [decide_eq_false (by grind)]
    cases hs : sgn x
    · rfl
    · unfold fv sm at c; rw [hs] at c; simp at c; omega
/-- The float of a number that is a float's. -/
theorem FloOf.eq {q : Rat} {f x : Nat} (h : FloOf q f) (hx : FloOf q x) : FloatKind.f64.format.order f x = some .eq := by
  refine (order_le h.le_inf hx.le_inf).trans ?_
  have := Int.le_antisymm (h.mono hx Rat.le_refl) (hx.mono h Rat.le_refl)
  rw [this, Int.compare_eq_eq.2 rfl]
theorem FloOf.not_lt {p q : Rat} {f g : Nat} (hf : FloOf p f) (hg : FloOf q g) (h : q ≤ p) : (FloatKind.f64.format.order f g == some .lt) = false := by
  have e : FloatKind.f64.format.order f g = some (compare (fv f) (fv g)) := order_le hf.le_inf hg.le_inf
  rw [e]
  have := hg.mono hf h
  rcases Int.lt_or_eq_of_le this with h1 | h1
  · rw [Int.compare_eq_gt.2 h1]; rfl
  · rw [h1, Int.compare_eq_eq.2 rfl]; rfl
end Go.Proofs.YtiiipgbfhcbjdaaDoor
end

section
/- Package whole's statements: the helper works. (Printed by gen_WiD.py.) -/
namespace TV
set_option exponentiation.threshold 3000
theorem high_lit {q : Rat} {n : Nat} {l : Int} (h : n ≠ 0) (hq : q = (n : Rat) * (2 : Rat) ^ l) : HighOf q ((n.log2 : Int) + l) := by rw [hq]; exact Or.inl (nat_high h l)
theorem rs_pos {q : Rat} (h : 0 < q) : rs q = 1 := by unfold rs; rw [if_neg (by grind), if_neg (by grind)]
theorem rs_neg {q : Rat} (h : q < 0) : rs q = -1 := by unfold rs; rw [if_pos h]
end TV
namespace Go.Proofs.YtiiipgbfhcbjdaaDoor
open Go.RowKit TV
set_option linter.unusedVariables false
set_option exponentiation.threshold 3000

theorem fr_lit {x : Nat} {m l : Int} {k : Nat} (h : fv x = m * 2 ^ k) (hk : l = (k : Int) - 1074) : fr x = (m : Rat) * (2 : Rat) ^ l := by
  unfold fr
  rw [h, hk, Int.sub_eq_add_neg, two_zpow_add, two_zpow_nat]; push_cast; grind
/-- The float of a whole number's part. -/
theorem flo_lit {N u r : Nat} {q : Rat} (hN : 0 < N) (h : min (rndAt u N) inf = r) (hq : q = (N : Rat) * (2 : Rat) ^ (-1074 - (u : Int))) : FloOf q r := by
  have h1 := near_q (near_rnd u N)
  rw [h, ← hq] at h1
  have hp : 0 < q := by rw [hq]; exact Rat.mul_pos (by exact_mod_cast hN) (two_zpow_pos _)
  have := FloOf.mk false hp (by rw [← h]; exact min_inf_lt _) h1
  exact this
theorem works_e : fr 4602678819172646912 + fr 4598175219545276416 = fr 4604930618986332160 := by
  unfold fr; rw [← Rat.add_mul]; congr 1; rw [← Rat.intCast_add]; congr 1
theorem works_q : fr 4604930618986332160 = ((3 : Nat) : Rat) * (2 : Rat) ^ (-2 : Int) := fr_lit (m := 3) (k := 1072) (by decide) (by decide)
theorem works_a : FloOf (fr 4602678819172646912 + fr 4598175219545276416) 4604930618986332160 := by rw [works_e]; exact FloOf.fin (by decide) (by decide)
theorem works_h : HighOf (fr 4602678819172646912 + fr 4598175219545276416) (-1) := by rw [works_e]; exact high_lit (n := 3) (by decide) works_q
theorem works_l : LowOf (fr 4602678819172646912 + fr 4598175219545276416) (-2) := by rw [works_e]; exact ⟨3, rfl, works_q⟩
theorem works_f : fr 13848005904210853888 = ((3 : Int) : Rat) * ((-5 : Int) : Rat) := by
  rw [fr_lit (x := 13848005904210853888) (m := -15) (k := 1074) (l := 0) (by decide) (by decide), Rat.zpow_zero, Rat.mul_one, ← Rat.intCast_mul]; rfl
theorem works_b : FloOf (((3 : Int) : Rat) * ((-5 : Int) : Rat)) 13848005904210853888 := by rw [← works_f]; exact FloOf.fin (by decide) (by decide)
theorem works_s : rs (((3 : Int) : Rat) * ((-5 : Int) : Rat)) = -1 := by rw [← Rat.intCast_mul]; exact rs_neg (by decide)
theorem works_n : ((1 : Int) : Rat) * (2 : Rat) ^ (100 : Int) + ((1 : Int) : Rat) = (((2 ^ 100 + 1 : Nat) : Int) : Rat) := by
  have e : (2 : Rat) ^ (100 : Int) = ((2 ^ 100 : Nat) : Rat) := two_zpow_nat 100
  rw [e]
  generalize 2 ^ 100 = N
  show (1 : Rat) * (N : Rat) + 1 = ((N + 1 : Nat) : Rat)
  rw [Rat.natCast_add]; show (1 : Rat) * (N : Rat) + 1 = (N : Rat) + 1; grind
theorem works_c : FloOf (((1 : Int) : Rat) * (2 : Rat) ^ (100 : Int) + ((1 : Int) : Rat)) 5057542381537067008 := by
  rw [works_n]
  refine flo_lit (N := (2 ^ 100 + 1) * 2 ^ 1074) (u := 0) (by decide +kernel) (by decide +kernel) ?_
  rw [Rat.natCast_mul, ← two_zpow_nat 1074, Rat.mul_assoc, ← two_zpow_add]
  rw [show ((1074 : Nat) : Int) + (-1074 - ((0 : Nat) : Int)) = 0 by decide, Rat.zpow_zero, Rat.mul_one]; rfl
theorem works_k : rs (((1 : Int) : Rat) * (2 : Rat) ^ (100 : Int) + ((1 : Int) : Rat) - ((1 : Int) : Rat) * (2 : Rat) ^ (100 : Int)) = 1 := by
  apply rs_pos
  have : ((1 : Int) : Rat) = 1 := rfl
  rw [this]; grind
theorem works_o : LowOf (((1 : Int) : Rat) * (2 : Rat) ^ (100 : Int) + ((1 : Int) : Rat)) 0 := ⟨((2 ^ 100 + 1 : Nat) : Int), by decide, by rw [works_n, Rat.zpow_zero, Rat.mul_one]⟩

set_option maxRecDepth 100000 in
set_option maxHeartbeats 4000000 in
theorem works_calls {F : Nat} {w : World} (ht : Tb F w) :
    Calls Tryd.prog 8 #[] w fun x w' => x = .returned (.bool true) ∧ Below w.heap.size w w' := by
  have HT := Lib.hid ht
  have HW := Lib.hid (Below.refl w.heap.size w)
  clear ht
  go_enter Tryd.func8, Tryd.ntmps8
  go_wp2_with fail
  refine (ofB 4602678819172646912 (by decide) (by decide) HT.out).mono ?_
  rintro _ w1 ⟨vx, rfl, Mx, b1⟩
  have HT := Lib.hid (HT.out.keep b1)
  have HW := Lib.hid (bl_pack HW.out HW.out.size b1)
  have Nx := Lib.hid Mx
  clear b1 Mx
  go_wp2_with fail
  refine (ofB 4598175219545276416 (by decide) (by decide) HT.out).mono ?_
  rintro _ w2 ⟨vy, rfl, My, b2⟩
  have HT := Lib.hid (HT.out.keep b2)
  have HW := Lib.hid (bl_pack HW.out HW.out.size b2)
  have Nx := Lib.hid (Nx.out.keep b2)
  have Ny := Lib.hid My
  clear b2 My
  go_wp2_with fail
  refine (addB 1075 Nx.out Ny.out HT.out (by decide) (by decide) (by decide)).mono ?_
  rintro _ w3 ⟨va, rfl, Ma, b3⟩
  have HT := Lib.hid (HT.out.keep b3)
  have HW := Lib.hid (bl_pack HW.out HW.out.size b3)
  have Nx := Lib.hid (Nx.out.keep b3)
  have Ny := Lib.hid (Ny.out.keep b3)
  have Na := Lib.hid Ma
  clear b3 Ma
  obtain ⟨pa, na, ca, ea, ga, rfl⟩ := Na.out.form
  obtain ⟨Wa, hWa, Ba, -, Ja⟩ := box_res w3 (.cells #[.slice pa na ca, .int .i64 ea, .bool ga, .bool false] 29)
  go_upto_region 2 with (fail)
  rw [← hWa]
  clear hWa
  have HT := Lib.hid (HT.out.keep Ba)
  have HW := Lib.hid (bl_pack HW.out HW.out.size Ba)
  have Nx := Lib.hid (Nx.out.keep Ba)
  have Ny := Lib.hid (Ny.out.keep Ba)
  have Na := Lib.hid (Na.out.keep Ba)
  have Ka := Lib.hid Ja
  clear Ba Ja
  go_wp2_with fail
  refine (intB 3 (by decide) (by decide) HT.out).mono ?_
  rintro _ w4 ⟨vz, rfl, Mz, b4⟩
  have HT := Lib.hid (HT.out.keep b4)
  have HW := Lib.hid (bl_pack HW.out HW.out.size b4)
  have Nx := Lib.hid (Nx.out.keep b4)
  have Ny := Lib.hid (Ny.out.keep b4)
  have Na := Lib.hid (Na.out.keep b4)
  have Ka := Lib.hid (keep_block b4 Ka.out)
  have Nz := Lib.hid Mz
  clear b4 Mz
  go_wp2_with fail
  refine (intB (-5) (by decide) (by decide) HT.out).mono ?_
  rintro _ w5 ⟨vu, rfl, Mu, b5⟩
  have HT := Lib.hid (HT.out.keep b5)
  have HW := Lib.hid (bl_pack HW.out HW.out.size b5)
  have Nx := Lib.hid (Nx.out.keep b5)
  have Ny := Lib.hid (Ny.out.keep b5)
  have Na := Lib.hid (Na.out.keep b5)
  have Nz := Lib.hid (Nz.out.keep b5)
  have Ka := Lib.hid (keep_block b5 Ka.out)
  have Nu := Lib.hid Mu
  clear b5 Mu
  go_wp2_with fail
  refine (mulB 128 Nz.out Nu.out HT.out (by decide) (by decide)).mono ?_
  rintro _ w6 ⟨vb, rfl, Mb, b6⟩
  have HT := Lib.hid (HT.out.keep b6)
  have HW := Lib.hid (bl_pack HW.out HW.out.size b6)
  have Nx := Lib.hid (Nx.out.keep b6)
  have Ny := Lib.hid (Ny.out.keep b6)
  have Na := Lib.hid (Na.out.keep b6)
  have Nz := Lib.hid (Nz.out.keep b6)
  have Nu := Lib.hid (Nu.out.keep b6)
  have Ka := Lib.hid (keep_block b6 Ka.out)
  have Nb := Lib.hid Mb
  clear b6 Mb
  obtain ⟨pb, nb, cb, eb, gb, rfl⟩ := Nb.out.form
  obtain ⟨Wb, hWb, Bb, -, Jb⟩ := box_res w6 (.cells #[.slice pb nb cb, .int .i64 eb, .bool gb, .bool false] 29)
  go_upto_region 3 with (fail)
  rw [← hWb]
  clear hWb
  have HT := Lib.hid (HT.out.keep Bb)
  have HW := Lib.hid (bl_pack HW.out HW.out.size Bb)
  have Nx := Lib.hid (Nx.out.keep Bb)
  have Ny := Lib.hid (Ny.out.keep Bb)
  have Na := Lib.hid (Na.out.keep Bb)
  have Nz := Lib.hid (Nz.out.keep Bb)
  have Nu := Lib.hid (Nu.out.keep Bb)
  have Nb := Lib.hid (Nb.out.keep Bb)
  have Ka := Lib.hid (keep_block Bb Ka.out)
  have Kb := Lib.hid Jb
  clear Bb Jb
  go_wp2_with fail
  refine (intB 1 (by decide) (by decide) HT.out).mono ?_
  rintro _ w7 ⟨vs, rfl, Ms, b7⟩
  have HT := Lib.hid (HT.out.keep b7)
  have HW := Lib.hid (bl_pack HW.out HW.out.size b7)
  have Nx := Lib.hid (Nx.out.keep b7)
  have Ny := Lib.hid (Ny.out.keep b7)
  have Na := Lib.hid (Na.out.keep b7)
  have Nz := Lib.hid (Nz.out.keep b7)
  have Nu := Lib.hid (Nu.out.keep b7)
  have Nb := Lib.hid (Nb.out.keep b7)
  have Ka := Lib.hid (keep_block b7 Ka.out)
  have Kb := Lib.hid (keep_block b7 Kb.out)
  have Ns := Lib.hid Ms
  clear b7 Ms
  go_wp2_with fail
  refine (shiftB 164 100 Ns.out HT.out (by decide) (by decide)).mono ?_
  rintro _ w8 ⟨vt, rfl, Mt, b8⟩
  have HT := Lib.hid (HT.out.keep b8)
  have HW := Lib.hid (bl_pack HW.out HW.out.size b8)
  have Nx := Lib.hid (Nx.out.keep b8)
  have Ny := Lib.hid (Ny.out.keep b8)
  have Na := Lib.hid (Na.out.keep b8)
  have Nz := Lib.hid (Nz.out.keep b8)
  have Nu := Lib.hid (Nu.out.keep b8)
  have Nb := Lib.hid (Nb.out.keep b8)
  have Ns := Lib.hid (Ns.out.keep b8)
  have Ka := Lib.hid (keep_block b8 Ka.out)
  have Kb := Lib.hid (keep_block b8 Kb.out)
  have Nt := Lib.hid Mt
  clear b8 Mt
  go_wp2_with fail
  refine (intB 1 (by decide) (by decide) HT.out).mono ?_
  rintro _ w9 ⟨vv, rfl, Mv, b9⟩
  have HT := Lib.hid (HT.out.keep b9)
  have HW := Lib.hid (bl_pack HW.out HW.out.size b9)
  have Nx := Lib.hid (Nx.out.keep b9)
  have Ny := Lib.hid (Ny.out.keep b9)
  have Na := Lib.hid (Na.out.keep b9)
  have Nz := Lib.hid (Nz.out.keep b9)
  have Nu := Lib.hid (Nu.out.keep b9)
  have Nb := Lib.hid (Nb.out.keep b9)
  have Ns := Lib.hid (Ns.out.keep b9)
  have Nt := Lib.hid (Nt.out.keep b9)
  have Ka := Lib.hid (keep_block b9 Ka.out)
  have Kb := Lib.hid (keep_block b9 Kb.out)
  have Nv := Lib.hid Mv
  clear b9 Mv
  go_wp2_with fail
  refine (addB 165 Nt.out Nv.out HT.out (by decide) (by decide) (by decide)).mono ?_
  rintro _ w10 ⟨vc, rfl, Mc, b10⟩
  have HT := Lib.hid (HT.out.keep b10)
  have HW := Lib.hid (bl_pack HW.out HW.out.size b10)
  have Nx := Lib.hid (Nx.out.keep b10)
  have Ny := Lib.hid (Ny.out.keep b10)
  have Na := Lib.hid (Na.out.keep b10)
  have Nz := Lib.hid (Nz.out.keep b10)
  have Nu := Lib.hid (Nu.out.keep b10)
  have Nb := Lib.hid (Nb.out.keep b10)
  have Ns := Lib.hid (Ns.out.keep b10)
  have Nt := Lib.hid (Nt.out.keep b10)
  have Nv := Lib.hid (Nv.out.keep b10)
  have Ka := Lib.hid (keep_block b10 Ka.out)
  have Kb := Lib.hid (keep_block b10 Kb.out)
  have Nc := Lib.hid Mc
  clear b10 Mc
  obtain ⟨pc, nc, cc, ec, gc, rfl⟩ := Nc.out.form
  obtain ⟨Wc, hWc, Bc, -, Jc⟩ := box_res w10 (.cells #[.slice pc nc cc, .int .i64 ec, .bool gc, .bool false] 29)
  go_upto_region 4 with (fail)
  rw [← hWc]
  clear hWc
  have HT := Lib.hid (HT.out.keep Bc)
  have HW := Lib.hid (bl_pack HW.out HW.out.size Bc)
  have Nx := Lib.hid (Nx.out.keep Bc)
  have Ny := Lib.hid (Ny.out.keep Bc)
  have Na := Lib.hid (Na.out.keep Bc)
  have Nz := Lib.hid (Nz.out.keep Bc)
  have Nu := Lib.hid (Nu.out.keep Bc)
  have Nb := Lib.hid (Nb.out.keep Bc)
  have Ns := Lib.hid (Ns.out.keep Bc)
  have Nt := Lib.hid (Nt.out.keep Bc)
  have Nv := Lib.hid (Nv.out.keep Bc)
  have Nc := Lib.hid (Nc.out.keep Bc)
  have Ka := Lib.hid (keep_block Bc Ka.out)
  have Kb := Lib.hid (keep_block Bc Kb.out)
  have Kc := Lib.hid Jc
  clear Bc Jc
  obtain ⟨qa0, qa1, qa2, qa3, -, -, -, -⟩ := res4_facts Ka.out
  obtain ⟨qb0, qb1, qb2, qb3, -, -, -, -⟩ := res4_facts Kb.out
  obtain ⟨qc0, qc1, qc2, qc3, -, -, -, -⟩ := res4_facts Kc.out
  go_wp2_with fail
  have HC0 := Lib.hid (fun (Y : World) (h : Kp Wc Y) => floatB (Na.out.keep h.out))
  have HC1 := Lib.hid (fun (Y : World) (h : Kp Wc Y) => highB (-1) (Na.out.keep h.out) (Or.inl works_h))
  have HC2 := Lib.hid (fun (Y : World) (h : Kp Wc Y) => lowB (-2) (Na.out.keep h.out) (HT.out.keep h.out) (Or.inl works_l))
  have HC3 := Lib.hid (fun (Y : World) (h : Kp Wc Y) => floatB (Nb.out.keep h.out))
  have HC4 := Lib.hid (fun (Y : World) (h : Kp Wc Y) => signBn (-1) (Nb.out.keep h.out) works_s)
  have HC5 := Lib.hid (fun (Y : World) (h : Kp Wc Y) => floatB (Nc.out.keep h.out))
  have HC6 := Lib.hid (fun (Y : World) (h : Kp Wc Y) => intB 1 (by decide) (by decide) (HT.out.keep h.out))
  have HC7 := Lib.hid (fun (Y : World) (h : Kp Wc Y) (v : Value) (hv : NumB F Y v ((1 : Int) : Rat) 64) => shiftB 164 100 hv (HT.out.keep h.out) (by decide) (by decide))
  have HC8 := Lib.hid (fun (Y : World) (h : Kp Wc Y) (v : Value) (hv : NumB F Y v (((1 : Int) : Rat) * (2 : Rat) ^ (100 : Int)) 164) => cmpBn 1 (Nc.out.keep h.out) hv (HT.out.keep h.out) (by decide) (by decide) works_k)
  have HC9 := Lib.hid (fun (Y : World) (h : Kp Wc Y) => lowB 0 (Nc.out.keep h.out) (HT.out.keep h.out) (Or.inl works_o))
  go_region_held3 (fun w' => w'.cell? ⟨w3.heap.size, 0, none⟩ = some (.slice pa na ca) ∧ w'.cell? ⟨w3.heap.size, 1, none⟩ = some (.int .i64 ea) ∧ w'.cell? ⟨w3.heap.size, 2, none⟩ = some (.bool ga) ∧ w'.cell? ⟨w3.heap.size, 3, none⟩ = some (.bool false) ∧ w'.cell? ⟨w6.heap.size, 0, none⟩ = some (.slice pb nb cb) ∧ w'.cell? ⟨w6.heap.size, 1, none⟩ = some (.int .i64 eb) ∧ w'.cell? ⟨w6.heap.size, 2, none⟩ = some (.bool gb) ∧ w'.cell? ⟨w6.heap.size, 3, none⟩ = some (.bool false) ∧ w'.cell? ⟨w10.heap.size, 0, none⟩ = some (.slice pc nc cc) ∧ w'.cell? ⟨w10.heap.size, 1, none⟩ = some (.int .i64 ec) ∧ w'.cell? ⟨w10.heap.size, 2, none⟩ = some (.bool gc) ∧ w'.cell? ⟨w10.heap.size, 3, none⟩ = some (.bool false) ∧ Kp Wc w')
    (first | with_reducible exact sv3 (((((((((((Kp.refl Wc).drew.step hbR_0).step hbR_1).step hbR_2).step hbR_3).step hbR_4).step hbR_5).step hbR_6).step hbR_7).step hbR_8).step hbR_9) qa0 qa1 qa2 qa3 qb0 qb1 qb2 qb3 qc0 qc1 qc2 qc3 | with_reducible exact sv3 ((((((((((Kp.refl Wc).drew.step hbR_0).step hbR_1).step hbR_2).step hbR_3).step hbR_4).step hbR_5).step hbR_6).step hbR_7).step hbR_8) qa0 qa1 qa2 qa3 qb0 qb1 qb2 qb3 qc0 qc1 qc2 qc3 | with_reducible exact sv3 (((((((((Kp.refl Wc).drew.step hbR_0).step hbR_1).step hbR_2).step hbR_3).step hbR_4).step hbR_5).step hbR_6).step hbR_7) qa0 qa1 qa2 qa3 qb0 qb1 qb2 qb3 qc0 qc1 qc2 qc3 | with_reducible exact sv3 ((((((((Kp.refl Wc).drew.step hbR_0).step hbR_1).step hbR_2).step hbR_3).step hbR_4).step hbR_5).step hbR_6) qa0 qa1 qa2 qa3 qb0 qb1 qb2 qb3 qc0 qc1 qc2 qc3 | with_reducible exact sv3 (((((((Kp.refl Wc).drew.step hbR_0).step hbR_1).step hbR_2).step hbR_3).step hbR_4).step hbR_5) qa0 qa1 qa2 qa3 qb0 qb1 qb2 qb3 qc0 qc1 qc2 qc3 | with_reducible exact sv3 ((((((Kp.refl Wc).drew.step hbR_0).step hbR_1).step hbR_2).step hbR_3).step hbR_4) qa0 qa1 qa2 qa3 qb0 qb1 qb2 qb3 qc0 qc1 qc2 qc3 | with_reducible exact sv3 (((((Kp.refl Wc).drew.step hbR_0).step hbR_1).step hbR_2).step hbR_3) qa0 qa1 qa2 qa3 qb0 qb1 qb2 qb3 qc0 qc1 qc2 qc3 | with_reducible exact sv3 ((((Kp.refl Wc).drew.step hbR_0).step hbR_1).step hbR_2) qa0 qa1 qa2 qa3 qb0 qb1 qb2 qb3 qc0 qc1 qc2 qc3 | with_reducible exact sv3 (((Kp.refl Wc).drew.step hbR_0).step hbR_1) qa0 qa1 qa2 qa3 qb0 qb1 qb2 qb3 qc0 qc1 qc2 qc3 | with_reducible exact sv3 ((Kp.refl Wc).drew.step hbR_0) qa0 qa1 qa2 qa3 qb0 qb1 qb2 qb3 qc0 qc1 qc2 qc3 | with_reducible exact sv3 (Kp.refl Wc).drew qa0 qa1 qa2 qa3 qb0 qb1 qb2 qb3 qc0 qc1 qc2 qc3)
    (first
      | (go_at_call 21; ((with_reducible refine (HC9.out _ ?hq).mono ?_); (case hq => exact ((((((((((Kp.refl Wc).drew.step hbR_0).step hbR_1).step hbR_2).step hbR_3).step hbR_4).step hbR_5).step hbR_6).step hbR_7).step hbR_8)); rintro x wR_9 ⟨rfl, hbR_9⟩))
      | (go_at_call 11; ((with_reducible refine (HC8.out _ ?hq _ ?ha0).mono ?_); (case hq => exact (((((((((Kp.refl Wc).drew.step hbR_0).step hbR_1).step hbR_2).step hbR_3).step hbR_4).step hbR_5).step hbR_6).step hbR_7)); (case ha0 => exact MR_7); rintro x wR_8 ⟨rfl, hbR_8⟩))
      | (go_at_call 16; ((with_reducible refine (HC7.out _ ?hq _ ?ha0).mono ?_); (case hq => exact ((((((((Kp.refl Wc).drew.step hbR_0).step hbR_1).step hbR_2).step hbR_3).step hbR_4).step hbR_5).step hbR_6)); (case ha0 => exact MR_6); rintro x wR_7 ⟨vR_7, rfl, MR_7, hbR_7⟩; obtain ⟨pR_7, nR_7, cR_7, eR_7, gR_7, rfl⟩ := NumB.form MR_7))
      | (go_at_call 17; ((with_reducible refine (HC6.out _ ?hq).mono ?_); (case hq => exact (((((((Kp.refl Wc).drew.step hbR_0).step hbR_1).step hbR_2).step hbR_3).step hbR_4).step hbR_5)); rintro x wR_6 ⟨vR_6, rfl, MR_6, hbR_6⟩; obtain ⟨pR_6, nR_6, cR_6, eR_6, gR_6, rfl⟩ := NumB.form MR_6))
      | (go_at_call 19; ((with_reducible refine (HC5.out _ ?hq).mono ?_); (case hq => exact ((((((Kp.refl Wc).drew.step hbR_0).step hbR_1).step hbR_2).step hbR_3).step hbR_4)); rintro x wR_5 ⟨fR_5, rfl, hfR_5, hbR_5⟩; have oR_5 := FloOf.eq hfR_5 works_c; clear hfR_5))
      | (go_at_call 13; ((with_reducible refine (HC4.out _ ?hq).mono ?_); (case hq => exact (((((Kp.refl Wc).drew.step hbR_0).step hbR_1).step hbR_2).step hbR_3)); rintro x wR_4 ⟨rfl, hbR_4⟩))
      | (go_at_call 19; ((with_reducible refine (HC3.out _ ?hq).mono ?_); (case hq => exact ((((Kp.refl Wc).drew.step hbR_0).step hbR_1).step hbR_2)); rintro x wR_3 ⟨fR_3, rfl, hfR_3, hbR_3⟩; have oR_3 := FloOf.eq hfR_3 works_b; clear hfR_3))
      | (go_at_call 21; ((with_reducible refine (HC2.out _ ?hq).mono ?_); (case hq => exact (((Kp.refl Wc).drew.step hbR_0).step hbR_1)); rintro x wR_2 ⟨rfl, hbR_2⟩))
      | (go_at_call 20; ((with_reducible refine (HC1.out _ ?hq).mono ?_); (case hq => exact ((Kp.refl Wc).drew.step hbR_0)); rintro x wR_1 ⟨rfl, hbR_1⟩))
      | (go_at_call 19; ((with_reducible refine (HC0.out _ ?hq).mono ?_); (case hq => exact (Kp.refl Wc).drew); rintro x wR_0 ⟨fR_0, rfl, hfR_0, hbR_0⟩; have oR_0 := FloOf.eq hfR_0 works_a; clear hfR_0)))
  go_wp2_with fail
  go_ret
  exact ⟨rfl, bl_pack HW.out HW.out.size (((((((((((Kp.refl Wc).drew.step hbR_0).step hbR_1).step hbR_2).step hbR_3).step hbR_4).step hbR_5).step hbR_6).step hbR_7).step hbR_8).step hbR_9).out⟩
end Go.Proofs.YtiiipgbfhcbjdaaDoor
end

section
/- Package whole: contracts at the ends of what it keeps, and of no number. -/
namespace TV
theorem noR_high {q : Rat} {h : Int} (hh : HighOf q h) (h1 : 65536 < h) : ¬ OkR q := (wv_high hh h1).no
theorem noR_low {q : Rat} {h l : Int} (hh : HighOf q h) (hl : LowOf q l) (h1 : l < -65536) : ¬ OkR q := (wv_low hh hl h1).no
end TV
namespace Go.Proofs.YtiiipgbfhcbjdaaDoor
open Go.RowKit TV
set_option linter.unusedVariables false

/-- No number, as memory has it. -/
abbrev NONE : Value := .agg #[.slice none 0 0, .int .i64 0, .bool false, .bool true]
theorem none_num (P : Nat → Prop) (w : World) : WNum P w NONE none := rfl
def Ret1 (u : Value) (w : World) (x : Ending) (w' : World) : Prop := x = .returned u ∧ Below w.heap.size w w'

section
variable {F : Nat} {w : World}
theorem retW_none {P : Nat → Prop} {x : Ending} {w' : World} (h : RetW P none w x w') : Ret1 NONE w x w' := by
  obtain ⟨v, a, b, c⟩ := h
  cases b
  exact ⟨a, c⟩
theorem addQ {va vb : Value} {p q : Rat} {m k : Nat} (M : Nat) (ha : NumB F w va p m) (hb : NumB F w vb q k) (ht : Tb F w) (h1 : m + 1 ≤ M) (h2 : k + 1 ≤ M) (hok : OkR (p + q)) :
    Calls Tryd.prog 10 #[va, vb] w (RetB F (p + q) M w) := by
  refine (wAdd_calls ha.1 hb.1 ht.tab).mono ?_
  rintro x w' ⟨o, ho, v, a, b, c⟩
  cases wv_ok ho hok
  exact ⟨v, a, ⟨b.mono (up_le ht), ha.2.add hb.2 h1 h2⟩, c⟩
theorem subQ {va vb : Value} {p q : Rat} {m k : Nat} (M : Nat) (ha : NumB F w va p m) (hb : NumB F w vb q k) (ht : Tb F w) (h1 : m + 1 ≤ M) (h2 : k + 1 ≤ M) (hok : OkR (p - q)) :
    Calls Tryd.prog 12 #[va, vb] w (RetB F (p - q) M w) := by
  rw [Rat.sub_eq_add_neg] at hok ⊢
  refine (wSub_calls ha.1 hb.1 ht.tab).mono ?_
  rintro x w' ⟨o, ho, v, a, b, c⟩
  cases wv_ok ho hok
  exact ⟨v, a, ⟨b.mono (up_le ht), ha.2.add hb.2.neg h1 h2⟩, c⟩
theorem mulQ {va vb : Value} {p q : Rat} {m k : Nat} (M : Nat) (ha : NumB F w va p m) (hb : NumB F w vb q k) (ht : Tb F w) (h1 : m + k ≤ M) (hok : OkR (p * q)) :
    Calls Tryd.prog 14 #[va, vb] w (RetB F (p * q) M w) := by
  refine (wMul_calls ha.1 hb.1 ht.tab).mono ?_
  rintro x w' ⟨o, ho, v, a, b, c⟩
  cases wv_ok ho hok
  exact ⟨v, a, ⟨b.mono (up_le ht), (ha.2.mul hb.2).mono h1⟩, c⟩
theorem shiftQ {va : Value} {p : Rat} {m : Nat} (M : Nat) (k : Int) (ha : NumB F w va p m) (ht : Tb F w) (h1 : m + k.natAbs ≤ M) (hok : OkR (p * (2 : Rat) ^ k)) :
    Calls Tryd.prog 16 #[va, .int .i64 k] w (RetB F (p * (2 : Rat) ^ k) M w) := by
  refine (wShift_calls k ha.1 ht.tab).mono ?_
  rintro x w' ⟨o, ho, v, a, b, c⟩
  cases wv_ok ho hok
  exact ⟨v, a, ⟨b.mono (up_le ht), (ha.2.shift k).mono h1⟩, c⟩
theorem cmpQ {va vb : Value} {p q : Rat} {m k : Nat} (n : Int) (ha : NumB F w va p m) (hb : NumB F w vb q k) (ht : Tb F w) (hok : OkR (p - q)) (hn : rs (p - q) = n) :
    Calls Tryd.prog 11 #[va, vb] w (Ret1 (.int .i64 n) w) := by
  rw [← hn]
  rw [Rat.sub_eq_add_neg] at hok ⊢
  refine (wCmp_calls ha.1 hb.1 ht.tab).mono ?_
  rintro x w' ⟨o, ho, rfl, c⟩
  cases wv_ok ho hok
  exact ⟨rfl, c⟩
theorem addNo {va vb : Value} {p q : Rat} {m k : Nat} (ha : NumB F w va p m) (hb : NumB F w vb q k) (ht : Tb F w) (hno : ¬ OkR (p + q)) :
    Calls Tryd.prog 10 #[va, vb] w (Ret1 NONE w) := by
  refine (wAdd_calls ha.1 hb.1 ht.tab).mono ?_
  rintro x w' ⟨o, ho, h⟩
  cases (show o = none from ho.2 hno)
  exact retW_none h
theorem mulNo {va vb : Value} {p q : Rat} {m k : Nat} (ha : NumB F w va p m) (hb : NumB F w vb q k) (ht : Tb F w) (hno : ¬ OkR (p * q)) :
    Calls Tryd.prog 14 #[va, vb] w (Ret1 NONE w) := by
  refine (wMul_calls ha.1 hb.1 ht.tab).mono ?_
  rintro x w' ⟨o, ho, h⟩
  cases (show o = none from ho.2 hno)
  exact retW_none h
theorem shiftN {va : Value} {p : Rat} {m : Nat} (k : Int) (ha : NumB F w va p m) (ht : Tb F w) (hno : ¬ OkR (p * (2 : Rat) ^ k)) :
    Calls Tryd.prog 16 #[va, .int .i64 k] w (Ret1 NONE w) := by
  refine (wShift_calls k ha.1 ht.tab).mono ?_
  rintro x w' ⟨o, ho, h⟩
  cases (show o = none from ho.2 hno)
  exact retW_none h
theorem addNa {vb : Value} {q : Rat} {k : Nat} (hb : NumB F w vb q k) (ht : Tb F w) : Calls Tryd.prog 10 #[NONE, vb] w (Ret1 NONE w) := by
  refine (wAdd_calls (none_num _ w) hb.1 ht.tab).mono ?_
  rintro x w' ⟨o, rfl, h⟩
  exact retW_none h
theorem addNb {va : Value} {q : Rat} {k : Nat} (ha : NumB F w va q k) (ht : Tb F w) : Calls Tryd.prog 10 #[va, NONE] w (Ret1 NONE w) := by
  refine (wAdd_calls ha.1 (none_num _ w) ht.tab).mono ?_
  rintro x w' ⟨o, rfl, h⟩
  exact retW_none h
theorem subNN (ht : Tb F w) : Calls Tryd.prog 12 #[NONE, NONE] w (Ret1 NONE w) := by
  refine (wSub_calls (none_num (fun _ => True) w) (none_num _ w) ht.tab).mono ?_
  rintro x w' ⟨o, rfl, h⟩
  exact retW_none h
theorem subNb {va : Value} {q : Rat} {k : Nat} (ha : NumB F w va q k) (ht : Tb F w) : Calls Tryd.prog 12 #[va, NONE] w (Ret1 NONE w) := by
  refine (wSub_calls ha.1 (none_num _ w) ht.tab).mono ?_
  rintro x w' ⟨o, rfl, h⟩
  exact retW_none h
theorem mulNa {vb : Value} {q : Rat} {k : Nat} (hb : NumB F w vb q k) (ht : Tb F w) : Calls Tryd.prog 14 #[NONE, vb] w (Ret1 NONE w) := by
  refine (wMul_calls (none_num _ w) hb.1 ht.tab).mono ?_
  rintro x w' ⟨o, rfl, h⟩
  exact retW_none h
theorem mulNb {va : Value} {q : Rat} {k : Nat} (ha : NumB F w va q k) (ht : Tb F w) : Calls Tryd.prog 14 #[va, NONE] w (Ret1 NONE w) := by
  refine (wMul_calls ha.1 (none_num _ w) ht.tab).mono ?_
  rintro x w' ⟨o, rfl, h⟩
  exact retW_none h
theorem negNo : Calls Tryd.prog 15 #[NONE] w (Ret1 NONE w) := (wNeg_num (none_num (fun _ => True) w)).mono fun x w' h => retW_none h
theorem shiftNo (k : Int) (ht : Tb F w) : Calls Tryd.prog 16 #[NONE, .int .i64 k] w (Ret1 NONE w) := by
  refine (wShift_calls k (none_num (fun _ => True) w) ht.tab).mono ?_
  rintro x w' ⟨o, ho, h⟩
  cases (show o = none from ho)
  exact retW_none h
theorem cmpNa {vb : Value} {q : Rat} {k : Nat} (hb : NumB F w vb q k) (ht : Tb F w) : Calls Tryd.prog 11 #[NONE, vb] w (Ret1 (.int .i64 0) w) := by
  refine (wCmp_calls (none_num _ w) hb.1 ht.tab).mono ?_
  rintro x w' ⟨o, rfl, rfl, c⟩
  exact ⟨rfl, c⟩
theorem cmpNb {va : Value} {q : Rat} {k : Nat} (ha : NumB F w va q k) (ht : Tb F w) : Calls Tryd.prog 11 #[va, NONE] w (Ret1 (.int .i64 0) w) := by
  refine (wCmp_calls ha.1 (none_num _ w) ht.tab).mono ?_
  rintro x w' ⟨o, rfl, rfl, c⟩
  exact ⟨rfl, c⟩
theorem signNo : Calls Tryd.prog 13 #[NONE] w (Ret1 (.int .i64 0) w) := wSign_num (none_num (fun _ => True) w)
theorem okNo : Calls Tryd.prog 18 #[NONE] w (Ret1 (.bool false) w) := wOK_calls _ _ _ _ _
theorem floatNo : Calls Tryd.prog 19 #[NONE] w (Ret1 (.float .f64 0) w) := float_none 0 false true w
theorem ofNo (x : Nat) (h1 : x < 18446744073709551616) (h : ¬ rung x < inf) (ht : Tb F w) : Calls Tryd.prog 22 #[.float .f64 x] w (Ret1 NONE w) := by
  have := wOf_calls x h1 w ht.tab
  rw [if_neg h] at this
  exact this.mono fun x w' h => retW_none h
end
end Go.Proofs.YtiiipgbfhcbjdaaDoor
end

section
/- Infinite floats and no floats, as WholeNames meets them. -/
namespace Go.Proofs.YtiiipgbfhcbjdaaDoor
open Go.RowKit TV
set_option linter.unusedVariables false
set_option exponentiation.threshold 3000

theorem same_ret {x : Ending} {v : Value} {w w' : World} (h : x = .returned v ∧ w = w') : Ret1 v w x w' := ⟨h.1, h.2 ▸ Below.refl _ _⟩
theorem inf1R (w : World) : Calls Tryd.prog 23 #[.int .i64 1] w (Ret1 (.float .f64 9218868437227405312) w) := (inf1_calls w).mono fun _ _ h => same_ret h
theorem inf2R (w : World) : Calls Tryd.prog 23 #[.int .i64 (-1)] w (Ret1 (.float .f64 18442240474082181120) w) := (inf2_calls w).mono fun _ _ h => same_ret h
theorem nanR (w : World) : Calls Tryd.prog 24 #[] w (Ret1 (.float .f64 9221120237041090561) w) := by
  have k2 := fun (x : Int) (w : World) => callFrom x w
  go_enter Tryd.func24, Tryd.ntmps24
  go_wp2
  go_ret
  exact ⟨rfl, Below.refl _ _⟩
theorem isinfP (w : World) : Calls Tryd.prog 25 #[.float .f64 9218868437227405312, .int .i64 1] w (Ret1 (.bool true) w) := by
  have h : (FloatKind.f64.format.order 9218868437227405312 9218868437227405311 == some .gt) = true := by decide +kernel
  go_enter Tryd.func25, Tryd.ntmps25
  go_wp2_with fail
  go_ret
  exact ⟨ret_bool h, Below.refl _ _⟩
theorem isinfM (w : World) : Calls Tryd.prog 25 #[.float .f64 18442240474082181120, .int .i64 (-1)] w (Ret1 (.bool true) w) := by
  have h : (FloatKind.f64.format.order 9218868437227405312 9218868437227405311 == some .gt) = true := by decide +kernel
  go_enter Tryd.func25, Tryd.ntmps25
  go_wp2_with fail
  go_ret
  exact ⟨ret_bool h, Below.refl _ _⟩

theorem gq_le {k : Int} (h : 1024 ≤ k) : gq ≤ (2 : Rat) ^ k := by
  have h1 : gq ≤ (2 : Rat) ^ (1024 : Int) := by
    unfold gq
    have e : (2 : Rat) ^ (1024 : Int) = ((18014398509481984 : Nat) : Rat) * (2 : Rat) ^ (970 : Int) := by
      rw [show (1024 : Int) = ((54 : Nat) : Int) + 970 by decide, two_zpow_add, two_zpow_nat]
    rw [e]
    exact Rat.mul_le_mul_of_nonneg_right (Rat.natCast_le_natCast.2 (by decide)) (Rat.le_of_lt (two_zpow_pos _))
  exact Rat.le_trans h1 (zpow_le h)
theorem gq_pos : 0 < gq := by unfold gq; exact Rat.mul_pos (by decide) (two_zpow_pos _)
theorem rnd_far {q : Rat} (h : gq ≤ q) : RndQ q inf := Or.inr ⟨rfl, by rw [great2]; grind⟩
theorem FloOf.inf {q : Rat} {f : Nat} (h : FloOf q f) (hq : gq ≤ q) : f = 9218868437227405312 := by
  have hp := gq_pos
  have h0 : ¬ q < 0 := by grind
  obtain ⟨h1, h2, h3⟩ := h
  rw [if_neg h0] at h3
  have hr := h3.uniq (rnd_far hq)
  have hi := inf_eq
  have hs : sgn f = false := by
    rcases h2 with h | h
    · omega
    · rw [h]; exact decide_eq_false h0
  have := flo_eta h1
  rw [hs, hr, flo_false, hi] at this
  exact this.symm
theorem FloOf.minf {q : Rat} {f : Nat} (h : FloOf (-q) f) (hq : gq ≤ q) : f = 18442240474082181120 := by
  have hp := gq_pos
  have h0 : -q < 0 := by grind
  obtain ⟨h1, h2, h3⟩ := h
  rw [if_pos h0, Rat.neg_neg] at h3
  have hr := h3.uniq (rnd_far hq)
  have hi := inf_eq
  have hs : sgn f = true := by
    rcases h2 with h | h
    · omega
    · rw [h]; exact decide_eq_true h0
  have e := flo_eta h1
  rw [hs, hr, hi] at e
  have e2 : flo true 9218868437227405312 = 18442240474082181120 := by decide
  rw [e2] at e; exact e.symm
section
variable {F : Nat} {w : World}
theorem floatInf {va : Value} {q : Rat} {m : Nat} (ha : NumB F w va q m) (hq : gq ≤ q) : Calls Tryd.prog 19 #[va] w (Ret1 (.float .f64 9218868437227405312) w) := by
  refine (floatB ha).mono ?_
  rintro x w' ⟨f, rfl, hf, hb⟩
  rw [hf.inf hq]; exact ⟨rfl, hb⟩
theorem floatMinf {va : Value} {q : Rat} {m : Nat} (ha : NumB F w va (-q) m) (hq : gq ≤ q) : Calls Tryd.prog 19 #[va] w (Ret1 (.float .f64 18442240474082181120) w) := by
  refine (floatB ha).mono ?_
  rintro x w' ⟨f, rfl, hf, hb⟩
  rw [hf.minf hq]; exact ⟨rfl, hb⟩
end
theorem flo_tiny {k : Int} (h : k ≤ -1076) : FloOf ((2 : Rat) ^ k) 0 := by
  have hp := two_zpow_pos k
  refine ⟨by omega, Or.inl rfl, ?_⟩
  rw [if_neg (by grind)]
  refine Or.inl ⟨inf_pos, Or.inl ?_, Or.inl rfl⟩
  have h1 := zpow_le h
  have h2 : (2 : Rat) ^ (-1074 : Int) = (2 : Rat) ^ (-1076 : Int) * 4 := by
    rw [show (-1074 : Int) = -1076 + ((2 : Nat) : Int) by decide, two_zpow_add, two_zpow_nat]; rfl
  have h3 := two_zpow_pos (-1076)
  have e : ((mag 0 + mag (0 + 1) : Nat) : Rat) * uu = uu := by rw [mag_zero, mag_small (by omega)]; simp
  rw [show rung 0 = 0 from rfl, e]; unfold uu; rw [h2]
  generalize (2 : Rat) ^ (-1076 : Int) = y at *
  generalize (2 : Rat) ^ k = z at *
  clear h2 e
  grind
end Go.Proofs.YtiiipgbfhcbjdaaDoor
end
