/- Texts of one kind, joined. -/
import Derived.Test.YtiihokgjplpceaaDoorWiA
import Derived.Test.YtiihokgjplpceaaDoorNwD
import Derived.Test.YtiihokgjplpceaaDoorWhJ
import Derived.Test.YtiihokgjplpceaaDoorNwC

section
/- Package whole: numbers that have a bound, and the contracts of numbers that stay within what whole keeps. -/
namespace TV
/-- q is a whole multiple of 2^-m, and below 2^m. -/
def Bx (m : Nat) (q : Rat) : Prop := ∃ n : Int, q = (n : Rat) * (2 : Rat) ^ (-(m : Int)) ∧ n.natAbs < 2 ^ (2 * m)

theorem Bx.zero (m : Nat) : Bx m 0 := ⟨0, by simp, Nat.two_pow_pos _⟩
theorem Bx.mono {m k : Nat} {q : Rat} (h : Bx m q) (hk : m ≤ k) : Bx k q := by
  obtain ⟨n, h1, h2⟩ := h
  obtain ⟨d, rfl⟩ : ∃ d, k = m + d := ⟨k - m, by omega⟩
  refine ⟨n * ((2 ^ d : Nat) : Int), ?_, ?_⟩
  · rw [h1]; push_cast
    rw [show ((2 : Rat) ^ d) = ((2 ^ d : Nat) : Rat) by push_cast; rfl, ← two_zpow_nat, Rat.mul_assoc, ← two_zpow_add]
    congr 2; omega
  · rw [Int.natAbs_mul, Int.natAbs_natCast]
    calc n.natAbs * 2 ^ d < 2 ^ (2 * m) * 2 ^ d := Nat.mul_lt_mul_of_pos_right h2 (Nat.two_pow_pos _)
      _ = 2 ^ (2 * m + d) := (Nat.pow_add ..).symm
      _ ≤ 2 ^ (2 * (m + d)) := Nat.pow_le_pow_right (by omega) (by omega)
theorem Bx.neg {m : Nat} {q : Rat} (h : Bx m q) : Bx m (-q) := by
  obtain ⟨n, h1, h2⟩ := h
  refine ⟨-n, by rw [h1]; push_cast; grind, by rw [Int.natAbs_neg]; exact h2⟩
theorem Bx.add {m k : Nat} {p q : Rat} (hp : Bx m p) (hq : Bx k q) {M : Nat} (h1 : m + 1 ≤ M) (h2 : k + 1 ≤ M) : Bx M (p + q) := by
  obtain ⟨L, rfl⟩ : ∃ L, M = L + 1 := ⟨M - 1, by omega⟩
  obtain ⟨a, a1, a2⟩ := hp.mono (show m ≤ L by omega)
  obtain ⟨b, b1, b2⟩ := hq.mono (show k ≤ L by omega)
  refine Bx.mono (m := L + 1) ⟨(a + b) * 2, ?_, ?_⟩ (Nat.le_refl _)
  · rw [a1, b1]; push_cast
    have e : (2 : Rat) ^ (-(L : Int)) = 2 * (2 : Rat) ^ (-((L : Int) + 1)) := by
      have : (2 : Rat) ^ (1 : Int) = 2 := by rw [Rat.zpow_one]
      have e2 := two_zpow_add 1 (-((L : Int) + 1))
      rw [this] at e2
      rw [← e2]; congr 1; omega
    rw [e]; grind
  · have e : (2 : Nat) ^ (2 * (L + 1)) = 2 ^ (2 * L) * 4 := by rw [show 2 * (L + 1) = 2 * L + 2 by omega, Nat.pow_add]
    omega
theorem Bx.mul {m k : Nat} {p q : Rat} (hp : Bx m p) (hq : Bx k q) : Bx (m + k) (p * q) := by
  obtain ⟨a, a1, a2⟩ := hp
  obtain ⟨b, b1, b2⟩ := hq
  refine ⟨a * b, ?_, ?_⟩
  · rw [a1, b1]; push_cast
    have e := two_zpow_add (-(m : Int)) (-(k : Int))
    rw [show -((m : Int) + (k : Int)) = -(m : Int) + -(k : Int) by omega, e]
    grind
  · rw [Int.natAbs_mul, show 2 * (m + k) = 2 * m + 2 * k by omega, Nat.pow_add]
    exact Nat.mul_lt_mul'' a2 b2
theorem Bx.shift {m : Nat} {q : Rat} (h : Bx m q) (k : Int) : Bx (m + k.natAbs) (q * (2 : Rat) ^ k) := by
  obtain ⟨n, h1, h2⟩ := h
  obtain ⟨d, hd⟩ : ∃ d : Nat, (d : Int) = k.natAbs + k := ⟨(k.natAbs + k).toNat, by omega⟩
  refine ⟨n * ((2 ^ d : Nat) : Int), ?_, ?_⟩
  · rw [h1]; push_cast
    rw [show ((2 : Rat) ^ d) = ((2 ^ d : Nat) : Rat) by push_cast; rfl, ← two_zpow_nat, Rat.mul_assoc, Rat.mul_assoc, ← two_zpow_add, ← two_zpow_add]
    congr 2; omega
  · rw [Int.natAbs_mul, Int.natAbs_natCast]
    calc n.natAbs * 2 ^ d < 2 ^ (2 * m) * 2 ^ d := Nat.mul_lt_mul_of_pos_right h2 (Nat.two_pow_pos _)
      _ = 2 ^ (2 * m + d) := (Nat.pow_add ..).symm
      _ ≤ 2 ^ (2 * (m + k.natAbs)) := Nat.pow_le_pow_right (by omega) (by omega)
theorem Bx.int {n : Int} {m : Nat} (h : n.natAbs < 2 ^ m) : Bx m (n : Rat) := by
  refine ⟨n * ((2 ^ m : Nat) : Int), ?_, ?_⟩
  · push_cast
    rw [show ((2 : Rat) ^ m) = ((2 ^ m : Nat) : Rat) by push_cast; rfl, ← two_zpow_nat, Rat.mul_assoc, ← two_zpow_add, show (m : Int) + -(m : Int) = 0 by omega, Rat.zpow_zero, Rat.mul_one]
  · rw [Int.natAbs_mul, Int.natAbs_natCast, show 2 * m = m + m by omega, Nat.pow_add]
    exact Nat.mul_lt_mul_of_pos_right h (Nat.two_pow_pos _)

/-- A whole number that is not nought is an odd one times a power of two. -/
theorem odd_part : ∀ (N : Nat) (n : Int), n.natAbs ≤ N → n ≠ 0 → ∃ (m : Int) (j : Nat), m % 2 = 1 ∧ n = m * ((2 ^ j : Nat) : Int)
  | 0, n, h, h0 => absurd (Int.natAbs_eq_zero.1 (by omega)) h0
  | N + 1, n, h, h0 => by
    by_cases c : n % 2 = 1
    · exact ⟨n, 0, c, by simp⟩
    · obtain ⟨m, j, h1, h2⟩ := odd_part N (n / 2) (by omega) (by omega)
      refine ⟨m, j + 1, h1, ?_⟩
      have e : n = n / 2 * 2 := by omega
      rw [Nat.pow_succ, Int.natCast_mul, ← Int.mul_assoc, ← h2]; exact e

theorem nat_high {N : Nat} (h : N ≠ 0) (l : Int) : (2 : Rat) ^ ((N.log2 : Int) + l) ≤ (N : Rat) * (2 : Rat) ^ l ∧ (N : Rat) * (2 : Rat) ^ l < (2 : Rat) ^ ((N.log2 : Int) + l + 1) := by
  have h1 : 2 ^ N.log2 ≤ N := Nat.log2_self_le h
  have h2 : N < 2 ^ (N.log2 + 1) := Nat.lt_log2_self
  constructor
  · rw [two_zpow_add, two_zpow_nat]
    exact Rat.mul_le_mul_of_nonneg_right (by exact_mod_cast h1) (Rat.le_of_lt (two_zpow_pos _))
  · rw [show (N.log2 : Int) + l + 1 = ((N.log2 + 1 : Nat) : Int) + l by omega, two_zpow_add, two_zpow_nat]
    exact Rat.mul_lt_mul_of_pos_right (by exact_mod_cast h2) (two_zpow_pos _)

/-- The ends of a number that has a bound. -/
theorem Bx.ends {m : Nat} {q : Rat} (h : Bx m q) (h0 : q ≠ 0) : ∃ h l : Int, HighOf q h ∧ LowOf q l ∧ h < m ∧ -(m : Int) ≤ l := by
  obtain ⟨n, h1, h2⟩ := h
  have hn : n ≠ 0 := by intro hc; rw [hc] at h1; exact h0 (by rw [h1]; simp)
  have hN : n.natAbs ≠ 0 := by omega
  obtain ⟨x, j, hx, hj⟩ := odd_part _ n (Nat.le_refl _) hn
  obtain ⟨g1, g2⟩ := nat_high hN (-(m : Int))
  have hlog : n.natAbs.log2 < 2 * m := (Nat.log2_lt hN).2 h2
  refine ⟨(n.natAbs.log2 : Int) + -(m : Int), (j : Int) + -(m : Int), ?_, ⟨x, hx, ?_⟩, by omega, by omega⟩
  · have e : ((n.natAbs : Nat) : Rat) * (2 : Rat) ^ (-(m : Int)) = if n < 0 then -q else q := by
      by_cases c : n < 0
      · rw [if_pos c, h1]
        have : ((n.natAbs : Nat) : Rat) = ((-n : Int) : Rat) := by
          rw [show (-n : Int) = ((n.natAbs : Nat) : Int) by omega]; rfl
        rw [this]; push_cast; grind
      · rw [if_neg c, h1]
        have : ((n.natAbs : Nat) : Rat) = (n : Rat) := by
          conv => rhs; rw [show n = ((n.natAbs : Nat) : Int) by omega]
          rfl
        rw [this]
    rw [e] at g1 g2
    by_cases c : n < 0
    · rw [if_pos c] at g1 g2; exact Or.inr ⟨g1, g2⟩
    · rw [if_neg c] at g1 g2; exact Or.inl ⟨g1, g2⟩
  · rw [h1, hj, two_zpow_add, two_zpow_nat]; push_cast; grind

theorem Bx.ok {m : Nat} {q : Rat} (h : Bx m q) (hm : m ≤ 65536) : OkR q := by
  by_cases h0 : q = 0
  · exact Or.inl h0
  · obtain ⟨a, b, h1, h2, h3, h4⟩ := h.ends h0
    exact Or.inr ⟨a, b, h1, h2, by omega, by omega⟩
end TV
namespace Go.Proofs.YtiihokgjplpceaaDoor
open Go.RowKit TV
set_option linter.unusedVariables false

set_option exponentiation.threshold 3000 in
theorem fr_bound {x : Nat} (h : rung x < inf) : Bx 1074 (fr x) := by
  refine ⟨fv x, rfl, ?_⟩
  rw [fv_natAbs]
  have h1 := mag_lt h
  rw [mag_inf] at h1
  refine Nat.lt_of_lt_of_le h1 ?_
  rw [show 9007199254740992 = 2 ^ 53 by decide, ← Nat.pow_add]
  exact Nat.pow_le_pow_right (by omega) (by omega)

/-- A number in memory with a bound, its words in blocks from F on. -/
def NumB (F : Nat) (w : World) (v : Value) (q : Rat) (m : Nat) : Prop := WNum (fun b => F ≤ b) w v (some q) ∧ Bx m q
theorem NumB.keep {F : Nat} {w w1 : World} {v : Value} {q : Rat} {m : Nat} (h : NumB F w v q m) (hb : Below w.heap.size w w1) : NumB F w1 v q m := ⟨h.1.keep hb, h.2⟩
theorem NumB.less {F G : Nat} {w : World} {v : Value} {q : Rat} {m : Nat} (h : NumB F w v q m) (hG : G ≤ F) : NumB G w v q m := ⟨h.1.mono fun _ h => Nat.le_trans hG h, h.2⟩
theorem NumB.form {F : Nat} {w : World} {v : Value} {q : Rat} {m : Nat} (h : NumB F w v q m) : ∃ p n c e neg, v = .agg #[.slice p n c, .int .i64 e, .bool neg, .bool false] := by
  obtain ⟨sl, ds, e, neg, rfl, hs, -⟩ := h.1
  obtain ⟨p, c, rfl⟩ := hs.formMap
  exact ⟨_, _, _, _, _, rfl⟩
theorem NumB.put4 {F : Nat} {w : World} {v : Value} {q : Rat} {m b : Nat} (h : NumB F w v q m) (hb : b < F) (u0 u1 u2 u3 : Value) :
    NumB F ((((w.setCell ⟨b, 0, none⟩ u0).setCell ⟨b, 1, none⟩ u1).setCell ⟨b, 2, none⟩ u2).setCell ⟨b, 3, none⟩ u3) v q m :=
  ⟨h.1.put4 (fun h => by omega) _ _ _ _, h.2⟩
/-- What a contract here answers: a number with a bound. -/
def RetB (F : Nat) (q : Rat) (m : Nat) (w : World) (x : Ending) (w' : World) : Prop := ∃ v, x = .returned v ∧ NumB F w' v q m ∧ Below w.heap.size w w'
/-- The table of bits, and where numbers' words may lie. -/
structure Tb (F : Nat) (w : World) : Prop where
  tab : TabOk w
  le : F ≤ w.heap.size
theorem Tb.keep {F : Nat} {w w1 : World} (h : Tb F w) (hb : Below w.heap.size w w1) : Tb F w1 := ⟨h.tab.keep hb, Nat.le_trans h.le hb.size⟩

theorem wv_ok {q : Rat} {o : Option Rat} (h : WvOf q o) (hq : OkR q) : o = some q := h.1 hq
theorem up_le {F : Nat} {w : World} (h : Tb F w) (b : Nat) (hb : F ≤ b ∨ w.heap.size ≤ b) : F ≤ b := hb.elim id (Nat.le_trans h.le)

section
variable {F : Nat} {w : World}
theorem ofB (x : Nat) (h1 : x < 18446744073709551616) (h : rung x < inf) (ht : Tb F w) :
    Calls Tryd.prog 89 #[.float .f64 x] w (RetB F (fr x) 1074 w) := by
  have := wOf_calls x h1 w ht.tab
  rw [if_pos h] at this
  exact this.mono fun x w' ⟨v, a, b, c⟩ => ⟨v, a, ⟨b.mono fun _ h => Nat.le_trans ht.le h, fr_bound h⟩, c⟩
theorem addB {va vb : Value} {p q : Rat} {m k : Nat} (M : Nat) (ha : NumB F w va p m) (hb : NumB F w vb q k) (ht : Tb F w) (h1 : m + 1 ≤ M) (h2 : k + 1 ≤ M) (h3 : M ≤ 65536) :
    Calls Tryd.prog 90 #[va, vb] w (RetB F (p + q) M w) := by
  have hM := ha.2.add hb.2 h1 h2
  refine (wAdd_calls ha.1 hb.1 ht.tab).mono ?_
  rintro x w' ⟨o, ho, v, a, b, c⟩
  cases wv_ok ho (hM.ok h3)
  exact ⟨v, a, ⟨b.mono (up_le ht), hM⟩, c⟩
theorem subB {va vb : Value} {p q : Rat} {m k : Nat} (M : Nat) (ha : NumB F w va p m) (hb : NumB F w vb q k) (ht : Tb F w) (h1 : m + 1 ≤ M) (h2 : k + 1 ≤ M) (h3 : M ≤ 65536) :
    Calls Tryd.prog 88 #[va, vb] w (RetB F (p - q) M w) := by
  have hM := ha.2.add hb.2.neg h1 h2
  refine (wSub_calls ha.1 hb.1 ht.tab).mono ?_
  rintro x w' ⟨o, ho, v, a, b, c⟩
  cases wv_ok ho (hM.ok h3)
  rw [Rat.sub_eq_add_neg]
  exact ⟨v, a, ⟨b.mono (up_le ht), hM⟩, c⟩
theorem negB {va : Value} {p : Rat} {m : Nat} (ha : NumB F w va p m) :
    Calls Tryd.prog 92 #[va] w (RetB F (-p) m w) :=
  (wNeg_num ha.1).mono fun x w' ⟨v, a, b, c⟩ => ⟨v, a, ⟨b, ha.2.neg⟩, c⟩
theorem signB {va : Value} {p : Rat} {m : Nat} (ha : NumB F w va p m) :
    Calls Tryd.prog 86 #[va] w fun x w' => x = .returned (.int .i64 (rs p)) ∧ Below w.heap.size w w' := wSign_num ha.1
theorem signBn {va : Value} {p : Rat} {m : Nat} (n : Int) (ha : NumB F w va p m) (hn : rs p = n) :
    Calls Tryd.prog 86 #[va] w fun x w' => x = .returned (.int .i64 n) ∧ Below w.heap.size w w' := by rw [← hn]; exact wSign_num ha.1
theorem floatB {va : Value} {p : Rat} {m : Nat} (ha : NumB F w va p m) :
    Calls Tryd.prog 87 #[va] w (RetF p w) := wFloat_calls ha.1
theorem NumB.zero (F : Nat) (w : World) : NumB F w (.agg #[.slice none 0 0, .int .i64 0, .bool false, .bool false]) 0 0 :=
  ⟨⟨.slice none 0 0, [], 0, false, rfl, Or.inl ⟨rfl, rfl⟩, fun _ _ _ h => by simp at h, by simp [W.nv, W.dval], Or.inl rfl, Or.inl ⟨rfl, rfl, rfl, rfl⟩⟩, Bx.zero 0⟩
theorem high_no (e : Int) (w : World) :
    Calls Tryd.prog 98 #[.agg #[.slice none 0 0, .int .i64 e]] w fun x w' => x = .returned (.int .i64 0) ∧ Below w.heap.size w w' := by
  go_enter Tryd.func98, Tryd.ntmps98
  go_wp2_with fail
  go_ret
  exact ⟨rfl, (Below.refl w.heap.size w).alloc (Nat.le_refl _) _⟩
theorem low_no (e : Int) (w : World) :
    Calls Tryd.prog 100 #[.agg #[.slice none 0 0, .int .i64 e]] w fun x w' => x = .returned (.int .i64 0) ∧ Below w.heap.size w w' := by
  go_enter Tryd.func100, Tryd.ntmps100
  go_wp2_with fail
  go_ret
  exact ⟨rfl, (Below.refl w.heap.size w).alloc (Nat.le_refl _) _⟩
theorem highB {p : Option Addr} {n c : Nat} {e : Int} {g : Bool} {q : Rat} {m : Nat} (h : Int) (ha : NumB F w (.agg #[.slice p n c, .int .i64 e, .bool g, .bool false]) q m) (hh : HighOf q h ∨ q = 0 ∧ h = 0) :
    Calls Tryd.prog 98 #[.agg #[.slice p n c, .int .i64 e]] w fun x w' => x = .returned (.int .i64 h) ∧ Below w.heap.size w w' := by
  obtain ⟨⟨sl, ds, e', ng, hv, hs, -, hq, -, cc⟩, -⟩ := ha
  simp only [Value.agg.injEq, Array.mk.injEq, List.cons.injEq, Value.int.injEq, Value.bool.injEq, true_and, and_true] at hv
  obtain ⟨rfl, rfl, rfl⟩ := hv
  rcases cc with ⟨rfl, rfl, rfl, hsl⟩ | ⟨hm, -⟩
  · rw [hsl]
    have z : q = 0 := by rw [hq]; simp [W.nv, W.dval]
    rcases hh with h1 | ⟨-, h1⟩
    · exact absurd z h1.ne
    · subst h1; exact high_no _ w
  · refine (high_calls _ _ ds w hs hm).mono ?_
    rintro x w' ⟨⟨h', rfl, h2, -⟩, hb⟩
    have h3 := h2 (sg g) (sg_cases g)
    rw [← hq] at h3
    rcases hh with h1 | ⟨h1, -⟩
    · rw [h3.uniq h1]; exact ⟨rfl, hb⟩
    · exact absurd h1 h3.ne
theorem lowB {p : Option Addr} {n c : Nat} {e : Int} {g : Bool} {q : Rat} {m : Nat} (l : Int) (ha : NumB F w (.agg #[.slice p n c, .int .i64 e, .bool g, .bool false]) q m) (ht : Tb F w) (hl : LowOf q l ∨ q = 0 ∧ l = 0) :
    Calls Tryd.prog 100 #[.agg #[.slice p n c, .int .i64 e]] w fun x w' => x = .returned (.int .i64 l) ∧ Below w.heap.size w w' := by
  obtain ⟨⟨sl, ds, e', ng, hv, hs, -, hq, -, cc⟩, -⟩ := ha
  simp only [Value.agg.injEq, Array.mk.injEq, List.cons.injEq, Value.int.injEq, Value.bool.injEq, true_and, and_true] at hv
  obtain ⟨rfl, rfl, rfl⟩ := hv
  rcases cc with ⟨rfl, rfl, rfl, hsl⟩ | ⟨hm, -⟩
  · rw [hsl]
    have z : q = 0 := by rw [hq]; simp [W.nv, W.dval]
    rcases hl with ⟨x, h1, h2⟩ | ⟨-, h1⟩
    · exfalso
      rw [z] at h2
      have h3 : (x : Rat) = 0 := by
        rcases Rat.mul_eq_zero.1 h2.symm with h | h
        · exact h
        · exact absurd h (two_ne l)
      have h4 : x = 0 := by exact_mod_cast h3
      omega
    · subst h1; exact low_no _ w
  · refine (low_calls _ _ ds w hs hm ht.tab).mono ?_
    rintro x w' ⟨⟨h', rfl, h2, -⟩, hb⟩
    have h3 := h2 (sg g) (sg_cases g)
    rw [← hq] at h3
    rcases hl with h1 | ⟨h1, -⟩
    · rw [h3.uniq h1]; exact ⟨rfl, hb⟩
    · exfalso
      obtain ⟨x, h4, h5⟩ := h3
      rw [h1] at h5
      have h6 : (x : Rat) = 0 := by
        rcases Rat.mul_eq_zero.1 h5.symm with h | h
        · exact h
        · exact absurd h (two_ne _)
      have h7 : x = 0 := by exact_mod_cast h6
      omega
end
end Go.Proofs.YtiihokgjplpceaaDoor
end

section
/- The nearest float, its order. Plain numbers. -/
namespace TV
set_option exponentiation.threshold 3000

theorem RndQ.le_inf {q : Rat} {r : Nat} (h : RndQ q r) : r ≤ inf := by
  rcases h with ⟨h, -⟩ | ⟨h, -⟩ <;> omega
/-- What is greater has no lesser rung. -/
theorem RndQ.mono {p q : Rat} {r s : Nat} (hp : RndQ p r) (hq : RndQ q s) (h : p ≤ q) : r ≤ s := by
  apply Classical.byContradiction
  intro hn
  have hi := inf_eq
  have hri := hp.le_inf
  obtain ⟨t, rfl⟩ : ∃ t, r = t + 1 := ⟨r - 1, by omega⟩
  have hup : 2 * q < ((mag s + mag (s + 1) : Nat) : Rat) * uu ∨ (2 * q = ((mag s + mag (s + 1) : Nat) : Rat) * uu ∧ s % 2 = 0) := by
    rcases hq with ⟨-, h, -⟩ | ⟨h, -⟩
    · exact h
    · omega
  have hlo : ((mag t + mag (t + 1) : Nat) : Rat) * uu < 2 * p ∨ (((mag t + mag (t + 1) : Nat) : Rat) * uu = 2 * p ∧ ((t + 1) % 2 = 0 ∨ t + 1 = inf)) := by
    rcases hp with ⟨-, -, h⟩ | ⟨h1, h2⟩
    · rcases h with h | h | ⟨h, h'⟩
      · omega
      · exact Or.inl h
      · exact Or.inr ⟨h, Or.inl h'⟩
    · have e : inf - 1 = t := by omega
      rw [e, ← h1] at h2
      rcases Rat.le_iff_lt_or_eq.1 h2 with h | h
      · exact Or.inl h
      · exact Or.inr ⟨h, Or.inr h1⟩
  have hpar : s % 2 = 0 → s = t → ((t + 1) % 2 = 0 ∨ t + 1 = inf) → False := by
    intro a b c
    rcases c with c | c
    · omega
    · rw [hi] at c; omega
  have hm : mag s + mag (s + 1) ≤ mag t + mag (t + 1) := by
    have m1 : mag s ≤ mag t := mag_le (by omega)
    have m2 : mag (s + 1) ≤ mag (t + 1) := mag_le (by omega)
    omega
  have hm2 : s ≠ t → mag s + mag (s + 1) < mag t + mag (t + 1) := by
    intro hne
    have m1 : mag s < mag t := mag_lt (by omega)
    have m2 : mag (s + 1) ≤ mag (t + 1) := mag_le (by omega)
    omega
  have hu := uu_pos
  obtain ⟨A, hA⟩ : ∃ A : Rat, A = ((mag s + mag (s + 1) : Nat) : Rat) * uu := ⟨_, rfl⟩
  obtain ⟨B, hB⟩ : ∃ B : Rat, B = ((mag t + mag (t + 1) : Nat) : Rat) * uu := ⟨_, rfl⟩
  have hAB : A ≤ B := by rw [hA, hB]; exact Rat.mul_le_mul_of_nonneg_right (Rat.natCast_le_natCast.2 hm) (Rat.le_of_lt hu)
  have hAB2 : s ≠ t → A < B := by intro hne; rw [hA, hB]; exact Rat.mul_lt_mul_of_pos_right (Rat.natCast_lt_natCast.2 (hm2 hne)) hu
  rw [← hA] at hup
  rw [← hB] at hlo
  have h2 : 2 * p ≤ 2 * q := by grind
  rcases hup with h3 | ⟨h3, h4⟩
  · rcases hlo with h5 | ⟨h5, -⟩ <;> grind
  · rcases hlo with h5 | ⟨h5, h6⟩
    · grind
    · by_cases c : s = t
      · exact hpar h4 c h6
      · have := hAB2 c; grind
theorem RndQ.uniq {q : Rat} {r s : Nat} (hp : RndQ q r) (hq : RndQ q s) : r = s := Nat.le_antisymm (hp.mono hq Rat.le_refl) (hq.mono hp Rat.le_refl)
theorem RndQ.exact {r : Nat} (h : r < inf) : RndQ ((mag r : Rat) * uu) r := by
  have h1 := near_q (near_exact 0 r)
  rw [Nat.min_eq_left (Nat.le_of_lt h)] at h1
  have e : ((mag r * 2 ^ 0 : Nat) : Rat) * (2 : Rat) ^ (-1074 - ((0 : Nat) : Int)) = (mag r : Rat) * uu := by unfold uu; simp
  rw [e] at h1; exact h1

/-- Floats that are numbers or infinite stand as their values do. -/
theorem order_le {x y : Nat} (hx : rung x ≤ inf) (hy : rung y ≤ inf) : Ieee.double.order x y = some (compare (fv x) (fv y)) := by
  have key : ∀ {a b : Nat}, rung a < inf → rung b = inf → (sgn b = true → fv b < fv a) ∧ (sgn b = false → fv a < fv b) := by
    intro a b ha hb
    have hm := mag_lt ha
    have h1 : fv a ≤ mag (rung a) ∧ -(mag (rung a) : Int) ≤ fv a := by unfold fv sm; split <;> omega
    constructor
    · intro hs
      have : fv b = -(mag inf : Int) := by unfold fv sm; rw [hs, hb]; rfl
      omega
    · intro hs
      have : fv b = (mag inf : Int) := by unfold fv sm; rw [hs, hb]; rfl
      omega
  rcases Nat.lt_or_ge (rung x) inf with hx1 | hx1
  · rcases Nat.lt_or_ge (rung y) inf with hy1 | hy1
    · exact order_fin hx1 hy1
    · have hy2 : rung y = inf := Nat.le_antisymm hy hy1
      rw [order_fin_inf hx1 hy2]
      obtain ⟨k1, k2⟩ := key hx1 hy2
      cases hs : sgn y
      · have := k2 hs
        simp only [Bool.false_eq_true, if_false]; rw [Int.compare_eq_lt.2 this]
      · have := k1 hs
        simp only [if_true]; rw [Int.compare_eq_gt.2 this]
  · have hx2 : rung x = inf := Nat.le_antisymm hx hx1
    rcases Nat.lt_or_ge (rung y) inf with hy1 | hy1
    · rw [order_inf_fin hx2 hy1]
      obtain ⟨k1, k2⟩ := key hy1 hx2
      cases hs : sgn x
      · have := k2 hs
        simp only [Bool.false_eq_true, if_false]; rw [Int.compare_eq_gt.2 this]
      · have := k1 hs
        simp only [if_true]; rw [Int.compare_eq_lt.2 this]
    · have hy2 : rung y = inf := Nat.le_antisymm hy hy1
      rw [order_inf_inf hx2 hy2]
      have hp : 0 < mag inf := by have := mag_lt inf_pos; rw [mag_zero] at this; exact this
      have ex : fv x = sm (sgn x) (mag inf) := by unfold fv; rw [hx2]
      have ey : fv y = sm (sgn y) (mag inf) := by unfold fv; rw [hy2]
      rw [ex, ey]
      generalize mag inf = m at hp ⊢
      cases sgn x <;> cases sgn y
      · rw [Int.compare_eq_eq.2 rfl]; rfl
      · rw [Int.compare_eq_gt.2 (by unfold sm; simp; omega)]; rfl
      · rw [Int.compare_eq_lt.2 (by unfold sm; simp; omega)]; rfl
      · rw [Int.compare_eq_eq.2 rfl]; rfl
end TV
namespace Go.Proofs.YtiihokgjplpceaaDoor
open Go.RowKit TV

theorem FloOf.le_inf {q : Rat} {f : Nat} (h : FloOf q f) : rung f ≤ inf := h.2.2.le_inf
theorem FloOf.fv_nonneg {q : Rat} {f : Nat} (h : FloOf q f) (hq : 0 ≤ q) : fv f = mag (rung f) := by
  rcases h.2.1 with h1 | h1
  · rw [fv_zero_of h1, h1, mag_zero]; rfl
  · rw [decide_eq_false (by grind)] at h1; unfold fv sm; rw [h1]; rfl
theorem FloOf.fv_neg {q : Rat} {f : Nat} (h : FloOf q f) (hq : q < 0) : fv f = -(mag (rung f) : Int) := by
  rcases h.2.1 with h1 | h1
  · rw [fv_zero_of h1, h1, mag_zero]; rfl
  · rw [decide_eq_true hq] at h1; unfold fv sm; rw [h1]; rfl
/-- What is greater has no lesser float. -/
theorem FloOf.mono {p q : Rat} {f g : Nat} (hf : FloOf p f) (hg : FloOf q g) (h : p ≤ q) : fv f ≤ fv g := by
  by_cases c : p < 0
  · rw [hf.fv_neg c]
    by_cases d : q < 0
    · rw [hg.fv_neg d]
      have h1 := hf.2.2; have h2 := hg.2.2
      rw [if_pos c] at h1; rw [if_pos d] at h2
      have h3 := mag_le (h2.mono h1 (by grind))
      omega
    · rw [hg.fv_nonneg (by grind)]; omega
  · rw [hf.fv_nonneg (by grind), hg.fv_nonneg (by grind)]
    have h1 := hf.2.2; have h2 := hg.2.2
    rw [if_neg c] at h1; rw [if_neg (by grind)] at h2
    have h3 := mag_le (h1.mono h2 h)
    omega
theorem FloOf.fin {x : Nat} (h1 : x < 18446744073709551616) (h : rung x < inf) : FloOf (fr x) x := by
  have hu := uu_pos
  have hfr : fr x = (fv x : Rat) * uu := rfl
  have hp : 0 < fv x → 0 < fr x := by
    intro h; rw [hfr]; exact Rat.mul_pos (by exact_mod_cast h) hu
  have hn : fv x < 0 → fr x < 0 := by
    intro h; rw [hfr]
    have h2 : ((0 : Int) : Rat) < ((-fv x : Int) : Rat) := by exact_mod_cast (by omega : (0 : Int) < -fv x)
    have := Rat.mul_pos h2 hu
    push_cast at this
    grind
  have hm : (if fr x < 0 then -fr x else fr x) = (mag (rung x) : Rat) * uu := by
    rcases Int.lt_trichotomy (fv x) 0 with c | c | c
    · rw [if_pos (hn c), hfr]
      have : fv x = -(mag (rung x) : Int) := by have := fv_natAbs x; omega
      rw [this]; push_cast; grind
    · have e : mag (rung x) = 0 := by have := fv_natAbs x; omega
      have z : fr x = 0 := by rw [hfr, c]; simp
      rw [z, if_neg (by grind), e]; simp
    · have := hp c
      rw [if_neg (by grind), hfr]
      have : fv x = (mag (rung x) : Int) := by have := fv_natAbs x; omega
      rw [this]; rfl
  refine ⟨h1, ?_, by rw [hm]; exact RndQ.exact h⟩
  rcases Int.lt_trichotomy (fv x) 0 with c | c | c
  · right; rw [decide_eq_true (hn c)]
    cases hs : sgn x
    · unfold fv sm at c; rw [hs] at c; simp at c; omega
    · rfl
  · left
    have e : mag (rung x) = 0 := by have := fv_natAbs x; omega
    exact mag_eq_zero.1 e
  · right
    have := hp c
    rw [decide_eq_false (by grind)]
    cases hs : sgn x
    · rfl
    · unfold fv sm at c; rw [hs] at c; simp at c; omega
/-- The float of a number that is a float's. -/
theorem FloOf.eq {q : Rat} {f x : Nat} (h : FloOf q f) (hx : FloOf q x) : FloatKind.f64.format.order f x = some .eq := by
  refine (order_le h.le_inf hx.le_inf).trans ?_
  have := Int.le_antisymm (h.mono hx Rat.le_refl) (hx.mono h Rat.le_refl)
  rw [this, Int.compare_eq_eq.2 rfl]
theorem FloOf.not_lt {p q : Rat} {f g : Nat} (hf : FloOf p f) (hg : FloOf q g) (h : q ≤ p) : (FloatKind.f64.format.order f g == some .lt) = false := by
  have e : FloatKind.f64.format.order f g = some (compare (fv f) (fv g)) := order_le hf.le_inf hg.le_inf
  rw [e]
  have := hg.mono hf h
  rcases Int.lt_or_eq_of_le this with h1 | h1
  · rw [Int.compare_eq_gt.2 h1]; rfl
  · rw [h1, Int.compare_eq_eq.2 rfl]; rfl
end Go.Proofs.YtiihokgjplpceaaDoor
end

section
/- Package whole's statements: the helper works. (Printed by gen_WiD.py.) -/
namespace TV
set_option exponentiation.threshold 3000
theorem high_lit {q : Rat} {n : Nat} {l : Int} (h : n ≠ 0) (hq : q = (n : Rat) * (2 : Rat) ^ l) : HighOf q ((n.log2 : Int) + l) := by rw [hq]; exact Or.inl (nat_high h l)
theorem rs_pos {q : Rat} (h : 0 < q) : rs q = 1 := by unfold rs; rw [if_neg (by grind), if_neg (by grind)]
theorem rs_neg {q : Rat} (h : q < 0) : rs q = -1 := by unfold rs; rw [if_pos h]
end TV
namespace Go.Proofs.YtiihokgjplpceaaDoor
open Go.RowKit TV
set_option linter.unusedVariables false
set_option exponentiation.threshold 3000

theorem fr_lit {x : Nat} {m l : Int} {k : Nat} (h : fv x = m * 2 ^ k) (hk : l = (k : Int) - 1074) : fr x = (m : Rat) * (2 : Rat) ^ l := by
  unfold fr
  rw [h, hk, Int.sub_eq_add_neg, two_zpow_add, two_zpow_nat]; push_cast; grind
/-- The float of a whole number's part. -/
theorem flo_lit {N u r : Nat} {q : Rat} (hN : 0 < N) (h : min (rndAt u N) inf = r) (hq : q = (N : Rat) * (2 : Rat) ^ (-1074 - (u : Int))) : FloOf q r := by
  have h1 := near_q (near_rnd u N)
  rw [h, ← hq] at h1
  have hp : 0 < q := by rw [hq]; exact Rat.mul_pos (by exact_mod_cast hN) (two_zpow_pos _)
  have := FloOf.mk false hp (by rw [← h]; exact min_inf_lt _) h1
  exact this
end Go.Proofs.YtiihokgjplpceaaDoor
end

section
/- Package whole: contracts at the ends of what it keeps, and of no number. -/
namespace TV
theorem noR_high {q : Rat} {h : Int} (hh : HighOf q h) (h1 : 65536 < h) : ¬ OkR q := (wv_high hh h1).no
theorem noR_low {q : Rat} {h l : Int} (hh : HighOf q h) (hl : LowOf q l) (h1 : l < -65536) : ¬ OkR q := (wv_low hh hl h1).no
end TV
namespace Go.Proofs.YtiihokgjplpceaaDoor
open Go.RowKit TV
set_option linter.unusedVariables false

/-- No number, as memory has it. -/
abbrev NONE : Value := .agg #[.slice none 0 0, .int .i64 0, .bool false, .bool true]
theorem none_num (P : Nat → Prop) (w : World) : WNum P w NONE none := rfl
def Ret1 (u : Value) (w : World) (x : Ending) (w' : World) : Prop := x = .returned u ∧ Below w.heap.size w w'

section
variable {F : Nat} {w : World}
theorem retW_none {P : Nat → Prop} {x : Ending} {w' : World} (h : RetW P none w x w') : Ret1 NONE w x w' := by
  obtain ⟨v, a, b, c⟩ := h
  cases b
  exact ⟨a, c⟩
theorem addQ {va vb : Value} {p q : Rat} {m k : Nat} (M : Nat) (ha : NumB F w va p m) (hb : NumB F w vb q k) (ht : Tb F w) (h1 : m + 1 ≤ M) (h2 : k + 1 ≤ M) (hok : OkR (p + q)) :
    Calls Tryd.prog 90 #[va, vb] w (RetB F (p + q) M w) := by
  refine (wAdd_calls ha.1 hb.1 ht.tab).mono ?_
  rintro x w' ⟨o, ho, v, a, b, c⟩
  cases wv_ok ho hok
  exact ⟨v, a, ⟨b.mono (up_le ht), ha.2.add hb.2 h1 h2⟩, c⟩
theorem subQ {va vb : Value} {p q : Rat} {m k : Nat} (M : Nat) (ha : NumB F w va p m) (hb : NumB F w vb q k) (ht : Tb F w) (h1 : m + 1 ≤ M) (h2 : k + 1 ≤ M) (hok : OkR (p - q)) :
    Calls Tryd.prog 88 #[va, vb] w (RetB F (p - q) M w) := by
  rw [Rat.sub_eq_add_neg] at hok ⊢
  refine (wSub_calls ha.1 hb.1 ht.tab).mono ?_
  rintro x w' ⟨o, ho, v, a, b, c⟩
  cases wv_ok ho hok
  exact ⟨v, a, ⟨b.mono (up_le ht), ha.2.add hb.2.neg h1 h2⟩, c⟩
theorem addNo {va vb : Value} {p q : Rat} {m k : Nat} (ha : NumB F w va p m) (hb : NumB F w vb q k) (ht : Tb F w) (hno : ¬ OkR (p + q)) :
    Calls Tryd.prog 90 #[va, vb] w (Ret1 NONE w) := by
  refine (wAdd_calls ha.1 hb.1 ht.tab).mono ?_
  rintro x w' ⟨o, ho, h⟩
  cases (show o = none from ho.2 hno)
  exact retW_none h
theorem addNa {vb : Value} {q : Rat} {k : Nat} (hb : NumB F w vb q k) (ht : Tb F w) : Calls Tryd.prog 90 #[NONE, vb] w (Ret1 NONE w) := by
  refine (wAdd_calls (none_num _ w) hb.1 ht.tab).mono ?_
  rintro x w' ⟨o, rfl, h⟩
  exact retW_none h
theorem addNb {va : Value} {q : Rat} {k : Nat} (ha : NumB F w va q k) (ht : Tb F w) : Calls Tryd.prog 90 #[va, NONE] w (Ret1 NONE w) := by
  refine (wAdd_calls ha.1 (none_num _ w) ht.tab).mono ?_
  rintro x w' ⟨o, rfl, h⟩
  exact retW_none h
theorem subNN (ht : Tb F w) : Calls Tryd.prog 88 #[NONE, NONE] w (Ret1 NONE w) := by
  refine (wSub_calls (none_num (fun _ => True) w) (none_num _ w) ht.tab).mono ?_
  rintro x w' ⟨o, rfl, h⟩
  exact retW_none h
theorem subNb {va : Value} {q : Rat} {k : Nat} (ha : NumB F w va q k) (ht : Tb F w) : Calls Tryd.prog 88 #[va, NONE] w (Ret1 NONE w) := by
  refine (wSub_calls ha.1 (none_num _ w) ht.tab).mono ?_
  rintro x w' ⟨o, rfl, h⟩
  exact retW_none h
theorem negNo : Calls Tryd.prog 92 #[NONE] w (Ret1 NONE w) := (wNeg_num (none_num (fun _ => True) w)).mono fun x w' h => retW_none h
theorem signNo : Calls Tryd.prog 86 #[NONE] w (Ret1 (.int .i64 0) w) := wSign_num (none_num (fun _ => True) w)
theorem floatNo : Calls Tryd.prog 87 #[NONE] w (Ret1 (.float .f64 0) w) := float_none 0 false true w
theorem ofNo (x : Nat) (h1 : x < 18446744073709551616) (h : ¬ rung x < inf) (ht : Tb F w) : Calls Tryd.prog 89 #[.float .f64 x] w (Ret1 NONE w) := by
  have := wOf_calls x h1 w ht.tab
  rw [if_neg h] at this
  exact this.mono fun x w' h => retW_none h
end
end Go.Proofs.YtiihokgjplpceaaDoor
end

section
/- Infinite floats and no floats, as WholeNames meets them. -/
namespace Go.Proofs.YtiihokgjplpceaaDoor
open Go.RowKit TV
set_option linter.unusedVariables false
set_option exponentiation.threshold 3000

theorem same_ret {x : Ending} {v : Value} {w w' : World} (h : x = .returned v ∧ w = w') : Ret1 v w x w' := ⟨h.1, h.2 ▸ Below.refl _ _⟩
theorem inf1R (w : World) : Calls Tryd.prog 80 #[.int .i64 1] w (Ret1 (.float .f64 9218868437227405312) w) := (inf1_calls w).mono fun _ _ h => same_ret h
theorem inf2R (w : World) : Calls Tryd.prog 80 #[.int .i64 (-1)] w (Ret1 (.float .f64 18442240474082181120) w) := (inf2_calls w).mono fun _ _ h => same_ret h
theorem isinfP (w : World) : Calls Tryd.prog 76 #[.float .f64 9218868437227405312, .int .i64 1] w (Ret1 (.bool true) w) := by
  have h : (FloatKind.f64.format.order 9218868437227405312 9218868437227405311 == some .gt) = true := by decide +kernel
  go_enter Tryd.func76, Tryd.ntmps76
  go_wp2_with fail
  go_ret
  exact ⟨ret_bool h, Below.refl _ _⟩
theorem isinfM (w : World) : Calls Tryd.prog 76 #[.float .f64 18442240474082181120, .int .i64 (-1)] w (Ret1 (.bool true) w) := by
  have h : (FloatKind.f64.format.order 9218868437227405312 9218868437227405311 == some .gt) = true := by decide +kernel
  go_enter Tryd.func76, Tryd.ntmps76
  go_wp2_with fail
  go_ret
  exact ⟨ret_bool h, Below.refl _ _⟩

theorem gq_le {k : Int} (h : 1024 ≤ k) : gq ≤ (2 : Rat) ^ k := by
  have h1 : gq ≤ (2 : Rat) ^ (1024 : Int) := by
    unfold gq
    have e : (2 : Rat) ^ (1024 : Int) = ((18014398509481984 : Nat) : Rat) * (2 : Rat) ^ (970 : Int) := by
      rw [show (1024 : Int) = ((54 : Nat) : Int) + 970 by decide, two_zpow_add, two_zpow_nat]
    rw [e]
    exact Rat.mul_le_mul_of_nonneg_right (Rat.natCast_le_natCast.2 (by decide)) (Rat.le_of_lt (two_zpow_pos _))
  exact Rat.le_trans h1 (zpow_le h)
theorem gq_pos : 0 < gq := by unfold gq; exact Rat.mul_pos (by decide) (two_zpow_pos _)
theorem rnd_far {q : Rat} (h : gq ≤ q) : RndQ q inf := Or.inr ⟨rfl, by rw [great2]; grind⟩
theorem FloOf.inf {q : Rat} {f : Nat} (h : FloOf q f) (hq : gq ≤ q) : f = 9218868437227405312 := by
  have hp := gq_pos
  have h0 : ¬ q < 0 := by grind
  obtain ⟨h1, h2, h3⟩ := h
  rw [if_neg h0] at h3
  have hr := h3.uniq (rnd_far hq)
  have hi := inf_eq
  have hs : sgn f = false := by
    rcases h2 with h | h
    · omega
    · rw [h]; exact decide_eq_false h0
  have := flo_eta h1
  rw [hs, hr, flo_false, hi] at this
  exact this.symm
theorem FloOf.minf {q : Rat} {f : Nat} (h : FloOf (-q) f) (hq : gq ≤ q) : f = 18442240474082181120 := by
  have hp := gq_pos
  have h0 : -q < 0 := by grind
  obtain ⟨h1, h2, h3⟩ := h
  rw [if_pos h0, Rat.neg_neg] at h3
  have hr := h3.uniq (rnd_far hq)
  have hi := inf_eq
  have hs : sgn f = true := by
    rcases h2 with h | h
    · omega
    · rw [h]; exact decide_eq_true h0
  have e := flo_eta h1
  rw [hs, hr, hi] at e
  have e2 : flo true 9218868437227405312 = 18442240474082181120 := by decide
  rw [e2] at e; exact e.symm
section
variable {F : Nat} {w : World}
theorem floatInf {va : Value} {q : Rat} {m : Nat} (ha : NumB F w va q m) (hq : gq ≤ q) : Calls Tryd.prog 87 #[va] w (Ret1 (.float .f64 9218868437227405312) w) := by
  refine (floatB ha).mono ?_
  rintro x w' ⟨f, rfl, hf, hb⟩
  rw [hf.inf hq]; exact ⟨rfl, hb⟩
theorem floatMinf {va : Value} {q : Rat} {m : Nat} (ha : NumB F w va (-q) m) (hq : gq ≤ q) : Calls Tryd.prog 87 #[va] w (Ret1 (.float .f64 18442240474082181120) w) := by
  refine (floatB ha).mono ?_
  rintro x w' ⟨f, rfl, hf, hb⟩
  rw [hf.minf hq]; exact ⟨rfl, hb⟩
end
theorem flo_tiny {k : Int} (h : k ≤ -1076) : FloOf ((2 : Rat) ^ k) 0 := by
  have hp := two_zpow_pos k
  refine ⟨by omega, Or.inl rfl, ?_⟩
  rw [if_neg (by grind)]
  refine Or.inl ⟨inf_pos, Or.inl ?_, Or.inl rfl⟩
  have h1 := zpow_le h
  have h2 : (2 : Rat) ^ (-1074 : Int) = (2 : Rat) ^ (-1076 : Int) * 4 := by
    rw [show (-1074 : Int) = -1076 + ((2 : Nat) : Int) by decide, two_zpow_add, two_zpow_nat]; rfl
  have h3 := two_zpow_pos (-1076)
  have e : ((mag 0 + mag (0 + 1) : Nat) : Rat) * uu = uu := by rw [mag_zero, mag_small (by omega)]; simp
  rw [show rung 0 = 0 from rfl, e]; unfold uu; rw [h2]
  generalize (2 : Rat) ^ (-1076 : Int) = y at *
  generalize (2 : Rat) ^ k = z at *
  clear h2 e
  grind
end Go.Proofs.YtiihokgjplpceaaDoor
end

