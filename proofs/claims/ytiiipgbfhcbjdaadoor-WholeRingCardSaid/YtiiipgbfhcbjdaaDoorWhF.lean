/- Package whole: which numbers it keeps. Plain numbers. -/
import Derived.Test.YtiiipgbfhcbjdaaDoorWhE
namespace TV

theorem zpow_le {a b : Int} (h : a ≤ b) : (2 : Rat) ^ a ≤ (2 : Rat) ^ b := by
  obtain ⟨n, rfl⟩ : ∃ n : Nat, b = a + n := ⟨(b - a).toNat, by omega⟩
  rw [two_zpow_add, two_zpow_nat]
  have h1 : (1 : Rat) ≤ ((2 ^ n : Nat) : Rat) := by exact_mod_cast Nat.one_le_two_pow
  have h2 := Rat.mul_le_mul_of_nonneg_left h1 (Rat.le_of_lt (two_zpow_pos a))
  rwa [Rat.mul_one] at h2

theorem HighOf.uniq {q : Rat} {a b : Int} (ha : HighOf q a) (hb : HighOf q b) : a = b := by
  have key : ∀ {q : Rat} {a b : Int}, (2 : Rat) ^ a ≤ q → q < (2 : Rat) ^ (a + 1) → (2 : Rat) ^ b ≤ q → q < (2 : Rat) ^ (b + 1) → a = b := by
    intro q a b h1 h2 h3 h4
    apply Classical.byContradiction
    intro hne
    rcases Int.lt_or_gt_of_ne hne with h | h
    · have := zpow_le (show a + 1 ≤ b by omega)
      exact absurd (Rat.le_trans this h3) (Rat.not_le.2 h2)
    · have := zpow_le (show b + 1 ≤ a by omega)
      exact absurd (Rat.le_trans this h1) (Rat.not_le.2 h4)
  have pos : ∀ {q : Rat} {a : Int}, (2 : Rat) ^ a ≤ q → 0 < q := fun {q a} h => by have hp := two_zpow_pos a; generalize (2 : Rat) ^ a = u at *; grind
  rcases ha with ⟨h1, h2⟩ | ⟨h1, h2⟩ <;> rcases hb with ⟨h3, h4⟩ | ⟨h3, h4⟩
  · exact key h1 h2 h3 h4
  · have := pos h1; have := pos h3; grind
  · have := pos h1; have := pos h3; grind
  · exact key h1 h2 h3 h4

theorem LowOf.uniq {q : Rat} {a b : Int} (ha : LowOf q a) (hb : LowOf q b) : a = b := by
  have key : ∀ {a b m n : Int}, m % 2 = 1 → (m : Rat) * (2 : Rat) ^ a = (n : Rat) * (2 : Rat) ^ b → ¬ a < b := by
    intro a b m n hm e hlt
    obtain ⟨t, rfl⟩ : ∃ t : Nat, b = (t + 1 : Nat) + a := ⟨(b - a - 1).toNat, by omega⟩
    rw [two_zpow_add, two_zpow_nat, ← Rat.mul_assoc] at e
    have hp := two_zpow_pos a
    have hne : (2 : Rat) ^ a ≠ 0 := fun h => by rw [h] at hp; exact absurd hp (by decide)
    have e2 : (m : Rat) = (n : Rat) * ((2 ^ (t + 1) : Nat) : Rat) := by
      generalize (2 : Rat) ^ a = u at *
      grind
    have e3 : (m : Rat) = ((n * 2 ^ (t + 1) : Int) : Rat) := by rw [e2]; push_cast; rfl
    have e4 : m = n * 2 ^ (t + 1) := by exact_mod_cast e3
    rw [Int.pow_succ, ← Int.mul_assoc] at e4
    omega
  obtain ⟨m, hm, e1⟩ := ha
  obtain ⟨n, hn, e2⟩ := hb
  have h1 := key hm (e1.symm.trans e2)
  have h2 := key hn (e2.symm.trans e1)
  omega

/-- May package whole keep it? -/
def OkR (q : Rat) : Prop := q = 0 ∨ ∃ h l : Int, HighOf q h ∧ LowOf q l ∧ h ≤ 65536 ∧ -65536 ≤ l
/-- What package whole keeps of a number: the number, or none. -/
def WvOf (q : Rat) (o : Option Rat) : Prop := (OkR q → o = some q) ∧ (¬ OkR q → o = none)

theorem HighOf.ne {q : Rat} {h : Int} (hh : HighOf q h) : q ≠ 0 := by
  intro h0
  have hp := two_zpow_pos h
  rcases hh with ⟨h1, -⟩ | ⟨h1, -⟩ <;> rw [h0] at h1 <;> grind
theorem wv_zero : WvOf 0 (some 0) := ⟨fun _ => rfl, fun h => absurd (Or.inl rfl) h⟩
theorem wv_some {q : Rat} {h l : Int} (hh : HighOf q h) (hl : LowOf q l) (h1 : h ≤ 65536) (h2 : -65536 ≤ l) : WvOf q (some q) := ⟨fun _ => rfl, fun hn => absurd (Or.inr ⟨h, l, hh, hl, h1, h2⟩) hn⟩
theorem wv_high {q : Rat} {h : Int} (hh : HighOf q h) (h1 : 65536 < h) : WvOf q none := ⟨fun hq => by
  rcases hq with h0 | ⟨h', l, a, -, c, -⟩
  · exact absurd h0 hh.ne
  · have := hh.uniq a; omega, fun _ => rfl⟩
theorem wv_low {q : Rat} {h l : Int} (hh : HighOf q h) (hl : LowOf q l) (h1 : l < -65536) : WvOf q none := ⟨fun hq => by
  rcases hq with h0 | ⟨h', l', -, a, -, c⟩
  · exact absurd h0 hh.ne
  · have := hl.uniq a; omega, fun _ => rfl⟩
theorem WvOf.ok {q p : Rat} (h : WvOf q (some p)) : p = q ∧ OkR q := by
  by_cases c : OkR q
  · have := h.1 c; cases this; exact ⟨rfl, c⟩
  · have := h.2 c; cases this
theorem WvOf.no {q : Rat} (h : WvOf q none) : ¬ OkR q := fun c => by have := h.1 c; cases this

end TV
