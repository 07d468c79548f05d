/- bits.TrailingZeros32, walked. -/
import Derived.Test.YtiiipgbfhcbjdaaDoorWhB
import Derived.Laws.BitsAllLaws
namespace TV.W
theorem and_compl (n a : Nat) (h : a < 2 ^ n) : a &&& (2 ^ n - (a + 1)) = 0 := by
  apply Nat.eq_of_testBit_eq
  intro i
  rw [Nat.testBit_and, Nat.testBit_two_pow_sub_succ h]
  cases a.testBit i <;> simp
theorem and_neg : ∀ (j N m : Nat), (2 * m + 1) * 2 ^ j < 2 ^ N → ((2 * m + 1) * 2 ^ j) &&& (2 ^ N - (2 * m + 1) * 2 ^ j) = 2 ^ j := by
  intro j
  induction j with
  | zero =>
    intro N m h
    rw [Nat.pow_zero, Nat.mul_one] at *
    cases N with
    | zero => simp at h
    | succ N =>
      have e : 2 ^ (N + 1) - (2 * m + 1) = 2 * (2 ^ N - (m + 1)) + 1 := by rw [Nat.pow_succ] at *; omega
      have hm : m < 2 ^ N := by rw [Nat.pow_succ] at h; omega
      have h2 := and_compl N m hm
      rw [e]
      apply Nat.eq_of_testBit_eq
      intro i
      cases i with
      | zero => simp [Nat.testBit_zero]
      | succ i =>
        rw [Nat.testBit_and, Nat.testBit_succ, Nat.testBit_succ, Nat.testBit_succ, show (2 * m + 1) / 2 = m by omega, show (2 * (2 ^ N - (m + 1)) + 1) / 2 = 2 ^ N - (m + 1) by omega, ← Nat.testBit_and, h2]
  | succ j ih =>
    intro N m h
    cases N with
    | zero => have := Nat.two_pow_pos (j + 1); have h2 : (2 * m + 1) * 2 ^ (j + 1) ≥ 1 * 2 ^ (j + 1) := Nat.mul_le_mul_right _ (by omega); simp at h; omega
    | succ N =>
      have e1 : (2 * m + 1) * 2 ^ (j + 1) = 2 * ((2 * m + 1) * 2 ^ j) := by rw [Nat.pow_succ]; simp only [Nat.mul_comm, Nat.mul_left_comm]
      rw [e1] at h ⊢
      have h3 : (2 * m + 1) * 2 ^ j < 2 ^ N := by rw [Nat.pow_succ] at h; omega
      have h4 := ih N m h3
      generalize (2 * m + 1) * 2 ^ j = x at *
      have e2 : 2 ^ (N + 1) - 2 * x = 2 * (2 ^ N - x) := by rw [Nat.pow_succ]; omega
      rw [e2, Nat.pow_succ, Nat.mul_comm (2 ^ j), ← h4]
      apply Nat.eq_of_testBit_eq
      intro i
      cases i with
      | zero => simp [Nat.testBit_zero]
      | succ i =>
        rw [Nat.testBit_and, Nat.testBit_succ, Nat.testBit_succ, Nat.testBit_succ, show (2 * x) / 2 = x by omega, show (2 * (2 ^ N - x)) / 2 = 2 ^ N - x by omega, Nat.mul_div_cancel_left _ (by omega), Nat.testBit_and]
theorem odd_part : ∀ (x : Nat), 0 < x → ∃ j m, x = (2 * m + 1) * 2 ^ j := by
  intro x
  induction x using Nat.strongRecOn with
  | _ x ih =>
    intro h
    by_cases c : x % 2 = 1
    · exact ⟨0, x / 2, by simp; omega⟩
    · obtain ⟨j, m, e⟩ := ih (x / 2) (by omega) (by omega)
      exact ⟨j + 1, m, by rw [Nat.pow_succ, ← Nat.mul_assoc, ← e]; omega⟩
def tzTab : List Int := [0, 1, 28, 2, 29, 14, 24, 3, 30, 22, 20, 15, 25, 17, 4, 8, 31, 27, 13, 23, 21, 19, 16, 7, 26, 12, 18, 6, 11, 5, 10, 9]
theorem tz_tab : ∀ j : Nat, j < 32 → tzTab.getD (2 ^ j * 125613361 % 4294967296 / 134217728) 0 = (j : Int) := by decide

end TV.W
namespace Go.Proofs.YtiiipgbfhcbjdaaDoor
open Go.RowKit TV
set_option linter.unusedVariables false

/-- The table of package math/bits, where the program has it. -/
def TabOk (w : World) : Prop := ∀ j : Nat, j < 32 → w.cell? ⟨1, j, none⟩ = some (.int .u8 (W.tzTab.getD j 0))
theorem TabOk.keep {w w1 : World} (h : TabOk w) (hb : Below w.heap.size w w1) : TabOk w1 := fun j hj => keep_cell hb (h j hj)

theorem tz_parts (x : Int) (h0 : 0 < x) (h1 : x ≤ 4294967295) : ∃ j m : Nat, x.toNat = (2 * m + 1) * 2 ^ j ∧ x = (2 * m + 1) * 2 ^ j ∧ j < 32 := by
  obtain ⟨j, m, e⟩ := W.odd_part x.toNat (by omega)
  have hxe : x = (((2 * m + 1) * 2 ^ j : Nat) : Int) := by rw [← e]; omega
  refine ⟨j, m, e, by rw [hxe]; norm_cast, ?_⟩
  apply Classical.byContradiction
  intro hc
  have h2 : 2 ^ 32 ≤ 2 ^ j := Nat.pow_le_pow_right (by omega) (by omega)
  have h3 : 1 * 2 ^ j ≤ (2 * m + 1) * 2 ^ j := Nat.mul_le_mul_right _ (by omega)
  omega

theorem tz_calls (x : Int) (h0 : 0 < x) (h1 : x ≤ 4294967295) (w : World) (ht : TabOk w) {j m : Nat} (e : x.toNat = (2 * m + 1) * 2 ^ j) :
    Calls Tryd.prog 46 #[.int .u32 x] w fun e' w' => e' = .returned (.int .i64 j) ∧ w' = w := by
  have hx : (x == 0) = false := by simp; omega
  have hxe : x = (((2 * m + 1) * 2 ^ j : Nat) : Int) := by rw [← e]; omega
  have hlt : (2 * m + 1) * 2 ^ j < 2 ^ 32 := by rw [← e]; omega
  have hj : j < 32 := by
    apply Classical.byContradiction
    intro hc
    have h2 : 2 ^ 32 ≤ 2 ^ j := Nat.pow_le_pow_right (by omega) (by omega)
    have h3 : 1 * 2 ^ j ≤ (2 * m + 1) * 2 ^ j := Nat.mul_le_mul_right _ (by omega)
    omega
  have hand : bits .and .u32 x (-x % 4294967296) = ((2 ^ j : Nat) : Int) := by
    rw [u32_and _ _ (by omega) (by omega) (by omega) (by omega)]
    have e2 : (-x % 4294967296).toNat = 2 ^ 32 - (2 * m + 1) * 2 ^ j := by rw [← e]; omega
    rw [e, e2, W.and_neg j 32 m hlt]
  obtain ⟨p, hp⟩ : ∃ p : Int, p = ((2 ^ j : Nat) : Int) := ⟨_, rfl⟩
  rw [← hp] at hand
  have htab := W.tz_tab j hj
  obtain ⟨k, hk⟩ : ∃ k : Nat, k = 2 ^ j * 125613361 % 4294967296 / 134217728 := ⟨_, rfl⟩
  have hk2 : p * 125613361 % 4294967296 / 134217728 = (k : Int) := by rw [hp, hk, Int.natCast_ediv, Int.natCast_emod, Int.natCast_mul]; rfl
  rw [← hk] at htab
  have hk3 : k < 32 := by omega
  have hc := ht k hk3
  rw [htab] at hc
  have hk4 : (0 : Int) ≤ (k : Int) := by omega
  have hk5 : (k : Int) < 32 := by omega
  have HJ := Lib.hid hj
  have hw64 : wrap64 (j : Int) = (j : Int) := by unfold wrap64; omega
  clear hxe hlt hj hp hk htab ht e hk3
  go_enter Tryd.func46, Tryd.ntmps46
  go_wp2_with fail
  go_ret
  exact ⟨(show Ending.returned (.int .i64 (wrap64 (j : Int))) = _ by rw [hw64]), rfl⟩

end Go.Proofs.YtiiipgbfhcbjdaaDoor
