/- Package whole: the highest 64 bits. Plain numbers. -/
import Derived.Test.YtiiipgbfhcbjdaaDoorWhW
namespace TV.W
/-- The digits below a place, moved to where the highest bit is the 64th. -/
def topU (ds : List Int) (a c i : Nat) : Int := dval (ds.take i) * 2 ^ a / 2 ^ c
def topM (ds : List Int) (a c i : Nat) : Bool := decide (dval (ds.take i) * 2 ^ a % 2 ^ c ≠ 0)

theorem p2pos (n : Nat) : (0 : Int) < 2 ^ n := Int.pow_pos (by decide)
theorem p2le {m n : Nat} (h : m ≤ n) : (2 : Int) ^ m ≤ 2 ^ n := by
  have : (2 : Nat) ^ m ≤ 2 ^ n := Nat.pow_le_pow_right (by decide) h
  exact_mod_cast this
theorem pB (i : Nat) : (4294967296 : Int) ^ i = 2 ^ (32 * i) := by
  rw [Int.pow_mul, show (2 : Int) ^ 32 = 4294967296 from rfl]

theorem dok_take {ds : List Int} (h : Dok ds) (i : Nat) : Dok (ds.take i) := by
  intro j
  rw [List.getD_eq_getElem?_getD, List.getElem?_take]
  split
  · rw [← List.getD_eq_getElem?_getD]; exact h j
  · simp

theorem take_bound {ds : List Int} (h : Dok ds) (i : Nat) : 0 ≤ dval (ds.take i) ∧ dval (ds.take i) < 2 ^ (32 * i) := by
  refine ⟨dval_nonneg (dok_take h i), ?_⟩
  have h1 := dval_lt (dok_take h i)
  rw [pB] at h1
  have h2 := p2le (show 32 * (ds.take i).length ≤ 32 * i by rw [List.length_take]; omega)
  omega

theorem take_next {ds : List Int} {i : Nat} (hi : i < ds.length) : dval (ds.take (i + 1)) = dval (ds.take i) + ds.getD i 0 * 2 ^ (32 * i) := by
  rw [dval_take_succ ds i hi, pB]


theorem top_mono {ds : List Int} (hd : Dok ds) {a c i : Nat} (hN : dval ds * 2 ^ a < 2 ^ (c + 64)) : dval (ds.take i) * 2 ^ a < 2 ^ (c + 64) := by
  have h1 : dval (ds.take i) ≤ dval ds := by
    have h2 := dval_append (ds.take i) (ds.drop i)
    rw [List.take_append_drop] at h2
    have h3 : 0 ≤ dval (ds.drop i) := by
      apply dval_nonneg
      intro j
      rw [List.getD_eq_getElem?_getD, List.getElem?_drop, ← List.getD_eq_getElem?_getD]; exact hd _
    have h4 : 0 ≤ 4294967296 ^ (ds.take i).length * dval (ds.drop i) := Int.mul_nonneg (Int.le_of_lt (Int.pow_pos (by decide))) h3
    omega
  have h5 := Int.mul_le_mul_of_nonneg_right h1 (Int.le_of_lt (p2pos a))
  omega

theorem topU_bound {ds : List Int} (hd : Dok ds) {a c i : Nat} (hN : dval ds * 2 ^ a < 2 ^ (c + 64)) : 0 ≤ topU ds a c i ∧ topU ds a c i < 18446744073709551616 := by
  have h1 := top_mono (i := i) hd hN
  have h2 := (take_bound hd i).1
  have h3 : 0 ≤ dval (ds.take i) * 2 ^ a := Int.mul_nonneg h2 (Int.le_of_lt (p2pos a))
  refine ⟨Int.ediv_nonneg h3 (Int.le_of_lt (p2pos c)), Int.ediv_lt_of_lt_mul (p2pos c) ?_⟩
  rw [Int.pow_add, Int.mul_comm (2 ^ c)] at h1
  exact h1

theorem top_zero (ds : List Int) (a c : Nat) : topU ds a c 0 = 0 ∧ topM ds a c 0 = false := by
  unfold topU topM; simp [dval]

/-- A word above the lowest of the 64 bits. -/
theorem top_up {ds : List Int} (hd : Dok ds) {a c i t : Nat} (hi : i < ds.length) (ht : t + c = 32 * i + a) (hN : dval ds * 2 ^ a < 2 ^ (c + 64)) :
    topU ds a c (i + 1) = ds.getD i 0 * 2 ^ t + topU ds a c i ∧ topM ds a c (i + 1) = topM ds a c i ∧ topU ds a c i < 2 ^ t ∧ 0 ≤ ds.getD i 0 * 2 ^ t ∧ ds.getD i 0 * 2 ^ t < 18446744073709551616 := by
  have hb := take_bound hd i
  have e1 : dval (ds.take (i + 1)) * 2 ^ a = dval (ds.take i) * 2 ^ a + ds.getD i 0 * 2 ^ t * 2 ^ c := by
    rw [take_next hi, Int.add_mul, Int.mul_assoc, ← Int.pow_add, ← ht, Int.pow_add, Int.mul_assoc]
  have e2 : topU ds a c (i + 1) = ds.getD i 0 * 2 ^ t + topU ds a c i := by
    unfold topU
    rw [e1, Int.add_mul_ediv_right _ _ (Int.ne_of_gt (p2pos c))]; omega
  have h1 := topU_bound (i := i) hd hN
  have h2 := topU_bound (i := i + 1) hd hN
  have h3 : 0 ≤ ds.getD i 0 * 2 ^ t := Int.mul_nonneg (hd i).1 (Int.le_of_lt (p2pos t))
  refine ⟨e2, ?_, ?_, h3, by omega⟩
  · unfold topM; rw [e1, Int.add_mul_emod_self_right]
  · unfold topU
    refine Int.ediv_lt_of_lt_mul (p2pos c) ?_
    rw [← Int.pow_add, ht, Int.pow_add]
    exact Int.mul_lt_mul_of_pos_right hb.2 (p2pos a)

/-- A word that holds the lowest of the 64 bits within. -/
theorem top_mid {ds : List Int} (hd : Dok ds) {c i s : Nat} (hi : i < ds.length) (hs : c = 32 * i + s) (h0 : 0 < s) (h1 : s < 32) :
    topU ds 0 c i = 0 ∧ topU ds 0 c (i + 1) = ds.getD i 0 / 2 ^ s ∧ topM ds 0 c (i + 1) = (topM ds 0 c i || (ds.getD i 0 * 2 ^ (32 - s) % 4294967296 != 0)) := by
  have hb := take_bound hd i
  have hdi := hd i
  have e0 : dval (ds.take i) * 2 ^ 0 = dval (ds.take i) := by simp
  have e1 : dval (ds.take (i + 1)) * 2 ^ 0 = dval (ds.take i) + ds.getD i 0 * 2 ^ (32 * i) := by rw [take_next hi]; simp
  have hp := p2pos (32 * i)
  have hps := p2pos s
  have hc : (2 : Int) ^ c = 2 ^ (32 * i) * 2 ^ s := by rw [hs, Int.pow_add]
  have hlt : dval (ds.take i) < 2 ^ c := by
    have := p2le (show 32 * i ≤ c by omega)
    omega
  have hu0 : topU ds 0 c i = 0 := by unfold topU; rw [e0]; exact Int.ediv_eq_zero_of_lt hb.1 hlt
  have hm0 : topM ds 0 c i = decide (dval (ds.take i) ≠ 0) := by unfold topM; rw [e0, Int.emod_eq_of_lt hb.1 hlt]
  refine ⟨hu0, ?_, ?_⟩
  · unfold topU
    rw [e1, hc, ← Int.ediv_ediv_of_nonneg (Int.le_of_lt hp), Int.add_mul_ediv_right _ _ (Int.ne_of_gt hp), Int.ediv_eq_zero_of_lt hb.1 hb.2, Int.zero_add]
  · rw [hm0]
    unfold topM
    rw [e1, hc]
    generalize hq : ds.getD i 0 = d at *
    have hd2 : d = 2 ^ s * (d / 2 ^ s) + d % 2 ^ s := (Int.mul_ediv_add_emod d (2 ^ s)).symm
    have hr := Int.emod_nonneg d (Int.ne_of_gt hps)
    have hr2 := Int.emod_lt_of_pos d hps
    have e3 : dval (ds.take i) + d * 2 ^ (32 * i) = (dval (ds.take i) + (d % 2 ^ s) * 2 ^ (32 * i)) + (d / 2 ^ s) * (2 ^ (32 * i) * 2 ^ s) := by
      have : d * 2 ^ (32 * i) = (2 ^ s * (d / 2 ^ s) + d % 2 ^ s) * 2 ^ (32 * i) := by rw [← hd2]
      rw [this]; grind
    have h5 : 0 ≤ (d % 2 ^ s) * 2 ^ (32 * i) := Int.mul_nonneg hr (Int.le_of_lt hp)
    have h6 : (d % 2 ^ s + 1) * 2 ^ (32 * i) ≤ 2 ^ s * 2 ^ (32 * i) := Int.mul_le_mul_of_nonneg_right (by omega) (Int.le_of_lt hp)
    rw [Int.add_mul, Int.one_mul, Int.mul_comm (2 ^ s)] at h6
    rw [e3, Int.add_mul_emod_self_right, Int.emod_eq_of_lt (by omega) (by omega)]
    have e4 : d * 2 ^ (32 - s) % 4294967296 = (d % 2 ^ s) * 2 ^ (32 - s) := by
      have h32 : (4294967296 : Int) = 2 ^ (32 - s) * 2 ^ s := by rw [← Int.pow_add, show 32 - s + s = 32 by omega]; rfl
      rw [h32, Int.mul_comm d, Int.mul_emod_mul_of_pos _ _ (p2pos _), Int.mul_comm]
    rw [e4]
    have hp3 := p2pos (32 - s)
    by_cases c1 : dval (ds.take i) = 0
    · by_cases c2 : d % 2 ^ s = 0
      · rw [c1, c2]; simp
      · have h7 : 0 < (d % 2 ^ s) * 2 ^ (32 * i) := Int.mul_pos (by omega) hp
        have h8 : 0 < (d % 2 ^ s) * 2 ^ (32 - s) := Int.mul_pos (by omega) hp3
        rw [decide_eq_true (by omega), decide_eq_false (by omega), Bool.false_or, bne_iff_ne.2 (by omega)]
    · rw [decide_eq_true (by omega), decide_eq_true c1]; rfl

/-- A word below the 64 bits. -/
theorem top_down {ds : List Int} (hd : Dok ds) {c i : Nat} (hi : i < ds.length) (hc : 32 * (i + 1) ≤ c) :
    topU ds 0 c i = 0 ∧ topU ds 0 c (i + 1) = 0 ∧ topM ds 0 c (i + 1) = (topM ds 0 c i || (ds.getD i 0 != 0)) := by
  have hb := take_bound hd i
  have hb1 := take_bound hd (i + 1)
  have hl := p2le (show 32 * i ≤ c by omega)
  have hl1 := p2le hc
  have e0 : ∀ x : Int, x * 2 ^ 0 = x := by simp
  unfold topU topM
  simp only [e0]
  refine ⟨Int.ediv_eq_zero_of_lt hb.1 (by omega), Int.ediv_eq_zero_of_lt hb1.1 (by omega), ?_⟩
  rw [Int.emod_eq_of_lt hb.1 (by omega), Int.emod_eq_of_lt hb1.1 (by omega), take_next hi]
  have hp := p2pos (32 * i)
  have hdi := hd i
  generalize ds.getD i 0 = d at *
  by_cases c1 : dval (ds.take i) = 0
  · by_cases c2 : d = 0
    · rw [c1, c2]; simp
    · have h7 : 0 < d * 2 ^ (32 * i) := Int.mul_pos (by omega) hp
      rw [decide_eq_true (by omega), decide_eq_false (by omega), Bool.false_or, bne_iff_ne.2 c2]
  · have h7 : 0 ≤ d * 2 ^ (32 * i) := Int.mul_nonneg hdi.1 (Int.le_of_lt hp)
    rw [decide_eq_true (by omega), decide_eq_true c1]; rfl
end TV.W

namespace Go
theorem u64_or_sum {x y : Int} {r : Nat} (X : Int) (hx : x = X * 2 ^ r) (h0 : 0 ≤ X) (hx1 : x < 18446744073709551616) (hy : 0 ≤ y) (hy1 : y < 2 ^ r) (hs : x + y < 18446744073709551616) : bits .or .u64 y x = x + y := by
  obtain ⟨a, rfl⟩ : ∃ a : Nat, X = a := ⟨X.toNat, by omega⟩
  obtain ⟨b, rfl⟩ : ∃ b : Nat, y = b := ⟨y.toNat, by omega⟩
  have hx2 : x = ((2 ^ r * a : Nat) : Int) := by rw [hx]; push_cast; rw [Int.mul_comm]
  subst hx2
  have hb : b < 2 ^ r := by exact_mod_cast hy1
  have key : (BitVec.ofInt 64 (b : Int) ||| BitVec.ofInt 64 ((2 ^ r * a : Nat) : Int)).toNat = 2 ^ r * a + b := by
    rw [BitVec.toNat_or, BitVec.toNat_ofInt, BitVec.toNat_ofInt, Nat.two_pow_add_eq_or_of_lt hb, Nat.or_comm]
    congr 1
    · generalize 2 ^ r * a = z at *; omega
    · omega
  show IntKind.u64.wrap ((BitVec.ofInt 64 (b : Int) ||| BitVec.ofInt 64 ((2 ^ r * a : Nat) : Int)).toNat : Nat) = _
  rw [key]
  generalize 2 ^ r * a = z at *
  unfold IntKind.wrap
  simp [IntKind.signed, IntKind.bits]
  omega
end Go
