/- The highest and the lowest bit of a number of digits. -/
import Derived.Test.YtiiipgbfhcbjdaaDoorNmB
namespace TV

/-- h is the highest bit of q. -/
def HighOf (q : Rat) (h : Int) : Prop := ((2 : Rat) ^ h ≤ q ∧ q < (2 : Rat) ^ (h + 1)) ∨ ((2 : Rat) ^ h ≤ -q ∧ -q < (2 : Rat) ^ (h + 1))
/-- l is the lowest bit of q. -/
def LowOf (q : Rat) (l : Int) : Prop := ∃ m : Int, m % 2 = 1 ∧ q = (m : Rat) * (2 : Rat) ^ l

theorem dval_last {ds : List Int} (h : Dok ds) (hl : 0 < ds.length) : ds.getD (ds.length - 1) 0 * 16777216 ^ (ds.length - 1) ≤ dval ds ∧ dval ds < (ds.getD (ds.length - 1) 0 + 1) * 16777216 ^ (ds.length - 1) := by
  have h1 := dval_take_succ ds (ds.length - 1) (by omega)
  rw [show ds.length - 1 + 1 = ds.length by omega, List.take_length] at h1
  have hd : Dok (ds.take (ds.length - 1)) := by have := dok_sub h 0 (ds.length - 1); rwa [List.drop_zero] at this
  have h2 := dval_nonneg hd
  have h3 := dval_lt hd
  rw [List.length_take, Nat.min_eq_left (by omega)] at h3
  rw [h1]
  constructor
  · omega
  · grind

theorem high_nv {s : Int} {ds : List Int} {e : Int} {d : Int} {j : Nat} (hd : Dok ds) (hs : s = 1 ∨ s = -1) (hl : 0 < ds.length) (hlast : d = ds.getD (ds.length - 1) 0) (h1 : 2 ^ j ≤ d) (h2 : d < 2 ^ (j + 1)) :
    HighOf (nv s ds e) (24 * (e + ds.length - 1) + j) := by
  obtain ⟨a1, a2⟩ := dval_last hd hl
  rw [← hlast] at a1 a2
  obtain ⟨n, hn⟩ : ∃ n, n = ds.length - 1 := ⟨_, rfl⟩
  rw [← hn] at a1 a2
  have hB := B_pos n
  have c1 : (2 : Int) ^ j * 16777216 ^ n ≤ dval ds := Int.le_trans (Int.mul_le_mul_of_nonneg_right h1 (by omega)) a1
  have c2 : dval ds < (2 : Int) ^ (j + 1) * 16777216 ^ n := Int.lt_of_lt_of_le a2 (Int.mul_le_mul_of_nonneg_right (by omega) (by omega))
  have hp := two_zpow_pos (24 * e)
  have cast (i : Nat) : (((2 : Int) ^ i * 16777216 ^ n : Int) : Rat) * (2 : Rat) ^ (24 * e) = (2 : Rat) ^ (24 * (e + ds.length - 1) + i) := by
    rw [Rat.intCast_mul, B_cast, Rat.intCast_pow, show ((2 : Int) : Rat) = 2 by rfl, ← Rat.zpow_natCast, ← two_zpow_add, ← two_zpow_add]
    congr 1; omega
  have e1 : (2 : Rat) ^ (24 * (e + ds.length - 1) + j) ≤ (dval ds : Rat) * (2 : Rat) ^ (24 * e) := by
    rw [← cast]; exact Rat.mul_le_mul_of_nonneg_right (Rat.intCast_le_intCast.2 c1) (Rat.le_of_lt hp)
  have e2 : (dval ds : Rat) * (2 : Rat) ^ (24 * e) < (2 : Rat) ^ (24 * (e + ds.length - 1) + j + 1) := by
    rw [show (24 * (e + ds.length - 1) + j + 1 : Int) = 24 * (e + ds.length - 1) + ((j + 1 : Nat) : Int) by omega, ← cast]; exact Rat.mul_lt_mul_of_pos_right (Rat.intCast_lt_intCast.2 c2) hp
  unfold HighOf nv
  rcases hs with rfl | rfl
  · left; rw [Int.one_mul]; exact ⟨e1, e2⟩
  · right; rw [Int.neg_mul, Int.one_mul, Rat.intCast_neg, Rat.neg_mul, Rat.neg_neg]; exact ⟨e1, e2⟩

theorem low_nv {s : Int} {ds : List Int} {e : Int} {d x : Int} {j : Nat} (hs : s = 1 ∨ s = -1) (hfirst : d = ds.getD 0 0) (hdd : d = x * 2 ^ j) (hx : x % 2 = 1) (hd : 0 < d) (hd2 : d < 16777216) :
    LowOf (nv s ds e) (24 * e + j) := by
  have hj : j < 24 := by
    apply Classical.byContradiction
    intro hc
    have h1 : (2 : Int) ^ 24 ≤ 2 ^ j := by
      have : (2 : Nat) ^ 24 ≤ 2 ^ j := Nat.pow_le_pow_right (by omega) (by omega)
      have e : (2 : Int) ^ j = ((2 ^ j : Nat) : Int) := by simp
      rw [e]; omega
    have hx1 : 1 ≤ x := by
      apply Classical.byContradiction
      intro hc2
      have : x * 2 ^ j ≤ 0 := Int.mul_nonpos_of_nonpos_of_nonneg (by omega) (by omega)
      omega
    have : 1 * 2 ^ j ≤ x * 2 ^ j := Int.mul_le_mul_of_nonneg_right hx1 (by omega)
    omega
  obtain ⟨y, ys, hy⟩ : ∃ y ys, ds = y :: ys := by
    cases ds with
    | nil => simp at hfirst; omega
    | cons y ys => exact ⟨y, ys, rfl⟩
  have h0 : y = d := by rw [hfirst, hy]; rfl
  have hv : dval ds = (x + 2 * (2 ^ (23 - j) * dval ys)) * 2 ^ j := by
    have h24 : (16777216 : Int) = 2 * (2 ^ (23 - j) * 2 ^ j) := by
      rw [← Int.pow_add, show 23 - j + j = 23 by omega]; rfl
    rw [hy, dval, h0, hdd, h24]; grind
  refine ⟨s * (x + 2 * (2 ^ (23 - j) * dval ys)), ?_, ?_⟩
  · rcases hs with rfl | rfl <;> omega
  · unfold nv
    rw [hv, ← Int.mul_assoc, Rat.intCast_mul (_ * _) _, Int.add_comm (24 * e), two_zpow_add, Rat.intCast_pow, show ((2 : Int) : Rat) = 2 by rfl, ← Rat.zpow_natCast, Rat.mul_assoc]

theorem high_unique {q : Rat} {h : Int} {n : Int} {l : Int} (hh : HighOf q h) (hn : q = (n : Rat) * (2 : Rat) ^ l) {b : Nat} (hb : n.natAbs < 2 ^ b) : h < l + b := by
  apply Classical.byContradiction
  intro hc
  have h1 : (2 : Rat) ^ (l + b) ≤ (2 : Rat) ^ h := by
    rw [show h = (l + b) + ((h - (l + b)).toNat : Int) by omega, two_zpow_add (l + b), two_zpow_nat]
    have : (1 : Rat) ≤ ((2 ^ (h - (l + b)).toNat : Nat) : Rat) := by exact_mod_cast Nat.one_le_two_pow
    have hp := two_zpow_pos (l + b)
    have := Rat.mul_le_mul_of_nonneg_left this (Rat.le_of_lt hp)
    rwa [Rat.mul_one] at this
  rw [two_zpow_add, two_zpow_nat] at h1
  have hp := two_zpow_pos l
  have key : ∀ m : Int, m < ((2 ^ b : Nat) : Int) → (m : Rat) * (2 : Rat) ^ l < (2 : Rat) ^ l * ((2 ^ b : Nat) : Rat) := by
    intro m hm
    rw [Rat.mul_comm ((2 : Rat) ^ l)]
    apply Rat.mul_lt_mul_of_pos_right _ hp
    rw [← Rat.intCast_natCast]
    exact_mod_cast hm
  rcases hh with ⟨a, -⟩ | ⟨a, -⟩
  · have := key n (by omega)
    rw [← hn] at this
    grind
  · have := key (-n) (by omega)
    rw [Rat.intCast_neg, Rat.neg_mul, ← hn] at this
    grind

theorem low_unique {q : Rat} {l l' : Int} {n : Int} (hl : LowOf q l) (hn : q = (n : Rat) * (2 : Rat) ^ l') : l' ≤ l := by
  apply Classical.byContradiction
  intro hc
  obtain ⟨m, hm, hq2⟩ := hl
  obtain ⟨k, hk⟩ : ∃ k : Nat, l' = l + ((k + 1 : Nat) : Int) := ⟨(l' - l - 1).toNat, by omega⟩
  have hp := two_zpow_pos l
  rw [hn, hk, two_zpow_add, two_zpow_nat] at hq2
  have h1 : (n : Rat) * ((2 ^ (k + 1) : Nat) : Rat) = (m : Rat) := by
    have hz : (2 : Rat) ^ l ≠ 0 := by grind
    have : ((n : Rat) * ((2 ^ (k + 1) : Nat) : Rat)) * (2 : Rat) ^ l = (m : Rat) * (2 : Rat) ^ l := by rw [← hq2]; grind
    calc (n : Rat) * ((2 ^ (k + 1) : Nat) : Rat) = ((n : Rat) * ((2 ^ (k + 1) : Nat) : Rat)) * (2 : Rat) ^ l / (2 : Rat) ^ l := by rw [Rat.mul_div_cancel hz]
      _ = (m : Rat) * (2 : Rat) ^ l / (2 : Rat) ^ l := by rw [this]
      _ = m := by rw [Rat.mul_div_cancel hz]
  have h2 : n * ((2 ^ (k + 1) : Nat) : Int) = m := by
    rw [← Rat.intCast_natCast, ← Rat.intCast_mul] at h1
    exact_mod_cast h1
  have h3 : m = (n * ((2 ^ k : Nat) : Int)) * 2 := by
    rw [← h2, Nat.pow_succ, Int.natCast_mul, ← Int.mul_assoc]; rfl
  omega

theorem trim_ends {s : Int} {ds : List Int} {e s' : Int} {ds' : List Int} {e' : Int} (hd : Dok ds) (hp : 0 < dval ds) (h : TrimOf s ds e s' ds' e') :
    s' = s ∧ 0 < ds'.length ∧ 0 < ds'.getD 0 0 ∧ 0 < ds'.getD (ds'.length - 1) 0 ∧ Dok ds' := by
  rcases h with ⟨-, -, -, h⟩ | ⟨h1, j, m, h2, h3, h4, -, -, -, h5, h6⟩
  · have := dval_take_zero (ds := ds) (j := ds.length) (fun i _ => h i)
    rw [List.take_length] at this; omega
  · have hl : ds'.length = m - j := by rw [h4, List.length_take, List.length_drop]; omega
    have hg (i : Nat) (hi : i < m - j) : ds'.getD i 0 = ds.getD (j + i) 0 := by
      rw [h4, List.getD_eq_getElem?_getD, List.getElem?_take, if_pos hi, List.getElem?_drop, ← List.getD_eq_getElem?_getD]
    refine ⟨h1, by omega, ?_, ?_, by rw [h4]; exact dok_sub hd j (m - j)⟩
    · rw [hg 0 (by omega), Nat.add_zero]; have := hd j; omega
    · rw [hl, hg _ (by omega), show j + (m - j - 1) = m - 1 by omega]; have := hd (m - 1); omega
end TV
