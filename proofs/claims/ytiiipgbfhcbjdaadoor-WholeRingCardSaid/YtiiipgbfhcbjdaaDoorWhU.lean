/- Package whole: words moved up by some bits. Plain numbers. -/
import Derived.Test.YtiiipgbfhcbjdaaDoorWhT
namespace TV.W
/-- The words of a magnitude moved up by r bits. -/
def shl (r : Nat) : Int → List Int → List Int
  | _, [] => []
  | c, d :: ds => (d * 2 ^ r % 4294967296 + c) :: shl r (d * 2 ^ r / 4294967296) ds

theorem shl_len (r : Nat) (c : Int) (ds : List Int) : (shl r c ds).length = ds.length := by
  induction ds generalizing c with
  | nil => rfl
  | cons d ds ih => simp [shl, ih]

theorem shl_get (r : Nat) (c : Int) (ds : List Int) (i : Nat) (h : i < ds.length) : (shl r c ds).getD i 0 = ds.getD i 0 * 2 ^ r % 4294967296 + (if i = 0 then c else ds.getD (i - 1) 0 * 2 ^ r / 4294967296) := by
  induction ds generalizing c i with
  | nil => simp at h
  | cons d ds ih =>
    cases i with
    | zero => simp [shl]
    | succ i =>
      have := ih (d * 2 ^ r / 4294967296) i (by simpa using h)
      rw [shl, List.getD_cons_succ, this, List.getD_cons_succ, if_neg (Nat.succ_ne_zero i)]
      cases i with
      | zero => simp
      | succ i => simp

theorem shl_val (r : Nat) (c : Int) (ds : List Int) : dval (shl r c (ds ++ [0])) = dval ds * 2 ^ r + c := by
  induction ds generalizing c with
  | nil => simp [shl, dval]
  | cons d ds ih =>
    rw [List.cons_append, shl, dval, ih, dval, Int.add_mul, Int.mul_assoc]
    have := Int.mul_ediv_add_emod (d * 2 ^ r) 4294967296
    generalize d * 2 ^ r = x at *
    generalize dval ds * 2 ^ r = y at *
    omega

theorem p2_cut {r : Nat} (hr : r < 32) : (2 : Int) ^ (32 - r) * 2 ^ r = 4294967296 := by
  rw [← Int.pow_add, show 32 - r + r = 32 by omega]; rfl

theorem shl_word {r : Nat} (hr : r < 32) {d : Int} : ∃ X : Int, d * 2 ^ r % 4294967296 = X * 2 ^ r ∧ 0 ≤ X ∧ X * 2 ^ r + 2 ^ r ≤ 4294967296 := by
  have hp : (0 : Int) < 2 ^ r := Int.pow_pos (by decide)
  have hq : (0 : Int) < 2 ^ (32 - r) := Int.pow_pos (by decide)
  have h32 := p2_cut hr
  refine ⟨d % 2 ^ (32 - r), ?_, Int.emod_nonneg _ (by omega), ?_⟩
  · rw [← h32, Int.mul_comm d, Int.mul_comm (2 ^ (32 - r)) (2 ^ r), Int.mul_emod_mul_of_pos _ _ hp, Int.mul_comm]
  · have h1 := Int.emod_lt_of_pos d hq
    have h2 : (d % 2 ^ (32 - r) + 1) * 2 ^ r ≤ 2 ^ (32 - r) * 2 ^ r := Int.mul_le_mul_of_nonneg_right (by omega) (by omega)
    rw [h32, Int.add_mul, Int.one_mul] at h2
    exact h2

theorem shl_carry {r : Nat} {d : Int} (h0 : 0 ≤ d) (h1 : d < 4294967296) : 0 ≤ d * 2 ^ r / 4294967296 ∧ d * 2 ^ r / 4294967296 < 2 ^ r := by
  have hp : (0 : Int) < 2 ^ r := Int.pow_pos (by decide)
  have h2 : 0 ≤ d * 2 ^ r := Int.mul_nonneg h0 (by omega)
  refine ⟨Int.ediv_nonneg h2 (by decide), Int.ediv_lt_of_lt_mul (by decide) ?_⟩
  rw [Int.mul_comm (2 ^ r)]
  exact Int.mul_lt_mul_of_pos_right h1 hp

theorem shl_down {r : Nat} (hr : r < 32) (d : Int) : d / 2 ^ (32 - r) = d * 2 ^ r / 4294967296 := by
  have hp : (0 : Int) < 2 ^ r := Int.pow_pos (by decide)
  rw [← p2_cut hr, Int.mul_ediv_mul_of_pos_left _ _ hp]

theorem dok_snoc_zero {ds : List Int} (h : Dok ds) : Dok (ds ++ [0]) := by
  intro i
  rw [List.getD_eq_getElem?_getD, List.getElem?_append]
  split
  · rw [← List.getD_eq_getElem?_getD]; exact h i
  · cases i - ds.length with
    | zero => simp
    | succ n => simp

theorem shl_dok {r : Nat} (hr : r < 32) {ds : List Int} (h : Dok ds) : Dok (shl r 0 ds) := by
  intro i
  by_cases hi : i < ds.length
  · rw [shl_get r 0 ds i hi]
    obtain ⟨X, h1, h2, h3⟩ := shl_word hr (d := ds.getD i 0)
    have hp : (0 : Int) < 2 ^ r := Int.pow_pos (by decide)
    have h4 : 0 ≤ X * 2 ^ r := Int.mul_nonneg h2 (by omega)
    have h5 := shl_carry (r := r) (h (i - 1)).1 (h (i - 1)).2
    rw [h1]
    split <;> omega
  · rw [List.getD_eq_getElem?_getD, List.getElem?_eq_none (by rw [shl_len]; omega)]; simp

theorem shl_nv {k : Int} {r : Nat} (s : Int) (ds : List Int) (e : Int) (hr : (r : Int) = k % 32) : nv s (shl r 0 (ds ++ [0])) (e + k / 32) = nv s ds e * (2 : Rat) ^ k := by
  unfold nv
  have e1 : k = (r : Int) + 32 * (k / 32) := by omega
  conv => rhs; rw [e1]
  rw [shl_val, Int.add_zero, Int.mul_add 32, two_zpow_add, two_zpow_add, two_zpow_nat]
  push_cast
  grind

theorem shl_nv0 {k : Int} (s : Int) (ds : List Int) (e : Int) (hr : k % 32 = 0) : nv s ds (e + k / 32) = nv s ds e * (2 : Rat) ^ k := by
  unfold nv
  have e1 : k = 32 * (k / 32) := by omega
  conv => rhs; rw [e1]
  rw [Int.mul_add, two_zpow_add]
  grind

theorem eq_of_getD {a b : List Int} (h : a.length = b.length) (h2 : ∀ j, a.getD j 0 = b.getD j 0) : a = b := by
  apply List.ext_getElem h
  intro i h1 h3
  have := h2 i
  rw [List.getD_eq_getElem?_getD, List.getD_eq_getElem?_getD, List.getElem?_eq_getElem h1, List.getElem?_eq_getElem h3] at this
  exact this
end TV.W

namespace Go
theorem u32_or_sum {x y : Int} {r : Nat} (X : Int) (hx : x = X * 2 ^ r) (h0 : 0 ≤ X) (hx1 : x < 4294967296) (hy : 0 ≤ y) (hy1 : y < 2 ^ r) (hs : x + y < 4294967296) : bits .or .u32 x y = x + y := by
  obtain ⟨a, rfl⟩ : ∃ a : Nat, X = a := ⟨X.toNat, by omega⟩
  obtain ⟨b, rfl⟩ : ∃ b : Nat, y = b := ⟨y.toNat, by omega⟩
  have hx2 : x = ((2 ^ r * a : Nat) : Int) := by rw [hx]; push_cast; rw [Int.mul_comm]
  subst hx2
  have hb : b < 2 ^ r := by exact_mod_cast hy1
  have key : (BitVec.ofInt 32 ((2 ^ r * a : Nat) : Int) ||| BitVec.ofInt 32 (b : Int)).toNat = 2 ^ r * a + b := by
    rw [BitVec.toNat_or, BitVec.toNat_ofInt, BitVec.toNat_ofInt, Nat.two_pow_add_eq_or_of_lt hb]
    congr 1
    · generalize 2 ^ r * a = z at *; omega
    · omega
  show IntKind.u32.wrap ((BitVec.ofInt 32 ((2 ^ r * a : Nat) : Int) ||| BitVec.ofInt 32 (b : Int)).toNat : Nat) = _
  rw [key]
  generalize 2 ^ r * a = z at *
  unfold IntKind.wrap
  simp [IntKind.signed, IntKind.bits]
  omega
end Go
