/- Products of digits. -/
import Derived.Test.YtiiipgbfhcbjdaaDoorNmA
namespace TV

theorem mul_step {cur : List Int} {p : Nat} {x cr R : Int} (hp : p < cur.length) (h : dval cur + cr * 16777216 ^ p = R) :
    dval (cur.set p ((cur.getD p 0 + x + cr) % 16777216)) + (cur.getD p 0 + x + cr) / 16777216 * 16777216 ^ (p + 1) = R + x * 16777216 ^ p := by
  rw [dval_set _ _ _ hp, Int.pow_succ, ← h]
  have hdm := Int.mul_ediv_add_emod (cur.getD p 0 + x + cr) 16777216
  generalize (cur.getD p 0 + x + cr) / 16777216 = q at *
  generalize (cur.getD p 0 + x + cr) % 16777216 = r at *
  grind

theorem mul_inner {a b cur cur' : List Int} {i k : Nat} {cr cr' : Int} (hk : k < b.length)
    (h : dval cur + cr * 16777216 ^ (i + k) = dval (a.take i) * dval b + a.getD i 0 * 16777216 ^ i * dval (b.take k))
    (hs : dval cur' + cr' * 16777216 ^ (i + k + 1) = (dval cur + cr * 16777216 ^ (i + k)) + (a.getD i 0 * b.getD k 0) * 16777216 ^ (i + k)) :
    dval cur' + cr' * 16777216 ^ (i + (k + 1)) = dval (a.take i) * dval b + a.getD i 0 * 16777216 ^ i * dval (b.take (k + 1)) := by
  rw [← Nat.add_assoc, hs, h, dval_take_succ b k hk, Int.pow_add]
  grind

theorem mul_outer {a b cur : List Int} {i : Nat} {cr : Int} (hi : i < a.length) (hl : i + b.length < cur.length) (hz : cur.getD (i + b.length) 0 = 0)
    (h : dval cur + cr * 16777216 ^ (i + b.length) = dval (a.take i) * dval b + a.getD i 0 * 16777216 ^ i * dval b) :
    dval (cur.set (i + b.length) (cur.getD (i + b.length) 0 + cr)) = dval (a.take (i + 1)) * dval b := by
  rw [dval_set _ _ _ hl, hz, dval_take_succ a i hi]
  grind

theorem mul_bound {x y : Int} (hx0 : 0 ≤ x) (hx : x < 16777216) (hy0 : 0 ≤ y) (hy : y < 16777216) : 0 ≤ x * y ∧ x * y ≤ 281474943156225 := by
  refine ⟨Int.mul_nonneg hx0 hy0, ?_⟩
  have h1 : x * y ≤ 16777215 * y := Int.mul_le_mul_of_nonneg_right (by omega) hy0
  omega

theorem dok_zero (n : Nat) : Dok (List.replicate n 0) := by
  intro i
  rw [List.getD_eq_getElem?_getD, List.getElem?_replicate]
  split <;> simp
theorem dval_zero (n : Nat) : dval (List.replicate n 0) = 0 := by
  induction n with
  | zero => rfl
  | succ n ih => rw [List.replicate_succ, dval, ih]; rfl
theorem getD_zero (n j : Nat) : (List.replicate n (0 : Int)).getD j 0 = 0 := by
  rw [List.getD_eq_getElem?_getD, List.getElem?_replicate]; split <;> rfl

theorem mul_nv {s t e g : Int} {a b os : List Int} {s' : Int} {ds' : List Int} {e' : Int} {k j : Nat} (ha : Nm s a e k) (hb : Nm t b g j) (hs : s = 1 ∨ s = -1) (ht : t = 1 ∨ t = -1)
    (hl : os.length = a.length + b.length) (hd : Dok os) (hv : dval os = dval a * dval b) (h : TrimOf (s * t) os (e + g) s' ds' e') : Nm s' ds' e' (k + j) ∧ nv s' ds' e' = nv s a e * nv t b g := by
  have h1 := ha.lo
  have h2 := hb.lo
  have h3 := ha.hi
  have h4 := hb.hi
  refine ⟨trim_nm hd h (by rcases hs with rfl | rfl <;> rcases ht with rfl | rfl <;> simp) (by omega) (by omega), ?_⟩
  rw [trim_nv h]
  unfold nv
  rw [hv, Int.mul_add, two_zpow_add, show s * t * (dval a * dval b) = (s * dval a) * (t * dval b) by grind, Rat.intCast_mul]
  grind
end TV
