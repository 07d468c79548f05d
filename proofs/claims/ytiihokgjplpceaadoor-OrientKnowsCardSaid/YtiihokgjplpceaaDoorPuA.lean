/- Texts of one kind, joined. -/
import Ieee.Arith

section
/- Numbers of digits of 24 bits, in plain Lean: the digit at a place, what so many digits tell, and exact numbers as rationals. -/
namespace TV

/-- The digit at a place. -/
def dg (ds : List Int) (e i : Int) : Int := if i < e ∨ e + ds.length ≤ i then 0 else ds.getD (i - e).toNat 0

def Dok (ds : List Int) : Prop := ∀ i, 0 ≤ ds.getD i 0 ∧ ds.getD i 0 < 16777216

theorem dg_bound {ds : List Int} (h : Dok ds) (e i : Int) : 0 ≤ dg ds e i ∧ dg ds e i < 16777216 := by
  unfold dg; split
  · omega
  · exact h _

/-- What digits tell, the lowest first. -/
def dval : List Int → Int
  | [] => 0
  | d :: ds => d + 16777216 * dval ds

/-- What the n digits from a place on tell. -/
def V (ds : List Int) (e f : Int) : Nat → Int
  | 0 => 0
  | n + 1 => V ds e f n + dg ds e (f + n) * 16777216 ^ n

theorem B_pos (n : Nat) : (0 : Int) < 16777216 ^ n := Int.pow_pos (by decide)

theorem V_bound {ds : List Int} (h : Dok ds) (e f : Int) (n : Nat) : 0 ≤ V ds e f n ∧ V ds e f n < 16777216 ^ n := by
  induction n with
  | zero => simp [V]
  | succ n ih =>
    have hb := dg_bound h e (f + n)
    have hp := B_pos n
    have h1 : 0 ≤ dg ds e (f + n) * 16777216 ^ n := Int.mul_nonneg hb.1 (Int.le_of_lt hp)
    have h2 : dg ds e (f + n) * 16777216 ^ n ≤ 16777215 * 16777216 ^ n := Int.mul_le_mul_of_nonneg_right (by omega) (Int.le_of_lt hp)
    rw [V, Int.pow_succ]
    omega

theorem dval_nonneg {ds : List Int} (h : Dok ds) : 0 ≤ dval ds := by
  induction ds with
  | nil => simp [dval]
  | cons d ds ih =>
    have h0 := h 0
    have := ih (fun i => h (i + 1))
    simp at h0
    rw [dval]; omega

theorem dval_lt {ds : List Int} (h : Dok ds) : dval ds < 16777216 ^ ds.length := by
  induction ds with
  | nil => simp [dval]
  | cons d ds ih =>
    have h0 := h 0
    have := ih (fun i => h (i + 1))
    simp at h0
    rw [dval, List.length_cons, Int.pow_succ]; omega

theorem dval_append (a b : List Int) : dval (a ++ b) = dval a + 16777216 ^ a.length * dval b := by
  induction a with
  | nil => simp [dval]
  | cons d a ih => rw [List.cons_append, dval, ih, dval, List.length_cons, Int.pow_succ]; grind

theorem dval_take_succ (ds : List Int) (n : Nat) (h : n < ds.length) : dval (ds.take (n + 1)) = dval (ds.take n) + ds.getD n 0 * 16777216 ^ n := by
  rw [List.take_succ_eq_append_getElem h, dval_append, List.length_take, Nat.min_eq_left (by omega)]
  have : ds.getD n 0 = ds[n] := by rw [List.getD_eq_getElem?_getD, List.getElem?_eq_getElem h]; rfl
  rw [this, dval, dval]; grind

/-- Digits that lie wholly among the n from f on. -/
theorem V_full {ds : List Int} {e f : Int} {n : Nat} (h1 : f ≤ e) (h2 : e + ds.length ≤ f + n) : V ds e f n = dval ds * 16777216 ^ (e - f).toNat := by
  -- count up
  have key : ∀ m : Nat, V ds e f m = if (m : Int) ≤ e - f then 0 else dval (ds.take (f + m - e).toNat) * 16777216 ^ (e - f).toNat := by
    intro m
    induction m with
    | zero => rw [if_pos (by omega)]; rfl
    | succ m ih =>
      rw [V, ih]
      by_cases c : (m : Int) + 1 ≤ e - f
      · rw [if_pos (by omega), if_pos (by omega)]
        unfold dg; rw [if_pos (Or.inl (by omega))]; simp
      · rw [if_neg (by omega : ¬ ((m + 1 : Nat) : Int) ≤ e - f)]
        by_cases c2 : (m : Int) ≤ e - f
        · rw [if_pos c2]
          have e1 : (f + ((m + 1 : Nat) : Int) - e).toNat = 0 + 1 := by omega
          have e2 : (e - f).toNat = m := by omega
          rw [e1, e2]
          by_cases c3 : 0 < ds.length
          · rw [dval_take_succ ds 0 c3]
            unfold dg; rw [if_neg (by omega), show (f + (m : Int) - e).toNat = 0 by omega]; simp [dval]
          · have : ds = [] := by cases ds with
              | nil => rfl
              | cons a t => simp at c3
            subst this
            unfold dg; rw [if_pos (by right; simp; omega)]; simp [dval]
        · rw [if_neg c2]
          have e1 : (f + ((m + 1 : Nat) : Int) - e).toNat = (f + (m : Int) - e).toNat + 1 := by omega
          rw [e1]
          by_cases c3 : (f + (m : Int) - e).toNat < ds.length
          · rw [dval_take_succ ds _ c3]
            unfold dg; rw [if_neg (by omega)]
            have e3 : m = (f + (m : Int) - e).toNat + (e - f).toNat := by omega
            have e4 : (16777216 : Int) ^ m = 16777216 ^ (f + (m : Int) - e).toNat * 16777216 ^ (e - f).toNat := by
              rw [← Int.pow_add, ← e3]
            rw [e4]; grind
          · rw [List.take_of_length_le (by omega), List.take_of_length_le (by omega)]
            unfold dg; rw [if_pos (Or.inr (by omega))]; simp
  rw [key n]
  by_cases c : (n : Int) ≤ e - f
  · rw [if_pos c]
    have : ds = [] := by cases ds with
      | nil => rfl
      | cons a t => simp at h2; omega
    subst this; simp [dval]
  · rw [if_neg c, List.take_of_length_le (by omega)]

/-- The sign of a whole number. -/
def sg (n : Int) : Int := if n < 0 then -1 else if n = 0 then 0 else 1

/-- From the highest place down: the first unlike digits decide. -/
theorem V_decides {a b : List Int} {e g f : Int} (ha : Dok a) (hb : Dok b) {n k : Nat} (heq : V a e f n - V a e f (k + 1) = V b g f n - V b g f (k + 1)) (hne : dg b g (f + k) < dg a e (f + k)) : V b g f n < V a e f n := by
  have h1 := V_bound ha e f k
  have h2 := V_bound hb g f k
  have hp := B_pos k
  have : (dg b g (f + k) + 1) * 16777216 ^ k ≤ dg a e (f + k) * 16777216 ^ k := Int.mul_le_mul_of_nonneg_right (by omega) (Int.le_of_lt hp)
  rw [V, V] at heq
  rw [Int.add_mul, Int.one_mul] at this
  omega

/-! Exact numbers. -/
def nv (s : Int) (ds : List Int) (e : Int) : Rat := ((s * dval ds : Int) : Rat) * (2 : Rat) ^ (24 * e)

theorem two_zpow_pos (e : Int) : (0 : Rat) < (2 : Rat) ^ e := Rat.zpow_pos (by decide)
theorem two_zpow_add (a b : Int) : (2 : Rat) ^ (a + b) = (2 : Rat) ^ a * (2 : Rat) ^ b := Rat.zpow_add (by decide) a b
theorem two_zpow_nat (n : Nat) : (2 : Rat) ^ (n : Int) = ((2 ^ n : Nat) : Rat) := by
  rw [Rat.zpow_natCast]; simp
theorem B_cast (n : Nat) : (((16777216 : Int) ^ n : Int) : Rat) = (2 : Rat) ^ (24 * (n : Int)) := by
  rw [show (24 * (n : Int)) = ((24 * n : Nat) : Int) by omega, two_zpow_nat, Nat.pow_mul]
  simp

/-- The sign of a rational number. -/
def rs (q : Rat) : Int := if q < 0 then -1 else if q = 0 then 0 else 1

/-- Digits, sign and place of a number that lies among the places from -k to k. -/
structure Nm (s : Int) (ds : List Int) (e : Int) (k : Nat) : Prop where
  dok : Dok ds
  sgn : (s = 0 ∧ dval ds = 0) ∨ ((s = 1 ∨ s = -1) ∧ 0 < dval ds)
  lo : -(k : Int) ≤ e
  hi : e + ds.length ≤ k

/-- What trim makes of a number. -/
def TrimOf (s : Int) (ds : List Int) (e s' : Int) (ds' : List Int) (e' : Int) : Prop :=
  (s' = 0 ∧ ds' = [] ∧ e' = 0 ∧ ∀ i, ds.getD i 0 = 0) ∨
  (s' = s ∧ ∃ j m : Nat, j < m ∧ m ≤ ds.length ∧ ds' = (ds.drop j).take (m - j) ∧ e' = e + j ∧ (∀ i, i < j → ds.getD i 0 = 0) ∧ (∀ i, m ≤ i → ds.getD i 0 = 0) ∧ ds.getD j 0 ≠ 0 ∧ ds.getD (m - 1) 0 ≠ 0)

theorem dok_sub {ds : List Int} (h : Dok ds) (j n : Nat) : Dok ((ds.drop j).take n) := by
  intro i
  rw [List.getD_eq_getElem?_getD, List.getElem?_take]
  split
  · rw [List.getElem?_drop, ← List.getD_eq_getElem?_getD]; exact h _
  · simp
theorem dval_drop_zero {ds : List Int} {m : Nat} (h : ∀ i, m ≤ i → ds.getD i 0 = 0) : dval (ds.drop m) = 0 := by
  have key : ∀ l : List Int, (∀ i, l.getD i 0 = 0) → dval l = 0 := by
    intro l
    induction l with
    | nil => intro _; rfl
    | cons a t ih =>
      intro hl
      have h0 := hl 0
      simp at h0
      rw [dval, h0, ih (fun i => hl (i + 1))]; rfl
  apply key
  intro i
  rw [List.getD_eq_getElem?_getD, List.getElem?_drop, ← List.getD_eq_getElem?_getD]; exact h _ (by omega)
theorem dval_take_zero {ds : List Int} {j : Nat} (h : ∀ i, i < j → ds.getD i 0 = 0) : dval (ds.take j) = 0 := by
  have key : ∀ l : List Int, (∀ i, l.getD i 0 = 0) → dval l = 0 := fun l hl => by
    have := dval_drop_zero (ds := l) (m := 0) (fun i _ => hl i); simpa using this
  apply key
  intro i
  rw [List.getD_eq_getElem?_getD, List.getElem?_take]
  split
  · rename_i hlt; rw [← List.getD_eq_getElem?_getD]; exact h i hlt
  · rfl

theorem dval_split (ds : List Int) (n : Nat) (h : n ≤ ds.length) : dval ds = dval (ds.take n) + 16777216 ^ n * dval (ds.drop n) := by
  have := dval_append (ds.take n) (ds.drop n)
  rw [List.take_append_drop, List.length_take, Nat.min_eq_left h] at this; exact this

theorem dval_pos {ds : List Int} (h : Dok ds) {i : Nat} (hi : ds.getD i 0 ≠ 0) : 0 < dval ds := by
  have hlt : i < ds.length := by
    apply Nat.lt_of_not_le; intro hle; exact hi (by rw [List.getD_eq_getElem?_getD, List.getElem?_eq_none hle]; rfl)
  rw [dval_split ds (i + 1) hlt, dval_take_succ ds i hlt]
  have h1 := dval_nonneg (ds := ds.take i) (by have := dok_sub h 0 i; simpa using this)
  have h2 := dval_nonneg (ds := ds.drop (i + 1)) (by have := dok_sub h (i + 1) ds.length; rwa [List.take_of_length_le (by simp)] at this)
  have h3 := (h i).1
  have h4 : 0 < ds.getD i 0 * 16777216 ^ i := Int.mul_pos (by omega) (B_pos i)
  have h5 : 0 ≤ 16777216 ^ (i + 1) * dval (ds.drop (i + 1)) := Int.mul_nonneg (Int.le_of_lt (B_pos _)) h2
  omega

/-- What trim leaves tells the same. -/
theorem trim_nv {s : Int} {ds : List Int} {e s' : Int} {ds' : List Int} {e' : Int} (h : TrimOf s ds e s' ds' e') : nv s' ds' e' = nv s ds e := by
  rcases h with ⟨rfl, rfl, rfl, hz⟩ | ⟨rfl, j, m, hj, hm, rfl, rfl, h1, h2, h3, h4⟩
  · have := dval_drop_zero (ds := ds) (m := 0) (fun i _ => hz i)
    simp at this
    unfold nv; rw [this]; simp
  · have e1 := dval_split ds j (by omega)
    rw [dval_take_zero h1, Int.zero_add] at e1
    have e2 := dval_split (ds.drop j) (m - j) (by simp; omega)
    have e3 : dval ((ds.drop j).drop (m - j)) = 0 := by rw [List.drop_drop, show j + (m - j) = m by omega]; exact dval_drop_zero h2
    rw [e3, Int.mul_zero, Int.add_zero] at e2
    unfold nv
    rw [e1, e2, show 24 * (e + (j : Int)) = 24 * (j : Int) + 24 * e by omega, two_zpow_add, ← B_cast]
    simp only [Rat.intCast_mul]
    grind

theorem trim_nm {s : Int} {ds : List Int} {e s' : Int} {ds' : List Int} {e' : Int} {k : Nat} (hd : Dok ds) (h : TrimOf s ds e s' ds' e') (hs : s = 1 ∨ s = -1) (h1 : -(k : Int) ≤ e) (h2 : e + ds.length ≤ k) : Nm s' ds' e' k := by
  rcases h with ⟨rfl, rfl, rfl, hz⟩ | ⟨rfl, j, m, hj, hm, rfl, rfl, g1, g2, g3, g4⟩
  · exact ⟨fun i => by simp, Or.inl ⟨rfl, rfl⟩, by omega, by simp⟩
  · refine ⟨dok_sub hd _ _, Or.inr ⟨hs, ?_⟩, by omega, by simp; omega⟩
    apply dval_pos (dok_sub hd _ _) (i := 0)
    rw [List.getD_eq_getElem?_getD, List.getElem?_take, if_pos (by omega), List.getElem?_drop, ← List.getD_eq_getElem?_getD]; exact g3

/-- A number by the digits from a place below it on. -/
theorem nv_V {s : Int} {ds : List Int} {e f : Int} {n : Nat} (h1 : f ≤ e) (h2 : e + ds.length ≤ f + n) : nv s ds e = ((s * V ds e f n : Int) : Rat) * (2 : Rat) ^ (24 * f) := by
  rw [V_full h1 h2]
  unfold nv
  obtain ⟨d, hd⟩ : ∃ d : Nat, e = f + d := ⟨(e - f).toNat, by omega⟩
  subst hd
  rw [show (f + (d : Int) - f).toNat = d by omega, show 24 * (f + (d : Int)) = 24 * (d : Int) + 24 * f by omega, two_zpow_add, ← B_cast]
  simp only [Rat.intCast_mul]
  grind

theorem add_nv {s t e g σ f : Int} {a b os : List Int} {s' : Int} {ds' : List Int} {e' : Int} {k : Nat} (ha : Nm s a e k) (hb : Nm t b g k) (hs : s = 1 ∨ s = -1) (ht : t = s * σ) (hf : f = min e g)
    (hl : (os.length : Int) = max (e + a.length) (g + b.length) - f + 1) (ho : Dok os) (hv : dval os = V a e f os.length + σ * V b g f os.length) (htr : TrimOf s os f s' ds' e') :
    Nm s' ds' e' (k + 1) ∧ nv s' ds' e' = nv s a e + nv t b g := by
  obtain ⟨a1, a2, a3, a4⟩ := ha
  obtain ⟨b1, b2, b3, b4⟩ := hb
  refine ⟨trim_nm ho htr hs (by omega) (by omega), ?_⟩
  rw [trim_nv htr, nv_V (s := s) (ds := a) (e := e) (f := f) (n := os.length) (by omega) (by omega), nv_V (s := t) (ds := b) (e := g) (f := f) (n := os.length) (by omega) (by omega)]
  unfold nv
  rw [hv, ht]
  simp only [Rat.intCast_mul, Rat.intCast_add]
  grind

theorem getD_set (l : List Int) (i j : Nat) (x : Int) (hi : i < l.length) : (l.set i x).getD j 0 = if j = i then x else l.getD j 0 := by
  rw [List.getD_eq_getElem?_getD, List.getElem?_set]
  by_cases h : i = j
  · subst h; simp [hi]
  · rw [if_neg h, if_neg (Ne.symm h), ← List.getD_eq_getElem?_getD]

theorem dval_set (l : List Int) (i : Nat) (x : Int) (hi : i < l.length) : dval (l.set i x) = dval l + (x - l.getD i 0) * 16777216 ^ i := by
  induction l generalizing i with
  | nil => simp at hi
  | cons a t ih =>
    cases i with
    | zero => simp [dval]; omega
    | succ i =>
      simp at hi
      have := ih i hi
      rw [List.set_cons_succ, dval, this, dval, Int.pow_succ]
      have e : (a :: t).getD (i + 1) 0 = t.getD i 0 := by simp
      rw [e]; grind

theorem dok_set {l : List Int} (h : Dok l) (i : Nat) (x : Int) (hi : i < l.length) (h0 : 0 ≤ x) (h1 : x < 16777216) : Dok (l.set i x) := by
  intro j
  rw [getD_set l i j x hi]
  split
  · exact ⟨h0, h1⟩
  · exact h j
theorem dok_append {l : List Int} (h : Dok l) (x : Int) (h0 : 0 ≤ x) (h1 : x < 16777216) : Dok (l ++ [x]) := by
  intro i
  by_cases hi1 : i < l.length
  · rw [List.getD_eq_getElem?_getD, List.getElem?_append_left hi1, ← List.getD_eq_getElem?_getD]; exact h i
  · rw [List.getD_eq_getElem?_getD, List.getElem?_append_right (by omega)]
    by_cases hi2 : i = l.length
    · subst hi2; simp; omega
    · rw [List.getElem?_eq_none (by simp; omega)]; simp

/-- One step of a product with a small number. -/
theorem step_small {cur os : List Int} {i : Nat} {tw cr : Int} (hl : cur.length = os.length) (hi : i < os.length) (hcur : cur.getD i 0 = os.getD i 0)
    (h : dval cur + cr * 16777216 ^ i = dval os + (tw - 1) * dval (os.take i)) :
    dval (cur.set i ((cur.getD i 0 * tw + cr) % 16777216)) + (cur.getD i 0 * tw + cr) / 16777216 * 16777216 ^ (i + 1) = dval os + (tw - 1) * dval (os.take (i + 1)) := by
  rw [dval_set _ _ _ (by omega), dval_take_succ os i hi, ← hcur, Int.pow_succ]
  have hdm := Int.mul_ediv_add_emod (cur.getD i 0 * tw + cr) 16777216
  generalize (cur.getD i 0 * tw + cr) % 16777216 = r at *
  generalize (cur.getD i 0 * tw + cr) / 16777216 = d at *
  generalize cur.getD i 0 = c at *
  have e : r = c * tw + cr - 16777216 * d := by omega
  rw [e]
  grind

theorem nv_power {ds : List Int} {e tw : Int} {j n : Nat} (h : dval ds = tw * n) (ht : tw = 2 ^ j) : nv 1 ds e = (n : Rat) * (2 : Rat) ^ ((j : Int) + 24 * e) := by
  unfold nv
  rw [h, ht, Int.one_mul, two_zpow_add, two_zpow_nat]
  have : (((2 : Int) ^ j * (n : Int) : Int) : Rat) = ((2 ^ j : Nat) : Rat) * (n : Rat) := by rw [Rat.intCast_mul, Rat.intCast_natCast]; simp
  rw [this, Rat.mul_comm ((2 ^ j : Nat) : Rat), Rat.mul_assoc]

end TV
end

section
/- Products of digits. -/
namespace TV

theorem mul_step {cur : List Int} {p : Nat} {x cr R : Int} (hp : p < cur.length) (h : dval cur + cr * 16777216 ^ p = R) :
    dval (cur.set p ((cur.getD p 0 + x + cr) % 16777216)) + (cur.getD p 0 + x + cr) / 16777216 * 16777216 ^ (p + 1) = R + x * 16777216 ^ p := by
  rw [dval_set _ _ _ hp, Int.pow_succ, ← h]
  have hdm := Int.mul_ediv_add_emod (cur.getD p 0 + x + cr) 16777216
  generalize (cur.getD p 0 + x + cr) / 16777216 = q at *
  generalize (cur.getD p 0 + x + cr) % 16777216 = r at *
  grind

theorem mul_inner {a b cur cur' : List Int} {i k : Nat} {cr cr' : Int} (hk : k < b.length)
    (h : dval cur + cr * 16777216 ^ (i + k) = dval (a.take i) * dval b + a.getD i 0 * 16777216 ^ i * dval (b.take k))
    (hs : dval cur' + cr' * 16777216 ^ (i + k + 1) = (dval cur + cr * 16777216 ^ (i + k)) + (a.getD i 0 * b.getD k 0) * 16777216 ^ (i + k)) :
    dval cur' + cr' * 16777216 ^ (i + (k + 1)) = dval (a.take i) * dval b + a.getD i 0 * 16777216 ^ i * dval (b.take (k + 1)) := by
  rw [← Nat.add_assoc, hs, h, dval_take_succ b k hk, Int.pow_add]
  grind

theorem mul_outer {a b cur : List Int} {i : Nat} {cr : Int} (hi : i < a.length) (hl : i + b.length < cur.length) (hz : cur.getD (i + b.length) 0 = 0)
    (h : dval cur + cr * 16777216 ^ (i + b.length) = dval (a.take i) * dval b + a.getD i 0 * 16777216 ^ i * dval b) :
    dval (cur.set (i + b.length) (cur.getD (i + b.length) 0 + cr)) = dval (a.take (i + 1)) * dval b := by
  rw [dval_set _ _ _ hl, hz, dval_take_succ a i hi]
  grind

theorem mul_bound {x y : Int} (hx0 : 0 ≤ x) (hx : x < 16777216) (hy0 : 0 ≤ y) (hy : y < 16777216) : 0 ≤ x * y ∧ x * y ≤ 281474943156225 := by
  refine ⟨Int.mul_nonneg hx0 hy0, ?_⟩
  have h1 : x * y ≤ 16777215 * y := Int.mul_le_mul_of_nonneg_right (by omega) hy0
  omega

theorem dok_zero (n : Nat) : Dok (List.replicate n 0) := by
  intro i
  rw [List.getD_eq_getElem?_getD, List.getElem?_replicate]
  split <;> simp
theorem dval_zero (n : Nat) : dval (List.replicate n 0) = 0 := by
  induction n with
  | zero => rfl
  | succ n ih => rw [List.replicate_succ, dval, ih]; rfl
theorem getD_zero (n j : Nat) : (List.replicate n (0 : Int)).getD j 0 = 0 := by
  rw [List.getD_eq_getElem?_getD, List.getElem?_replicate]; split <;> rfl

theorem mul_nv {s t e g : Int} {a b os : List Int} {s' : Int} {ds' : List Int} {e' : Int} {k j : Nat} (ha : Nm s a e k) (hb : Nm t b g j) (hs : s = 1 ∨ s = -1) (ht : t = 1 ∨ t = -1)
    (hl : os.length = a.length + b.length) (hd : Dok os) (hv : dval os = dval a * dval b) (h : TrimOf (s * t) os (e + g) s' ds' e') : Nm s' ds' e' (k + j) ∧ nv s' ds' e' = nv s a e * nv t b g := by
  have h1 := ha.lo
  have h2 := hb.lo
  have h3 := ha.hi
  have h4 := hb.hi
  refine ⟨trim_nm hd h (by rcases hs with rfl | rfl <;> rcases ht with rfl | rfl <;> simp) (by omega) (by omega), ?_⟩
  rw [trim_nv h]
  unfold nv
  rw [hv, Int.mul_add, two_zpow_add, show s * t * (dval a * dval b) = (s * dval a) * (t * dval b) by grind, Rat.intCast_mul]
  grind
end TV
end

section
/- The highest and the lowest bit of a number of digits. -/
namespace TV

/-- h is the highest bit of q. -/
def HighOf (q : Rat) (h : Int) : Prop := ((2 : Rat) ^ h ≤ q ∧ q < (2 : Rat) ^ (h + 1)) ∨ ((2 : Rat) ^ h ≤ -q ∧ -q < (2 : Rat) ^ (h + 1))
/-- l is the lowest bit of q. -/
def LowOf (q : Rat) (l : Int) : Prop := ∃ m : Int, m % 2 = 1 ∧ q = (m : Rat) * (2 : Rat) ^ l

theorem dval_last {ds : List Int} (h : Dok ds) (hl : 0 < ds.length) : ds.getD (ds.length - 1) 0 * 16777216 ^ (ds.length - 1) ≤ dval ds ∧ dval ds < (ds.getD (ds.length - 1) 0 + 1) * 16777216 ^ (ds.length - 1) := by
  have h1 := dval_take_succ ds (ds.length - 1) (by omega)
  rw [show ds.length - 1 + 1 = ds.length by omega, List.take_length] at h1
  have hd : Dok (ds.take (ds.length - 1)) := by have := dok_sub h 0 (ds.length - 1); rwa [List.drop_zero] at this
  have h2 := dval_nonneg hd
  have h3 := dval_lt hd
  rw [List.length_take, Nat.min_eq_left (by omega)] at h3
  rw [h1]
  constructor
  · omega
  · grind

theorem high_nv {s : Int} {ds : List Int} {e : Int} {d : Int} {j : Nat} (hd : Dok ds) (hs : s = 1 ∨ s = -1) (hl : 0 < ds.length) (hlast : d = ds.getD (ds.length - 1) 0) (h1 : 2 ^ j ≤ d) (h2 : d < 2 ^ (j + 1)) :
    HighOf (nv s ds e) (24 * (e + ds.length - 1) + j) := by
  obtain ⟨a1, a2⟩ := dval_last hd hl
  rw [← hlast] at a1 a2
  obtain ⟨n, hn⟩ : ∃ n, n = ds.length - 1 := ⟨_, rfl⟩
  rw [← hn] at a1 a2
  have hB := B_pos n
  have c1 : (2 : Int) ^ j * 16777216 ^ n ≤ dval ds := Int.le_trans (Int.mul_le_mul_of_nonneg_right h1 (by omega)) a1
  have c2 : dval ds < (2 : Int) ^ (j + 1) * 16777216 ^ n := Int.lt_of_lt_of_le a2 (Int.mul_le_mul_of_nonneg_right (by omega) (by omega))
  have hp := two_zpow_pos (24 * e)
  have cast (i : Nat) : (((2 : Int) ^ i * 16777216 ^ n : Int) : Rat) * (2 : Rat) ^ (24 * e) = (2 : Rat) ^ (24 * (e + ds.length - 1) + i) := by
    rw [Rat.intCast_mul, B_cast, Rat.intCast_pow, show ((2 : Int) : Rat) = 2 by rfl, ← Rat.zpow_natCast, ← two_zpow_add, ← two_zpow_add]
    congr 1; omega
  have e1 : (2 : Rat) ^ (24 * (e + ds.length - 1) + j) ≤ (dval ds : Rat) * (2 : Rat) ^ (24 * e) := by
    rw [← cast]; exact Rat.mul_le_mul_of_nonneg_right (Rat.intCast_le_intCast.2 c1) (Rat.le_of_lt hp)
  have e2 : (dval ds : Rat) * (2 : Rat) ^ (24 * e) < (2 : Rat) ^ (24 * (e + ds.length - 1) + j + 1) := by
    rw [show (24 * (e + ds.length - 1) + j + 1 : Int) = 24 * (e + ds.length - 1) + ((j + 1 : Nat) : Int) by omega, ← cast]; exact Rat.mul_lt_mul_of_pos_right (Rat.intCast_lt_intCast.2 c2) hp
  unfold HighOf nv
  rcases hs with rfl | rfl
  · left; rw [Int.one_mul]; exact ⟨e1, e2⟩
  · right; rw [Int.neg_mul, Int.one_mul, Rat.intCast_neg, Rat.neg_mul, Rat.neg_neg]; exact ⟨e1, e2⟩

theorem low_nv {s : Int} {ds : List Int} {e : Int} {d x : Int} {j : Nat} (hs : s = 1 ∨ s = -1) (hfirst : d = ds.getD 0 0) (hdd : d = x * 2 ^ j) (hx : x % 2 = 1) (hd : 0 < d) (hd2 : d < 16777216) :
    LowOf (nv s ds e) (24 * e + j) := by
  have hj : j < 24 := by
    apply Classical.byContradiction
    intro hc
    have h1 : (2 : Int) ^ 24 ≤ 2 ^ j := by
      have : (2 : Nat) ^ 24 ≤ 2 ^ j := Nat.pow_le_pow_right (by omega) (by omega)
      have e : (2 : Int) ^ j = ((2 ^ j : Nat) : Int) := by simp
      rw [e]; omega
    have hx1 : 1 ≤ x := by
      apply Classical.byContradiction
      intro hc2
      have : x * 2 ^ j ≤ 0 := Int.mul_nonpos_of_nonpos_of_nonneg (by omega) (by omega)
      omega
    have : 1 * 2 ^ j ≤ x * 2 ^ j := Int.mul_le_mul_of_nonneg_right hx1 (by omega)
    omega
  obtain ⟨y, ys, hy⟩ : ∃ y ys, ds = y :: ys := by
    cases ds with
    | nil => simp at hfirst; omega
    | cons y ys => exact ⟨y, ys, rfl⟩
  have h0 : y = d := by rw [hfirst, hy]; rfl
  have hv : dval ds = (x + 2 * (2 ^ (23 - j) * dval ys)) * 2 ^ j := by
    have h24 : (16777216 : Int) = 2 * (2 ^ (23 - j) * 2 ^ j) := by
      rw [← Int.pow_add, show 23 - j + j = 23 by omega]; rfl
    rw [hy, dval, h0, hdd, h24]; grind
  refine ⟨s * (x + 2 * (2 ^ (23 - j) * dval ys)), ?_, ?_⟩
  · rcases hs with rfl | rfl <;> omega
  · unfold nv
    rw [hv, ← Int.mul_assoc, Rat.intCast_mul (_ * _) _, Int.add_comm (24 * e), two_zpow_add, Rat.intCast_pow, show ((2 : Int) : Rat) = 2 by rfl, ← Rat.zpow_natCast, Rat.mul_assoc]

theorem high_unique {q : Rat} {h : Int} {n : Int} {l : Int} (hh : HighOf q h) (hn : q = (n : Rat) * (2 : Rat) ^ l) {b : Nat} (hb : n.natAbs < 2 ^ b) : h < l + b := by
  apply Classical.byContradiction
  intro hc
  have h1 : (2 : Rat) ^ (l + b) ≤ (2 : Rat) ^ h := by
    rw [show h = (l + b) + ((h - (l + b)).toNat : Int) by omega, two_zpow_add (l + b), two_zpow_nat]
    have : (1 : Rat) ≤ ((2 ^ (h - (l + b)).toNat : Nat) : Rat) := by exact_mod_cast Nat.one_le_two_pow
    have hp := two_zpow_pos (l + b)
    have := Rat.mul_le_mul_of_nonneg_left this (Rat.le_of_lt hp)
    rwa [Rat.mul_one] at this
  rw [two_zpow_add, two_zpow_nat] at h1
  have hp := two_zpow_pos l
  have key : ∀ m : Int, m < ((2 ^ b : Nat) : Int) → (m : Rat) * (2 : Rat) ^ l < (2 : Rat) ^ l * ((2 ^ b : Nat) : Rat) := by
    intro m hm
    rw [Rat.mul_comm ((2 : Rat) ^ l)]
    apply Rat.mul_lt_mul_of_pos_right _ hp
    rw [← Rat.intCast_natCast]
    exact_mod_cast hm
  rcases hh with ⟨a, -⟩ | ⟨a, -⟩
  · have := key n (by omega)
    rw [← hn] at this
    grind
  · have := key (-n) (by omega)
    rw [Rat.intCast_neg, Rat.neg_mul, ← hn] at this
    grind

theorem low_unique {q : Rat} {l l' : Int} {n : Int} (hl : LowOf q l) (hn : q = (n : Rat) * (2 : Rat) ^ l') : l' ≤ l := by
  apply Classical.byContradiction
  intro hc
  obtain ⟨m, hm, hq2⟩ := hl
  obtain ⟨k, hk⟩ : ∃ k : Nat, l' = l + ((k + 1 : Nat) : Int) := ⟨(l' - l - 1).toNat, by omega⟩
  have hp := two_zpow_pos l
  rw [hn, hk, two_zpow_add, two_zpow_nat] at hq2
  have h1 : (n : Rat) * ((2 ^ (k + 1) : Nat) : Rat) = (m : Rat) := by
    have hz : (2 : Rat) ^ l ≠ 0 := by grind
    have : ((n : Rat) * ((2 ^ (k + 1) : Nat) : Rat)) * (2 : Rat) ^ l = (m : Rat) * (2 : Rat) ^ l := by rw [← hq2]; grind
    calc (n : Rat) * ((2 ^ (k + 1) : Nat) : Rat) = ((n : Rat) * ((2 ^ (k + 1) : Nat) : Rat)) * (2 : Rat) ^ l / (2 : Rat) ^ l := by rw [Rat.mul_div_cancel hz]
      _ = (m : Rat) * (2 : Rat) ^ l / (2 : Rat) ^ l := by rw [this]
      _ = m := by rw [Rat.mul_div_cancel hz]
  have h2 : n * ((2 ^ (k + 1) : Nat) : Int) = m := by
    rw [← Rat.intCast_natCast, ← Rat.intCast_mul] at h1
    exact_mod_cast h1
  have h3 : m = (n * ((2 ^ k : Nat) : Int)) * 2 := by
    rw [← h2, Nat.pow_succ, Int.natCast_mul, ← Int.mul_assoc]; rfl
  omega

theorem trim_ends {s : Int} {ds : List Int} {e s' : Int} {ds' : List Int} {e' : Int} (hd : Dok ds) (hp : 0 < dval ds) (h : TrimOf s ds e s' ds' e') :
    s' = s ∧ 0 < ds'.length ∧ 0 < ds'.getD 0 0 ∧ 0 < ds'.getD (ds'.length - 1) 0 ∧ Dok ds' := by
  rcases h with ⟨-, -, -, h⟩ | ⟨h1, j, m, h2, h3, h4, -, -, -, h5, h6⟩
  · have := dval_take_zero (ds := ds) (j := ds.length) (fun i _ => h i)
    rw [List.take_length] at this; omega
  · have hl : ds'.length = m - j := by rw [h4, List.length_take, List.length_drop]; omega
    have hg (i : Nat) (hi : i < m - j) : ds'.getD i 0 = ds.getD (j + i) 0 := by
      rw [h4, List.getD_eq_getElem?_getD, List.getElem?_take, if_pos hi, List.getElem?_drop, ← List.getD_eq_getElem?_getD]
    refine ⟨h1, by omega, ?_, ?_, by rw [h4]; exact dok_sub hd j (m - j)⟩
    · rw [hg 0 (by omega), Nat.add_zero]; have := hd j; omega
    · rw [hl, hg _ (by omega), show j + (m - j - 1) = m - 1 by omega]; have := hd (m - 1); omega
end TV
end

section
/- Numbers of words of 32 bits, in plain Lean (printed by gen_WhA.py from XNmA, XNmB, XNmC). -/
namespace TV.W
/-- The digit at a place. -/
def dg (ds : List Int) (e i : Int) : Int := if i < e ∨ e + ds.length ≤ i then 0 else ds.getD (i - e).toNat 0

def Dok (ds : List Int) : Prop := ∀ i, 0 ≤ ds.getD i 0 ∧ ds.getD i 0 < 4294967296

theorem dg_bound {ds : List Int} (h : Dok ds) (e i : Int) : 0 ≤ dg ds e i ∧ dg ds e i < 4294967296 := by
  unfold dg; split
  · omega
  · exact h _

/-- What digits tell, the lowest first. -/
def dval : List Int → Int
  | [] => 0
  | d :: ds => d + 4294967296 * dval ds

/-- What the n digits from a place on tell. -/
def V (ds : List Int) (e f : Int) : Nat → Int
  | 0 => 0
  | n + 1 => V ds e f n + dg ds e (f + n) * 4294967296 ^ n

theorem B_pos (n : Nat) : (0 : Int) < 4294967296 ^ n := Int.pow_pos (by decide)

theorem V_bound {ds : List Int} (h : Dok ds) (e f : Int) (n : Nat) : 0 ≤ V ds e f n ∧ V ds e f n < 4294967296 ^ n := by
  induction n with
  | zero => simp [V]
  | succ n ih =>
    have hb := dg_bound h e (f + n)
    have hp := B_pos n
    have h1 : 0 ≤ dg ds e (f + n) * 4294967296 ^ n := Int.mul_nonneg hb.1 (Int.le_of_lt hp)
    have h2 : dg ds e (f + n) * 4294967296 ^ n ≤ 4294967295 * 4294967296 ^ n := Int.mul_le_mul_of_nonneg_right (by omega) (Int.le_of_lt hp)
    rw [V, Int.pow_succ]
    omega

theorem dval_nonneg {ds : List Int} (h : Dok ds) : 0 ≤ dval ds := by
  induction ds with
  | nil => simp [dval]
  | cons d ds ih =>
    have h0 := h 0
    have := ih (fun i => h (i + 1))
    simp at h0
    rw [dval]; omega

theorem dval_lt {ds : List Int} (h : Dok ds) : dval ds < 4294967296 ^ ds.length := by
  induction ds with
  | nil => simp [dval]
  | cons d ds ih =>
    have h0 := h 0
    have := ih (fun i => h (i + 1))
    simp at h0
    rw [dval, List.length_cons, Int.pow_succ]; omega

theorem dval_append (a b : List Int) : dval (a ++ b) = dval a + 4294967296 ^ a.length * dval b := by
  induction a with
  | nil => simp [dval]
  | cons d a ih => rw [List.cons_append, dval, ih, dval, List.length_cons, Int.pow_succ]; grind

theorem dval_take_succ (ds : List Int) (n : Nat) (h : n < ds.length) : dval (ds.take (n + 1)) = dval (ds.take n) + ds.getD n 0 * 4294967296 ^ n := by
  rw [List.take_succ_eq_append_getElem h, dval_append, List.length_take, Nat.min_eq_left (by omega)]
  have : ds.getD n 0 = ds[n] := by rw [List.getD_eq_getElem?_getD, List.getElem?_eq_getElem h]; rfl
  rw [this, dval, dval]; grind

/-- Digits that lie wholly among the n from f on. -/
theorem V_full {ds : List Int} {e f : Int} {n : Nat} (h1 : f ≤ e) (h2 : e + ds.length ≤ f + n) : V ds e f n = dval ds * 4294967296 ^ (e - f).toNat := by
  -- count up
  have key : ∀ m : Nat, V ds e f m = if (m : Int) ≤ e - f then 0 else dval (ds.take (f + m - e).toNat) * 4294967296 ^ (e - f).toNat := by
    intro m
    induction m with
    | zero => rw [if_pos (by omega)]; rfl
    | succ m ih =>
      rw [V, ih]
      by_cases c : (m : Int) + 1 ≤ e - f
      · rw [if_pos (by omega), if_pos (by omega)]
        unfold dg; rw [if_pos (Or.inl (by omega))]; simp
      · rw [if_neg (by omega : ¬ ((m + 1 : Nat) : Int) ≤ e - f)]
        by_cases c2 : (m : Int) ≤ e - f
        · rw [if_pos c2]
          have e1 : (f + ((m + 1 : Nat) : Int) - e).toNat = 0 + 1 := by omega
          have e2 : (e - f).toNat = m := by omega
          rw [e1, e2]
          by_cases c3 : 0 < ds.length
          · rw [dval_take_succ ds 0 c3]
            unfold dg; rw [if_neg (by omega), show (f + (m : Int) - e).toNat = 0 by omega]; simp [dval]
          · have : ds = [] := by cases ds with
              | nil => rfl
              | cons a t => simp at c3
            subst this
            unfold dg; rw [if_pos (by right; simp; omega)]; simp [dval]
        · rw [if_neg c2]
          have e1 : (f + ((m + 1 : Nat) : Int) - e).toNat = (f + (m : Int) - e).toNat + 1 := by omega
          rw [e1]
          by_cases c3 : (f + (m : Int) - e).toNat < ds.length
          · rw [dval_take_succ ds _ c3]
            unfold dg; rw [if_neg (by omega)]
            have e3 : m = (f + (m : Int) - e).toNat + (e - f).toNat := by omega
            have e4 : (4294967296 : Int) ^ m = 4294967296 ^ (f + (m : Int) - e).toNat * 4294967296 ^ (e - f).toNat := by
              rw [← Int.pow_add, ← e3]
            rw [e4]; grind
          · rw [List.take_of_length_le (by omega), List.take_of_length_le (by omega)]
            unfold dg; rw [if_pos (Or.inr (by omega))]; simp
  rw [key n]
  by_cases c : (n : Int) ≤ e - f
  · rw [if_pos c]
    have : ds = [] := by cases ds with
      | nil => rfl
      | cons a t => simp at h2; omega
    subst this; simp [dval]
  · rw [if_neg c, List.take_of_length_le (by omega)]

/-- From the highest place down: the first unlike digits decide. -/
theorem V_decides {a b : List Int} {e g f : Int} (ha : Dok a) (hb : Dok b) {n k : Nat} (heq : V a e f n - V a e f (k + 1) = V b g f n - V b g f (k + 1)) (hne : dg b g (f + k) < dg a e (f + k)) : V b g f n < V a e f n := by
  have h1 := V_bound ha e f k
  have h2 := V_bound hb g f k
  have hp := B_pos k
  have : (dg b g (f + k) + 1) * 4294967296 ^ k ≤ dg a e (f + k) * 4294967296 ^ k := Int.mul_le_mul_of_nonneg_right (by omega) (Int.le_of_lt hp)
  rw [V, V] at heq
  rw [Int.add_mul, Int.one_mul] at this
  omega

/-! Exact numbers. -/

def nv (s : Int) (ds : List Int) (e : Int) : Rat := ((s * dval ds : Int) : Rat) * (2 : Rat) ^ (32 * e)

theorem B_cast (n : Nat) : (((4294967296 : Int) ^ n : Int) : Rat) = (2 : Rat) ^ (32 * (n : Int)) := by
  rw [show (32 * (n : Int)) = ((32 * n : Nat) : Int) by omega, two_zpow_nat, Nat.pow_mul]
  simp

/-- Digits, sign and place of a number that lies among the places from -k to k. -/
structure Nm (s : Int) (ds : List Int) (e : Int) (k : Nat) : Prop where
  dok : Dok ds
  sgn : (s = 0 ∧ dval ds = 0) ∨ ((s = 1 ∨ s = -1) ∧ 0 < dval ds)
  lo : -(k : Int) ≤ e
  hi : e + ds.length ≤ k

/-- What trim makes of a number. -/
def TrimOf (s : Int) (ds : List Int) (e s' : Int) (ds' : List Int) (e' : Int) : Prop :=
  (s' = 0 ∧ ds' = [] ∧ e' = 0 ∧ ∀ i, ds.getD i 0 = 0) ∨
  (s' = s ∧ ∃ j m : Nat, j < m ∧ m ≤ ds.length ∧ ds' = (ds.drop j).take (m - j) ∧ e' = e + j ∧ (∀ i, i < j → ds.getD i 0 = 0) ∧ (∀ i, m ≤ i → ds.getD i 0 = 0) ∧ ds.getD j 0 ≠ 0 ∧ ds.getD (m - 1) 0 ≠ 0)

theorem dok_sub {ds : List Int} (h : Dok ds) (j n : Nat) : Dok ((ds.drop j).take n) := by
  intro i
  rw [List.getD_eq_getElem?_getD, List.getElem?_take]
  split
  · rw [List.getElem?_drop, ← List.getD_eq_getElem?_getD]; exact h _
  · simp

theorem dval_drop_zero {ds : List Int} {m : Nat} (h : ∀ i, m ≤ i → ds.getD i 0 = 0) : dval (ds.drop m) = 0 := by
  have key : ∀ l : List Int, (∀ i, l.getD i 0 = 0) → dval l = 0 := by
    intro l
    induction l with
    | nil => intro _; rfl
    | cons a t ih =>
      intro hl
      have h0 := hl 0
      simp at h0
      rw [dval, h0, ih (fun i => hl (i + 1))]; rfl
  apply key
  intro i
  rw [List.getD_eq_getElem?_getD, List.getElem?_drop, ← List.getD_eq_getElem?_getD]; exact h _ (by omega)

theorem dval_take_zero {ds : List Int} {j : Nat} (h : ∀ i, i < j → ds.getD i 0 = 0) : dval (ds.take j) = 0 := by
  have key : ∀ l : List Int, (∀ i, l.getD i 0 = 0) → dval l = 0 := fun l hl => by
    have := dval_drop_zero (ds := l) (m := 0) (fun i _ => hl i); simpa using this
  apply key
  intro i
  rw [List.getD_eq_getElem?_getD, List.getElem?_take]
  split
  · rename_i hlt; rw [← List.getD_eq_getElem?_getD]; exact h i hlt
  · rfl

theorem dval_split (ds : List Int) (n : Nat) (h : n ≤ ds.length) : dval ds = dval (ds.take n) + 4294967296 ^ n * dval (ds.drop n) := by
  have := dval_append (ds.take n) (ds.drop n)
  rw [List.take_append_drop, List.length_take, Nat.min_eq_left h] at this; exact this

theorem dval_pos {ds : List Int} (h : Dok ds) {i : Nat} (hi : ds.getD i 0 ≠ 0) : 0 < dval ds := by
  have hlt : i < ds.length := by
    apply Nat.lt_of_not_le; intro hle; exact hi (by rw [List.getD_eq_getElem?_getD, List.getElem?_eq_none hle]; rfl)
  rw [dval_split ds (i + 1) hlt, dval_take_succ ds i hlt]
  have h1 := dval_nonneg (ds := ds.take i) (by have := dok_sub h 0 i; simpa using this)
  have h2 := dval_nonneg (ds := ds.drop (i + 1)) (by have := dok_sub h (i + 1) ds.length; rwa [List.take_of_length_le (by simp)] at this)
  have h3 := (h i).1
  have h4 : 0 < ds.getD i 0 * 4294967296 ^ i := Int.mul_pos (by omega) (B_pos i)
  have h5 : 0 ≤ 4294967296 ^ (i + 1) * dval (ds.drop (i + 1)) := Int.mul_nonneg (Int.le_of_lt (B_pos _)) h2
  omega

/-- What trim leaves tells the same. -/
theorem trim_nv {s : Int} {ds : List Int} {e s' : Int} {ds' : List Int} {e' : Int} (h : TrimOf s ds e s' ds' e') : nv s' ds' e' = nv s ds e := by
  rcases h with ⟨rfl, rfl, rfl, hz⟩ | ⟨rfl, j, m, hj, hm, rfl, rfl, h1, h2, h3, h4⟩
  · have := dval_drop_zero (ds := ds) (m := 0) (fun i _ => hz i)
    simp at this
    unfold nv; rw [this]; simp
  · have e1 := dval_split ds j (by omega)
    rw [dval_take_zero h1, Int.zero_add] at e1
    have e2 := dval_split (ds.drop j) (m - j) (by simp; omega)
    have e3 : dval ((ds.drop j).drop (m - j)) = 0 := by rw [List.drop_drop, show j + (m - j) = m by omega]; exact dval_drop_zero h2
    rw [e3, Int.mul_zero, Int.add_zero] at e2
    unfold nv
    rw [e1, e2, show 32 * (e + (j : Int)) = 32 * (j : Int) + 32 * e by omega, two_zpow_add, ← B_cast]
    simp only [Rat.intCast_mul]
    grind

theorem trim_nm {s : Int} {ds : List Int} {e s' : Int} {ds' : List Int} {e' : Int} {k : Nat} (hd : Dok ds) (h : TrimOf s ds e s' ds' e') (hs : s = 1 ∨ s = -1) (h1 : -(k : Int) ≤ e) (h2 : e + ds.length ≤ k) : Nm s' ds' e' k := by
  rcases h with ⟨rfl, rfl, rfl, hz⟩ | ⟨rfl, j, m, hj, hm, rfl, rfl, g1, g2, g3, g4⟩
  · exact ⟨fun i => by simp, Or.inl ⟨rfl, rfl⟩, by omega, by simp⟩
  · refine ⟨dok_sub hd _ _, Or.inr ⟨hs, ?_⟩, by omega, by simp; omega⟩
    apply dval_pos (dok_sub hd _ _) (i := 0)
    rw [List.getD_eq_getElem?_getD, List.getElem?_take, if_pos (by omega), List.getElem?_drop, ← List.getD_eq_getElem?_getD]; exact g3

/-- A number by the digits from a place below it on. -/
theorem nv_V {s : Int} {ds : List Int} {e f : Int} {n : Nat} (h1 : f ≤ e) (h2 : e + ds.length ≤ f + n) : nv s ds e = ((s * V ds e f n : Int) : Rat) * (2 : Rat) ^ (32 * f) := by
  rw [V_full h1 h2]
  unfold nv
  obtain ⟨d, hd⟩ : ∃ d : Nat, e = f + d := ⟨(e - f).toNat, by omega⟩
  subst hd
  rw [show (f + (d : Int) - f).toNat = d by omega, show 32 * (f + (d : Int)) = 32 * (d : Int) + 32 * f by omega, two_zpow_add, ← B_cast]
  simp only [Rat.intCast_mul]
  grind

theorem add_nv {s t e g σ f : Int} {a b os : List Int} {s' : Int} {ds' : List Int} {e' : Int} {k : Nat} (ha : Nm s a e k) (hb : Nm t b g k) (hs : s = 1 ∨ s = -1) (ht : t = s * σ) (hf : f = min e g)
    (hl : (os.length : Int) = max (e + a.length) (g + b.length) - f + 1) (ho : Dok os) (hv : dval os = V a e f os.length + σ * V b g f os.length) (htr : TrimOf s os f s' ds' e') :
    Nm s' ds' e' (k + 1) ∧ nv s' ds' e' = nv s a e + nv t b g := by
  obtain ⟨a1, a2, a3, a4⟩ := ha
  obtain ⟨b1, b2, b3, b4⟩ := hb
  refine ⟨trim_nm ho htr hs (by omega) (by omega), ?_⟩
  rw [trim_nv htr, nv_V (s := s) (ds := a) (e := e) (f := f) (n := os.length) (by omega) (by omega), nv_V (s := t) (ds := b) (e := g) (f := f) (n := os.length) (by omega) (by omega)]
  unfold nv
  rw [hv, ht]
  simp only [Rat.intCast_mul, Rat.intCast_add]
  grind

theorem dval_set (l : List Int) (i : Nat) (x : Int) (hi : i < l.length) : dval (l.set i x) = dval l + (x - l.getD i 0) * 4294967296 ^ i := by
  induction l generalizing i with
  | nil => simp at hi
  | cons a t ih =>
    cases i with
    | zero => simp [dval]; omega
    | succ i =>
      simp at hi
      have := ih i hi
      rw [List.set_cons_succ, dval, this, dval, Int.pow_succ]
      have e : (a :: t).getD (i + 1) 0 = t.getD i 0 := by simp
      rw [e]; grind

theorem dok_set {l : List Int} (h : Dok l) (i : Nat) (x : Int) (hi : i < l.length) (h0 : 0 ≤ x) (h1 : x < 4294967296) : Dok (l.set i x) := by
  intro j
  rw [getD_set l i j x hi]
  split
  · exact ⟨h0, h1⟩
  · exact h j

theorem dok_append {l : List Int} (h : Dok l) (x : Int) (h0 : 0 ≤ x) (h1 : x < 4294967296) : Dok (l ++ [x]) := by
  intro i
  by_cases hi1 : i < l.length
  · rw [List.getD_eq_getElem?_getD, List.getElem?_append_left hi1, ← List.getD_eq_getElem?_getD]; exact h i
  · rw [List.getD_eq_getElem?_getD, List.getElem?_append_right (by omega)]
    by_cases hi2 : i = l.length
    · subst hi2; simp; omega
    · rw [List.getElem?_eq_none (by simp; omega)]; simp

theorem mul_step {cur : List Int} {p : Nat} {x cr R : Int} (hp : p < cur.length) (h : dval cur + cr * 4294967296 ^ p = R) :
    dval (cur.set p ((cur.getD p 0 + x + cr) % 4294967296)) + (cur.getD p 0 + x + cr) / 4294967296 * 4294967296 ^ (p + 1) = R + x * 4294967296 ^ p := by
  rw [dval_set _ _ _ hp, Int.pow_succ, ← h]
  have hdm := Int.mul_ediv_add_emod (cur.getD p 0 + x + cr) 4294967296
  generalize (cur.getD p 0 + x + cr) / 4294967296 = q at *
  generalize (cur.getD p 0 + x + cr) % 4294967296 = r at *
  grind

theorem mul_inner {a b cur cur' : List Int} {i k : Nat} {cr cr' : Int} (hk : k < b.length)
    (h : dval cur + cr * 4294967296 ^ (i + k) = dval (a.take i) * dval b + a.getD i 0 * 4294967296 ^ i * dval (b.take k))
    (hs : dval cur' + cr' * 4294967296 ^ (i + k + 1) = (dval cur + cr * 4294967296 ^ (i + k)) + (a.getD i 0 * b.getD k 0) * 4294967296 ^ (i + k)) :
    dval cur' + cr' * 4294967296 ^ (i + (k + 1)) = dval (a.take i) * dval b + a.getD i 0 * 4294967296 ^ i * dval (b.take (k + 1)) := by
  rw [← Nat.add_assoc, hs, h, dval_take_succ b k hk, Int.pow_add]
  grind

theorem mul_outer {a b cur : List Int} {i : Nat} {cr : Int} (hi : i < a.length) (hl : i + b.length < cur.length) (hz : cur.getD (i + b.length) 0 = 0)
    (h : dval cur + cr * 4294967296 ^ (i + b.length) = dval (a.take i) * dval b + a.getD i 0 * 4294967296 ^ i * dval b) :
    dval (cur.set (i + b.length) (cur.getD (i + b.length) 0 + cr)) = dval (a.take (i + 1)) * dval b := by
  rw [dval_set _ _ _ hl, hz, dval_take_succ a i hi]
  grind

theorem mul_bound {x y : Int} (hx0 : 0 ≤ x) (hx : x < 4294967296) (hy0 : 0 ≤ y) (hy : y < 4294967296) : 0 ≤ x * y ∧ x * y ≤ 18446744065119617025 := by
  refine ⟨Int.mul_nonneg hx0 hy0, ?_⟩
  have h1 : x * y ≤ 4294967295 * y := Int.mul_le_mul_of_nonneg_right (by omega) hy0
  omega

theorem dok_zero (n : Nat) : Dok (List.replicate n 0) := by
  intro i
  rw [List.getD_eq_getElem?_getD, List.getElem?_replicate]
  split <;> simp

theorem dval_zero (n : Nat) : dval (List.replicate n 0) = 0 := by
  induction n with
  | zero => rfl
  | succ n ih => rw [List.replicate_succ, dval, ih]; rfl

theorem mul_nv {s t e g : Int} {a b os : List Int} {s' : Int} {ds' : List Int} {e' : Int} {k j : Nat} (ha : Nm s a e k) (hb : Nm t b g j) (hs : s = 1 ∨ s = -1) (ht : t = 1 ∨ t = -1)
    (hl : os.length = a.length + b.length) (hd : Dok os) (hv : dval os = dval a * dval b) (h : TrimOf (s * t) os (e + g) s' ds' e') : Nm s' ds' e' (k + j) ∧ nv s' ds' e' = nv s a e * nv t b g := by
  have h1 := ha.lo
  have h2 := hb.lo
  have h3 := ha.hi
  have h4 := hb.hi
  refine ⟨trim_nm hd h (by rcases hs with rfl | rfl <;> rcases ht with rfl | rfl <;> simp) (by omega) (by omega), ?_⟩
  rw [trim_nv h]
  unfold nv
  rw [hv, Int.mul_add, two_zpow_add, show s * t * (dval a * dval b) = (s * dval a) * (t * dval b) by grind, Rat.intCast_mul]
  grind

theorem dval_last {ds : List Int} (h : Dok ds) (hl : 0 < ds.length) : ds.getD (ds.length - 1) 0 * 4294967296 ^ (ds.length - 1) ≤ dval ds ∧ dval ds < (ds.getD (ds.length - 1) 0 + 1) * 4294967296 ^ (ds.length - 1) := by
  have h1 := dval_take_succ ds (ds.length - 1) (by omega)
  rw [show ds.length - 1 + 1 = ds.length by omega, List.take_length] at h1
  have hd : Dok (ds.take (ds.length - 1)) := by have := dok_sub h 0 (ds.length - 1); rwa [List.drop_zero] at this
  have h2 := dval_nonneg hd
  have h3 := dval_lt hd
  rw [List.length_take, Nat.min_eq_left (by omega)] at h3
  rw [h1]
  constructor
  · omega
  · grind

theorem high_nv {s : Int} {ds : List Int} {e : Int} {d : Int} {j : Nat} (hd : Dok ds) (hs : s = 1 ∨ s = -1) (hl : 0 < ds.length) (hlast : d = ds.getD (ds.length - 1) 0) (h1 : 2 ^ j ≤ d) (h2 : d < 2 ^ (j + 1)) :
    HighOf (nv s ds e) (32 * (e + ds.length - 1) + j) := by
  obtain ⟨a1, a2⟩ := dval_last hd hl
  rw [← hlast] at a1 a2
  obtain ⟨n, hn⟩ : ∃ n, n = ds.length - 1 := ⟨_, rfl⟩
  rw [← hn] at a1 a2
  have hB := B_pos n
  have c1 : (2 : Int) ^ j * 4294967296 ^ n ≤ dval ds := Int.le_trans (Int.mul_le_mul_of_nonneg_right h1 (by omega)) a1
  have c2 : dval ds < (2 : Int) ^ (j + 1) * 4294967296 ^ n := Int.lt_of_lt_of_le a2 (Int.mul_le_mul_of_nonneg_right (by omega) (by omega))
  have hp := two_zpow_pos (32 * e)
  have cast (i : Nat) : (((2 : Int) ^ i * 4294967296 ^ n : Int) : Rat) * (2 : Rat) ^ (32 * e) = (2 : Rat) ^ (32 * (e + ds.length - 1) + i) := by
    rw [Rat.intCast_mul, B_cast, Rat.intCast_pow, show ((2 : Int) : Rat) = 2 by rfl, ← Rat.zpow_natCast, ← two_zpow_add, ← two_zpow_add]
    congr 1; omega
  have e1 : (2 : Rat) ^ (32 * (e + ds.length - 1) + j) ≤ (dval ds : Rat) * (2 : Rat) ^ (32 * e) := by
    rw [← cast]; exact Rat.mul_le_mul_of_nonneg_right (Rat.intCast_le_intCast.2 c1) (Rat.le_of_lt hp)
  have e2 : (dval ds : Rat) * (2 : Rat) ^ (32 * e) < (2 : Rat) ^ (32 * (e + ds.length - 1) + j + 1) := by
    rw [show (32 * (e + ds.length - 1) + j + 1 : Int) = 32 * (e + ds.length - 1) + ((j + 1 : Nat) : Int) by omega, ← cast]; exact Rat.mul_lt_mul_of_pos_right (Rat.intCast_lt_intCast.2 c2) hp
  unfold HighOf nv
  rcases hs with rfl | rfl
  · left; rw [Int.one_mul]; exact ⟨e1, e2⟩
  · right; rw [Int.neg_mul, Int.one_mul, Rat.intCast_neg, Rat.neg_mul, Rat.neg_neg]; exact ⟨e1, e2⟩

theorem low_nv {s : Int} {ds : List Int} {e : Int} {d x : Int} {j : Nat} (hs : s = 1 ∨ s = -1) (hfirst : d = ds.getD 0 0) (hdd : d = x * 2 ^ j) (hx : x % 2 = 1) (hd : 0 < d) (hd2 : d < 4294967296) :
    LowOf (nv s ds e) (32 * e + j) := by
  have hj : j < 32 := by
    apply Classical.byContradiction
    intro hc
    have h1 : (2 : Int) ^ 32 ≤ 2 ^ j := by
      have : (2 : Nat) ^ 32 ≤ 2 ^ j := Nat.pow_le_pow_right (by omega) (by omega)
      have e : (2 : Int) ^ j = ((2 ^ j : Nat) : Int) := by simp
      rw [e]; omega
    have hx1 : 1 ≤ x := by
      apply Classical.byContradiction
      intro hc2
      have : x * 2 ^ j ≤ 0 := Int.mul_nonpos_of_nonpos_of_nonneg (by omega) (by omega)
      omega
    have : 1 * 2 ^ j ≤ x * 2 ^ j := Int.mul_le_mul_of_nonneg_right hx1 (by omega)
    omega
  obtain ⟨y, ys, hy⟩ : ∃ y ys, ds = y :: ys := by
    cases ds with
    | nil => simp at hfirst; omega
    | cons y ys => exact ⟨y, ys, rfl⟩
  have h0 : y = d := by rw [hfirst, hy]; rfl
  have hv : dval ds = (x + 2 * (2 ^ (31 - j) * dval ys)) * 2 ^ j := by
    have h24 : (4294967296 : Int) = 2 * (2 ^ (31 - j) * 2 ^ j) := by
      rw [← Int.pow_add, show 31 - j + j = 31 by omega]; rfl
    rw [hy, dval, h0, hdd, h24]; grind
  refine ⟨s * (x + 2 * (2 ^ (31 - j) * dval ys)), ?_, ?_⟩
  · rcases hs with rfl | rfl <;> omega
  · unfold nv
    rw [hv, ← Int.mul_assoc, Rat.intCast_mul (_ * _) _, Int.add_comm (32 * e), two_zpow_add, Rat.intCast_pow, show ((2 : Int) : Rat) = 2 by rfl, ← Rat.zpow_natCast, Rat.mul_assoc]

theorem trim_ends {s : Int} {ds : List Int} {e s' : Int} {ds' : List Int} {e' : Int} (hd : Dok ds) (hp : 0 < dval ds) (h : TrimOf s ds e s' ds' e') :
    s' = s ∧ 0 < ds'.length ∧ 0 < ds'.getD 0 0 ∧ 0 < ds'.getD (ds'.length - 1) 0 ∧ Dok ds' := by
  rcases h with ⟨-, -, -, h⟩ | ⟨h1, j, m, h2, h3, h4, -, -, -, h5, h6⟩
  · have := dval_take_zero (ds := ds) (j := ds.length) (fun i _ => h i)
    rw [List.take_length] at this; omega
  · have hl : ds'.length = m - j := by rw [h4, List.length_take, List.length_drop]; omega
    have hg (i : Nat) (hi : i < m - j) : ds'.getD i 0 = ds.getD (j + i) 0 := by
      rw [h4, List.getD_eq_getElem?_getD, List.getElem?_take, if_pos hi, List.getElem?_drop, ← List.getD_eq_getElem?_getD]
    refine ⟨h1, by omega, ?_, ?_, by rw [h4]; exact dok_sub hd j (m - j)⟩
    · rw [hg 0 (by omega), Nat.add_zero]; have := hd j; omega
    · rw [hl, hg _ (by omega), show j + (m - j - 1) = m - 1 by omega]; have := hd (m - 1); omega

end TV.W
end

section
/- Rungs of floats: the magnitudes that a double has, numbered upwards without end; rounding to the nearest rung. Plain numbers, no program. -/
namespace TV

/-- The magnitude at a rung, in units of 2^-1074. -/
def mag (r : Nat) : Nat := if r < 4503599627370496 then r else (4503599627370496 + r % 4503599627370496) * 2 ^ (r / 4503599627370496 - 1)

theorem mag_succ (r : Nat) : mag (r + 1) = mag r + 2 ^ (r / 4503599627370496 - 1) := by
  unfold mag
  by_cases h : r + 1 < 4503599627370496
  · have : r / 4503599627370496 = 0 := by omega
    rw [if_pos h, if_pos (by omega), this]
  · rw [if_neg h]
    by_cases h2 : r < 4503599627370496
    · have h3 : r = 4503599627370495 := by omega
      subst h3; rfl
    · rw [if_neg h2]
      by_cases h4 : r % 4503599627370496 = 4503599627370495
      · have e1 : (r + 1) % 4503599627370496 = 0 := by omega
        have e2 : (r + 1) / 4503599627370496 - 1 = (r / 4503599627370496 - 1) + 1 := by omega
        rw [e1, e2, h4, Nat.pow_succ]
        generalize 2 ^ (r / 4503599627370496 - 1) = p
        omega
      · have e1 : (r + 1) % 4503599627370496 = r % 4503599627370496 + 1 := by omega
        have e2 : (r + 1) / 4503599627370496 = r / 4503599627370496 := by omega
        rw [e1, e2, ← Nat.add_assoc, Nat.add_mul _ 1, Nat.one_mul]

theorem mag_lt_succ (r : Nat) : mag r < mag (r + 1) := by
  rw [mag_succ]; have := Nat.two_pow_pos (r / 4503599627370496 - 1); omega

theorem mag_lt {r s : Nat} (h : r < s) : mag r < mag s := by
  induction s with
  | zero => omega
  | succ s ih =>
    by_cases e : r = s
    · subst e; exact mag_lt_succ r
    · exact Nat.lt_trans (ih (by omega)) (mag_lt_succ s)

theorem mag_le {r s : Nat} (h : r ≤ s) : mag r ≤ mag s := by
  by_cases e : r = s
  · rw [e]; exact Nat.le_refl _
  · exact Nat.le_of_lt (mag_lt (by omega))

theorem mag_inj {r s : Nat} (h : mag r = mag s) : r = s := by
  by_cases a : r < s
  · have := mag_lt a; omega
  · by_cases b : s < r
    · have := mag_lt b; omega
    · omega

theorem lt_of_mag {r s : Nat} (h : mag r < mag s) : r < s := by
  by_cases a : r < s
  · exact a
  · have := mag_le (Nat.le_of_not_lt a); omega

theorem le_of_mag {r s : Nat} (h : mag r ≤ mag s) : r ≤ s := by
  by_cases a : r ≤ s
  · exact a
  · have := mag_lt (Nat.lt_of_not_le a); omega

theorem mag_zero : mag 0 = 0 := rfl
theorem mag_small {r : Nat} (h : r ≤ 9007199254740992) : mag r = r := by
  unfold mag
  by_cases a : r < 4503599627370496
  · rw [if_pos a]
  · rw [if_neg a]
    by_cases b : r = 9007199254740992
    · subst b; rfl
    · have e1 : r / 4503599627370496 - 1 = 0 := by omega
      rw [e1]; omega

theorem e52 : (4503599627370496 : Nat) = 2 ^ 52 := by decide
theorem e53 : (9007199254740992 : Nat) = 2 ^ 53 := by decide

theorem mag_at {k q : Nat} (h : k = 0 ∨ 4503599627370496 ≤ q) (hq : q ≤ 9007199254740992) : mag (k * 4503599627370496 + q) = q * 2 ^ k := by
  by_cases h0 : k = 0
  · subst h0; simp [mag_small hq]
  · have h1 : 4503599627370496 ≤ q := by omega
    unfold mag
    rw [if_neg (by omega)]
    by_cases b : q = 9007199254740992
    · subst b
      have e1 : (k * 4503599627370496 + 9007199254740992) % 4503599627370496 = 0 := by omega
      have e2 : (k * 4503599627370496 + 9007199254740992) / 4503599627370496 - 1 = k + 1 := by omega
      rw [e1, e2, Nat.pow_succ]; omega
    · have e1 : (k * 4503599627370496 + q) % 4503599627370496 = q - 4503599627370496 := by omega
      have e2 : (k * 4503599627370496 + q) / 4503599627370496 - 1 = k := by omega
      rw [e1, e2, show 4503599627370496 + (q - 4503599627370496) = q by omega]

/-- 'n / 2^e' to the nearest, ties to even. -/
def cutE (n e : Nat) : Nat := n / 2 ^ e + (if 2 ^ e < 2 * (n % 2 ^ e) ∨ (2 ^ e = 2 * (n % 2 ^ e) ∧ n / 2 ^ e % 2 = 1) then 1 else 0)

/-- The rung nearest to N / 2^u units. -/
def rndAt (u N : Nat) : Nat := (max (N.log2 - 52) u - u) * 4503599627370496 + cutE N (max (N.log2 - 52) u)

/-- 'r' is the rung nearest to N / 2^u units, the even one of two. -/
def Near (u N r : Nat) : Prop :=
  (2 * N ≤ (mag r + mag (r + 1)) * 2 ^ u ∧ (2 * N = (mag r + mag (r + 1)) * 2 ^ u → r % 2 = 0)) ∧
  (∀ s, r = s + 1 → (mag s + mag r) * 2 ^ u ≤ 2 * N ∧ ((mag s + mag r) * 2 ^ u = 2 * N → r % 2 = 0))

theorem rnd_parts (u N : Nat) : ∃ e q, e = max (N.log2 - 52) u ∧ q = N / 2 ^ e ∧ u ≤ e ∧ q < 9007199254740992 ∧ (e - u = 0 ∨ 4503599627370496 ≤ q) := by
  refine ⟨_, _, rfl, rfl, by omega, ?_, ?_⟩
  · apply Nat.div_lt_of_lt_mul
    have h : N < 2 ^ (N.log2 + 1) := Nat.lt_log2_self
    refine Nat.lt_of_lt_of_le h ?_
    rw [e53, ← Nat.pow_add]
    exact Nat.pow_le_pow_right (by omega) (by omega)
  · by_cases h : N.log2 - 52 ≤ u
    · left; omega
    · right
      have e1 : max (N.log2 - 52) u = N.log2 - 52 := by omega
      rw [e1, Nat.le_div_iff_mul_le (Nat.two_pow_pos _)]
      rw [e52, ← Nat.pow_add]
      rw [show 52 + (N.log2 - 52) = N.log2 by omega]
      exact Nat.log2_self_le (by intro h0; subst h0; simp at h)

theorem near_rnd (u N : Nat) : Near u N (rndAt u N) := by
  obtain ⟨e, q, he, hq, hu, hq53, hcase⟩ := rnd_parts u N
  obtain ⟨r0, hr0⟩ : ∃ r0, r0 = (e - u) * 4503599627370496 + q := ⟨_, rfl⟩
  have hr : rndAt u N = r0 + (if 2 ^ e < 2 * (N % 2 ^ e) ∨ (2 ^ e = 2 * (N % 2 ^ e) ∧ q % 2 = 1) then 1 else 0) := by
    unfold rndAt cutE; rw [← he, ← hq, hr0, Nat.add_assoc]
  have hm0 : mag r0 * 2 ^ u = q * 2 ^ e := by
    rw [hr0, mag_at hcase (by omega), Nat.mul_assoc, ← Nat.pow_add]; congr 2; omega
  have hm1 : mag (r0 + 1) * 2 ^ u = (q + 1) * 2 ^ e := by
    rw [hr0, Nat.add_assoc, mag_at (by omega) (by omega), Nat.mul_assoc, ← Nat.pow_add]; congr 2; omega
  have hd : q * 2 ^ e + N % 2 ^ e = N := by rw [hq, Nat.mul_comm]; exact Nat.div_add_mod N _
  have hlt : N % 2 ^ e < 2 ^ e := Nat.mod_lt _ (Nat.two_pow_pos _)
  have hpar : r0 % 2 = q % 2 := by omega
  rw [hr]
  clear hr0
  rw [Nat.add_mul, Nat.one_mul] at hm1
  generalize hrest : N % 2 ^ e = rest at hd hlt
  generalize hp : 2 ^ e = p at hd hlt hm0 hm1
  generalize hqp : q * p = qp at hd hm0 hm1
  split
  · rename_i hup
    have hs := Nat.mul_lt_mul_of_pos_right (mag_lt_succ (r0 + 1)) (Nat.two_pow_pos u)
    refine ⟨⟨?_, ?_⟩, ?_⟩
    · rw [Nat.add_mul]; omega
    · rw [Nat.add_mul]; omega
    · intro s hs'
      obtain rfl : s = r0 := by omega
      rw [Nat.add_mul]
      refine ⟨by omega, by omega⟩
  · rename_i hup
    refine ⟨⟨?_, ?_⟩, ?_⟩
    · simp only [Nat.add_zero]; rw [Nat.add_mul]; omega
    · simp only [Nat.add_zero]; rw [Nat.add_mul]; omega
    · intro s hs'
      simp only [Nat.add_zero] at hs' ⊢
      have hs := Nat.mul_lt_mul_of_pos_right (mag_lt_succ s) (Nat.two_pow_pos u)
      rw [← hs'] at hs
      rw [Nat.add_mul]
      refine ⟨by omega, by omega⟩

theorem near_le {u N M r s : Nat} (h : Near u N r) (h' : Near u M s) (hNM : N ≤ M) : r ≤ s := by
  apply Nat.le_of_not_lt
  intro hlt
  obtain ⟨r', rfl⟩ : ∃ r', r = r' + 1 := ⟨r - 1, by omega⟩
  obtain ⟨h1, h2⟩ := h.2 r' rfl
  obtain ⟨h3, h4⟩ := h'.1
  have m1 : mag s ≤ mag r' := mag_le (by omega)
  have m2 : mag (s + 1) ≤ mag (r' + 1) := mag_le (by omega)
  have m3 : (mag s + mag (s + 1)) * 2 ^ u ≤ (mag r' + mag (r' + 1)) * 2 ^ u := Nat.mul_le_mul_right _ (by omega)
  have e1 : (mag s + mag (s + 1)) * 2 ^ u = (mag r' + mag (r' + 1)) * 2 ^ u := by omega
  have e2 := Nat.eq_of_mul_eq_mul_right (Nat.two_pow_pos u) e1
  have e3 : s = r' := mag_inj (by omega)
  subst e3
  have := h2 (by omega)
  have := h4 (by omega)
  omega

theorem near_unique {u N r s : Nat} (h : Near u N r) (h' : Near u N s) : r = s :=
  Nat.le_antisymm (near_le h h' (Nat.le_refl _)) (near_le h' h (Nat.le_refl _))

theorem rnd_of_near {u N r : Nat} (h : Near u N r) : rndAt u N = r := near_unique (near_rnd u N) h

theorem rnd_mono {u N M : Nat} (h : N ≤ M) : rndAt u N ≤ rndAt u M := near_le (near_rnd _ _) (near_rnd _ _) h

theorem near_exact (u s : Nat) : Near u (mag s * 2 ^ u) s := by
  have h1 := Nat.mul_lt_mul_of_pos_right (mag_lt_succ s) (Nat.two_pow_pos u)
  refine ⟨⟨by rw [Nat.add_mul]; omega, by rw [Nat.add_mul]; omega⟩, ?_⟩
  intro t ht
  have h2 := Nat.mul_lt_mul_of_pos_right (mag_lt_succ t) (Nat.two_pow_pos u)
  rw [← ht] at h2
  rw [Nat.add_mul]
  exact ⟨by omega, by omega⟩

theorem rnd_exact (u s : Nat) : rndAt u (mag s * 2 ^ u) = s := rnd_of_near (near_exact u s)
theorem rnd_exact0 (s : Nat) : rndAt 0 (mag s) = s := by have := rnd_exact 0 s; simpa using this

theorem rnd_scale (u N k : Nat) : rndAt (u + k) (N * 2 ^ k) = rndAt u N := by
  apply rnd_of_near
  obtain ⟨⟨h1, h2⟩, h3⟩ := near_rnd u N
  have hp := Nat.two_pow_pos k
  refine ⟨⟨?_, ?_⟩, ?_⟩
  · rw [Nat.pow_add, ← Nat.mul_assoc, ← Nat.mul_assoc]; exact Nat.mul_le_mul_right _ h1
  · rw [Nat.pow_add, ← Nat.mul_assoc, ← Nat.mul_assoc]; intro h; exact h2 (Nat.eq_of_mul_eq_mul_right hp h)
  · intro s hs
    obtain ⟨h4, h5⟩ := h3 s hs
    rw [Nat.pow_add, ← Nat.mul_assoc, ← Nat.mul_assoc]
    exact ⟨Nat.mul_le_mul_right _ h4, fun h => h5 (Nat.eq_of_mul_eq_mul_right hp h)⟩

theorem cutE_scale (a e t : Nat) : cutE (a * 2 ^ t) (e + t) = cutE a e := by
  unfold cutE
  have hp := Nat.two_pow_pos t
  rw [Nat.pow_add, Nat.mul_div_mul_right _ _ hp, Nat.mul_mod_mul_right]
  have h1 : (2 ^ e * 2 ^ t < 2 * (a % 2 ^ e * 2 ^ t)) ↔ (2 ^ e < 2 * (a % 2 ^ e)) := by
    rw [← Nat.mul_assoc]; exact ⟨fun h => Nat.lt_of_mul_lt_mul_right h, fun h => Nat.mul_lt_mul_of_pos_right h hp⟩
  have h2 : (2 ^ e * 2 ^ t = 2 * (a % 2 ^ e * 2 ^ t)) ↔ (2 ^ e = 2 * (a % 2 ^ e)) := by
    rw [← Nat.mul_assoc]; exact ⟨fun h => Nat.eq_of_mul_eq_mul_right hp h, fun h => congrArg (· * 2 ^ t) h⟩
  simp only [h1, h2]

theorem cutE_zero (a : Nat) : cutE a 0 = a := by
  unfold cutE; rw [Nat.pow_zero, Nat.div_one, Nat.mod_one, if_neg (by omega)]; omega

theorem cut_even (neg : Bool) (n drop : Nat) : Ieee.Toward.even.cut neg n drop = cutE n drop := by
  unfold Ieee.Toward.cut cutE
  simp only [Nat.one_shiftLeft]
  by_cases h : drop ≤ n.log2 + 2
  · rw [Nat.min_eq_left h]
    congr 1
    by_cases a : 2 ^ drop < 2 * (n % 2 ^ drop)
    · simp [a]
    · by_cases b : 2 ^ drop = 2 * (n % 2 ^ drop)
      · by_cases c : n / 2 ^ drop % 2 = 1 <;> simp [← b, c]
      · simp [a, b]
  · rw [Nat.min_eq_right (by omega)]
    have hn : n < 2 ^ (n.log2 + 1) := Nat.lt_log2_self
    have h2 : 2 ^ (n.log2 + 2) = 2 * 2 ^ (n.log2 + 1) := by rw [Nat.pow_succ, Nat.mul_comm]
    have h3 : 2 ^ (n.log2 + 2) ≤ 2 ^ drop := Nat.pow_le_pow_right (by omega) (by omega)
    rw [Nat.div_eq_of_lt (show n < 2 ^ (n.log2 + 2) by omega), Nat.mod_eq_of_lt (show n < 2 ^ (n.log2 + 2) by omega),
      Nat.div_eq_of_lt (show n < 2 ^ drop by omega), Nat.mod_eq_of_lt (show n < 2 ^ drop by omega), if_neg (by omega)]
    have a : ¬ 2 ^ (n.log2 + 2) < 2 * n := by omega
    have b : ¬ 2 ^ (n.log2 + 2) = 2 * n := by omega
    simp [a]

theorem log2_mul_pow (m t : Nat) (h : m ≠ 0) : (m * 2 ^ t).log2 = m.log2 + t := by
  have h1 := Nat.log2_self_le h
  have h2 : m < 2 ^ (m.log2 + 1) := Nat.lt_log2_self
  have hp := Nat.two_pow_pos t
  rw [Nat.log2_eq_iff (by have := Nat.mul_pos (Nat.pos_of_ne_zero h) hp; omega)]
  refine ⟨?_, ?_⟩
  · rw [Nat.pow_add]; exact Nat.mul_le_mul_right _ h1
  · rw [show m.log2 + t + 1 = (m.log2 + 1) + t by omega, Nat.pow_add]; exact Nat.mul_lt_mul_of_pos_right h2 hp

theorem leastPlace_double : Ieee.double.leastPlace = -1074 := by decide
theorem binade_double : Ieee.double.binade = 4503599627370496 := by decide
theorem infRung_double : Ieee.double.infRung = 9218868437227405312 := by decide
theorem signWeight_double : Ieee.double.signWeight = 9223372036854775808 := by decide

theorem nearest_eq (neg : Bool) (m u : Nat) (place : Int) (h : 0 ≤ place + 1074 + u) :
    Ieee.double.nearest neg m place = Ieee.double.word neg (min (rndAt u (m * 2 ^ (place + 1074 + u).toNat)) 9218868437227405312) := by
  unfold Ieee.Format.nearest
  by_cases h0 : m = 0
  · subst h0; simp [rndAt, cutE]
  · rw [if_neg h0]
    simp only [leastPlace_double, binade_double, infRung_double, show Ieee.double.fractionBits = 52 from rfl]
    refine congrArg (fun z => Ieee.double.word neg (min z 9218868437227405312)) ?_
    obtain ⟨t, ht⟩ : ∃ t : Nat, place + 1074 + u = t := ⟨_, (Int.toNat_of_nonneg h).symm⟩
    rw [ht, Int.toNat_natCast]
    unfold rndAt
    rw [log2_mul_pow m t h0]
    generalize hl : m.log2 = l
    obtain ⟨e, he⟩ : ∃ e, e = max (l + t - 52) u := ⟨_, rfl⟩
    rw [← he]
    have hlast : max (place + ↑l - ↑(52:Nat)) (-1074) = (e : Int) - 1074 - u := by omega
    rw [hlast]
    have e1 : ((e : Int) - 1074 - u - -1074).toNat = e - u := by omega
    rw [e1]
    congr 1
    rw [cut_even, Nat.shiftLeft_eq]
    by_cases hc : e ≤ t
    · have e2 : (place - ((e : Int) - 1074 - u)).toNat = t - e := by omega
      have e3 : ((e : Int) - 1074 - u - place).toNat = 0 := by omega
      rw [e2, e3, cutE_zero]
      have := cutE_scale (m * 2 ^ (t - e)) 0 e
      rw [cutE_zero, Nat.zero_add, Nat.mul_assoc, ← Nat.pow_add, show t - e + e = t by omega] at this
      exact this.symm
    · have e2 : (place - ((e : Int) - 1074 - u)).toNat = 0 := by omega
      have e3 : ((e : Int) - 1074 - u - place).toNat = e - t := by omega
      rw [e2, e3, Nat.pow_zero, Nat.mul_one]
      have := cutE_scale m (e - t) t
      rw [show e - t + t = e by omega] at this
      exact this.symm

/-! The bits of doubles: sign, rung, value in units of 2^-1074. -/
def inf : Nat := 9218868437227405312
def sgn (b : Nat) : Bool := b / 9223372036854775808 % 2 == 1
def rung (b : Nat) : Nat := b % 9223372036854775808
def sm (s : Bool) (n : Nat) : Int := if s then -(n : Int) else n
def fv (b : Nat) : Int := sm (sgn b) (mag (rung b))
def flo (s : Bool) (r : Nat) : Nat := if s then 9223372036854775808 + r else r

theorem word_flo (s : Bool) (r : Nat) : Ieee.double.word s r = flo s r := by
  unfold Ieee.Format.word flo; rw [signWeight_double]

theorem sgn_flo {s : Bool} {r : Nat} (h : r < 9223372036854775808) : sgn (flo s r) = s := by
  unfold sgn flo; cases s
  · simp only [Bool.false_eq_true, if_false]; rw [Nat.div_eq_of_lt h]; rfl
  · simp only [if_true]
    have : (9223372036854775808 + r) / 9223372036854775808 % 2 = 1 := by omega
    rw [this]; rfl
theorem rung_flo {s : Bool} {r : Nat} (h : r < 9223372036854775808) : rung (flo s r) = r := by
  unfold rung flo; cases s <;> simp only [Bool.false_eq_true, if_false, if_true] <;> omega
theorem flo_lt {s : Bool} {r : Nat} (h : r < 9223372036854775808) : flo s r < 18446744073709551616 := by
  unfold flo; split <;> omega
theorem fv_flo {s : Bool} {r : Nat} (h : r < 9223372036854775808) : fv (flo s r) = sm s (mag r) := by
  unfold fv; rw [sgn_flo h, rung_flo h]
theorem flo_eta {b : Nat} (h : b < 18446744073709551616) : flo (sgn b) (rung b) = b := by
  unfold flo sgn rung
  by_cases c : b / 9223372036854775808 % 2 = 1
  · rw [c]; simp only [beq_self_eq_true, if_true]; omega
  · rw [if_neg (by simpa using c)]; omega
theorem inf_lt : inf < 9223372036854775808 := by decide
theorem min_inf_lt (r : Nat) : min r inf < 9223372036854775808 := by have := inf_lt; omega

theorem sm_natAbs (s : Bool) (n : Nat) : (sm s n).natAbs = n := by unfold sm; cases s <;> simp
theorem fv_natAbs (b : Nat) : (fv b).natAbs = mag (rung b) := sm_natAbs _ _

theorem signed_mul (s : Bool) (m t k : Nat) : Ieee.signed s m t * ((2 ^ k : Nat) : Int) = sm s (m * 2 ^ (t + k)) := by
  unfold Ieee.signed sm
  simp only [Nat.shiftLeft_eq]
  rw [Nat.pow_add, ← Nat.mul_assoc]
  cases s <;> simp [Int.neg_mul]

theorem read_fin {b : Nat} (h : rung b < inf) : ∃ m, ∃ k : Nat, Ieee.double.read b = .number (sgn b) m (-1074 + (k : Int)) ∧ m * 2 ^ k = mag (rung b) := by
  unfold Ieee.Format.read
  simp only [signWeight_double, binade_double, infRung_double, leastPlace_double]
  change b % 9223372036854775808 < 9218868437227405312 at h
  unfold mag rung
  by_cases c : b % 9223372036854775808 < 4503599627370496
  · rw [if_pos c, if_pos c]
    exact ⟨b % 9223372036854775808, 0, by simp [sgn], by simp⟩
  · rw [if_neg c, if_neg c, if_pos h]
    exact ⟨_, _, rfl, rfl⟩

theorem read_inf {b : Nat} (h : rung b = inf) : Ieee.double.read b = .infinity (sgn b) := by
  unfold Ieee.Format.read
  simp only [signWeight_double, binade_double, infRung_double, leastPlace_double]
  change b % 9223372036854775808 = 9218868437227405312 at h
  rw [h]; rfl

theorem read_nan {b : Nat} (h : inf < rung b) : ∃ n, Ieee.double.read b = .nan (sgn b) n := by
  unfold Ieee.Format.read
  simp only [signWeight_double, binade_double, infRung_double, leastPlace_double]
  change 9218868437227405312 < b % 9223372036854775808 at h
  rw [if_neg (by omega), if_neg (by omega), if_neg (by omega)]
  exact ⟨_, rfl⟩

theorem sum_write (s t : Bool) (m n i j : Nat) :
    (Ieee.Datum.sum (.number s m (-1074 + (i : Int))) (.number t n (-1074 + (j : Int)))).map Ieee.double.write =
      some (flo (if sm s (m * 2 ^ i) + sm t (n * 2 ^ j) = 0 then s && t else decide (sm s (m * 2 ^ i) + sm t (n * 2 ^ j) < 0))
        (min (rndAt 0 (sm s (m * 2 ^ i) + sm t (n * 2 ^ j)).natAbs) inf)) := by
  unfold Ieee.Datum.sum
  simp only [Option.map_some]
  unfold Ieee.Format.write
  simp only
  obtain ⟨k, hk⟩ : ∃ k : Nat, min (-1074 + (i : Int)) (-1074 + (j : Int)) = -1074 + k := ⟨min i j, by omega⟩
  have hki : k ≤ i := by omega
  have hkj : k ≤ j := by omega
  rw [hk]
  have e1 : ((-1074 + (i : Int)) - (-1074 + (k : Int))).toNat = i - k := by omega
  have e2 : ((-1074 + (j : Int)) - (-1074 + (k : Int))).toNat = j - k := by omega
  rw [e1, e2, nearest_eq _ _ 0 _ (by omega)]
  have e3 : (-1074 + (k : Int) + 1074 + ((0 : Nat) : Int)).toNat = k := by omega
  rw [e3, word_flo]
  have h1 := signed_mul s m (i - k) k
  have h2 := signed_mul t n (j - k) k
  rw [show i - k + k = i by omega] at h1
  rw [show j - k + k = j by omega] at h2
  rw [← h1, ← h2, ← Int.add_mul]
  generalize Ieee.signed s m (i - k) + Ieee.signed t n (j - k) = T
  have hp : (0 : Int) < ((2 ^ k : Nat) : Int) := by exact_mod_cast Nat.two_pow_pos k
  rw [Int.natAbs_mul, Int.natAbs_natCast]
  have z1 : T * ((2 ^ k : Nat) : Int) = 0 ↔ T = 0 := by
    constructor
    · intro h; rcases Int.mul_eq_zero.1 h with h | h
      · exact h
      · omega
    · intro h; rw [h, Int.zero_mul]
  have z2 : T * ((2 ^ k : Nat) : Int) < 0 ↔ T < 0 := by
    constructor
    · intro h; apply Int.lt_of_not_ge; intro h'; have := Int.mul_nonneg h' (Int.le_of_lt hp); omega
    · intro h; exact Int.mul_neg_of_neg_of_pos h hp
  simp only [z1, z2]
  by_cases c : T = 0 <;> simp [c, inf]

theorem add_fin {x y : Nat} (hx : rung x < inf) (hy : rung y < inf) :
    Ieee.double.add x y = some (flo (if fv x + fv y = 0 then sgn x && sgn y else decide (fv x + fv y < 0)) (min (rndAt 0 (fv x + fv y).natAbs) inf)) := by
  obtain ⟨m, i, h1, h2⟩ := read_fin hx
  obtain ⟨n, j, h3, h4⟩ := read_fin hy
  unfold Ieee.Format.add fv
  rw [h1, h3, sum_write, h2, h4]

theorem sub_fin {x y : Nat} (hx : rung x < inf) (hy : rung y < inf) :
    Ieee.double.sub x y = some (flo (if fv x - fv y = 0 then sgn x && !sgn y else decide (fv x - fv y < 0)) (min (rndAt 0 (fv x - fv y).natAbs) inf)) := by
  obtain ⟨m, i, h1, h2⟩ := read_fin hx
  obtain ⟨n, j, h3, h4⟩ := read_fin hy
  unfold Ieee.Format.sub
  rw [h1, h3]
  unfold Ieee.Datum.opposite
  simp only
  rw [sum_write, h2, h4]
  have e : sm (!sgn y) (mag (rung y)) = - fv y := by unfold fv sm; cases sgn y <;> simp
  rw [e, ← Int.sub_eq_add_neg]
  rfl

theorem mul_fin {x y : Nat} (hx : rung x < inf) (hy : rung y < inf) :
    Ieee.double.mul x y = some (flo (sgn x ^^ sgn y) (min (rndAt 1074 (mag (rung x) * mag (rung y))) inf)) := by
  obtain ⟨m, i, h1, h2⟩ := read_fin hx
  obtain ⟨n, j, h3, h4⟩ := read_fin hy
  unfold Ieee.Format.mul
  rw [h1, h3]
  unfold Ieee.Datum.product
  simp only [Option.map_some]
  unfold Ieee.Format.write
  simp only
  rw [nearest_eq _ _ 1074 _ (by omega), word_flo]
  have e3 : (-1074 + (i : Int) + (-1074 + (j : Int)) + 1074 + ((1074 : Nat) : Int)).toNat = i + j := by omega
  rw [e3, ← h2, ← h4, Nat.pow_add]
  rw [show m * n * (2 ^ i * 2 ^ j) = m * 2 ^ i * (n * 2 ^ j) by ac_rfl]
  rfl

theorem order_fin {x y : Nat} (hx : rung x < inf) (hy : rung y < inf) : Ieee.double.order x y = some (compare (fv x) (fv y)) := by
  obtain ⟨m, i, h1, h2⟩ := read_fin hx
  obtain ⟨n, j, h3, h4⟩ := read_fin hy
  unfold Ieee.Format.order
  rw [h1, h3]
  unfold Ieee.Datum.order
  simp only
  obtain ⟨k, hk⟩ : ∃ k : Nat, min (-1074 + (i : Int)) (-1074 + (j : Int)) = -1074 + k := ⟨min i j, by omega⟩
  have hki : k ≤ i := by omega
  have hkj : k ≤ j := by omega
  rw [hk]
  have e1 : ((-1074 + (i : Int)) - (-1074 + (k : Int))).toNat = i - k := by omega
  have e2 : ((-1074 + (j : Int)) - (-1074 + (k : Int))).toNat = j - k := by omega
  rw [e1, e2]
  have g1 := signed_mul (sgn x) m (i - k) k
  have g2 := signed_mul (sgn y) n (j - k) k
  rw [show i - k + k = i by omega, h2] at g1
  rw [show j - k + k = j by omega, h4] at g2
  unfold fv
  rw [← g1, ← g2]
  generalize Ieee.signed (sgn x) m (i - k) = A
  generalize Ieee.signed (sgn y) n (j - k) = B
  have hp : (0 : Int) < ((2 ^ k : Nat) : Int) := by exact_mod_cast Nat.two_pow_pos k
  generalize ((2 ^ k : Nat) : Int) = p at hp
  congr 1
  have l1 : A < B ↔ A * p < B * p := ⟨fun h => Int.mul_lt_mul_of_pos_right h hp, fun h => Int.lt_of_mul_lt_mul_right h (Int.le_of_lt hp)⟩
  have l2 : A = B ↔ A * p = B * p := ⟨fun h => by rw [h], fun h => Int.eq_of_mul_eq_mul_right (by omega) h⟩
  simp only [compare, compareOfLessAndEq, l1, l2]

theorem order_nan_left {x y : Nat} (h : inf < rung x) : Ieee.double.order x y = none := by
  obtain ⟨n, hn⟩ := read_nan h
  unfold Ieee.Format.order; rw [hn]; rfl
theorem order_nan_right {x y : Nat} (h : inf < rung y) : Ieee.double.order x y = none := by
  obtain ⟨n, hn⟩ := read_nan h
  unfold Ieee.Format.order; rw [hn]; unfold Ieee.Datum.order; cases Ieee.double.read x <;> rfl

theorem order_inf_fin {x y : Nat} (hx : rung x = inf) (hy : rung y < inf) : Ieee.double.order x y = some (if sgn x then .lt else .gt) := by
  obtain ⟨n, j, h3, h4⟩ := read_fin hy
  unfold Ieee.Format.order; rw [read_inf hx, h3]; rfl
theorem order_fin_inf {x y : Nat} (hx : rung x < inf) (hy : rung y = inf) : Ieee.double.order x y = some (if sgn y then .gt else .lt) := by
  obtain ⟨n, j, h3, h4⟩ := read_fin hx
  unfold Ieee.Format.order; rw [read_inf hy, h3]; rfl
theorem order_inf_inf {x y : Nat} (hx : rung x = inf) (hy : rung y = inf) : Ieee.double.order x y = some (compare (sgn y).toNat (sgn x).toNat) := by
  unfold Ieee.Format.order; rw [read_inf hx, read_inf hy]; rfl

theorem sub_inf_inf {x y : Nat} (hx : rung x = inf) (hy : rung y = inf) (h : sgn x = sgn y) : Ieee.double.sub x y = none := by
  unfold Ieee.Format.sub; rw [read_inf hx, read_inf hy]
  unfold Ieee.Datum.opposite Ieee.Datum.sum
  simp only; rw [h]; cases sgn y <;> rfl
theorem sub_nan_left {x y : Nat} (h : inf < rung x) : Ieee.double.sub x y = none := by
  obtain ⟨n, hn⟩ := read_nan h
  unfold Ieee.Format.sub; rw [hn]; rfl

end TV
end

section
/- Rounding: what has 53 bits, the nearest such number, and Knuth's exact sum, in whole numbers. -/
namespace TV

/-! Rounding of whole numbers (units of 2^-1074) to 53 bits; what has at most 53 bits; Knuth's sum. -/
def Rn (n : Int) : Int := sm (decide (n < 0)) (mag (rndAt 0 n.natAbs))
def Rep (n : Int) : Prop := ∃ r, n.natAbs = mag r

theorem sm_neg_nat (n : Nat) : sm true n = -(n : Int) := rfl
theorem sm_pos_nat (n : Nat) : sm false n = (n : Int) := rfl

theorem Rn_nonneg {n : Int} (h : 0 ≤ n) : Rn n = (mag (rndAt 0 n.natAbs) : Int) := by
  unfold Rn; rw [show decide (n < 0) = false by simpa using h]; rfl
theorem Rn_zero : Rn 0 = 0 := by decide
theorem Rn_neg (n : Int) : Rn (-n) = - Rn n := by
  unfold Rn
  rw [Int.natAbs_neg]
  by_cases h : n = 0
  · subst h; decide
  · by_cases h2 : n < 0
    · rw [show decide (n < 0) = true by simpa using h2, show decide (-n < 0) = false by simp; omega]; unfold sm; simp
    · rw [show decide (n < 0) = false by simpa using h2, show decide (-n < 0) = true by simp; omega]; unfold sm; simp
theorem Rn_natAbs (n : Int) : (Rn n).natAbs = mag (rndAt 0 n.natAbs) := sm_natAbs _ _
theorem Rn_nonneg_of {n : Int} (h : 0 ≤ n) : 0 ≤ Rn n := by rw [Rn_nonneg h]; omega
theorem Rn_nonpos_of {n : Int} (h : n ≤ 0) : Rn n ≤ 0 := by
  have := Rn_nonneg_of (n := -n) (by omega); rw [Rn_neg] at this; omega

theorem Rn_mono {n m : Int} (h : n ≤ m) : Rn n ≤ Rn m := by
  by_cases h1 : 0 ≤ n
  · rw [Rn_nonneg h1, Rn_nonneg (by omega)]
    exact_mod_cast mag_le (rnd_mono (by omega))
  · by_cases h2 : m ≤ 0
    · have e1 := Rn_nonneg (n := -n) (by omega)
      have e2 := Rn_nonneg (n := -m) (by omega)
      rw [Rn_neg] at e1 e2
      have : (mag (rndAt 0 (-m).natAbs) : Int) ≤ (mag (rndAt 0 (-n).natAbs) : Int) := by exact_mod_cast mag_le (rnd_mono (by omega))
      omega
    · have := Rn_nonpos_of (n := n) (by omega)
      have := Rn_nonneg_of (n := m) (by omega)
      omega

theorem Rep_neg {n : Int} (h : Rep n) : Rep (-n) := by obtain ⟨r, hr⟩ := h; exact ⟨r, by rw [Int.natAbs_neg]; exact hr⟩
theorem Rep_zero : Rep 0 := ⟨0, rfl⟩
theorem Rep_Rn (n : Int) : Rep (Rn n) := ⟨_, Rn_natAbs n⟩
theorem Rep_fv (b : Nat) : Rep (fv b) := ⟨_, fv_natAbs b⟩

theorem Rn_fix {n : Int} (h : Rep n) : Rn n = n := by
  obtain ⟨r, hr⟩ := h
  unfold Rn
  rw [hr, rnd_exact0]
  by_cases h2 : n < 0
  · rw [show decide (n < 0) = true by simpa using h2]; unfold sm; simp; omega
  · rw [show decide (n < 0) = false by simpa using h2]; unfold sm; simp; omega

theorem mag_parts (r : Nat) : ∃ q k, mag r = q * 2 ^ k ∧ q < 9007199254740992 := by
  by_cases h : r < 4503599627370496
  · exact ⟨r, 0, by rw [mag_small (by omega)]; omega, by omega⟩
  · refine ⟨4503599627370496 + r % 4503599627370496, r / 4503599627370496 - 1, ?_, by omega⟩
    unfold mag; rw [if_neg h]

theorem mag_of_parts : ∀ (k q : Nat), q ≤ 9007199254740992 → ∃ r, q * 2 ^ k = mag r := by
  intro k
  induction k with
  | zero => intro q hq; exact ⟨q, by rw [mag_small hq]; omega⟩
  | succ k ih =>
    intro q hq
    by_cases h : q < 4503599627370496
    · obtain ⟨r, hr⟩ := ih (2 * q) (by omega)
      exact ⟨r, by rw [← hr, Nat.pow_succ, Nat.mul_comm 2 q, Nat.mul_assoc, Nat.mul_comm 2]⟩
    · exact ⟨(k + 1) * 4503599627370496 + q, (mag_at (Or.inr (by omega)) hq).symm⟩

theorem Rep_mk {n m : Int} {k : Nat} (h : n = m * ((2 ^ k : Nat) : Int)) (hm : m.natAbs ≤ 9007199254740992) : Rep n := by
  obtain ⟨r, hr⟩ := mag_of_parts k m.natAbs hm
  exact ⟨r, by rw [h, Int.natAbs_mul, Int.natAbs_natCast, hr]⟩

theorem Rep_parts {n : Int} (h : Rep n) : ∃ (m : Int) (k : Nat), n = m * ((2 ^ k : Nat) : Int) ∧ m.natAbs < 9007199254740992 := by
  obtain ⟨r, hr⟩ := h
  obtain ⟨q, k, h1, h2⟩ := mag_parts r
  by_cases hn : 0 ≤ n
  · refine ⟨q, k, ?_, by omega⟩
    rw [← Int.natCast_mul, ← h1, ← hr]; omega
  · refine ⟨-q, k, ?_, by omega⟩
    rw [Int.neg_mul, ← Int.natCast_mul, ← h1, ← hr]; omega

theorem Rep_small {n : Int} (h : n.natAbs ≤ 9007199254740992) : Rep n := Rep_mk (k := 0) (m := n) (by simp) h

/-- A multiple of 2^k of magnitude at most 2^53 2^k. -/
theorem Rep_mult {n : Int} {k : Nat} (h : ((2 ^ k : Nat) : Int) ∣ n) (hb : n.natAbs ≤ 9007199254740992 * 2 ^ k) : Rep n := by
  obtain ⟨m, rfl⟩ := h
  refine Rep_mk (k := k) (m := m) (Int.mul_comm _ _) ?_
  rw [Int.natAbs_mul, Int.natAbs_natCast, Nat.mul_comm] at hb
  exact Nat.le_of_mul_le_mul_right hb (Nat.two_pow_pos k)

theorem dvd_pow {i j : Nat} (h : i ≤ j) : ((2 ^ i : Nat) : Int) ∣ ((2 ^ j : Nat) : Int) := by
  refine ⟨((2 ^ (j - i) : Nat) : Int), ?_⟩
  rw [← Int.natCast_mul, ← Nat.pow_add, show i + (j - i) = j by omega]

theorem mag_double {r : Nat} (h : 4503599627370496 ≤ r) : mag (r + 4503599627370496) = 2 * mag r := by
  unfold mag
  rw [if_neg (by omega), if_neg (by omega)]
  have e1 : (r + 4503599627370496) % 4503599627370496 = r % 4503599627370496 := by omega
  have e2 : (r + 4503599627370496) / 4503599627370496 - 1 = (r / 4503599627370496 - 1) + 1 := by omega
  rw [e1, e2, Nat.pow_succ]
  rw [← Nat.mul_assoc, Nat.mul_comm]

theorem rnd_double (N : Nat) : mag (rndAt 0 (2 * N)) = 2 * mag (rndAt 0 N) := by
  by_cases h : N ≤ 9007199254740992
  · obtain ⟨r, hr⟩ := mag_of_parts 1 N h
    obtain ⟨s, hs⟩ := mag_of_parts 0 N h
    have e1 : 2 * N = mag r := by omega
    have e2 : N = mag s := by omega
    rw [e1, rnd_exact0, ← e1, e2, rnd_exact0]
  · have hn := near_rnd 0 N
    have hlo : 9007199254740992 ≤ rndAt 0 N := by
      have := rnd_mono (u := 0) (N := mag 9007199254740992) (M := N) (by rw [mag_small (Nat.le_refl _)]; omega)
      rwa [rnd_exact0] at this
    generalize rndAt 0 N = r at hn hlo
    have : Near 0 (2 * N) (r + 4503599627370496) := by
      obtain ⟨⟨h1, h2⟩, h3⟩ := hn
      simp only [Nat.pow_zero, Nat.mul_one] at h1 h2 h3
      refine ⟨⟨?_, ?_⟩, ?_⟩ <;> simp only [Nat.pow_zero, Nat.mul_one]
      · rw [show r + 4503599627370496 + 1 = (r + 1) + 4503599627370496 by omega, mag_double (by omega), mag_double (by omega)]; omega
      · rw [show r + 4503599627370496 + 1 = (r + 1) + 4503599627370496 by omega, mag_double (by omega), mag_double (by omega)]; omega
      · intro s hs
        obtain ⟨t, rfl⟩ : ∃ t, s = t + 4503599627370496 := ⟨s - 4503599627370496, by omega⟩
        have := h3 t (by omega)
        rw [mag_double (by omega), mag_double (by omega)]; omega
    rw [rnd_of_near this, mag_double (by omega)]

theorem Rn_double (n : Int) : Rn (2 * n) = 2 * Rn n := by
  have key : ∀ n : Int, 0 ≤ n → Rn (2 * n) = 2 * Rn n := by
    intro n hn
    rw [Rn_nonneg hn, Rn_nonneg (by omega), Int.natAbs_mul, show (2 : Int).natAbs = 2 from rfl, rnd_double]; simp
  by_cases h : 0 ≤ n
  · exact key n h
  · have := key (-n) (by omega)
    rw [show 2 * -n = -(2 * n) by omega, Rn_neg, Rn_neg] at this; omega

theorem Rn_pow (n : Int) (k : Nat) : Rn (n * ((2 ^ k : Nat) : Int)) = Rn n * ((2 ^ k : Nat) : Int) := by
  induction k with
  | zero => simp
  | succ k ih =>
    rw [Nat.pow_succ, Int.natCast_mul, show n * (((2 ^ k : Nat) : Int) * ((2 : Nat) : Int)) = 2 * (n * ((2 ^ k : Nat) : Int)) by grind, Rn_double, ih]; grind

theorem Rn_dvd {n : Int} {k : Nat} (h : ((2 ^ k : Nat) : Int) ∣ n) : ((2 ^ k : Nat) : Int) ∣ Rn n := by
  obtain ⟨m, rfl⟩ := h
  rw [Int.mul_comm, Rn_pow]; exact ⟨_, Int.mul_comm _ _⟩

/-- What is rounded is as near as any that has 53 bits. -/
theorem Rn_near {n f : Int} (hf : Rep f) : (Rn n - n).natAbs ≤ (f - n).natAbs := by
  have key : ∀ n f : Int, 0 ≤ n → Rep f → (Rn n - n).natAbs ≤ (f - n).natAbs := by
    intro n f hn hf
    obtain ⟨⟨h1, -⟩, h3⟩ := near_rnd 0 n.natAbs
    rw [Rn_nonneg hn]
    generalize rndAt 0 n.natAbs = r at h1 h3
    simp only [Nat.pow_zero, Nat.mul_one] at h1 h3
    obtain ⟨s, hs⟩ := hf
    have g0 : n.natAbs = n := by omega
    by_cases h0 : f < 0
    · by_cases hr : r = 0
      · subst hr; rw [mag_zero]; omega
      · have := (h3 (r - 1) (by omega)).1
        have : mag 0 ≤ mag (r - 1) := mag_le (by omega)
        rw [mag_zero] at this
        omega
    · have g1 : f = mag s := by omega
      by_cases c : s ≤ r
      · by_cases c2 : s = r
        · subst c2; omega
        · have := (h3 (r - 1) (by omega)).1
          have : mag s ≤ mag (r - 1) := mag_le (by omega)
          have : mag (r - 1) ≤ mag r := mag_le (by omega)
          omega
      · have : mag (r + 1) ≤ mag s := mag_le (by omega)
        have : mag r ≤ mag (r + 1) := mag_le (by omega)
        omega
  by_cases h : 0 ≤ n
  · exact key n f h hf
  · have := key (-n) (-f) (by omega) (Rep_neg hf)
    rw [Rn_neg] at this; omega

theorem Rn_err (n : Int) : (Rn n - n).natAbs * 9007199254740992 ≤ n.natAbs := by
  by_cases h : n.natAbs ≤ 9007199254740992
  · rw [Rn_fix (Rep_small h)]; simp
  · obtain ⟨e, he⟩ : ∃ e, e = n.natAbs.log2 - 52 := ⟨_, rfl⟩
    have hl1 : 2 ^ n.natAbs.log2 ≤ n.natAbs := Nat.log2_self_le (by omega)
    have hl2 : n.natAbs < 2 ^ (n.natAbs.log2 + 1) := Nat.lt_log2_self
    have hl3 : 53 ≤ n.natAbs.log2 := by
      apply Nat.le_of_not_lt; intro hlt
      have : 2 ^ (n.natAbs.log2 + 1) ≤ 2 ^ 53 := Nat.pow_le_pow_right (by omega) (by omega)
      have e53 : (2 : Nat) ^ 53 = 9007199254740992 := by decide
      omega
    have hl4 : 2 ^ n.natAbs.log2 = 4503599627370496 * 2 ^ e := by
      rw [e52, ← Nat.pow_add]; congr 1; omega
    -- two neighbours at distance 2^e
    have hq : n.natAbs / 2 ^ e < 9007199254740992 := by
      apply Nat.div_lt_of_lt_mul
      rw [Nat.pow_succ, hl4] at hl2; omega
    have hd := Nat.div_add_mod n.natAbs (2 ^ e)
    have hm := Nat.mod_lt n.natAbs (Nat.two_pow_pos e)
    have r1 : Rep (((n.natAbs / 2 ^ e : Nat) : Int) * ((2 ^ e : Nat) : Int))  := Rep_mk rfl (by rw [Int.natAbs_natCast]; omega)
    have r2 : Rep (((n.natAbs / 2 ^ e + 1 : Nat) : Int) * ((2 ^ e : Nat) : Int)) := Rep_mk rfl (by rw [Int.natAbs_natCast]; omega)
    rw [← Int.natCast_mul] at r1 r2
    rw [Nat.add_mul] at r2
    rw [Nat.mul_comm] at hd
    generalize n.natAbs / 2 ^ e * 2 ^ e = A at *
    generalize n.natAbs % 2 ^ e = B at *
    generalize 2 ^ e = P at *
    by_cases c : 0 ≤ n
    · have n1 := Rn_near (n := n) r1
      have n2 := Rn_near (n := n) r2
      omega
    · have n1 := Rn_near (n := n) (Rep_neg r1)
      have n2 := Rn_near (n := n) (Rep_neg r2)
      omega

theorem Rn_abs_le {f n : Int} (hf : Rep f) (h : f.natAbs ≤ n.natAbs) : f.natAbs ≤ (Rn n).natAbs := by
  obtain ⟨r, hr⟩ := hf
  rw [Rn_natAbs, hr]
  have := rnd_mono (u := 0) h
  rw [hr, rnd_exact0] at this
  exact mag_le this

theorem Rn_abs_ge {f n : Int} (hf : Rep f) (h : n.natAbs ≤ f.natAbs) : (Rn n).natAbs ≤ f.natAbs := by
  obtain ⟨r, hr⟩ := hf
  rw [Rn_natAbs, hr]
  have := rnd_mono (u := 0) h
  rw [hr, rnd_exact0] at this
  exact mag_le this

theorem sterbenz {p q : Int} (hp : Rep p) (hq : Rep q) (h0 : 0 ≤ q) (h1 : q ≤ p) (h2 : p ≤ 2 * q) : Rep (p - q) := by
  obtain ⟨m, e, hm, hm2⟩ := Rep_parts hp
  obtain ⟨k, f, hk, hk2⟩ := Rep_parts hq
  by_cases c : e ≤ f
  · refine Rep_mult (k := e) ?_ ?_
    · exact Int.dvd_sub ⟨m, by rw [hm, Int.mul_comm]⟩ (Int.dvd_trans (dvd_pow c) ⟨k, by rw [hk, Int.mul_comm]⟩)
    · have : p.natAbs = m.natAbs * 2 ^ e := by rw [hm, Int.natAbs_mul, Int.natAbs_natCast]
      have := Nat.mul_le_mul_right (2 ^ e) (Nat.le_of_lt hm2)
      omega
  · refine Rep_mult (k := f) ?_ ?_
    · exact Int.dvd_sub (Int.dvd_trans (dvd_pow (show f ≤ e by omega)) ⟨m, by rw [hm, Int.mul_comm]⟩) ⟨k, by rw [hk, Int.mul_comm]⟩
    · have : q.natAbs = k.natAbs * 2 ^ f := by rw [hk, Int.natAbs_mul, Int.natAbs_natCast]
      have := Nat.mul_le_mul_right (2 ^ f) (Nat.le_of_lt hk2)
      omega

/-- Two numbers of one sign, neither more than twice the other. -/
theorem sterbenz' {p q : Int} (hp : Rep p) (hq : Rep q) (h : (0 ≤ p ∧ 0 ≤ q) ∨ (p ≤ 0 ∧ q ≤ 0)) (h1 : q.natAbs ≤ 2 * p.natAbs) (h2 : p.natAbs ≤ 2 * q.natAbs) : Rep (p - q) := by
  rcases h with ⟨a, b⟩ | ⟨a, b⟩
  · by_cases c : q ≤ p
    · exact sterbenz hp hq b c (by omega)
    · have := Rep_neg (sterbenz hq hp a (by omega) (by omega))
      rwa [show -(q - p) = p - q by omega] at this
  · by_cases c : q ≤ p
    · have := sterbenz (Rep_neg hq) (Rep_neg hp) (by omega) (by omega) (by omega)
      rwa [show -q - -p = p - q by omega] at this
    · have := Rep_neg (sterbenz (Rep_neg hp) (Rep_neg hq) (by omega) (by omega) (by omega))
      rwa [show -(-p - -q) = p - q by omega] at this

/-- What is rounded off a sum has 53 bits. -/
theorem Rep_rest {a b : Int} (ha : Rep a) (hb : Rep b) : Rep (a + b - Rn (a + b)) := by
  have key : ∀ (a b m k : Int) (e f : Nat), Rep b → a = m * ((2 ^ e : Nat) : Int) → m.natAbs < 9007199254740992 → b = k * ((2 ^ f : Nat) : Int) → e ≤ f → Rep (a + b - Rn (a + b)) := by
    intro a b m k e f hb ha hm hb' c
    have hd : ((2 ^ e : Nat) : Int) ∣ a + b := Int.dvd_add ⟨m, by rw [ha, Int.mul_comm]⟩ (Int.dvd_trans (dvd_pow c) ⟨k, by rw [hb', Int.mul_comm]⟩)
    refine Rep_mult (k := e) (Int.dvd_sub hd (Rn_dvd hd)) ?_
    have := Rn_near (n := a + b) hb
    have : a.natAbs = m.natAbs * 2 ^ e := by rw [ha, Int.natAbs_mul, Int.natAbs_natCast]
    have := Nat.mul_le_mul_right (2 ^ e) (Nat.le_of_lt hm)
    omega
  obtain ⟨m, e, hm, hm2⟩ := Rep_parts ha
  obtain ⟨k, f, hk, hk2⟩ := Rep_parts hb
  by_cases c : e ≤ f
  · exact key a b m k e f hb hm hm2 hk c
  · have := key b a k m f e ha hk hk2 hm (by omega)
    rwa [Int.add_comm b a] at this

/-- If a is not the lesser one in magnitude: what stands between a and the rounded sum has 53 bits. -/
theorem Rep_virtual {a b : Int} (ha : Rep a) (hb : Rep b) (h : b.natAbs ≤ a.natAbs) : Rep (Rn (a + b) - a) := by
  have key : ∀ a b : Int, Rep a → Rep b → b.natAbs ≤ a.natAbs → 0 ≤ a → Rep (Rn (a + b) - a) := by
    intro a b ha hb h h0
    by_cases c : 0 ≤ b
    · have l1 : Rn a ≤ Rn (a + b) := Rn_mono (by omega)
      have l2 : Rn (a + b) ≤ Rn (2 * a) := Rn_mono (by omega)
      rw [Rn_double] at l2
      rw [Rn_fix ha] at l1 l2
      exact sterbenz (Rep_Rn _) ha h0 l1 l2
    · by_cases c2 : 2 * b.natAbs < a.natAbs
      · have l1 : Rn (a + b) ≤ Rn a := Rn_mono (by omega)
        have l2 : Rn a ≤ Rn (2 * (a + b)) := Rn_mono (by omega)
        rw [Rn_double] at l2
        rw [Rn_fix ha] at l1 l2
        exact sterbenz' (Rep_Rn _) ha (Or.inl ⟨by omega, h0⟩) (by omega) (by omega)
      · have : Rep (a + b) := by
          have := sterbenz ha (Rep_neg hb) (by omega) (by omega) (by omega)
          rwa [show a - -b = a + b by omega] at this
        rw [Rn_fix this, show a + b - a = b by omega]; exact hb
  by_cases h0 : 0 ≤ a
  · exact key a b ha hb h h0
  · have := Rep_neg (key (-a) (-b) (Rep_neg ha) (Rep_neg hb) (by omega) (by omega))
    rwa [show -a + -b = -(a + b) by omega, Rn_neg, show -(- Rn (a + b) - -a) = Rn (a + b) - a by omega] at this

/-- Knuth's sum: what is rounded off is told exactly. -/
theorem two_sum {a b x c d : Int} (ha : Rep a) (hb : Rep b) (hx : x = Rn (a + b)) (hc : c = Rn (x - a)) (hd : d = Rn (x - c)) :
    Rn (a - d) = a - d ∧ Rn (b - c) = b - c ∧ (a - d) + (b - c) = a + b - x ∧ Rn (a + b - x) = a + b - x := by
  have hrest := Rep_rest ha hb
  rw [← hx] at hrest
  by_cases h : b.natAbs ≤ a.natAbs
  · have h1 := Rep_virtual ha hb h
    rw [← hx] at h1
    have hc' : c = x - a := by rw [hc, Rn_fix h1]
    have hd' : d = a := by rw [hd, hc', show x - (x - a) = a by omega, Rn_fix ha]
    have e1 : a - d = 0 := by omega
    have e2 : b - c = a + b - x := by omega
    rw [e1, e2, Rn_zero, Int.zero_add, Rn_fix hrest]; exact ⟨rfl, rfl, rfl, rfl⟩
  · by_cases h2 : x.natAbs < a.natAbs
    · -- much cancels: nothing is rounded off
      have hs : Rep (a + b) := by
        have hlt : (a + b).natAbs < a.natAbs := by
          apply Nat.lt_of_not_le; intro hle
          have := Rn_abs_le ha hle
          rw [← hx] at this; omega
        have := sterbenz' hb (Rep_neg ha) (by omega) (by omega) (by omega)
        rwa [show b - -a = a + b by omega] at this
      have hx' : x = a + b := by rw [hx, Rn_fix hs]
      have hc' : c = b := by rw [hc, hx', show a + b - a = b by omega, Rn_fix hb]
      have hd' : d = a := by rw [hd, hx', hc', show a + b - b = a by omega, Rn_fix ha]
      rw [hd', hc', hx', Int.sub_self, Int.sub_self, Int.sub_self, Rn_zero]; exact ⟨rfl, rfl, rfl, rfl⟩
    · have hxr : Rep x := by rw [hx]; exact Rep_Rn _
      have h3 := Rep_virtual hxr (Rep_neg ha) (by omega)
      rw [show x + -a = x - a by omega, ← hc] at h3
      have hd' : d = x - c := by
        rw [hd]; exact Rn_fix (by have := Rep_neg h3; rwa [show -(c - x) = x - c by omega] at this)
      have h4 := Rep_rest hxr (Rep_neg ha)
      rw [show x + -a = x - a by omega, ← hc] at h4
      have e1 : Rep (a - d) := by
        have := Rep_neg h4
        rwa [show -(x - a - c) = a - d by omega] at this
      have e2 : Rep (b - c) := by
        have hcr : Rep c := by rw [hc]; exact Rep_Rn _
        have n1 := Rn_err (a + b)
        have n2 := Rn_near (n := x - a) hb
        rw [← hx] at n1
        rw [← hc] at n2
        exact sterbenz' hb hcr (by omega) (by omega) (by omega)
      rw [Rn_fix e1, Rn_fix e2, show a - d + (b - c) = a + b - x by omega, Rn_fix hrest]; exact ⟨rfl, rfl, rfl, rfl⟩

end TV
end

section
/- Veltkamp's halves and Dekker's exact product, in whole numbers. -/
namespace TV

/-- Half a unit in the last place. -/
theorem Rn_half {n : Int} {k : Nat} (h : n.natAbs ≤ 9007199254740992 * 2 ^ k) : 2 * (Rn n - n).natAbs ≤ 2 ^ k := by
  by_cases heq : n.natAbs = 9007199254740992 * 2 ^ k
  · have : Rep n := Rep_mult (k := k) (Int.dvd_natAbs.1 (by rw [heq, Int.natCast_mul]; exact ⟨_, Int.mul_comm _ _⟩)) h
    rw [Rn_fix this]; simp
  have hp := Nat.two_pow_pos k
  have hq : n.natAbs / 2 ^ k < 9007199254740992 := by
    apply Nat.div_lt_of_lt_mul; rw [Nat.mul_comm]; omega
  have hd := Nat.div_add_mod n.natAbs (2 ^ k)
  have hm := Nat.mod_lt n.natAbs hp
  have r1 : Rep (((n.natAbs / 2 ^ k : Nat) : Int) * ((2 ^ k : Nat) : Int)) := Rep_mk rfl (by rw [Int.natAbs_natCast]; omega)
  have r2 : Rep (((n.natAbs / 2 ^ k + 1 : Nat) : Int) * ((2 ^ k : Nat) : Int)) := Rep_mk rfl (by rw [Int.natAbs_natCast]; omega)
  rw [← Int.natCast_mul] at r1 r2
  rw [Nat.add_mul] at r2
  rw [Nat.mul_comm] at hd
  generalize n.natAbs / 2 ^ k * 2 ^ k = A at *
  generalize n.natAbs % 2 ^ k = B at *
  generalize 2 ^ k = P at *
  by_cases c : 0 ≤ n
  · have n1 := Rn_near (n := n) r1
    have n2 := Rn_near (n := n) r2
    omega
  · have n1 := Rn_near (n := n) (Rep_neg r1)
    have n2 := Rn_near (n := n) (Rep_neg r2)
    omega

/-- What has 53 bits and is not below 2^52 2^k is a multiple of 2^k. -/
theorem Rep_dvd {n : Int} {k : Nat} (h : Rep n) (hb : 4503599627370496 * 2 ^ k ≤ n.natAbs) : ((2 ^ k : Nat) : Int) ∣ n := by
  obtain ⟨m, e, hm, hm2⟩ := Rep_parts h
  by_cases c : k ≤ e
  · rw [hm]; exact Int.dvd_trans (dvd_pow c) ⟨m, Int.mul_comm _ _⟩
  · exfalso
    have h1 : n.natAbs = m.natAbs * 2 ^ e := by rw [hm, Int.natAbs_mul, Int.natAbs_natCast]
    have h2 : 2 ^ k = 2 * 2 ^ (k - 1 - e) * 2 ^ e := by
      rw [← Nat.pow_succ', ← Nat.pow_add]; congr 1; omega
    rw [h1, h2, ← Nat.mul_assoc] at hb
    have := Nat.le_of_mul_le_mul_right hb (Nat.two_pow_pos e)
    have := Nat.two_pow_pos (k - 1 - e)
    omega

theorem e27 : (2 : Nat) ^ 27 = 134217728 := by decide
theorem e28 : (2 : Nat) ^ 28 = 268435456 := by decide

/-- Veltkamp: a of just 53 bits in two halves. -/
theorem split_pos {a c d : Int} (h1 : 4503599627370496 ≤ a) (h2 : a < 9007199254740992) (hc : c = Rn (134217729 * a)) (hd : d = Rn (c - a)) :
    Rn (c - d) = c - d ∧ Rn (a - (c - d)) = a - (c - d) ∧ (134217728 : Int) ∣ c - d ∧ (a - (c - d)).natAbs ≤ 67108864 ∧ 0 ≤ c - d ∧ c - d ≤ 9007199254740992 := by
  -- c is a multiple of 2^27, and near to 2^27 a + a
  have hcr : Rep c := by rw [hc]; exact Rep_Rn _
  have hdr : Rep d := by rw [hd]; exact Rep_Rn _
  have hclo : (604462909807314587353088 : Int) ≤ c := by
    have hr : Rep (604462909807314587353088 : Int) := Rep_mk (m := 4503599627370496) (k := 27) (by rw [e27]; rfl) (by decide)
    have := Rn_mono (n := 604462909807314587353088) (m := 134217729 * a) (by omega)
    rw [Rn_fix hr, ← hc] at this; exact this
  have hcd : (134217728 : Int) ∣ c := by
    have := Rep_dvd (k := 27) hcr (by rw [e27]; omega)
    rwa [e27] at this
  have hce : 2 * (c - 134217729 * a).natAbs ≤ 268435456 := by
    have := Rn_half (n := 134217729 * a) (k := 28) (by rw [e28]; omega)
    rwa [e28, ← hc] at this
  have hce' : 134217729 * a ≤ 1208925819614629174706176 → 2 * (c - 134217729 * a).natAbs ≤ 134217728 := by
    intro hle
    have := Rn_half (n := 134217729 * a) (k := 27) (by rw [e27]; omega)
    rwa [e27, ← hc] at this
  -- c - a is from 2^79 to 2^80
  have hlo : (604462909807314587353088 : Int) ≤ c - a := by
    by_cases e : a = 4503599627370496
    · subst e
      have hr : Rep (134217729 * 4503599627370496 : Int) := Rep_mk (m := 134217729) (k := 52) (by decide) (by decide)
      rw [Rn_fix hr] at hc; omega
    · by_cases hle : 134217729 * a ≤ 1208925819614629174706176
      · have := hce' hle; omega
      · omega
  have hhi : c - a ≤ 1208925819614629174706176 := by omega
  have hdd : (134217728 : Int) ∣ d := by
    have h3 : (604462909807314587353088 : Int) ≤ d := by
      have hr : Rep (604462909807314587353088 : Int) := Rep_mk (m := 4503599627370496) (k := 27) (by rw [e27]; rfl) (by decide)
      have := Rn_mono hlo
      rw [Rn_fix hr, ← hd] at this; exact this
    have := Rep_dvd (k := 27) hdr (by rw [e27]; omega)
    rwa [e27] at this
  have hde : 2 * (d - (c - a)).natAbs ≤ 134217728 := by
    have := Rn_half (n := c - a) (k := 27) (by rw [e27]; omega)
    rwa [e27, ← hd] at this
  have hx : (134217728 : Int) ∣ c - d := Int.dvd_sub hcd hdd
  have hy : (a - (c - d)).natAbs ≤ 67108864 := by omega
  have hxb : c - d ≤ 9007199254740992 := by
    obtain ⟨q, hq⟩ := hx
    omega
  have hx0 : 0 ≤ c - d := by omega
  refine ⟨Rn_fix (Rep_mult (k := 27) (by rw [e27]; exact hx) (by rw [e27]; omega)), Rn_fix (Rep_small (by omega)), hx, hy, hx0, hxb⟩

/-- Dekker: of halves of two floats of 53 bits the product is told exactly. -/
theorem dekker {a b p q r s x : Int} (ha : 4503599627370496 ≤ a.natAbs) (ha2 : a.natAbs < 9007199254740992) (hb : 4503599627370496 ≤ b.natAbs) (hb2 : b.natAbs < 9007199254740992)
    (hpq : a = p + q) (hrs : b = r + s) (hp : (134217728 : Int) ∣ p) (hr : (134217728 : Int) ∣ r) (hp2 : p.natAbs ≤ 9007199254740992) (hr2 : r.natAbs ≤ 9007199254740992)
    (hq : q.natAbs ≤ 67108864) (hs : s.natAbs ≤ 67108864) (hx : x = Rn (a * b)) :
    Rep (p * r) ∧ Rep (q * r) ∧ Rep (p * s) ∧ Rep (q * s) ∧ Rep (x - p * r) ∧ Rep (x - p * r - q * r) ∧ Rep (x - p * r - q * r - p * s) ∧ Rep (a * b - x) ∧
      q * s - (x - p * r - q * r - p * s) = a * b - x := by
  obtain ⟨P, rfl⟩ := hp
  obtain ⟨R, rfl⟩ := hr
  have bPR : (P * R).natAbs ≤ 67108864 * 67108864 := by
    rw [Int.natAbs_mul]; exact Nat.mul_le_mul (by omega) (by omega)
  have bqR : (q * R).natAbs ≤ 67108864 * 67108864 := by
    rw [Int.natAbs_mul]; exact Nat.mul_le_mul (by omega) (by omega)
  have bPs : (P * s).natAbs ≤ 67108864 * 67108864 := by
    rw [Int.natAbs_mul]; exact Nat.mul_le_mul (by omega) (by omega)
  have bqs : (q * s).natAbs ≤ 67108864 * 67108864 := by
    rw [Int.natAbs_mul]; exact Nat.mul_le_mul (by omega) (by omega)
  have hab : a * b = 18014398509481984 * (P * R) + 134217728 * (q * R) + 134217728 * (P * s) + q * s := by
    rw [hpq, hrs]; grind
  have e1 : 134217728 * P * (134217728 * R) = 18014398509481984 * (P * R) := by grind
  have e2 : q * (134217728 * R) = 134217728 * (q * R) := by grind
  have e3 : 134217728 * P * s = 134217728 * (P * s) := by grind
  rw [e1, e2, e3]
  have hblo : 4503599627370496 * 4503599627370496 ≤ (a * b).natAbs := by rw [Int.natAbs_mul]; exact Nat.mul_le_mul ha hb
  have hbhi : (a * b).natAbs ≤ 9007199254740992 * 9007199254740992 := by rw [Int.natAbs_mul]; exact Nat.mul_le_mul (by omega) (by omega)
  have hxr : Rep x := by rw [hx]; exact Rep_Rn _
  have hxe : 2 * (x - a * b).natAbs ≤ 9007199254740992 := by
    have := Rn_half (n := a * b) (k := 53) (by rw [← e53]; exact hbhi)
    rwa [← e53, ← hx] at this
  have hxd : (4503599627370496 : Int) ∣ x := by
    have hlo : 4503599627370496 * 2 ^ 52 ≤ x.natAbs := by
      have hr : Rep (20282409603651670423947251286016 : Int) := Rep_mk (m := 4503599627370496) (k := 52) (by decide) (by decide)
      have := Rn_abs_le (n := a * b) hr (by omega)
      rw [← hx] at this
      rw [← e52]; omega
    have := Rep_dvd (k := 52) hxr hlo
    rwa [← e52] at this
  generalize P * R = A at *
  generalize q * R = B at *
  generalize P * s = C at *
  generalize q * s = D at *
  generalize a * b = T at *
  obtain ⟨X, rfl⟩ := hxd
  have e54 : (2 : Nat) ^ 54 = 18014398509481984 := by decide
  refine ⟨?_, ?_, ?_, ?_, ?_, ?_, ?_, ?_, ?_⟩
  · exact Rep_mult (k := 54) (by rw [e54]; exact ⟨A, rfl⟩) (by rw [e54]; omega)
  · exact Rep_mult (k := 27) (by rw [e27]; exact ⟨B, rfl⟩) (by rw [e27]; omega)
  · exact Rep_mult (k := 27) (by rw [e27]; exact ⟨C, rfl⟩) (by rw [e27]; omega)
  · exact Rep_small (by omega)
  · exact Rep_mult (k := 52) (by rw [← e52]; exact ⟨X - 4 * A, by omega⟩) (by rw [← e52]; omega)
  · exact Rep_mult (k := 27) (by rw [e27]; exact ⟨33554432 * X - 134217728 * A - B, by omega⟩) (by rw [e27]; omega)
  · exact Rep_small (by omega)
  · exact Rep_small (by omega)
  · omega

def fadd (x y : Nat) : Nat := (Ieee.double.add x y).getD 0
def fsub (x y : Nat) : Nat := (Ieee.double.sub x y).getD 0
def fmul (x y : Nat) : Nat := (Ieee.double.mul x y).getD 0
def fneg (x : Nat) : Nat := x ^^^ 9223372036854775808
/-- Infinite or no number: none; else finite. -/
def finB (x : Nat) : Bool := decide (rung x < inf)

theorem rung_lt (x : Nat) : rung x < 9223372036854775808 := Nat.mod_lt _ (by omega)

theorem fneg_eq {x : Nat} (h : x < 18446744073709551616) : fneg x = flo (!sgn x) (rung x) := by
  unfold fneg
  have hx := flo_eta h
  have hr := rung_lt x
  generalize rung x = r at *
  generalize sgn x = s at *
  subst hx
  have e63 : (9223372036854775808 : Nat) = 2 ^ 63 := by decide
  have key : r ^^^ 9223372036854775808 = 9223372036854775808 + r := by
    rw [e63] at hr ⊢
    have := Nat.two_pow_add_eq_or_of_lt hr 1
    rw [Nat.mul_one] at this
    rw [Nat.xor_comm, this]
    apply Nat.eq_of_testBit_eq
    intro i
    rw [Nat.testBit_xor, Nat.testBit_or, Nat.testBit_two_pow]
    by_cases c : 63 = i
    · subst c; rw [Nat.testBit_lt_two_pow hr]; simp
    · simp [c]
  cases s
  · unfold flo; simpa using key
  · have : (9223372036854775808 + r) ^^^ 9223372036854775808 = r := by
      rw [← key, Nat.xor_assoc, Nat.xor_self, Nat.xor_zero]
    unfold flo; simpa using this

theorem fneg_lt {x : Nat} (h : x < 18446744073709551616) : fneg x < 18446744073709551616 := by
  rw [fneg_eq h]; exact flo_lt (rung_lt x)
theorem rung_fneg {x : Nat} (h : x < 18446744073709551616) : rung (fneg x) = rung x := by
  rw [fneg_eq h, rung_flo (rung_lt x)]
theorem sgn_fneg {x : Nat} (h : x < 18446744073709551616) : sgn (fneg x) = !sgn x := by
  rw [fneg_eq h, sgn_flo (rung_lt x)]
theorem sm_not (s : Bool) (n : Nat) : sm (!s) n = - sm s n := by unfold sm; cases s <;> simp
theorem fv_fneg {x : Nat} (h : x < 18446744073709551616) : fv (fneg x) = - fv x := by
  rw [fneg_eq h, fv_flo (rung_lt x), sm_not]; rfl

theorem fsub_fneg {x y : Nat} (hx : rung x < inf) (hy : rung y < inf) (h : y < 18446744073709551616) : Ieee.double.add x (fneg y) = Ieee.double.sub x y := by
  rw [add_fin hx (by rw [rung_fneg h]; exact hy), sub_fin hx hy, fv_fneg h, sgn_fneg h, ← Int.sub_eq_add_neg]

theorem sm_flo_val {n : Int} {s : Bool} (h : s = decide (n < 0) ∨ n = 0) : sm s (mag (rndAt 0 n.natAbs)) = Rn n := by
  rcases h with h | h
  · subst h; rfl
  · subst h; cases s <;> decide

/-- A sum that is not too great: a float, the nearest one. -/
theorem fadd_val {x y M : Nat} (hx : rung x < inf) (hy : rung y < inf) (hM : M < inf) (h : (fv x + fv y).natAbs ≤ mag M) :
    Ieee.double.add x y = some (fadd x y) ∧ fadd x y < 18446744073709551616 ∧ rung (fadd x y) ≤ M ∧ fv (fadd x y) = Rn (fv x + fv y) := by
  have hr : rndAt 0 (fv x + fv y).natAbs ≤ M := by
    have := rnd_mono (u := 0) h; rwa [rnd_exact0] at this
  have e := add_fin hx hy
  have hl := inf_lt
  unfold fadd
  rw [e, Option.getD_some, Nat.min_eq_left (by omega)]
  refine ⟨rfl, flo_lt (by omega), by rw [rung_flo (by omega)]; exact hr, ?_⟩
  rw [fv_flo (by omega), sm_flo_val]
  by_cases c : fv x + fv y = 0
  · exact Or.inr c
  · rw [if_neg c]; exact Or.inl rfl

theorem fsub_val {x y M : Nat} (hx : rung x < inf) (hy : rung y < inf) (hM : M < inf) (h : (fv x - fv y).natAbs ≤ mag M) :
    Ieee.double.sub x y = some (fsub x y) ∧ fsub x y < 18446744073709551616 ∧ rung (fsub x y) ≤ M ∧ fv (fsub x y) = Rn (fv x - fv y) := by
  have hr : rndAt 0 (fv x - fv y).natAbs ≤ M := by
    have := rnd_mono (u := 0) h; rwa [rnd_exact0] at this
  have e := sub_fin hx hy
  have hl := inf_lt
  unfold fsub
  rw [e, Option.getD_some, Nat.min_eq_left (by omega)]
  refine ⟨rfl, flo_lt (by omega), by rw [rung_flo (by omega)]; exact hr, ?_⟩
  rw [fv_flo (by omega), sm_flo_val]
  by_cases c : fv x - fv y = 0
  · exact Or.inr c
  · rw [if_neg c]; exact Or.inl rfl

/-- A product: its value is rounded; 'k + j' units are whole units. -/
theorem fmul_val {x y M k j : Nat} {a b : Int} (hx : rung x < inf) (hy : rung y < inf) (hM : M < inf) (ha : fv x = a * ((2 ^ k : Nat) : Int)) (hb : fv y = b * ((2 ^ j : Nat) : Int)) (hkj : k + j = 1074)
    (h : (a * b).natAbs ≤ mag M) :
    Ieee.double.mul x y = some (fmul x y) ∧ fmul x y < 18446744073709551616 ∧ rung (fmul x y) ≤ M ∧ fv (fmul x y) = Rn (a * b) := by
  have h1 : mag (rung x) * mag (rung y) = (a * b).natAbs * 2 ^ 1074 := by
    rw [← fv_natAbs, ← fv_natAbs, ha, hb, Int.natAbs_mul, Int.natAbs_mul, Int.natAbs_mul, Int.natAbs_natCast, Int.natAbs_natCast, ← hkj, Nat.pow_add]
    ac_rfl
  have h2 : rndAt 1074 (mag (rung x) * mag (rung y)) = rndAt 0 (a * b).natAbs := by
    rw [h1]; have := rnd_scale 0 (a * b).natAbs 1074; rwa [Nat.zero_add] at this
  have hr : rndAt 0 (a * b).natAbs ≤ M := by
    have := rnd_mono (u := 0) h; rwa [rnd_exact0] at this
  have e := mul_fin hx hy
  have hl := inf_lt
  unfold fmul
  rw [e, h2, Option.getD_some, Nat.min_eq_left (by omega)]
  refine ⟨rfl, flo_lt (by omega), by rw [rung_flo (by omega)]; exact hr, ?_⟩
  rw [fv_flo (by omega), sm_flo_val]
  -- the sign
  have hs : ∀ z : Nat, (sgn z = true → fv z ≤ 0) ∧ (sgn z = false → 0 ≤ fv z) := by
    intro z; unfold fv sm
    constructor
    · intro hz; rw [hz]; simp
    · intro hz; rw [hz]; simp
  have pk : (0 : Int) < ((2 ^ k : Nat) : Int) := by exact_mod_cast Nat.two_pow_pos k
  have pj : (0 : Int) < ((2 ^ j : Nat) : Int) := by exact_mod_cast Nat.two_pow_pos j
  have a1 : sgn x = true → a ≤ 0 := by
    intro hz; have := (hs x).1 hz; rw [ha] at this
    apply Int.le_of_not_gt; intro hp; have := Int.mul_pos hp pk; omega
  have a2 : sgn x = false → 0 ≤ a := by
    intro hz; have := (hs x).2 hz; rw [ha] at this
    apply Int.le_of_not_gt; intro hp; have := Int.mul_neg_of_neg_of_pos hp pk; omega
  have b1 : sgn y = true → b ≤ 0 := by
    intro hz; have := (hs y).1 hz; rw [hb] at this
    apply Int.le_of_not_gt; intro hp; have := Int.mul_pos hp pj; omega
  have b2 : sgn y = false → 0 ≤ b := by
    intro hz; have := (hs y).2 hz; rw [hb] at this
    apply Int.le_of_not_gt; intro hp; have := Int.mul_neg_of_neg_of_pos hp pj; omega
  by_cases c : a * b = 0
  · exact Or.inr c
  · left
    have ca : a ≠ 0 := by intro h0; rw [h0, Int.zero_mul] at c; exact c rfl
    have cb : b ≠ 0 := by intro h0; rw [h0, Int.mul_zero] at c; exact c rfl
    cases sx : sgn x <;> cases sy : sgn y
    · have := Int.mul_pos (a := a) (b := b) (by have := a2 sx; omega) (by have := b2 sy; omega)
      simp; omega
    · have := Int.mul_neg_of_pos_of_neg (a := a) (b := b) (by have := a2 sx; omega) (by have := b1 sy; omega)
      simp; omega
    · have := Int.mul_neg_of_neg_of_pos (a := a) (b := b) (by have := a1 sx; omega) (by have := b2 sy; omega)
      simp; omega
    · have := Int.mul_pos_of_neg_of_neg (a := a) (b := b) (by have := a1 sx; omega) (by have := b1 sy; omega)
      simp; omega

/-! Comparisons. -/
def feq (x y : Nat) : Bool := Ieee.double.order x y == some .eq
def flt (x y : Nat) : Bool := Ieee.double.order x y == some .lt

theorem cmp_lt {a b : Int} : (some (compare a b) == some Ordering.lt) = decide (a < b) := by
  simp only [compare, compareOfLessAndEq]
  by_cases h : a < b
  · simp [h]
  · by_cases h2 : a = b <;> simp [h, h2]
theorem cmp_eq {a b : Int} : (some (compare a b) == some Ordering.eq) = decide (a = b) := by
  simp only [compare, compareOfLessAndEq]
  by_cases h : a < b
  · have : a ≠ b := by omega
    simp [h, this]
  · by_cases h2 : a = b <;> simp [h, h2]
theorem cmp_gt {a b : Int} : (some (compare a b) == some Ordering.gt) = decide (b < a) := by
  simp only [compare, compareOfLessAndEq]
  by_cases h : a < b
  · have : ¬ b < a := by omega
    simp [h, this]
  · by_cases h2 : a = b
    · simp [h2]
    · have : b < a := by omega
      simp [h2, this]; omega

theorem feq_fin {x y : Nat} (hx : rung x < inf) (hy : rung y < inf) : feq x y = decide (fv x = fv y) := by
  unfold feq; rw [order_fin hx hy, cmp_eq]
theorem flt_fin {x y : Nat} (hx : rung x < inf) (hy : rung y < inf) : flt x y = decide (fv x < fv y) := by
  unfold flt; rw [order_fin hx hy, cmp_lt]

/-- No number is like any. -/
theorem feq_self (x : Nat) : feq x x = decide (rung x ≤ inf) := by
  unfold feq
  by_cases h : rung x < inf
  · rw [order_fin h h, cmp_eq]; have : rung x ≤ inf := by omega
    simp [this]
  · by_cases h2 : rung x = inf
    · rw [order_inf_inf h2 h2]; simp [h2]
    · rw [order_nan_left (by omega)]; simp; omega
theorem flt_zero_inf {x : Nat} (h : rung x = inf) : flt x 0 = sgn x := by
  unfold flt; rw [order_inf_fin h (by decide)]; cases sgn x <;> decide
theorem flt_nan_left {x y : Nat} (h : inf < rung x) : flt x y = false := by unfold flt; rw [order_nan_left h]; decide
theorem feq_nan_left {x y : Nat} (h : inf < rung x) : feq x y = false := by unfold feq; rw [order_nan_left h]; decide

theorem fv_pos_rung (r : Nat) (h : r < 9223372036854775808) : fv r = mag r := by
  have := fv_flo (s := false) h; exact this
theorem sgn_small {r : Nat} (h : r < 9223372036854775808) : sgn r = false := sgn_flo (s := false) h
theorem rung_small {r : Nat} (h : r < 9223372036854775808) : rung r = r := rung_flo (s := false) h

/-- Of floats without a sign. -/
theorem le_pos {r C : Nat} (hr : r < 9223372036854775808) (hC : C < inf) : (Ieee.double.order r C == some .lt || Ieee.double.order r C == some .eq) = decide (r ≤ C) := by
  have hl := inf_lt
  have hC' := rung_small (show C < 9223372036854775808 by omega)
  have hr' := rung_small hr
  by_cases h : r < inf
  · rw [order_fin (by omega) (by omega), cmp_lt, cmp_eq, fv_pos_rung r hr, fv_pos_rung C (by omega)]
    by_cases c : r < C
    · have := mag_lt c; have : r ≤ C := by omega
      simp [this]; omega
    · by_cases c2 : r = C
      · subst c2; simp
      · have := mag_lt (show C < r by omega)
        rw [decide_eq_false (by omega), decide_eq_false (by omega), decide_eq_false (by omega)]; rfl
  · by_cases h2 : r = inf
    · rw [order_inf_fin (by omega) (by omega), sgn_small hr]; simp; omega
    · rw [order_nan_left (by omega)]; simp; omega
theorem ge_pos {r C : Nat} (hr : r ≤ inf) (hC : C < inf) : (Ieee.double.order r C == some .gt || Ieee.double.order r C == some .eq) = decide (C ≤ r) := by
  have hl := inf_lt
  have hC' := rung_small (show C < 9223372036854775808 by omega)
  have hr' := rung_small (show r < 9223372036854775808 by omega)
  by_cases h : r < inf
  · rw [order_fin (by omega) (by omega), cmp_gt, cmp_eq, fv_pos_rung r (by omega), fv_pos_rung C (by omega)]
    by_cases c : C < r
    · have := mag_lt c; have : C ≤ r := by omega
      simp [this]; omega
    · by_cases c2 : r = C
      · subst c2; simp
      · have := mag_lt (show r < C by omega)
        rw [decide_eq_false (by omega), decide_eq_false (by omega), decide_eq_false (by omega)]; rfl
  · have h2 : r = inf := by omega
    rw [order_inf_fin (by omega) (by omega), sgn_small (by omega)]; simp; omega
theorem mag_eq_zero {r : Nat} : mag r = 0 ↔ r = 0 := ⟨fun h => mag_inj (by rw [h]; rfl), fun h => by rw [h]; rfl⟩
theorem eq_zero (x : Nat) : (Ieee.double.order x 0 == some .eq) = decide (rung x = 0) := by
  by_cases h : rung x < inf
  · rw [order_fin h (by decide), cmp_eq]
    have : fv x = fv 0 ↔ rung x = 0 := by
      rw [show fv 0 = 0 by decide, ← mag_eq_zero, ← fv_natAbs]; omega
    simp only [this]
  · have hne : rung x ≠ 0 := by have : 0 < inf := by decide
                                omega
    by_cases h2 : rung x = inf
    · rw [order_inf_fin h2 (by decide)]; simp [hne]; cases sgn x <;> simp
    · rw [order_nan_left (by omega)]; simp [hne]

set_option exponentiation.threshold 3000

def tameB (x : Nat) : Bool := decide (rung x ≤ 9110782046170513408)
def safeB (x : Nat) : Bool := decide (rung x = 0 ∨ (2580562586483294208 ≤ rung x ∧ rung x ≤ 6633802251116740608))

def sumLo (x y : Nat) : Nat :=
  fadd (fsub x (fsub (fadd x y) (fsub (fadd x y) x))) (fsub y (fsub (fadd x y) x))

theorem inf_eq : inf = 9218868437227405312 := rfl

theorem sum_facts {x y : Nat} (hx : rung x ≤ 9110782046170513408) (hy : rung y ≤ 9110782046170513408) :
    Ieee.double.add x y = some (fadd x y) ∧ Ieee.double.sub (fadd x y) x = some (fsub (fadd x y) x) ∧
    Ieee.double.sub (fadd x y) (fsub (fadd x y) x) = some (fsub (fadd x y) (fsub (fadd x y) x)) ∧
    Ieee.double.sub x (fsub (fadd x y) (fsub (fadd x y) x)) = some (fsub x (fsub (fadd x y) (fsub (fadd x y) x))) ∧
    Ieee.double.sub y (fsub (fadd x y) x) = some (fsub y (fsub (fadd x y) x)) ∧
    Ieee.double.add (fsub x (fsub (fadd x y) (fsub (fadd x y) x))) (fsub y (fsub (fadd x y) x)) = some (sumLo x y) ∧
    fadd x y < 18446744073709551616 ∧ rung (fadd x y) ≤ 9115285645797883904 ∧ fv (fadd x y) = Rn (fv x + fv y) ∧
    sumLo x y < 18446744073709551616 ∧ rung (sumLo x y) ≤ 9119789245425254400 ∧ fv (sumLo x y) = fv x + fv y - Rn (fv x + fv y) := by
  have hi := inf_eq
  have m0 := mag_le hx
  have m1 := mag_le hy
  rw [← fv_natAbs] at m0 m1
  have d1 : mag 9115285645797883904 = 2 * mag 9110782046170513408 := mag_double (r := 9110782046170513408) (by omega)
  have d2 : mag 9119789245425254400 = 2 * mag 9115285645797883904 := mag_double (r := 9115285645797883904) (by omega)
  have d3 : mag 9124292845052624896 = 2 * mag 9119789245425254400 := mag_double (r := 9119789245425254400) (by omega)
  have d4 : mag 9128796444679995392 = 2 * mag 9124292845052624896 := mag_double (r := 9124292845052624896) (by omega)
  obtain ⟨a1, a2, a3, a4⟩ := fadd_val (M := 9115285645797883904) (x := x) (y := y) (by omega) (by omega) (by omega) (by omega)
  have m2 := mag_le a3
  rw [← fv_natAbs] at m2
  obtain ⟨b1, b2, b3, b4⟩ := fsub_val (M := 9119789245425254400) (x := fadd x y) (y := x) (by omega) (by omega) (by omega) (by omega)
  have m3 := mag_le b3
  rw [← fv_natAbs] at m3
  obtain ⟨c1, c2, c3, c4⟩ := fsub_val (M := 9124292845052624896) (x := fadd x y) (y := fsub (fadd x y) x) (by omega) (by omega) (by omega) (by omega)
  have m4 := mag_le c3
  rw [← fv_natAbs] at m4
  obtain ⟨p1, p2, p3, p4⟩ := fsub_val (M := 9128796444679995392) (x := x) (y := fsub (fadd x y) (fsub (fadd x y) x)) (by omega) (by omega) (by omega) (by omega)
  obtain ⟨q1, q2, q3, q4⟩ := fsub_val (M := 9124292845052624896) (x := y) (y := fsub (fadd x y) x) (by omega) (by omega) (by omega) (by omega)
  obtain ⟨t1, t2, t3, t5⟩ := two_sum (a := fv x) (b := fv y) (x := fv (fadd x y)) (c := fv (fsub (fadd x y) x)) (d := fv (fsub (fadd x y) (fsub (fadd x y) x))) (Rep_fv x) (Rep_fv y) a4 b4 c4
  rw [t1] at p4
  rw [t2] at q4
  obtain ⟨r1, r2, r3, r4⟩ := fadd_val (M := 9119789245425254400) (x := fsub x (fsub (fadd x y) (fsub (fadd x y) x))) (y := fsub y (fsub (fadd x y) x)) (by omega) (by omega) (by omega) (by omega)
  rw [p4, q4, t3, t5, a4] at r4
  exact ⟨a1, b1, c1, p1, q1, r1, a2, a3, a4, r2, r3, r4⟩

/-! A float's halves. -/
def spC (x : Nat) : Nat := fmul 4728779608772575232 x
def spHi (x : Nat) : Nat := fsub (spC x) (fsub (spC x) x)
def spLo (x : Nat) : Nat := fsub x (spHi x)

theorem big_le {A : Int} {s : Nat} (hA : A.natAbs ≤ 5192296858534827628530496329220096) (hs : s ≤ 1870) : (A * ((2 ^ s : Nat) : Int)).natAbs ≤ mag 8696450880452427776 := by
  have e : mag 8696450880452427776 = 4503599627370496 * 2 ^ 1930 := mag_at (k := 1930) (q := 4503599627370496) (by omega) (by omega)
  rw [e, Int.natAbs_mul, Int.natAbs_natCast]
  have h1 : (2 : Nat) ^ 1930 = 2 ^ 60 * 2 ^ 1870 := by rw [← Nat.pow_add]
  have h2 : 2 ^ s ≤ 2 ^ 1870 := Nat.pow_le_pow_right (by omega) hs
  have e60 : (2 : Nat) ^ 60 = 1152921504606846976 := by decide
  rw [h1, ← Nat.mul_assoc, e60]
  exact Nat.mul_le_mul (by omega) h2

/-- A float's parts, if it is safe and not 0. -/
theorem safe_parts {x : Nat} (h1 : 2580562586483294208 ≤ rung x) (h2 : rung x ≤ 6633802251116740608) :
    ∃ (m : Int) (e : Nat), fv x = m * ((2 ^ e : Nat) : Int) ∧ 4503599627370496 ≤ m.natAbs ∧ m.natAbs < 9007199254740992 ∧ 572 ≤ e ∧ e ≤ 1472 := by
  refine ⟨sm (sgn x) (4503599627370496 + rung x % 4503599627370496), rung x / 4503599627370496 - 1, ?_, ?_, ?_, ?_, ?_⟩
  · unfold fv
    rw [show mag (rung x) = (4503599627370496 + rung x % 4503599627370496) * 2 ^ (rung x / 4503599627370496 - 1) by unfold mag; rw [if_neg (by omega)]]
    unfold sm; cases sgn x <;> simp [Int.neg_mul]
  · rw [sm_natAbs]; omega
  · rw [sm_natAbs]; omega
  · omega
  · omega

theorem fv_half : fv 4728779608772575232 = 134217729 * ((2 ^ 1074 : Nat) : Int) := by
  rw [fv_pos_rung _ (by decide)]
  have : mag 4728779608772575232 = 4503599660924928 * 2 ^ 1049 := mag_at (k := 1049) (q := 4503599660924928) (by omega) (by omega)
  rw [this, show (1074 : Nat) = 25 + 1049 by rfl, Nat.pow_add, show (2 : Nat) ^ 25 = 33554432 by decide]
  rw [Int.natCast_mul, Int.natCast_mul, ← Int.mul_assoc]
  rfl

/-- Veltkamp, whatever the sign. -/
theorem split_any {a c d : Int} (h1 : 4503599627370496 ≤ a.natAbs) (h2 : a.natAbs < 9007199254740992) (hc : c = Rn (134217729 * a)) (hd : d = Rn (c - a)) :
    Rn (c - d) = c - d ∧ Rn (a - (c - d)) = a - (c - d) ∧ (134217728 : Int) ∣ c - d ∧ (a - (c - d)).natAbs ≤ 67108864 ∧ (c - d).natAbs ≤ 9007199254740992 := by
  by_cases h : 0 ≤ a
  · obtain ⟨p1, p2, p3, p4, p5, p6⟩ := split_pos (a := a) (by omega) (by omega) hc hd
    exact ⟨p1, p2, p3, p4, by omega⟩
  · have hc' : -c = Rn (134217729 * -a) := by rw [hc, show 134217729 * -a = -(134217729 * a) by omega, Rn_neg]
    have hd' : -d = Rn (-c - -a) := by rw [hd, show -c - -a = -(c - a) by omega, Rn_neg]
    obtain ⟨p1, p2, p3, p4, p5, p6⟩ := split_pos (a := -a) (by omega) (by omega) hc' hd'
    rw [show -c - -d = -(c - d) by omega] at *
    rw [show -a - -(c - d) = -(a - (c - d)) by omega] at *
    rw [Rn_neg] at p1 p2
    exact ⟨by omega, by omega, Int.dvd_neg.1 p3, by omega, by omega⟩

theorem split_facts {x : Nat} (h1 : 2580562586483294208 ≤ rung x) (h2 : rung x ≤ 6633802251116740608) :
    Ieee.double.mul 4728779608772575232 x = some (spC x) ∧ Ieee.double.sub (spC x) x = some (fsub (spC x) x) ∧ Ieee.double.sub (spC x) (fsub (spC x) x) = some (spHi x) ∧
    Ieee.double.sub x (spHi x) = some (spLo x) ∧ spHi x < 18446744073709551616 ∧ spLo x < 18446744073709551616 ∧ rung (spHi x) ≤ 8696450880452427776 ∧ rung (spLo x) ≤ 8696450880452427776 ∧
    ∃ (m p q : Int) (e : Nat), fv x = m * ((2 ^ e : Nat) : Int) ∧ fv (spHi x) = p * ((2 ^ e : Nat) : Int) ∧ fv (spLo x) = q * ((2 ^ e : Nat) : Int) ∧ m = p + q ∧
      4503599627370496 ≤ m.natAbs ∧ m.natAbs < 9007199254740992 ∧ (134217728 : Int) ∣ p ∧ p.natAbs ≤ 9007199254740992 ∧ q.natAbs ≤ 67108864 ∧ 572 ≤ e ∧ e ≤ 1472 := by
  have hi := inf_eq
  obtain ⟨m, e, hm, hm1, hm2, he1, he2⟩ := safe_parts h1 h2
  have hK : (134217729 * m).natAbs ≤ 5192296858534827628530496329220096 := by omega
  have eK : (134217729 * fv x : Int) = (134217729 * m) * ((2 ^ e : Nat) : Int) := by rw [hm, Int.mul_assoc]
  obtain ⟨a1, a2, a3, a4⟩ := fmul_val (x := 4728779608772575232) (y := x) (M := 8696450880452427776) (k := 1074) (j := 0) (a := 134217729) (b := fv x) (by decide) (by omega) (by omega) fv_half (by simp) (by omega)
    (by rw [eK]; exact big_le hK (by omega))
  rw [eK, Rn_pow] at a4
  change fv (spC x) = _ at a4
  generalize hc : Rn (134217729 * m) = c at a4
  have hcb := Rn_half (n := 134217729 * m) (k := 28) (by rw [e28]; omega)
  rw [e28, hc] at hcb
  have e1 : fv (spC x) - fv x = (c - m) * ((2 ^ e : Nat) : Int) := by rw [a4, hm, Int.sub_mul]
  obtain ⟨b1, b2, b3, b4⟩ := fsub_val (x := spC x) (y := x) (M := 8696450880452427776) (by change rung (spC x) ≤ _ at a3; omega) (by omega) (by omega)
    (by rw [e1]; exact big_le (by omega) (by omega))
  rw [e1, Rn_pow] at b4
  generalize hd : Rn (c - m) = d at b4
  have hdb := Rn_err (c - m)
  rw [hd] at hdb
  obtain ⟨s1, s2, s3, s4, s5⟩ := split_any hm1 hm2 hc.symm hd.symm
  have e2 : fv (spC x) - fv (fsub (spC x) x) = (c - d) * ((2 ^ e : Nat) : Int) := by rw [a4, b4, Int.sub_mul]
  obtain ⟨c1, c2, c3, c4⟩ := fsub_val (x := spC x) (y := fsub (spC x) x) (M := 8696450880452427776) (by change rung (spC x) ≤ _ at a3; omega) (by omega) (by omega)
    (by rw [e2]; exact big_le (by omega) (by omega))
  rw [e2, Rn_pow, s1] at c4
  change fv (spHi x) = _ at c4
  have e3 : fv x - fv (spHi x) = (m - (c - d)) * ((2 ^ e : Nat) : Int) := by rw [c4, hm]; simp only [Int.sub_mul]
  obtain ⟨d1, d2, d3, d4⟩ := fsub_val (x := x) (y := spHi x) (M := 8696450880452427776) (by omega) (by change rung (spHi x) ≤ _ at c3; omega) (by omega)
    (by rw [e3]; exact big_le (by omega) (by omega))
  rw [e3, Rn_pow, s2] at d4
  exact ⟨a1, b1, c1, d1, c2, d2, c3, d3, m, c - d, m - (c - d), e, hm, c4, d4, by omega, hm1, hm2, s3, s5, s4, he1, he2⟩

/-! A product. -/
def prE1 (x y : Nat) : Nat := fsub (fmul x y) (fmul (spHi x) (spHi y))
def prE2 (x y : Nat) : Nat := fsub (prE1 x y) (fmul (spLo x) (spHi y))
def prE3 (x y : Nat) : Nat := fsub (prE2 x y) (fmul (spHi x) (spLo y))
def prodLo (x y : Nat) : Nat := fsub (fmul (spLo x) (spLo y)) (prE3 x y)

theorem prod_facts {x y : Nat} (hx1 : 2580562586483294208 ≤ rung x) (hx2 : rung x ≤ 6633802251116740608) (hy1 : 2580562586483294208 ≤ rung y) (hy2 : rung y ≤ 6633802251116740608) :
    ∃ (a b : Int) (s : Nat), fv x * fv y = (a * b) * ((2 ^ s : Nat) : Int) * ((2 ^ 1074 : Nat) : Int) ∧ 4503599627370496 * 4503599627370496 ≤ (a * b).natAbs ∧ (a * b).natAbs ≤ 9007199254740992 * 9007199254740992 ∧ 70 ≤ s ∧ s ≤ 1870 ∧
    Ieee.double.mul x y = some (fmul x y) ∧ Ieee.double.mul (spHi x) (spHi y) = some (fmul (spHi x) (spHi y)) ∧ Ieee.double.sub (fmul x y) (fmul (spHi x) (spHi y)) = some (prE1 x y) ∧
    Ieee.double.mul (spLo x) (spHi y) = some (fmul (spLo x) (spHi y)) ∧ Ieee.double.sub (prE1 x y) (fmul (spLo x) (spHi y)) = some (prE2 x y) ∧
    Ieee.double.mul (spHi x) (spLo y) = some (fmul (spHi x) (spLo y)) ∧ Ieee.double.sub (prE2 x y) (fmul (spHi x) (spLo y)) = some (prE3 x y) ∧
    Ieee.double.mul (spLo x) (spLo y) = some (fmul (spLo x) (spLo y)) ∧ Ieee.double.sub (fmul (spLo x) (spLo y)) (prE3 x y) = some (prodLo x y) ∧
    fmul x y < 18446744073709551616 ∧ prodLo x y < 18446744073709551616 ∧ rung (fmul x y) ≤ 8696450880452427776 ∧ rung (prodLo x y) ≤ 8696450880452427776 ∧
    fv (fmul x y) = Rn ((a * b) * ((2 ^ s : Nat) : Int)) ∧ fv (prodLo x y) = (a * b) * ((2 ^ s : Nat) : Int) - Rn ((a * b) * ((2 ^ s : Nat) : Int)) ∧
    fv (fmul (spHi x) (spHi y)) * ((2 ^ 1074 : Nat) : Int) = fv (spHi x) * fv (spHi y) ∧ fv (fmul (spLo x) (spHi y)) * ((2 ^ 1074 : Nat) : Int) = fv (spLo x) * fv (spHi y) ∧
    fv (fmul (spHi x) (spLo y)) * ((2 ^ 1074 : Nat) : Int) = fv (spHi x) * fv (spLo y) ∧ fv (fmul (spLo x) (spLo y)) * ((2 ^ 1074 : Nat) : Int) = fv (spLo x) * fv (spLo y) := by
  have hi := inf_eq
  obtain ⟨-, -, -, -, -, -, hpr, hqr, a, p, q, e, hxa, hp, hq, hpq, ha1, ha2, hpd, hpb, hqb, he1, he2⟩ := split_facts hx1 hx2
  obtain ⟨-, -, -, -, -, -, hrr, hsr, b, r, t, f, hyb, hr, ht, hrt, hb1, hb2, hrd, hrb, htb, hf1, hf2⟩ := split_facts hy1 hy2
  obtain ⟨k1, k2, k3, k4, k5, k6, k7, k8, k9⟩ := dekker ha1 ha2 hb1 hb2 hpq hrt hpd hrd hpb hrb hqb htb rfl
  have hab1 : 4503599627370496 * 4503599627370496 ≤ (a * b).natAbs := by rw [Int.natAbs_mul]; exact Nat.mul_le_mul ha1 hb1
  have hab2 : (a * b).natAbs ≤ 9007199254740992 * 9007199254740992 := by rw [Int.natAbs_mul]; exact Nat.mul_le_mul (by omega) (by omega)
  have bpr : (p * r).natAbs ≤ 9007199254740992 * 9007199254740992 := by rw [Int.natAbs_mul]; exact Nat.mul_le_mul hpb hrb
  have bqr : (q * r).natAbs ≤ 67108864 * 9007199254740992 := by rw [Int.natAbs_mul]; exact Nat.mul_le_mul hqb hrb
  have bpt : (p * t).natAbs ≤ 9007199254740992 * 67108864 := by rw [Int.natAbs_mul]; exact Nat.mul_le_mul hpb htb
  have bqt : (q * t).natAbs ≤ 67108864 * 67108864 := by rw [Int.natAbs_mul]; exact Nat.mul_le_mul hqb htb
  -- 2^e 2^f as 2^s 2^1074
  have up : ∀ (u : Int), u * ((2 ^ e : Nat) : Int) = (u * ((2 ^ (e - 537) : Nat) : Int)) * ((2 ^ 537 : Nat) : Int) := by
    intro u; rw [Int.mul_assoc, ← Int.natCast_mul, ← Nat.pow_add, show e - 537 + 537 = e by omega]
  have uf : ∀ (u : Int), u * ((2 ^ f : Nat) : Int) = (u * ((2 ^ (f - 537) : Nat) : Int)) * ((2 ^ 537 : Nat) : Int) := by
    intro u; rw [Int.mul_assoc, ← Int.natCast_mul, ← Nat.pow_add, show f - 537 + 537 = f by omega]
  have mm : ∀ u v A B : Int, (u * A) * (v * B) = (u * v) * (A * B) := by intros; ac_rfl
  have both : ∀ (u v : Int), (u * ((2 ^ (e - 537) : Nat) : Int)) * (v * ((2 ^ (f - 537) : Nat) : Int)) = (u * v) * ((2 ^ (e - 537 + (f - 537)) : Nat) : Int) := by
    intro u v; rw [Nat.pow_add, Int.natCast_mul]; exact mm _ _ _ _
  have full : ∀ (u v : Int), (u * ((2 ^ e : Nat) : Int)) * (v * ((2 ^ f : Nat) : Int)) = (u * v) * ((2 ^ (e - 537 + (f - 537)) : Nat) : Int) * ((2 ^ 1074 : Nat) : Int) := by
    intro u v
    rw [Int.mul_assoc (u * v), ← Int.natCast_mul, ← Nat.pow_add, show e - 537 + (f - 537) + 1074 = e + f by omega, Nat.pow_add, Int.natCast_mul]; exact mm _ _ _ _
  generalize hs : e - 537 + (f - 537) = s at both full
  have hs1 : 70 ≤ s := by omega
  have hs2 : s ≤ 1870 := by omega
  have prod : ∀ (z w : Nat) (u v : Int), rung z < inf → rung w < inf → fv z = u * ((2 ^ e : Nat) : Int) → fv w = v * ((2 ^ f : Nat) : Int) → (u * v).natAbs ≤ 9007199254740992 * 9007199254740992 →
      Ieee.double.mul z w = some (fmul z w) ∧ fmul z w < 18446744073709551616 ∧ rung (fmul z w) ≤ 8696450880452427776 ∧ fv (fmul z w) = Rn (u * v) * ((2 ^ s : Nat) : Int) := by
    intro z w u v hz hw hzu hwv hb
    obtain ⟨a1, a2, a3, a4⟩ := fmul_val (M := 8696450880452427776) (k := 537) (j := 537) hz hw (by omega) (hzu.trans (up u)) (hwv.trans (uf v)) (by omega) (by rw [both]; exact big_le (by omega) hs2)
    rw [both, Rn_pow] at a4
    exact ⟨a1, a2, a3, a4⟩
  have less : ∀ (z w : Nat) (u v : Int), rung z ≤ 8696450880452427776 → rung w ≤ 8696450880452427776 → fv z = u * ((2 ^ s : Nat) : Int) → fv w = v * ((2 ^ s : Nat) : Int) → Rep (u - v) → (u - v).natAbs ≤ 5192296858534827628530496329220096 →
      Ieee.double.sub z w = some (fsub z w) ∧ fsub z w < 18446744073709551616 ∧ rung (fsub z w) ≤ 8696450880452427776 ∧ fv (fsub z w) = (u - v) * ((2 ^ s : Nat) : Int) := by
    intro z w u v hz hw hzu hwv hrep hb
    have e1 : fv z - fv w = (u - v) * ((2 ^ s : Nat) : Int) := by rw [hzu, hwv, Int.sub_mul]
    obtain ⟨a1, a2, a3, a4⟩ := fsub_val (x := z) (y := w) (M := 8696450880452427776) (by omega) (by omega) (by omega) (by rw [e1]; exact big_le hb hs2)
    rw [e1, Rn_pow, Rn_fix hrep] at a4
    exact ⟨a1, a2, a3, a4⟩
  have herr := Rn_half (n := a * b) (k := 53) (by rw [← e53]; exact hab2)
  rw [← e53] at herr
  obtain ⟨A1, A2, A3, A4⟩ := prod x y a b (by omega) (by omega) hxa hyb hab2
  obtain ⟨B1, B2, B3, B4⟩ := prod (spHi x) (spHi y) p r (by omega) (by omega) hp hr (by omega)
  rw [Rn_fix k1] at B4
  obtain ⟨C1, C2, C3, C4⟩ := prod (spLo x) (spHi y) q r (by omega) (by omega) hq hr (by omega)
  rw [Rn_fix k2] at C4
  obtain ⟨D1, D2, D3, D4⟩ := prod (spHi x) (spLo y) p t (by omega) (by omega) hp ht (by omega)
  rw [Rn_fix k3] at D4
  obtain ⟨E1, E2, E3, E4⟩ := prod (spLo x) (spLo y) q t (by omega) (by omega) hq ht (by omega)
  rw [Rn_fix k4] at E4
  obtain ⟨F1, F2, F3, F4⟩ := less _ _ _ _ A3 B3 A4 B4 k5 (by omega)
  obtain ⟨G1, G2, G3, G4⟩ := less (prE1 x y) _ _ _ F3 C3 F4 C4 k6 (by omega)
  obtain ⟨H1, H2, H3, H4⟩ := less (prE2 x y) _ _ _ G3 D3 G4 D4 k7 (by omega)
  obtain ⟨I1, I2, I3, I4⟩ := less _ (prE3 x y) _ _ E3 H3 E4 H4 (by rw [k9]; exact k8) (by omega)
  rw [k9] at I4
  refine ⟨a, b, s, by rw [hxa, hyb, full], hab1, hab2, hs1, hs2, A1, B1, F1, C1, G1, D1, H1, E1, I1, A2, I2, A3, I3, by rw [Rn_pow]; exact A4, ?_, ?_, ?_, ?_, ?_⟩
  · rw [Rn_pow, ← Int.sub_mul]; exact I4
  · rw [B4, hp, hr, full]
  · rw [C4, hq, hr, full]
  · rw [D4, hp, ht, full]
  · rw [E4, hq, ht, full]

end TV
end

section
/- Powers of two as floats: doubled and halved. -/
namespace TV

set_option exponentiation.threshold 3000

/-- The float 2^(i - 1023). -/
def p2 (i : Nat) : Nat := i * 4503599627370496

theorem mag_p2 {i : Nat} (h : 1 ≤ i) : mag (p2 i) = 2 ^ (51 + i) := by
  have := mag_at (k := i - 1) (q := 4503599627370496) (Or.inr (Nat.le_refl _)) (by omega)
  have e : p2 i = (i - 1) * 4503599627370496 + 4503599627370496 := by unfold p2; omega
  have e2 : (4503599627370496 : Nat) * 2 ^ (i - 1) = 2 ^ (51 + i) := by
    rw [e52, ← Nat.pow_add, show 52 + (i - 1) = 51 + i by omega]
  exact (congrArg mag e).trans (this.trans e2)

theorem p2_lt {i : Nat} (h : i ≤ 2046) : p2 i < inf := by unfold p2 inf; omega

theorem read_p2 {i : Nat} (h1 : 1 ≤ i) (h : i ≤ 2046) : Ieee.double.read (p2 i) = .number false 4503599627370496 (-1074 + ((i - 1 : Nat) : Int)) := by
  unfold Ieee.Format.read
  simp only [signWeight_double, binade_double, infRung_double, leastPlace_double]
  unfold p2
  have e1 : i * 4503599627370496 / 9223372036854775808 % 2 = 0 := by omega
  have e2 : i * 4503599627370496 % 9223372036854775808 = i * 4503599627370496 := by omega
  rw [e1, e2, if_neg (by omega), if_pos (by omega)]
  have e3 : i * 4503599627370496 % 4503599627370496 = 0 := by omega
  have e4 : i * 4503599627370496 / 4503599627370496 = i := by omega
  rw [e3, e4]; rfl

theorem double_p2 {i : Nat} (h1 : 1 ≤ i) (h : i ≤ 2045) : Ieee.double.mul (p2 i) 4611686018427387904 = some (p2 (i + 1)) := by
  have hl := inf_lt
  have a1 := p2_lt (i := i) (by omega)
  have a2 := p2_lt (i := i + 1) (by omega)
  have r1 := rung_small (r := p2 i) (by omega)
  rw [mul_fin (by omega) (by decide), r1, show rung 4611686018427387904 = p2 1024 by decide, mag_p2 h1, mag_p2 (by omega), ← Nat.pow_add]
  have e : 2 ^ (51 + i + (51 + 1024)) = mag (p2 (i + 1)) * 2 ^ 1074 := by rw [mag_p2 (by omega), ← Nat.pow_add, show 51 + i + (51 + 1024) = 51 + (i + 1) + 1074 by omega]
  rw [e, rnd_exact, Nat.min_eq_left (by omega), sgn_small (by omega)]
  rfl

theorem halve_p2 {i : Nat} (h1 : 2 ≤ i) (h : i ≤ 2046) : Ieee.double.div (p2 i) 4611686018427387904 = some (p2 (i - 1)) := by
  have hl := inf_lt
  have a2 := p2_lt (i := i - 1) (by omega)
  unfold Ieee.Format.div
  rw [read_p2 (by omega) h, show (4611686018427387904 : Nat) = p2 1024 by decide, read_p2 (by omega) (by omega)]
  unfold Ieee.Datum.quotient
  dsimp only
  rw [if_neg (by omega)]
  simp only [Option.map_some]
  unfold Ieee.Format.write
  simp only
  have l : Nat.log2 4503599627370496 = 52 := by decide
  rw [l, show Ieee.double.fractionBits = 52 from rfl]
  rw [nearest_eq _ _ 1074 _ (by omega), word_flo]
  have e1 : (2 * (4503599627370496 <<< (52 + 2 + 52 - 52) / 4503599627370496) + (4503599627370496 <<< (52 + 2 + 52 - 52) % 4503599627370496 != 0).toNat) = 2 ^ 55 := by decide
  rw [e1, ← Nat.pow_add]
  have e2 : 2 ^ (55 + (-1074 + ((i - 1 : Nat) : Int) - (-1074 + ((1024 - 1 : Nat) : Int)) - ((52 + 2 + 52 - 52 : Nat) : Int) - 1 + 1074 + ((1074 : Nat) : Int)).toNat) = mag (p2 (i - 1)) * 2 ^ 1074 := by
    rw [mag_p2 (by omega), ← Nat.pow_add]; congr 1; omega
  have hi := inf_eq
  rw [e2, rnd_exact, Nat.min_eq_left (by omega)]
  rfl

def fdiv (x y : Nat) : Nat := (Ieee.double.div x y).getD 0
theorem fmul_p2 {i : Nat} (h1 : 1 ≤ i) (h : i ≤ 2045) : fmul (p2 i) 4611686018427387904 = p2 (i + 1) := by unfold fmul; rw [double_p2 h1 h]; rfl
theorem fdiv_p2 {i : Nat} (h1 : 2 ≤ i) (h : i ≤ 2046) : fdiv (p2 i) 4611686018427387904 = p2 (i - 1) := by unfold fdiv; rw [halve_p2 h1 h]; rfl

/-! A float's magnitude, as the references reckon it (of -0: -0). -/
def sizeF (x : Nat) : Nat := if flt x 0 then fneg x else x

theorem sizeF_lt {x : Nat} (h : x < 18446744073709551616) : sizeF x < 18446744073709551616 := by
  unfold sizeF; split
  · exact fneg_lt h
  · exact h
theorem rung_sizeF {x : Nat} (h : x < 18446744073709551616) : rung (sizeF x) = rung x := by
  unfold sizeF; split
  · exact rung_fneg h
  · rfl
theorem fv_nonneg {x : Nat} (h : sgn x = false) : 0 ≤ fv x := by unfold fv sm; rw [h]; simp
theorem fv_nonpos {x : Nat} (h : sgn x = true) : fv x ≤ 0 := by unfold fv sm; rw [h]; simp
theorem fv_sizeF {x : Nat} (h : x < 18446744073709551616) (hf : rung x < inf) : fv (sizeF x) = mag (rung x) := by
  unfold sizeF
  rw [flt_fin hf (by decide), show fv 0 = 0 by decide]
  have := fv_natAbs x
  by_cases c : fv x < 0
  · simp only [c, decide_true, if_true]; rw [fv_fneg h]; omega
  · simp only [c, decide_false, Bool.false_eq_true, if_false]; omega
theorem sgn_sizeF_inf {x : Nat} (h : x < 18446744073709551616) (hf : rung x = inf) : sgn (sizeF x) = false := by
  unfold sizeF
  rw [flt_zero_inf hf]
  cases c : sgn x
  · simpa using c
  · simp only [if_true]; rw [sgn_fneg h, c]; rfl

theorem size_le {x C : Nat} (h : x < 18446744073709551616) (hC : C < inf) :
    (Ieee.double.order x x == some .eq && (Ieee.double.order (sizeF x) C == some .lt || Ieee.double.order (sizeF x) C == some .eq)) = decide (rung x ≤ C) := by
  have hl := inf_lt
  have hs := feq_self x
  unfold feq at hs
  rw [hs]
  have hr := rung_sizeF h
  have hC' := rung_small (show C < 9223372036854775808 by omega)
  by_cases a : rung x < inf
  · rw [order_fin (by omega) (by omega), cmp_lt, cmp_eq, fv_sizeF h a, fv_pos_rung C (by omega)]
    have : rung x ≤ inf := by omega
    simp only [this, decide_true, Bool.true_and]
    by_cases c : rung x < C
    · have := mag_lt c
      rw [decide_eq_true (show (mag (rung x) : Int) < mag C by omega), decide_eq_true (show rung x ≤ C by omega)]; rfl
    · by_cases c2 : rung x = C
      · rw [c2]; simp
      · have := mag_lt (show C < rung x by omega)
        rw [decide_eq_false (by omega), decide_eq_false (by omega), decide_eq_false (by omega)]; rfl
  · by_cases b : rung x = inf
    · rw [order_inf_fin (by omega) (by omega), sgn_sizeF_inf h b]; simp; omega
    · rw [decide_eq_false (by omega), decide_eq_false (by omega)]; rfl

theorem size_ge {x C : Nat} (h : x < 18446744073709551616) (hC : C < inf) :
    (Ieee.double.order x x == some .eq && (Ieee.double.order (sizeF x) C == some .gt || Ieee.double.order (sizeF x) C == some .eq)) = decide (C ≤ rung x ∧ rung x ≤ inf) := by
  have hl := inf_lt
  have hs := feq_self x
  unfold feq at hs
  rw [hs]
  have hr := rung_sizeF h
  have hC' := rung_small (show C < 9223372036854775808 by omega)
  by_cases a : rung x < inf
  · rw [order_fin (by omega) (by omega), cmp_gt, cmp_eq, fv_sizeF h a, fv_pos_rung C (by omega)]
    have : rung x ≤ inf := by omega
    simp only [this, decide_true, Bool.true_and, and_true]
    by_cases c : C < rung x
    · have := mag_lt c
      rw [decide_eq_true (show (mag C : Int) < mag (rung x) by omega), decide_eq_true (show C ≤ rung x by omega)]; rfl
    · by_cases c2 : rung x = C
      · rw [c2]; simp
      · have := mag_lt (show rung x < C by omega)
        rw [decide_eq_false (by omega), decide_eq_false (by omega), decide_eq_false (by omega)]; rfl
  · by_cases b : rung x = inf
    · rw [order_inf_fin (by omega) (by omega), sgn_sizeF_inf h b]; simp; omega
    · rw [decide_eq_false (by omega), decide_eq_false (by omega)]; rfl

theorem inf_pos : 0 < inf := by decide
theorem fv_zero_of {x : Nat} (h : rung x = 0) : fv x = 0 := by unfold fv sm; rw [h, mag_zero]; cases sgn x <;> simp

theorem mul_zero_left {x y : Nat} (hx : rung x = 0) (hy : rung y < inf) : Ieee.double.mul x y = some (fmul x y) ∧ rung (fmul x y) = 0 ∧ fmul x y < 18446744073709551616 := by
  have h : Ieee.double.mul x y = some (flo (sgn x ^^ sgn y) 0) := by
    rw [mul_fin (by have := inf_pos; omega) hy, hx, mag_zero, Nat.zero_mul]
    rw [show rndAt 1074 0 = 0 by decide]; rfl
  unfold fmul
  rw [h]
  exact ⟨rfl, rung_flo (by omega), flo_lt (by omega)⟩
theorem mul_zero_right {x y : Nat} (hx : rung x < inf) (hy : rung y = 0) : Ieee.double.mul x y = some (fmul x y) ∧ rung (fmul x y) = 0 ∧ fmul x y < 18446744073709551616 := by
  have h : Ieee.double.mul x y = some (flo (sgn x ^^ sgn y) 0) := by
    rw [mul_fin hx (by have := inf_pos; omega), hy, mag_zero, Nat.mul_zero]
    rw [show rndAt 1074 0 = 0 by decide]; rfl
  unfold fmul
  rw [h]
  exact ⟨rfl, rung_flo (by omega), flo_lt (by omega)⟩
theorem sub_zero_zero {x y : Nat} (hx : rung x = 0) (hy : rung y = 0) : Ieee.double.sub x y = some (fsub x y) ∧ rung (fsub x y) = 0 ∧ fsub x y < 18446744073709551616 := by
  have := inf_pos
  obtain ⟨a1, a2, a3, a4⟩ := fsub_val (x := x) (y := y) (M := 0) (by omega) (by omega) (by omega) (by rw [fv_zero_of hx, fv_zero_of hy]; decide)
  exact ⟨a1, by omega, a2⟩

/-- The halves of a safe float. -/
theorem split_safe {x : Nat} (h : safeB x = true) :
    Ieee.double.mul 4728779608772575232 x = some (spC x) ∧ Ieee.double.sub (spC x) x = some (fsub (spC x) x) ∧ Ieee.double.sub (spC x) (fsub (spC x) x) = some (spHi x) ∧
    Ieee.double.sub x (spHi x) = some (spLo x) ∧ spHi x < 18446744073709551616 ∧ spLo x < 18446744073709551616 ∧ rung (spHi x) ≤ 8696450880452427776 ∧ rung (spLo x) ≤ 8696450880452427776 ∧
    fv (spHi x) + fv (spLo x) = fv x ∧ (rung x = 0 → rung (spHi x) = 0 ∧ rung (spLo x) = 0) := by
  rcases of_decide_eq_true h with h0 | ⟨h1, h2⟩
  · obtain ⟨a1, a2, a3⟩ := mul_zero_right (x := 4728779608772575232) (y := x) (by decide) h0
    obtain ⟨b1, b2, b3⟩ := sub_zero_zero a2 h0
    obtain ⟨c1, c2, c3⟩ := sub_zero_zero a2 b2
    obtain ⟨d1, d2, d3⟩ := sub_zero_zero h0 c2
    refine ⟨a1, b1, c1, d1, c3, d3, ?_, ?_, ?_, fun _ => ⟨c2, d2⟩⟩
    · change rung (fsub (fmul 4728779608772575232 x) (fsub (fmul 4728779608772575232 x) x)) ≤ _; omega
    · change rung (fsub x (fsub (fmul 4728779608772575232 x) (fsub (fmul 4728779608772575232 x) x))) ≤ _; omega
    · rw [fv_zero_of (x := spHi x) c2, fv_zero_of (x := spLo x) d2, fv_zero_of h0]; rfl
  · obtain ⟨a1, a2, a3, a4, a5, a6, a7, a8, m, p, q, e, b1, b2, b3, b4, -⟩ := split_facts h1 h2
    exact ⟨a1, a2, a3, a4, a5, a6, a7, a8, by rw [b1, b2, b3, b4, Int.add_mul], fun h0 => by omega⟩

/-- The product of two safe floats, and what is rounded off. -/
structure ProdFacts (x y : Nat) : Prop where
  m1 : Ieee.double.mul x y = some (fmul x y)
  m2 : Ieee.double.mul (spHi x) (spHi y) = some (fmul (spHi x) (spHi y))
  d1 : Ieee.double.sub (fmul x y) (fmul (spHi x) (spHi y)) = some (prE1 x y)
  m3 : Ieee.double.mul (spLo x) (spHi y) = some (fmul (spLo x) (spHi y))
  d2 : Ieee.double.sub (prE1 x y) (fmul (spLo x) (spHi y)) = some (prE2 x y)
  m4 : Ieee.double.mul (spHi x) (spLo y) = some (fmul (spHi x) (spLo y))
  d3 : Ieee.double.sub (prE2 x y) (fmul (spHi x) (spLo y)) = some (prE3 x y)
  m5 : Ieee.double.mul (spLo x) (spLo y) = some (fmul (spLo x) (spLo y))
  d4 : Ieee.double.sub (fmul (spLo x) (spLo y)) (prE3 x y) = some (prodLo x y)
  l1 : fmul x y < 18446744073709551616
  l2 : prodLo x y < 18446744073709551616
  r1 : rung (fmul x y) ≤ 8696450880452427776
  r2 : rung (prodLo x y) ≤ 8696450880452427776
  v : ∃ t : Int, fv x * fv y = t * ((2 ^ 1074 : Nat) : Int) ∧ fv (fmul x y) = Rn t ∧ fv (prodLo x y) = t - Rn t
  v2 : fv (fmul (spHi x) (spHi y)) * ((2 ^ 1074 : Nat) : Int) = fv (spHi x) * fv (spHi y)
  v3 : fv (fmul (spLo x) (spHi y)) * ((2 ^ 1074 : Nat) : Int) = fv (spLo x) * fv (spHi y)
  v4 : fv (fmul (spHi x) (spLo y)) * ((2 ^ 1074 : Nat) : Int) = fv (spHi x) * fv (spLo y)
  v5 : fv (fmul (spLo x) (spLo y)) * ((2 ^ 1074 : Nat) : Int) = fv (spLo x) * fv (spLo y)

theorem prod_safe {x y : Nat} (hx : safeB x = true) (hy : safeB y = true) : ProdFacts x y := by
  have hi := inf_eq
  obtain ⟨-, -, -, -, sx1, sx2, sx3, sx4, sx5, sx6⟩ := split_safe hx
  obtain ⟨-, -, -, -, sy1, sy2, sy3, sy4, sy5, sy6⟩ := split_safe hy
  have fx : rung x < inf := by rcases of_decide_eq_true hx with h | h <;> omega
  have fy : rung y < inf := by rcases of_decide_eq_true hy with h | h <;> omega
  -- one of both is 0
  have zero : (rung (fmul x y) = 0 ∧ Ieee.double.mul x y = some (fmul x y) ∧ fmul x y < 18446744073709551616) →
      (rung (fmul (spHi x) (spHi y)) = 0 ∧ Ieee.double.mul (spHi x) (spHi y) = some (fmul (spHi x) (spHi y))) → (rung (fmul (spLo x) (spHi y)) = 0 ∧ Ieee.double.mul (spLo x) (spHi y) = some (fmul (spLo x) (spHi y))) →
      (rung (fmul (spHi x) (spLo y)) = 0 ∧ Ieee.double.mul (spHi x) (spLo y) = some (fmul (spHi x) (spLo y))) → (rung (fmul (spLo x) (spLo y)) = 0 ∧ Ieee.double.mul (spLo x) (spLo y) = some (fmul (spLo x) (spLo y))) →
      fv x * fv y = 0 → fv (spHi x) * fv (spHi y) = 0 → fv (spLo x) * fv (spHi y) = 0 → fv (spHi x) * fv (spLo y) = 0 → fv (spLo x) * fv (spLo y) = 0 → ProdFacts x y := by
    intro ⟨a1, a2, a5⟩ ⟨b1, b2⟩ ⟨c1, c2⟩ ⟨d1, d2⟩ ⟨e1, e2⟩ z0 z1 z2 z3 z4
    obtain ⟨f1, f2, f3⟩ := sub_zero_zero a1 b1
    obtain ⟨g1, g2, g3⟩ := sub_zero_zero (x := prE1 x y) f2 c1
    obtain ⟨h1, h2, h3⟩ := sub_zero_zero (x := prE2 x y) g2 d1
    obtain ⟨i1, i2, i3⟩ := sub_zero_zero (y := prE3 x y) e1 h2
    refine ⟨a2, b2, f1, c2, g1, d2, h1, e2, i1, a5, i3, by omega, by change rung (fsub (fmul (spLo x) (spLo y)) (prE3 x y)) ≤ _; omega, ⟨0, by rw [z0, Int.zero_mul], ?_, ?_⟩, ?_, ?_, ?_, ?_⟩
    · rw [fv_zero_of a1, Rn_zero]
    · rw [fv_zero_of (x := prodLo x y) i2, Rn_zero]; rfl
    · rw [fv_zero_of b1, z1, Int.zero_mul]
    · rw [fv_zero_of c1, z2, Int.zero_mul]
    · rw [fv_zero_of d1, z3, Int.zero_mul]
    · rw [fv_zero_of e1, z4, Int.zero_mul]
  rcases of_decide_eq_true hx with h0 | ⟨hx1, hx2⟩
  · obtain ⟨p1, p2⟩ := sx6 h0
    obtain ⟨a1, a2, a3⟩ := mul_zero_left h0 fy
    obtain ⟨b1, b2, b3⟩ := mul_zero_left (y := spHi y) p1 (by omega)
    obtain ⟨c1, c2, c3⟩ := mul_zero_left (y := spHi y) p2 (by omega)
    obtain ⟨d1, d2, d3⟩ := mul_zero_left (y := spLo y) p1 (by omega)
    obtain ⟨e1, e2, e3⟩ := mul_zero_left (y := spLo y) p2 (by omega)
    exact zero ⟨a2, a1, a3⟩ ⟨b2, b1⟩ ⟨c2, c1⟩ ⟨d2, d1⟩ ⟨e2, e1⟩ (by rw [fv_zero_of h0, Int.zero_mul]) (by rw [fv_zero_of p1, Int.zero_mul]) (by rw [fv_zero_of p2, Int.zero_mul]) (by rw [fv_zero_of p1, Int.zero_mul]) (by rw [fv_zero_of p2, Int.zero_mul])
  · rcases of_decide_eq_true hy with h0 | ⟨hy1, hy2⟩
    · obtain ⟨p1, p2⟩ := sy6 h0
      obtain ⟨a1, a2, a3⟩ := mul_zero_right fx h0
      obtain ⟨b1, b2, b3⟩ := mul_zero_right (x := spHi x) (by omega) p1
      obtain ⟨c1, c2, c3⟩ := mul_zero_right (x := spLo x) (by omega) p1
      obtain ⟨d1, d2, d3⟩ := mul_zero_right (x := spHi x) (by omega) p2
      obtain ⟨e1, e2, e3⟩ := mul_zero_right (x := spLo x) (by omega) p2
      exact zero ⟨a2, a1, a3⟩ ⟨b2, b1⟩ ⟨c2, c1⟩ ⟨d2, d1⟩ ⟨e2, e1⟩ (by rw [fv_zero_of h0, Int.mul_zero]) (by rw [fv_zero_of p1, Int.mul_zero]) (by rw [fv_zero_of p1, Int.mul_zero]) (by rw [fv_zero_of p2, Int.mul_zero]) (by rw [fv_zero_of p2, Int.mul_zero])
    · obtain ⟨a, b, s, k0, k1, k2, k3, k4, A1, B1, F1, C1, G1, D1, H1, E1, I1, A2, I2, A3, I3, V1, V2, V3, V4, V5, V6⟩ := prod_facts hx1 hx2 hy1 hy2
      exact ⟨A1, B1, F1, C1, G1, D1, H1, E1, I1, A2, I2, A3, I3, ⟨_, k0, V1, V2⟩, V3, V4, V5, V6⟩

/-! Sums and products of any two floats: 0, 0 of those that are not tame, or not safe. -/
def sHi (a b : Nat) : Nat := if tameB a && tameB b then fadd a b else 0
def sLo (a b : Nat) : Nat := if tameB a && tameB b then sumLo a b else 0
def pHi (a b : Nat) : Nat := if safeB a && safeB b then fmul a b else 0
def pLo (a b : Nat) : Nat := if safeB a && safeB b then prodLo a b else 0
/-- The sum, or 0. -/
def sVal (a b : Nat) : Int := if tameB a && tameB b then fv a + fv b else 0

theorem tame_neg {x : Nat} (h : x < 18446744073709551616) : tameB (fneg x) = tameB x := by unfold tameB; rw [rung_fneg h]
theorem safe_neg {x : Nat} (h : x < 18446744073709551616) : safeB (fneg x) = safeB x := by unfold safeB; rw [rung_fneg h]

theorem s_any (a b : Nat) : sHi a b < 18446744073709551616 ∧ sLo a b < 18446744073709551616 ∧ rung (sHi a b) ≤ 9119789245425254400 ∧ rung (sLo a b) ≤ 9119789245425254400 ∧
    fv (sHi a b) = Rn (sVal a b) ∧ fv (sLo a b) = sVal a b - Rn (sVal a b) := by
  unfold sHi sLo sVal
  by_cases h : (tameB a && tameB b) = true
  · simp only [h, if_true]
    have h' := h
    rw [Bool.and_eq_true] at h'
    obtain ⟨-, -, -, -, -, -, l1, r1, v1, l2, r2, v2⟩ := sum_facts (of_decide_eq_true h'.1) (of_decide_eq_true h'.2)
    exact ⟨l1, l2, by omega, r2, v1, v2⟩
  · simp only [h, Bool.false_eq_true, if_false]
    decide

/-- The product in units squared. -/
def pVal (a b : Nat) : Int := if safeB a && safeB b then fv a * fv b else 0

theorem p_any (a b : Nat) : pHi a b < 18446744073709551616 ∧ pLo a b < 18446744073709551616 ∧ rung (pHi a b) ≤ 9119789245425254400 ∧ rung (pLo a b) ≤ 9119789245425254400 ∧
    ∃ t : Int, pVal a b = t * ((2 ^ 1074 : Nat) : Int) ∧ fv (pHi a b) = Rn t ∧ fv (pLo a b) = t - Rn t := by
  unfold pHi pLo pVal
  by_cases h : (safeB a && safeB b) = true
  · simp only [h, if_true]
    have h' := h
    rw [Bool.and_eq_true] at h'
    have hp := prod_safe h'.1 h'.2
    obtain ⟨t, h1, h2, h3⟩ := hp.v
    exact ⟨hp.l1, hp.l2, by have := hp.r1; omega, by have := hp.r2; omega, t, h1, h2, h3⟩
  · simp only [h, Bool.false_eq_true, if_false]
    exact ⟨by decide, by decide, by decide, by decide, 0, by simp, by decide, by decide⟩

theorem order_of_fv {x y : Nat} (hx : rung x < inf) (hy : rung y < inf) (h : fv x = fv y) : Ieee.double.order x y = some .eq := by
  rw [order_fin hx hy, h]; congr 1; exact Std.ReflCmp.compare_self

/-- What is rounded off is not seen. -/
theorem unseen {h l : Nat} {t : Int} (rh : rung h ≤ 9119789245425254400) (rl : rung l ≤ 9119789245425254400) (vh : fv h = Rn t) (vl : fv l = t - Rn t) :
    (Ieee.double.add h l).isSome = true ∧ Ieee.double.order (fadd h l) h = some .eq := by
  have hi := inf_eq
  have m0 := mag_le rh
  have m1 := mag_le rl
  rw [← fv_natAbs] at m0 m1
  have d2 : mag 9124292845052624896 = 2 * mag 9119789245425254400 := mag_double (r := 9119789245425254400) (by omega)
  obtain ⟨a1, a2, a3, a4⟩ := fadd_val (x := h) (y := l) (M := 9124292845052624896) (by omega) (by omega) (by omega) (by omega)
  refine ⟨by rw [a1]; rfl, order_of_fv (by omega) (by omega) ?_⟩
  rw [a4, vh, vl, show Rn t + (t - Rn t) = t by omega]

theorem sVal_comm (a b : Nat) : sVal a b = sVal b a := by unfold sVal; rw [Bool.and_comm, Int.add_comm]
theorem pVal_comm (a b : Nat) : pVal a b = pVal b a := by unfold pVal; rw [Bool.and_comm, Int.mul_comm]
theorem sVal_neg {a b : Nat} (ha : a < 18446744073709551616) (hb : b < 18446744073709551616) : sVal (fneg a) (fneg b) = - sVal a b := by
  unfold sVal; rw [tame_neg ha, tame_neg hb, fv_fneg ha, fv_fneg hb]; split <;> omega
theorem sVal_diff {a b : Nat} (ha : a < 18446744073709551616) (hb : b < 18446744073709551616) : sVal a (fneg b) = - sVal b (fneg a) := by
  unfold sVal; rw [tame_neg ha, tame_neg hb, fv_fneg ha, fv_fneg hb, Bool.and_comm]; split <;> omega
theorem pVal_neg {a b : Nat} (ha : a < 18446744073709551616) : pVal (fneg a) b = - pVal a b := by
  unfold pVal; rw [safe_neg ha, fv_fneg ha, Int.neg_mul]; split <;> omega

theorem units_inj {t u : Int} (h : t * ((2 ^ 1074 : Nat) : Int) = u * ((2 ^ 1074 : Nat) : Int)) : t = u := by
  have hp : (0 : Int) < ((2 ^ 1074 : Nat) : Int) := by exact_mod_cast Nat.two_pow_pos 1074
  exact Int.eq_of_mul_eq_mul_right (by omega) h

/-- Sums turned about. -/
theorem s_comm (a b : Nat) : Ieee.double.order (sHi a b) (sHi b a) = some .eq ∧ Ieee.double.order (sLo a b) (sLo b a) = some .eq := by
  have hi := inf_eq
  obtain ⟨-, -, r1, r2, v1, v2⟩ := s_any a b
  obtain ⟨-, -, r3, r4, v3, v4⟩ := s_any b a
  rw [sVal_comm] at v3 v4
  exact ⟨order_of_fv (by omega) (by omega) (by omega), order_of_fv (by omega) (by omega) (by omega)⟩
theorem s_neg {a b : Nat} (ha : a < 18446744073709551616) (hb : b < 18446744073709551616) :
    Ieee.double.order (sHi (fneg a) (fneg b)) (fneg (sHi a b)) = some .eq ∧ Ieee.double.order (sLo (fneg a) (fneg b)) (fneg (sLo a b)) = some .eq := by
  have hi := inf_eq
  obtain ⟨l1, l2, r1, r2, v1, v2⟩ := s_any a b
  obtain ⟨-, -, r3, r4, v3, v4⟩ := s_any (fneg a) (fneg b)
  rw [sVal_neg ha hb, Rn_neg] at v3 v4
  refine ⟨order_of_fv (by omega) (by rw [rung_fneg l1]; omega) (by rw [fv_fneg l1]; omega), order_of_fv (by omega) (by rw [rung_fneg l2]; omega) (by rw [fv_fneg l2]; omega)⟩
theorem d_neg {a b : Nat} (ha : a < 18446744073709551616) (hb : b < 18446744073709551616) :
    Ieee.double.order (sHi a (fneg b)) (fneg (sHi b (fneg a))) = some .eq ∧ Ieee.double.order (sLo a (fneg b)) (fneg (sLo b (fneg a))) = some .eq := by
  have hi := inf_eq
  obtain ⟨-, -, r1, r2, v1, v2⟩ := s_any a (fneg b)
  obtain ⟨l1, l2, r3, r4, v3, v4⟩ := s_any b (fneg a)
  rw [sVal_diff ha hb, Rn_neg] at v1 v2
  refine ⟨order_of_fv (by omega) (by rw [rung_fneg l1]; omega) (by rw [fv_fneg l1]; omega), order_of_fv (by omega) (by rw [rung_fneg l2]; omega) (by rw [fv_fneg l2]; omega)⟩
theorem p_comm (a b : Nat) : Ieee.double.order (pHi a b) (pHi b a) = some .eq ∧ Ieee.double.order (pLo a b) (pLo b a) = some .eq := by
  have hi := inf_eq
  obtain ⟨-, -, r1, r2, t, e1, v1, v2⟩ := p_any a b
  obtain ⟨-, -, r3, r4, u, e2, v3, v4⟩ := p_any b a
  have : t = u := units_inj (by rw [← e1, ← e2, pVal_comm])
  subst this
  exact ⟨order_of_fv (by omega) (by omega) (by omega), order_of_fv (by omega) (by omega) (by omega)⟩
theorem p_neg {a b : Nat} (ha : a < 18446744073709551616) :
    Ieee.double.order (pHi (fneg a) b) (fneg (pHi a b)) = some .eq ∧ Ieee.double.order (pLo (fneg a) b) (fneg (pLo a b)) = some .eq := by
  have hi := inf_eq
  obtain ⟨l1, l2, r1, r2, t, e1, v1, v2⟩ := p_any a b
  obtain ⟨-, -, r3, r4, u, e2, v3, v4⟩ := p_any (fneg a) b
  have : u = -t := units_inj (by rw [Int.neg_mul, ← e1, ← e2, pVal_neg ha])
  subst this
  rw [Rn_neg] at v3 v4
  exact ⟨order_of_fv (by omega) (by rw [rung_fneg l1]; omega) (by rw [fv_fneg l1]; omega), order_of_fv (by omega) (by rw [rung_fneg l2]; omega) (by rw [fv_fneg l2]; omega)⟩

end TV
end

section
/- What it is to be the float nearest to a number, told by rungs. -/
namespace TV
set_option exponentiation.threshold 3000

/-- The lowest bit of all floats. -/
def uu : Rat := (2 : Rat) ^ (-1074 : Int)
theorem uu_pos : 0 < uu := two_zpow_pos _

/-- r is the rung nearest to q, which is not below nought. -/
def RndQ (q : Rat) (r : Nat) : Prop :=
  (r < inf ∧ (2 * q < ((mag r + mag (r + 1) : Nat) : Rat) * uu ∨ (2 * q = ((mag r + mag (r + 1) : Nat) : Rat) * uu ∧ r % 2 = 0)) ∧
    (r = 0 ∨ ((mag (r - 1) + mag r : Nat) : Rat) * uu < 2 * q ∨ (((mag (r - 1) + mag r : Nat) : Rat) * uu = 2 * q ∧ r % 2 = 0))) ∨
  (r = inf ∧ ((mag (inf - 1) + mag inf : Nat) : Rat) * uu ≤ 2 * q)

theorem scale_uu (u : Nat) : uu = ((2 ^ u : Nat) : Rat) * (2 : Rat) ^ (-1074 - (u : Int)) := by
  unfold uu; rw [← two_zpow_nat, ← two_zpow_add]; congr 1; omega
theorem scale_lt {u A B : Nat} (h : A < B * 2 ^ u) : (A : Rat) * (2 : Rat) ^ (-1074 - (u : Int)) < (B : Rat) * uu := by
  rw [scale_uu u, ← Rat.mul_assoc, ← Rat.natCast_mul]
  exact Rat.mul_lt_mul_of_pos_right (Rat.natCast_lt_natCast.2 h) (two_zpow_pos _)
theorem scale_gt {u A B : Nat} (h : B * 2 ^ u < A) : (B : Rat) * uu < (A : Rat) * (2 : Rat) ^ (-1074 - (u : Int)) := by
  rw [scale_uu u, ← Rat.mul_assoc, ← Rat.natCast_mul]
  exact Rat.mul_lt_mul_of_pos_right (Rat.natCast_lt_natCast.2 h) (two_zpow_pos _)
theorem scale_eq {u A B : Nat} (h : A = B * 2 ^ u) : (A : Rat) * (2 : Rat) ^ (-1074 - (u : Int)) = (B : Rat) * uu := by
  rw [scale_uu u, ← Rat.mul_assoc, ← Rat.natCast_mul, h]

theorem near_q {u N r : Nat} (h : Near u N r) : RndQ ((N : Rat) * (2 : Rat) ^ (-1074 - (u : Int))) (min r inf) := by
  obtain ⟨⟨h1, h2⟩, h3⟩ := h
  have e : 2 * ((N : Rat) * (2 : Rat) ^ (-1074 - (u : Int))) = ((2 * N : Nat) : Rat) * (2 : Rat) ^ (-1074 - (u : Int)) := by
    rw [Rat.natCast_mul, ← Rat.mul_assoc]; rfl
  unfold RndQ
  rw [e]
  by_cases c : r < inf
  · rw [Nat.min_eq_left (by omega)]
    refine Or.inl ⟨c, ?_, ?_⟩
    · by_cases d : 2 * N = (mag r + mag (r + 1)) * 2 ^ u
      · exact Or.inr ⟨scale_eq d, h2 d⟩
      · exact Or.inl (scale_lt (by omega))
    · by_cases z : r = 0
      · exact Or.inl z
      · right
        obtain ⟨h4, h5⟩ := h3 (r - 1) (by omega)
        by_cases d : (mag (r - 1) + mag r) * 2 ^ u = 2 * N
        · exact Or.inr ⟨(scale_eq d.symm).symm, h5 d⟩
        · exact Or.inl (scale_gt (by omega))
  · rw [Nat.min_eq_right (by omega)]
    right
    refine ⟨rfl, ?_⟩
    have hp := inf_pos
    obtain ⟨h4, -⟩ := h3 (r - 1) (by omega)
    have m1 : mag (inf - 1) ≤ mag (r - 1) := mag_le (by omega)
    have m2 : mag inf ≤ mag r := mag_le (by omega)
    have h6 : (mag (inf - 1) + mag inf) * 2 ^ u ≤ 2 * N := Nat.le_trans (Nat.mul_le_mul_right _ (by omega)) h4
    by_cases d : (mag (inf - 1) + mag inf) * 2 ^ u = 2 * N
    · rw [scale_eq d.symm]; exact Rat.le_refl
    · exact Rat.le_of_lt (scale_gt (by omega))

/-- Half a place above the greatest float. -/
def gq : Rat := ((18014398509481983 : Nat) : Rat) * (2 : Rat) ^ (970 : Int)
theorem mag_max : mag (inf - 1) = 9007199254740991 * 2 ^ 2045 := by
  rw [← mag_at (k := 2045) (q := 9007199254740991) (Or.inr (by omega)) (by omega)]; congr 1
theorem mag_inf : mag inf = 9007199254740992 * 2 ^ 2045 := by
  have h : mag inf = 2 ^ (51 + 2047) := mag_p2 (i := 2047) (by omega)
  rw [h, show 51 + 2047 = 53 + 2045 by rfl, Nat.pow_add]
theorem great2 : ((mag (inf - 1) + mag inf : Nat) : Rat) * uu = 2 * gq := by
  rw [mag_max, mag_inf, ← Nat.add_mul, Rat.natCast_mul, ← two_zpow_nat]
  unfold uu gq
  rw [Rat.mul_assoc, ← two_zpow_add, show ((2045 : Nat) : Int) + -1074 = 1 + 970 by rfl, two_zpow_add]
  have : (2 : Rat) ^ (1 : Int) = 2 := by rw [Rat.zpow_one]
  rw [this, ← Rat.mul_assoc, Rat.mul_comm _ (2 : Rat), Rat.mul_assoc]
theorem inf_uu : (mag inf : Rat) * uu = (2 : Rat) ^ (1024 : Int) := by
  have h : mag inf = 2 ^ (51 + 2047) := mag_p2 (i := 2047) (by omega)
  rw [h, ← two_zpow_nat]; unfold uu; rw [← two_zpow_add]; rfl

theorem rs_lt {a b : Rat} : rs (a - b) < 0 ↔ a < b := by
  unfold rs
  by_cases h : a - b < 0
  · rw [if_pos h]; constructor
    · intro _; grind
    · intro _; decide
  · rw [if_neg h]; constructor
    · intro c; split at c <;> omega
    · intro c; grind
theorem rs_eq {a b : Rat} : rs (a - b) = 0 ↔ a = b := by
  unfold rs
  by_cases h : a - b < 0
  · rw [if_pos h]; constructor
    · intro c; omega
    · intro c; grind
  · rw [if_neg h]
    by_cases h2 : a - b = 0
    · rw [if_pos h2]; constructor
      · intro _; grind
      · intro _; rfl
    · rw [if_neg h2]; constructor
      · intro c; omega
      · intro c; grind
theorem rs_gt {a b : Rat} : 0 < rs (a - b) ↔ b < a := by
  unfold rs
  by_cases h : a - b < 0
  · rw [if_pos h]; constructor
    · intro c; omega
    · intro c; grind
  · rw [if_neg h]
    by_cases h2 : a - b = 0
    · rw [if_pos h2]; constructor
      · intro c; omega
      · intro c; grind
    · rw [if_neg h2]; constructor
      · intro c; grind
      · intro c; decide

/-- What is told of the two neighbours. -/
def dnq (r : Nat) : Rat := if r = 0 then -uu else (mag (r - 1) : Rat) * uu
theorem rnd_tests {q : Rat} {r : Nat} (hq : 0 ≤ q) (h : RndQ q r) (hr : r < inf) :
    q < gq ∧ (rs (2 * q - ((mag r : Rat) * uu + (mag (r + 1) : Rat) * uu)) < 0 ∨ (rs (2 * q - ((mag r : Rat) * uu + (mag (r + 1) : Rat) * uu)) = 0 ∧ r % 2 = 0)) ∧
      (0 < rs (2 * q - ((mag r : Rat) * uu + dnq r)) ∨ (rs (2 * q - ((mag r : Rat) * uu + dnq r)) = 0 ∧ r % 2 = 0)) := by
  rcases h with ⟨-, h1, h2⟩ | ⟨h1, -⟩
  · have e1 : (mag r : Rat) * uu + (mag (r + 1) : Rat) * uu = ((mag r + mag (r + 1) : Nat) : Rat) * uu := by rw [Rat.natCast_add, Rat.add_mul]
    have hm : mag r + mag (r + 1) ≤ mag (inf - 1) + mag inf := by
      have m1 : mag r ≤ mag (inf - 1) := mag_le (by omega)
      have m2 : mag (r + 1) ≤ mag inf := mag_le (by omega)
      omega
    refine ⟨?_, ?_, ?_⟩
    · have hle : ((mag r + mag (r + 1) : Nat) : Rat) * uu ≤ 2 * gq := by
        rw [← great2]; exact Rat.mul_le_mul_of_nonneg_right (Rat.natCast_le_natCast.2 hm) (Rat.le_of_lt uu_pos)
      rcases h1 with h1 | ⟨h1, hev⟩
      · grind
      · have hne : r ≠ inf - 1 := by intro hc; rw [hc] at hev; revert hev; decide
        have hlt : mag r + mag (r + 1) < mag (inf - 1) + mag inf := by
          have m1 : mag r < mag (inf - 1) := mag_lt (by omega)
          have m2 : mag (r + 1) ≤ mag inf := mag_le (by omega)
          omega
        have : ((mag r + mag (r + 1) : Nat) : Rat) * uu < 2 * gq := by
          rw [← great2]; exact Rat.mul_lt_mul_of_pos_right (Rat.natCast_lt_natCast.2 hlt) uu_pos
        grind
    · rw [e1, rs_lt, rs_eq]; exact h1
    · rw [rs_gt, rs_eq]
      unfold dnq
      by_cases z : r = 0
      · rw [if_pos z, z, mag_zero]
        left
        have := uu_pos
        grind
      · rw [if_neg z]
        have e2 : (mag r : Rat) * uu + (mag (r - 1) : Rat) * uu = ((mag (r - 1) + mag r : Nat) : Rat) * uu := by rw [Rat.natCast_add, Rat.add_mul]; grind
        rw [e2]
        rcases h2 with h2 | h2 | ⟨h2, h3⟩
        · exact absurd h2 z
        · exact Or.inl h2
        · exact Or.inr ⟨h2.symm, h3⟩
  · omega
theorem rnd_inf {q : Rat} (h : RndQ q inf) : gq ≤ q := by
  rcases h with ⟨h1, -⟩ | ⟨-, h1⟩
  · omega
  · rw [great2] at h1; grind
end TV
end

section
/- The halves of a float: few bits, and products that are not rounded. -/
namespace TV
set_option exponentiation.threshold 3000

/-- A float of at most 27 bits, of which the lowest stands high. -/
def Half (h : Nat) : Prop := h < 18446744073709551616 ∧ rung h ≤ 8696450880452427776 ∧ ∃ (m : Int) (k : Nat), fv h = m * ((2 ^ k : Nat) : Int) ∧ m.natAbs ≤ 67108864 ∧ 572 ≤ k ∧ k ≤ 1499

theorem half_zero {h : Nat} (hl : h < 18446744073709551616) (hz : rung h = 0) : Half h :=
  ⟨hl, by omega, 0, 572, by rw [fv_zero_of hz, Int.zero_mul], by decide, by omega, by omega⟩

theorem half_split {x : Nat} (h : safeB x = true) : Half (spHi x) ∧ Half (spLo x) := by
  obtain ⟨-, -, -, -, l1, l2, r1, r2, -, hz⟩ := split_safe h
  rcases of_decide_eq_true h with h0 | ⟨h1, h2⟩
  · obtain ⟨z1, z2⟩ := hz h0
    exact ⟨half_zero l1 z1, half_zero l2 z2⟩
  · obtain ⟨-, -, -, -, -, -, -, -, m, p, q, e, -, b2, b3, -, -, -, ⟨p', hp⟩, b7, b8, b9, b10⟩ := split_facts h1 h2
    refine ⟨⟨l1, r1, p', e + 27, ?_, by omega, by omega, by omega⟩, ⟨l2, r2, q, e, b3, b8, by omega, by omega⟩⟩
    rw [b2, hp, Nat.pow_add, Int.natCast_mul]
    have : ((2 ^ 27 : Nat) : Int) = 134217728 := by decide
    rw [this]; grind

theorem half_mul {x y : Nat} (hx : Half x) (hy : Half y) :
    Ieee.double.mul x y = some (fmul x y) ∧ fmul x y < 18446744073709551616 ∧ rung (fmul x y) < inf ∧ fv (fmul x y) * ((2 ^ 1074 : Nat) : Int) = fv x * fv y := by
  obtain ⟨-, x2, m, k, x3, x4, x5, x6⟩ := hx
  obtain ⟨-, y2, n, j, y3, y4, y5, y6⟩ := hy
  have hi := inf_eq
  have ex : fv x = (m * ((2 ^ (k - 572) : Nat) : Int)) * ((2 ^ 572 : Nat) : Int) := by
    rw [x3, Int.mul_assoc, ← Int.natCast_mul, ← Nat.pow_add, show k - 572 + 572 = k by omega]
  have ey : fv y = (n * ((2 ^ (j - 502) : Nat) : Int)) * ((2 ^ 502 : Nat) : Int) := by
    rw [y3, Int.mul_assoc, ← Int.natCast_mul, ← Nat.pow_add, show j - 502 + 502 = j by omega]
  have ep : (m * ((2 ^ (k - 572) : Nat) : Int)) * (n * ((2 ^ (j - 502) : Nat) : Int)) = (m * n) * ((2 ^ (k - 572 + (j - 502)) : Nat) : Int) := by
    rw [Nat.pow_add, Int.natCast_mul]; grind
  have hmn : (m * n).natAbs ≤ 4503599627370496 := by
    rw [Int.natAbs_mul]
    calc m.natAbs * n.natAbs ≤ 67108864 * 67108864 := Nat.mul_le_mul x4 y4
      _ = 4503599627370496 := by rfl
  have hle : ((m * ((2 ^ (k - 572) : Nat) : Int)) * (n * ((2 ^ (j - 502) : Nat) : Int))).natAbs ≤ mag (p2 1925) := by
    rw [ep, Int.natAbs_mul, Int.natAbs_natCast, mag_p2 (by omega)]
    calc (m * n).natAbs * 2 ^ (k - 572 + (j - 502)) ≤ 2 ^ 52 * 2 ^ 1924 := Nat.mul_le_mul (by rw [← e52]; exact hmn) (Nat.pow_le_pow_right (by omega) (by omega))
      _ = 2 ^ (51 + 1925) := by rw [← Nat.pow_add]
  obtain ⟨a1, a2, a3, a4⟩ := fmul_val (x := x) (y := y) (M := p2 1925) (k := 572) (j := 502) (by omega) (by omega) (p2_lt (by omega)) ex ey rfl hle
  refine ⟨a1, a2, Nat.lt_of_le_of_lt a3 (p2_lt (by omega)), ?_⟩
  rw [a4, Rn_fix (Rep_mk ep (by omega)), ex, ey]
  have : ((2 ^ 1074 : Nat) : Int) = ((2 ^ 572 : Nat) : Int) * ((2 ^ 502 : Nat) : Int) := by rw [← Int.natCast_mul, ← Nat.pow_add]
  rw [this]; grind

/-- At most 26 bits from the highest to the lowest. -/
theorem few_bits {q : Rat} {m : Int} {l : Int} (hq : q = (m : Rat) * (2 : Rat) ^ l) (hm : m.natAbs ≤ 67108864) {h l' : Int} (hh : HighOf q h) (hl : LowOf q l') : h - l' + 1 ≤ 26 := by
  by_cases c : m.natAbs < 67108864
  · have h1 := high_unique hh hq (b := 26) (by rw [show (2 : Nat) ^ 26 = 67108864 by decide]; exact c)
    have h2 := low_unique hl hq
    omega
  · obtain ⟨n, hn, hn1⟩ : ∃ n : Int, m = n * 67108864 ∧ n.natAbs < 2 ^ 1 := by
      rcases Int.natAbs_eq m with e | e
      · exact ⟨1, by omega, by decide⟩
      · exact ⟨-1, by omega, by decide⟩
    have hq' : q = (n : Rat) * (2 : Rat) ^ (l + 26) := by
      rw [hq, hn, Rat.intCast_mul, Int.add_comm l, two_zpow_add, ← Rat.mul_assoc]
      congr 2
    have h1 := high_unique hh hq' hn1
    have h2 := low_unique hl hq'
    omega
end TV
end

section
/- Whole floats: a float cut to a whole one, a whole number as a float. Plain numbers, no program. -/
namespace TV

/-- The unit, in units of 2^-1074. -/
def uE : Nat := 1074
theorem uE_eq : uE = 1074 := rfl
def uW : Nat := 2 ^ uE
theorem uW_pos : 0 < uW := Nat.two_pow_pos _

/-- The float cut to a whole one. -/
def trF (x : Nat) : Nat := Ieee.double.write ((Ieee.double.read x).integral .zero)

theorem write_num (s : Bool) (m : Nat) (place : Int) (h : 0 ≤ place + 1074) : Ieee.double.write (.number s m place) = flo s (min (rndAt 0 (m * 2 ^ (place + 1074).toNat)) inf) := by
  have := nearest_eq s m 0 place (by simpa using h)
  rw [word_flo] at this
  simpa [Ieee.Format.write, inf] using this

theorem cut_zero (s : Bool) (n drop : Nat) : Ieee.Toward.zero.cut s n drop = n / 2 ^ drop := by
  simp only [Ieee.Toward.cut, Bool.toNat_false, Nat.add_zero, Nat.one_shiftLeft]
  by_cases h : drop ≤ n.log2 + 2
  · rw [Nat.min_eq_left h]
  · rw [Nat.min_eq_right (by omega)]
    have h1 : n < 2 ^ (n.log2 + 1) := Nat.lt_log2_self
    have h2 : 2 ^ (n.log2 + 1) ≤ 2 ^ (n.log2 + 2) := Nat.pow_le_pow_right (by omega) (by omega)
    have h3 : 2 ^ (n.log2 + 2) ≤ 2 ^ drop := Nat.pow_le_pow_right (by omega) (by omega)
    rw [Nat.div_eq_of_lt (by omega), Nat.div_eq_of_lt (by omega)]

theorem trF_fin {x : Nat} (hx : rung x < inf) : trF x = flo (sgn x) (min (rndAt 0 (mag (rung x) / uW * uW)) inf) := by
  obtain ⟨m, k, h1, h2⟩ := read_fin hx
  unfold trF
  rw [h1]
  simp only [Ieee.Datum.integral]
  rw [write_num _ _ _ (by omega), cut_zero]
  refine congrArg (fun z => flo (sgn x) (min (rndAt 0 z) inf)) ?_
  rw [← h2, Nat.shiftLeft_eq]
  have hu : ((0 : Int) + 1074).toNat = uE := by decide
  rw [hu, show (2 : Nat) ^ uE = uW from rfl]
  refine congrArg (fun z => z * uW) ?_
  have hE := uE_eq
  by_cases c : uE ≤ k
  · obtain ⟨j, rfl⟩ : ∃ j, k = uE + j := ⟨k - uE, by omega⟩
    have e1 : (-1074 + ((uE + j : Nat) : Int)).toNat = j := by omega
    have e2 : (-(-1074 + ((uE + j : Nat) : Int))).toNat = 0 := by omega
    rw [e1, e2, Nat.pow_zero, Nat.div_one, Nat.pow_add, show (2 : Nat) ^ uE = uW from rfl]
    rw [show m * (uW * 2 ^ j) = (m * 2 ^ j) * uW by rw [Nat.mul_left_comm, Nat.mul_comm], Nat.mul_div_cancel _ uW_pos]
  · obtain ⟨j, hj⟩ : ∃ j, uE = k + j := ⟨uE - k, by omega⟩
    have e1 : (-1074 + ((k : Nat) : Int)).toNat = 0 := by omega
    have e2 : (-(-1074 + ((k : Nat) : Int))).toNat = j := by omega
    rw [e1, e2, Nat.pow_zero, Nat.mul_one]
    have : uW = 2 ^ j * 2 ^ k := by unfold uW; rw [← Nat.pow_add]; congr 1; omega
    rw [this, Nat.mul_div_mul_right _ _ (Nat.two_pow_pos k)]

/-- A whole multiple of the unit below a float is a float. -/
theorem floor_rep (r : Nat) : ∃ t, mag r / uW * uW = mag t := by
  obtain ⟨q, k, h1, h2⟩ := mag_parts r
  by_cases c : uE ≤ k
  · refine ⟨r, ?_⟩
    obtain ⟨j, rfl⟩ : ∃ j, k = uE + j := ⟨k - uE, by omega⟩
    rw [h1, Nat.pow_add, show (2 : Nat) ^ uE = uW from rfl]
    rw [show q * (uW * 2 ^ j) = (q * 2 ^ j) * uW by rw [Nat.mul_left_comm, Nat.mul_comm], Nat.mul_div_cancel _ uW_pos]
  · obtain ⟨t, ht⟩ := mag_of_parts uE (mag r / uW) (by
      have hj : uW = 2 ^ (uE - k) * 2 ^ k := by unfold uW; rw [← Nat.pow_add]; congr 1; omega
      rw [h1, hj, Nat.mul_div_mul_right _ _ (Nat.two_pow_pos k)]
      exact Nat.le_trans (Nat.div_le_self _ _) (by omega))
    exact ⟨t, ht⟩

theorem trF_val {x : Nat} (hx : rung x < inf) : sgn (trF x) = sgn x ∧ rung (trF x) < inf ∧ trF x < 18446744073709551616 ∧ mag (rung (trF x)) = mag (rung x) / uW * uW := by
  obtain ⟨t, ht⟩ := floor_rep (rung x)
  have hle : mag t ≤ mag (rung x) := by rw [← ht]; exact Nat.div_mul_le_self _ _
  have htx : t ≤ rung x := le_of_mag hle
  have hl := inf_lt
  rw [trF_fin hx, ht, rnd_exact0, Nat.min_eq_left (by omega)]
  exact ⟨sgn_flo (by omega), by rw [rung_flo (by omega)]; omega, flo_lt (by omega), by rw [rung_flo (by omega)]⟩

/-- A float is its own whole part just if it is whole. -/
theorem trF_feq {x : Nat} (hx : rung x < inf) : feq x (trF x) = decide (uW ∣ mag (rung x)) := by
  obtain ⟨h1, h2, h3, h4⟩ := trF_val hx
  rw [feq_fin hx h2]
  congr 1
  unfold fv
  rw [h1, h4]
  have : (mag (rung x) = mag (rung x) / uW * uW) ↔ uW ∣ mag (rung x) := by
    constructor
    · intro h; exact ⟨mag (rung x) / uW, by rw [Nat.mul_comm]; exact h⟩
    · rintro ⟨z, hz⟩; rw [hz, Nat.mul_div_cancel_left _ uW_pos, Nat.mul_comm]
  rw [← this]
  unfold sm
  generalize mag (rung x) / uW * uW = z
  cases sgn x <;> simp <;> omega

/-- A whole number as a float. -/
def ofI (n : Int) : Nat := Ieee.double.write (.number (decide (n < 0)) n.natAbs 0)

/-- A float of this whole value. -/
def Iv (x : Nat) (n : Int) : Prop := x < 18446744073709551616 ∧ rung x < inf ∧ fv x = n * (uW : Int)

def M53 : Nat := 4845873199050653696
theorem M53_inf : M53 < inf := by decide
theorem mag_M53 : mag M53 = 9007199254740992 * uW := by
  have h := mag_at (k := uE) (q := 9007199254740992) (Or.inr (by omega)) (Nat.le_refl _)
  have h2 : uE * 4503599627370496 + 9007199254740992 = M53 := by decide
  rw [h2, show (2 : Nat) ^ uE = uW from rfl] at h
  exact h
theorem iv_rep {n : Int} (h : n.natAbs ≤ 9007199254740992) : Rep (n * (uW : Int)) := Rep_mk (k := uE) (m := n) rfl h
theorem iv_abs {n : Int} (h : n.natAbs ≤ 9007199254740992) : (n * (uW : Int)).natAbs ≤ mag M53 := by
  rw [mag_M53, Int.natAbs_mul, Int.natAbs_natCast]; exact Nat.mul_le_mul_right _ h

theorem Iv.add {x y : Nat} {n m : Int} (hx : Iv x n) (hy : Iv y m) (h : (n + m).natAbs ≤ 9007199254740992) : (Ieee.double.add x y).isSome = true ∧ Ieee.double.add x y = some (fadd x y) ∧ Iv (fadd x y) (n + m) := by
  have e : fv x + fv y = (n + m) * (uW : Int) := by rw [hx.2.2, hy.2.2, Int.add_mul]
  obtain ⟨h1, h2, h3, h4⟩ := fadd_val hx.2.1 hy.2.1 M53_inf (by rw [e]; exact iv_abs h)
  refine ⟨by rw [h1]; rfl, h1, h2, Nat.lt_of_le_of_lt h3 M53_inf, ?_⟩
  rw [h4, e, Rn_fix (iv_rep h)]
theorem Iv.sub {x y : Nat} {n m : Int} (hx : Iv x n) (hy : Iv y m) (h : (n - m).natAbs ≤ 9007199254740992) : (Ieee.double.sub x y).isSome = true ∧ Ieee.double.sub x y = some (fsub x y) ∧ Iv (fsub x y) (n - m) := by
  have e : fv x - fv y = (n - m) * (uW : Int) := by rw [hx.2.2, hy.2.2, Int.sub_mul]
  obtain ⟨h1, h2, h3, h4⟩ := fsub_val hx.2.1 hy.2.1 M53_inf (by rw [e]; exact iv_abs h)
  refine ⟨by rw [h1]; rfl, h1, h2, Nat.lt_of_le_of_lt h3 M53_inf, ?_⟩
  rw [h4, e, Rn_fix (iv_rep h)]
theorem Iv.mul {x y : Nat} {n m : Int} (hx : Iv x n) (hy : Iv y m) (h : (n * m).natAbs ≤ 9007199254740992) : (Ieee.double.mul x y).isSome = true ∧ Ieee.double.mul x y = some (fmul x y) ∧ Iv (fmul x y) (n * m) := by
  have e : n * (m * (uW : Int)) = (n * m) * (uW : Int) := by rw [Int.mul_assoc]
  obtain ⟨h1, h2, h3, h4⟩ := fmul_val (k := uE) (j := 0) (a := n) (b := m * (uW : Int)) hx.2.1 hy.2.1 M53_inf hx.2.2 (by rw [hy.2.2]; simp) rfl (by rw [e]; exact iv_abs h)
  refine ⟨by rw [h1]; rfl, h1, h2, Nat.lt_of_le_of_lt h3 M53_inf, ?_⟩
  rw [h4, e, Rn_fix (iv_rep h)]
theorem Iv.neg {x : Nat} {n : Int} (hx : Iv x n) : Iv (fneg x) (-n) := by
  refine ⟨fneg_lt hx.1, by rw [rung_fneg hx.1]; exact hx.2.1, by rw [fv_fneg hx.1, hx.2.2, Int.neg_mul]⟩
theorem Iv.mag {x : Nat} {n : Int} (hx : Iv x n) : mag (rung x) = n.natAbs * uW := by
  rw [← fv_natAbs, hx.2.2, Int.natAbs_mul, Int.natAbs_natCast]
theorem Iv.rung_lt {x : Nat} {n : Int} (hx : Iv x n) : rung x < inf := hx.2.1
theorem Iv.abs {x : Nat} {n : Int} (hx : Iv x n) : Iv (rung x) (n.natAbs : Int) := by
  have hi := inf_lt
  have hr := hx.2.1
  refine ⟨by omega, by rw [rung_small (by omega)]; exact hr, ?_⟩
  rw [fv_pos_rung _ (by omega), hx.mag, Int.natCast_mul]
theorem iv_ofI {n : Int} (h : n.natAbs ≤ 9007199254740992) : Iv (ofI n) n := by
  unfold ofI
  obtain ⟨r, hr⟩ := mag_of_parts uE n.natAbs h
  rw [show (2 : Nat) ^ uE = uW from rfl] at hr
  have hu : ((0 : Int) + 1074).toNat = uE := by decide
  have hl := inf_lt
  have hm : r ≤ M53 := le_of_mag (by rw [← hr, mag_M53]; exact Nat.mul_le_mul_right _ h)
  have hM := M53_inf
  rw [write_num _ _ _ (by omega), hu, show (2 : Nat) ^ uE = uW from rfl, hr, rnd_exact0, Nat.min_eq_left (by omega)]
  refine ⟨flo_lt (by omega), by rw [rung_flo (by omega)]; omega, ?_⟩
  rw [fv_flo (by omega), ← hr]
  unfold sm
  by_cases c : n < 0
  · rw [decide_eq_true c, if_pos rfl, Int.natCast_mul, show ((n.natAbs : Nat) : Int) = -n by omega, Int.neg_mul, Int.neg_neg]
  · rw [decide_eq_false c, if_neg (by simp), Int.natCast_mul, show ((n.natAbs : Nat) : Int) = n by omega]
theorem Iv.feq {x y : Nat} {n m : Int} (hx : Iv x n) (hy : Iv y m) : feq x y = decide (n = m) := by
  rw [feq_fin hx.2.1 hy.2.1, hx.2.2, hy.2.2]
  have hu : (uW : Int) ≠ 0 := by have := uW_pos; omega
  congr 1
  exact propext ⟨fun h => Int.eq_of_mul_eq_mul_right hu h, fun h => by rw [h]⟩

end TV
end
