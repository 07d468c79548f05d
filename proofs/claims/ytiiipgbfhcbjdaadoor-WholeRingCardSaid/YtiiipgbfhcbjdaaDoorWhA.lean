/- Numbers of words of 32 bits, in plain Lean (printed by gen_WhA.py from XNmA, XNmB, XNmC). -/
import Derived.Test.YtiiipgbfhcbjdaaDoorNmA
import Derived.Test.YtiiipgbfhcbjdaaDoorNmB
import Derived.Test.YtiiipgbfhcbjdaaDoorNmC
namespace TV.W
/-- The digit at a place. -/
def dg (ds : List Int) (e i : Int) : Int := if i < e ∨ e + ds.length ≤ i then 0 else ds.getD (i - e).toNat 0

def Dok (ds : List Int) : Prop := ∀ i, 0 ≤ ds.getD i 0 ∧ ds.getD i 0 < 4294967296

theorem dg_bound {ds : List Int} (h : Dok ds) (e i : Int) : 0 ≤ dg ds e i ∧ dg ds e i < 4294967296 := by
  unfold dg; split
  · omega
  · exact h _

/-- What digits tell, the lowest first. -/
def dval : List Int → Int
  | [] => 0
  | d :: ds => d + 4294967296 * dval ds

/-- What the n digits from a place on tell. -/
def V (ds : List Int) (e f : Int) : Nat → Int
  | 0 => 0
  | n + 1 => V ds e f n + dg ds e (f + n) * 4294967296 ^ n

theorem B_pos (n : Nat) : (0 : Int) < 4294967296 ^ n := Int.pow_pos (by decide)

theorem V_bound {ds : List Int} (h : Dok ds) (e f : Int) (n : Nat) : 0 ≤ V ds e f n ∧ V ds e f n < 4294967296 ^ n := by
  induction n with
  | zero => simp [V]
  | succ n ih =>
    have hb := dg_bound h e (f + n)
    have hp := B_pos n
    have h1 : 0 ≤ dg ds e (f + n) * 4294967296 ^ n := Int.mul_nonneg hb.1 (Int.le_of_lt hp)
    have h2 : dg ds e (f + n) * 4294967296 ^ n ≤ 4294967295 * 4294967296 ^ n := Int.mul_le_mul_of_nonneg_right (by omega) (Int.le_of_lt hp)
    rw [V, Int.pow_succ]
    omega

theorem dval_nonneg {ds : List Int} (h : Dok ds) : 0 ≤ dval ds := by
  induction ds with
  | nil => simp [dval]
  | cons d ds ih =>
    have h0 := h 0
    have := ih (fun i => h (i + 1))
    simp at h0
    rw [dval]; omega

theorem dval_lt {ds : List Int} (h : Dok ds) : dval ds < 4294967296 ^ ds.length := by
  induction ds with
  | nil => simp [dval]
  | cons d ds ih =>
    have h0 := h 0
    have := ih (fun i => h (i + 1))
    simp at h0
    rw [dval, List.length_cons, Int.pow_succ]; omega

theorem dval_append (a b : List Int) : dval (a ++ b) = dval a + 4294967296 ^ a.length * dval b := by
  induction a with
  | nil => simp [dval]
  | cons d a ih => rw [List.cons_append, dval, ih, dval, List.length_cons, Int.pow_succ]; grind

theorem dval_take_succ (ds : List Int) (n : Nat) (h : n < ds.length) : dval (ds.take (n + 1)) = dval (ds.take n) + ds.getD n 0 * 4294967296 ^ n := by
  rw [List.take_succ_eq_append_getElem h, dval_append, List.length_take, Nat.min_eq_left (by omega)]
  have : ds.getD n 0 = ds[n] := by rw [List.getD_eq_getElem?_getD, List.getElem?_eq_getElem h]; rfl
  rw [this, dval, dval]; grind

/-- Digits that lie wholly among the n from f on. -/
theorem V_full {ds : List Int} {e f : Int} {n : Nat} (h1 : f ≤ e) (h2 : e + ds.length ≤ f + n) : V ds e f n = dval ds * 4294967296 ^ (e - f).toNat := by
  -- count up
  have key : ∀ m : Nat, V ds e f m = if (m : Int) ≤ e - f then 0 else dval (ds.take (f + m - e).toNat) * 4294967296 ^ (e - f).toNat := by
    intro m
    induction m with
    | zero => rw [if_pos (by omega)]; rfl
    | succ m ih =>
      rw [V, ih]
      by_cases c : (m : Int) + 1 ≤ e - f
      · rw [if_pos (by omega), if_pos (by omega)]
        unfold dg; rw [if_pos (Or.inl (by omega))]; simp
      · rw [if_neg (by omega : ¬ ((m + 1 : Nat) : Int) ≤ e - f)]
        by_cases c2 : (m : Int) ≤ e - f
        · rw [if_pos c2]
          have e1 : (f + ((m + 1 : Nat) : Int) - e).toNat = 0 + 1 := by omega
          have e2 : (e - f).toNat = m := by omega
          rw [e1, e2]
          by_cases c3 : 0 < ds.length
          · rw [dval_take_succ ds 0 c3]
            unfold dg; rw [if_neg (by omega), show (f + (m : Int) - e).toNat = 0 by omega]; simp [dval]
          · have : ds = [] := by cases ds with
              | nil => rfl
              | cons a t => simp at c3
            subst this
            unfold dg; rw [if_pos (by right; simp; omega)]; simp [dval]
        · rw [if_neg c2]
          have e1 : (f + ((m + 1 : Nat) : Int) - e).toNat = (f + (m : Int) - e).toNat + 1 := by omega
          rw [e1]
          by_cases c3 : (f + (m : Int) - e).toNat < ds.length
          · rw [dval_take_succ ds _ c3]
            unfold dg; rw [if_neg (by omega)]
            have e3 : m = (f + (m : Int) - e).toNat + (e - f).toNat := by omega
            have e4 : (4294967296 : Int) ^ m = 4294967296 ^ (f + (m : Int) - e).toNat * 4294967296 ^ (e - f).toNat := by
              rw [← Int.pow_add, ← e3]
            rw [e4]; grind
          · rw [List.take_of_length_le (by omega), List.take_of_length_le (by omega)]
            unfold dg; rw [if_pos (Or.inr (by omega))]; simp
  rw [key n]
  by_cases c : (n : Int) ≤ e - f
  · rw [if_pos c]
    have : ds = [] := by cases ds with
      | nil => rfl
      | cons a t => simp at h2; omega
    subst this; simp [dval]
  · rw [if_neg c, List.take_of_length_le (by omega)]

/-- From the highest place down: the first unlike digits decide. -/
theorem V_decides {a b : List Int} {e g f : Int} (ha : Dok a) (hb : Dok b) {n k : Nat} (heq : V a e f n - V a e f (k + 1) = V b g f n - V b g f (k + 1)) (hne : dg b g (f + k) < dg a e (f + k)) : V b g f n < V a e f n := by
  have h1 := V_bound ha e f k
  have h2 := V_bound hb g f k
  have hp := B_pos k
  have : (dg b g (f + k) + 1) * 4294967296 ^ k ≤ dg a e (f + k) * 4294967296 ^ k := Int.mul_le_mul_of_nonneg_right (by omega) (Int.le_of_lt hp)
  rw [V, V] at heq
  rw [Int.add_mul, Int.one_mul] at this
  omega

/-! Exact numbers. -/

def nv (s : Int) (ds : List Int) (e : Int) : Rat := ((s * dval ds : Int) : Rat) * (2 : Rat) ^ (32 * e)

theorem B_cast (n : Nat) : (((4294967296 : Int) ^ n : Int) : Rat) = (2 : Rat) ^ (32 * (n : Int)) := by
  rw [show (32 * (n : Int)) = ((32 * n : Nat) : Int) by omega, two_zpow_nat, Nat.pow_mul]
  simp

/-- Digits, sign and place of a number that lies among the places from -k to k. -/
structure Nm (s : Int) (ds : List Int) (e : Int) (k : Nat) : Prop where
  dok : Dok ds
  sgn : (s = 0 ∧ dval ds = 0) ∨ ((s = 1 ∨ s = -1) ∧ 0 < dval ds)
  lo : -(k : Int) ≤ e
  hi : e + ds.length ≤ k

/-- What trim makes of a number. -/
def TrimOf (s : Int) (ds : List Int) (e s' : Int) (ds' : List Int) (e' : Int) : Prop :=
  (s' = 0 ∧ ds' = [] ∧ e' = 0 ∧ ∀ i, ds.getD i 0 = 0) ∨
  (s' = s ∧ ∃ j m : Nat, j < m ∧ m ≤ ds.length ∧ ds' = (ds.drop j).take (m - j) ∧ e' = e + j ∧ (∀ i, i < j → ds.getD i 0 = 0) ∧ (∀ i, m ≤ i → ds.getD i 0 = 0) ∧ ds.getD j 0 ≠ 0 ∧ ds.getD (m - 1) 0 ≠ 0)

theorem dok_sub {ds : List Int} (h : Dok ds) (j n : Nat) : Dok ((ds.drop j).take n) := by
  intro i
  rw [List.getD_eq_getElem?_getD, List.getElem?_take]
  split
  · rw [List.getElem?_drop, ← List.getD_eq_getElem?_getD]; exact h _
  · simp

theorem dval_drop_zero {ds : List Int} {m : Nat} (h : ∀ i, m ≤ i → ds.getD i 0 = 0) : dval (ds.drop m) = 0 := by
  have key : ∀ l : List Int, (∀ i, l.getD i 0 = 0) → dval l = 0 := by
    intro l
    induction l with
    | nil => intro _; rfl
    | cons a t ih =>
      intro hl
      have h0 := hl 0
      simp at h0
      rw [dval, h0, ih (fun i => hl (i + 1))]; rfl
  apply key
  intro i
  rw [List.getD_eq_getElem?_getD, List.getElem?_drop, ← List.getD_eq_getElem?_getD]; exact h _ (by omega)

theorem dval_take_zero {ds : List Int} {j : Nat} (h : ∀ i, i < j → ds.getD i 0 = 0) : dval (ds.take j) = 0 := by
  have key : ∀ l : List Int, (∀ i, l.getD i 0 = 0) → dval l = 0 := fun l hl => by
    have := dval_drop_zero (ds := l) (m := 0) (fun i _ => hl i); simpa using this
  apply key
  intro i
  rw [List.getD_eq_getElem?_getD, List.getElem?_take]
  split
  · rename_i hlt; rw [← List.getD_eq_getElem?_getD]; exact h i hlt
  · rfl

theorem dval_split (ds : List Int) (n : Nat) (h : n ≤ ds.length) : dval ds = dval (ds.take n) + 4294967296 ^ n * dval (ds.drop n) := by
  have := dval_append (ds.take n) (ds.drop n)
  rw [List.take_append_drop, List.length_take, Nat.min_eq_left h] at this; exact this

theorem dval_pos {ds : List Int} (h : Dok ds) {i : Nat} (hi : ds.getD i 0 ≠ 0) : 0 < dval ds := by
  have hlt : i < ds.length := by
    apply Nat.lt_of_not_le; intro hle; exact hi (by rw [List.getD_eq_getElem?_getD, List.getElem?_eq_none hle]; rfl)
  rw [dval_split ds (i + 1) hlt, dval_take_succ ds i hlt]
  have h1 := dval_nonneg (ds := ds.take i) (by have := dok_sub h 0 i; simpa using this)
  have h2 := dval_nonneg (ds := ds.drop (i + 1)) (by have := dok_sub h (i + 1) ds.length; rwa [List.take_of_length_le (by simp)] at this)
  have h3 := (h i).1
  have h4 : 0 < ds.getD i 0 * 4294967296 ^ i := Int.mul_pos (by omega) (B_pos i)
  have h5 : 0 ≤ 4294967296 ^ (i + 1) * dval (ds.drop (i + 1)) := Int.mul_nonneg (Int.le_of_lt (B_pos _)) h2
  omega

/-- What trim leaves tells the same. -/
theorem trim_nv {s : Int} {ds : List Int} {e s' : Int} {ds' : List Int} {e' : Int} (h : TrimOf s ds e s' ds' e') : nv s' ds' e' = nv s ds e := by
  rcases h with ⟨rfl, rfl, rfl, hz⟩ | ⟨rfl, j, m, hj, hm, rfl, rfl, h1, h2, h3, h4⟩
  · have := dval_drop_zero (ds := ds) (m := 0) (fun i _ => hz i)
    simp at this
    unfold nv; rw [this]; simp
  · have e1 := dval_split ds j (by omega)
    rw [dval_take_zero h1, Int.zero_add] at e1
    have e2 := dval_split (ds.drop j) (m - j) (by simp; omega)
    have e3 : dval ((ds.drop j).drop (m - j)) = 0 := by rw [List.drop_drop, show j + (m - j) = m by omega]; exact dval_drop_zero h2
    rw [e3, Int.mul_zero, Int.add_zero] at e2
    unfold nv
    rw [e1, e2, show 32 * (e + (j : Int)) = 32 * (j : Int) + 32 * e by omega, two_zpow_add, ← B_cast]
    simp only [Rat.intCast_mul]
    grind

theorem trim_nm {s : Int} {ds : List Int} {e s' : Int} {ds' : List Int} {e' : Int} {k : Nat} (hd : Dok ds) (h : TrimOf s ds e s' ds' e') (hs : s = 1 ∨ s = -1) (h1 : -(k : Int) ≤ e) (h2 : e + ds.length ≤ k) : Nm s' ds' e' k := by
  rcases h with ⟨rfl, rfl, rfl, hz⟩ | ⟨rfl, j, m, hj, hm, rfl, rfl, g1, g2, g3, g4⟩
  · exact ⟨fun i => by simp, Or.inl ⟨rfl, rfl⟩, by omega, by simp⟩
  · refine ⟨dok_sub hd _ _, Or.inr ⟨hs, ?_⟩, by omega, by simp; omega⟩
    apply dval_pos (dok_sub hd _ _) (i := 0)
    rw [List.getD_eq_getElem?_getD, List.getElem?_take, if_pos (by omega), List.getElem?_drop, ← List.getD_eq_getElem?_getD]; exact g3

/-- A number by the digits from a place below it on. -/
theorem nv_V {s : Int} {ds : List Int} {e f : Int} {n : Nat} (h1 : f ≤ e) (h2 : e + ds.length ≤ f + n) : nv s ds e = ((s * V ds e f n : Int) : Rat) * (2 : Rat) ^ (32 * f) := by
  rw [V_full h1 h2]
  unfold nv
  obtain ⟨d, hd⟩ : ∃ d : Nat, e = f + d := ⟨(e - f).toNat, by omega⟩
  subst hd
  rw [show (f + (d : Int) - f).toNat = d by omega, show 32 * (f + (d : Int)) = 32 * (d : Int) + 32 * f by omega, two_zpow_add, ← B_cast]
  simp only [Rat.intCast_mul]
  grind

theorem add_nv {s t e g σ f : Int} {a b os : List Int} {s' : Int} {ds' : List Int} {e' : Int} {k : Nat} (ha : Nm s a e k) (hb : Nm t b g k) (hs : s = 1 ∨ s = -1) (ht : t = s * σ) (hf : f = min e g)
    (hl : (os.length : Int) = max (e + a.length) (g + b.length) - f + 1) (ho : Dok os) (hv : dval os = V a e f os.length + σ * V b g f os.length) (htr : TrimOf s os f s' ds' e') :
    Nm s' ds' e' (k + 1) ∧ nv s' ds' e' = nv s a e + nv t b g := by
  obtain ⟨a1, a2, a3, a4⟩ := ha
  obtain ⟨b1, b2, b3, b4⟩ := hb
  refine ⟨trim_nm ho htr hs (by omega) (by omega), ?_⟩
  rw [trim_nv htr, nv_V (s := s) (ds := a) (e := e) (f := f) (n := os.length) (by omega) (by omega), nv_V (s := t) (ds := b) (e := g) (f := f) (n := os.length) (by omega) (by omega)]
  unfold nv
  rw [hv, ht]
  simp only [Rat.intCast_mul, Rat.intCast_add]
  grind

theorem dval_set (l : List Int) (i : Nat) (x : Int) (hi : i < l.length) : dval (l.set i x) = dval l + (x - l.getD i 0) * 4294967296 ^ i := by
  induction l generalizing i with
  | nil => simp at hi
  | cons a t ih =>
    cases i with
    | zero => simp [dval]; omega
    | succ i =>
      simp at hi
      have := ih i hi
      rw [List.set_cons_succ, dval, this, dval, Int.pow_succ]
      have e : (a :: t).getD (i + 1) 0 = t.getD i 0 := by simp
      rw [e]; grind

theorem dok_set {l : List Int} (h : Dok l) (i : Nat) (x : Int) (hi : i < l.length) (h0 : 0 ≤ x) (h1 : x < 4294967296) : Dok (l.set i x) := by
  intro j
  rw [getD_set l i j x hi]
  split
  · exact ⟨h0, h1⟩
  · exact h j

theorem dok_append {l : List Int} (h : Dok l) (x : Int) (h0 : 0 ≤ x) (h1 : x < 4294967296) : Dok (l ++ [x]) := by
  intro i
  by_cases hi1 : i < l.length
  · rw [List.getD_eq_getElem?_getD, List.getElem?_append_left hi1, ← List.getD_eq_getElem?_getD]; exact h i
  · rw [List.getD_eq_getElem?_getD, List.getElem?_append_right (by omega)]
    by_cases hi2 : i = l.length
    · subst hi2; simp; omega
    · rw [List.getElem?_eq_none (by simp; omega)]; simp

theorem mul_step {cur : List Int} {p : Nat} {x cr R : Int} (hp : p < cur.length) (h : dval cur + cr * 4294967296 ^ p = R) :
    dval (cur.set p ((cur.getD p 0 + x + cr) % 4294967296)) + (cur.getD p 0 + x + cr) / 4294967296 * 4294967296 ^ (p + 1) = R + x * 4294967296 ^ p := by
  rw [dval_set _ _ _ hp, Int.pow_succ, ← h]
  have hdm := Int.mul_ediv_add_emod (cur.getD p 0 + x + cr) 4294967296
  generalize (cur.getD p 0 + x + cr) / 4294967296 = q at *
  generalize (cur.getD p 0 + x + cr) % 4294967296 = r at *
  grind

theorem mul_inner {a b cur cur' : List Int} {i k : Nat} {cr cr' : Int} (hk : k < b.length)
    (h : dval cur + cr * 4294967296 ^ (i + k) = dval (a.take i) * dval b + a.getD i 0 * 4294967296 ^ i * dval (b.take k))
    (hs : dval cur' + cr' * 4294967296 ^ (i + k + 1) = (dval cur + cr * 4294967296 ^ (i + k)) + (a.getD i 0 * b.getD k 0) * 4294967296 ^ (i + k)) :
    dval cur' + cr' * 4294967296 ^ (i + (k + 1)) = dval (a.take i) * dval b + a.getD i 0 * 4294967296 ^ i * dval (b.take (k + 1)) := by
  rw [← Nat.add_assoc, hs, h, dval_take_succ b k hk, Int.pow_add]
  grind

theorem mul_outer {a b cur : List Int} {i : Nat} {cr : Int} (hi : i < a.length) (hl : i + b.length < cur.length) (hz : cur.getD (i + b.length) 0 = 0)
    (h : dval cur + cr * 4294967296 ^ (i + b.length) = dval (a.take i) * dval b + a.getD i 0 * 4294967296 ^ i * dval b) :
    dval (cur.set (i + b.length) (cur.getD (i + b.length) 0 + cr)) = dval (a.take (i + 1)) * dval b := by
  rw [dval_set _ _ _ hl, hz, dval_take_succ a i hi]
  grind

theorem mul_bound {x y : Int} (hx0 : 0 ≤ x) (hx : x < 4294967296) (hy0 : 0 ≤ y) (hy : y < 4294967296) : 0 ≤ x * y ∧ x * y ≤ 18446744065119617025 := by
  refine ⟨Int.mul_nonneg hx0 hy0, ?_⟩
  have h1 : x * y ≤ 4294967295 * y := Int.mul_le_mul_of_nonneg_right (by omega) hy0
  omega

theorem dok_zero (n : Nat) : Dok (List.replicate n 0) := by
  intro i
  rw [List.getD_eq_getElem?_getD, List.getElem?_replicate]
  split <;> simp

theorem dval_zero (n : Nat) : dval (List.replicate n 0) = 0 := by
  induction n with
  | zero => rfl
  | succ n ih => rw [List.replicate_succ, dval, ih]; rfl

theorem mul_nv {s t e g : Int} {a b os : List Int} {s' : Int} {ds' : List Int} {e' : Int} {k j : Nat} (ha : Nm s a e k) (hb : Nm t b g j) (hs : s = 1 ∨ s = -1) (ht : t = 1 ∨ t = -1)
    (hl : os.length = a.length + b.length) (hd : Dok os) (hv : dval os = dval a * dval b) (h : TrimOf (s * t) os (e + g) s' ds' e') : Nm s' ds' e' (k + j) ∧ nv s' ds' e' = nv s a e * nv t b g := by
  have h1 := ha.lo
  have h2 := hb.lo
  have h3 := ha.hi
  have h4 := hb.hi
  refine ⟨trim_nm hd h (by rcases hs with rfl | rfl <;> rcases ht with rfl | rfl <;> simp) (by omega) (by omega), ?_⟩
  rw [trim_nv h]
  unfold nv
  rw [hv, Int.mul_add, two_zpow_add, show s * t * (dval a * dval b) = (s * dval a) * (t * dval b) by grind, Rat.intCast_mul]
  grind

theorem dval_last {ds : List Int} (h : Dok ds) (hl : 0 < ds.length) : ds.getD (ds.length - 1) 0 * 4294967296 ^ (ds.length - 1) ≤ dval ds ∧ dval ds < (ds.getD (ds.length - 1) 0 + 1) * 4294967296 ^ (ds.length - 1) := by
  have h1 := dval_take_succ ds (ds.length - 1) (by omega)
  rw [show ds.length - 1 + 1 = ds.length by omega, List.take_length] at h1
  have hd : Dok (ds.take (ds.length - 1)) := by have := dok_sub h 0 (ds.length - 1); rwa [List.drop_zero] at this
  have h2 := dval_nonneg hd
  have h3 := dval_lt hd
  rw [List.length_take, Nat.min_eq_left (by omega)] at h3
  rw [h1]
  constructor
  · omega
  · grind

theorem high_nv {s : Int} {ds : List Int} {e : Int} {d : Int} {j : Nat} (hd : Dok ds) (hs : s = 1 ∨ s = -1) (hl : 0 < ds.length) (hlast : d = ds.getD (ds.length - 1) 0) (h1 : 2 ^ j ≤ d) (h2 : d < 2 ^ (j + 1)) :
    HighOf (nv s ds e) (32 * (e + ds.length - 1) + j) := by
  obtain ⟨a1, a2⟩ := dval_last hd hl
  rw [← hlast] at a1 a2
  obtain ⟨n, hn⟩ : ∃ n, n = ds.length - 1 := ⟨_, rfl⟩
  rw [← hn] at a1 a2
  have hB := B_pos n
  have c1 : (2 : Int) ^ j * 4294967296 ^ n ≤ dval ds := Int.le_trans (Int.mul_le_mul_of_nonneg_right h1 (by omega)) a1
  have c2 : dval ds < (2 : Int) ^ (j + 1) * 4294967296 ^ n := Int.lt_of_lt_of_le a2 (Int.mul_le_mul_of_nonneg_right (by omega) (by omega))
  have hp := two_zpow_pos (32 * e)
  have cast (i : Nat) : (((2 : Int) ^ i * 4294967296 ^ n : Int) : Rat) * (2 : Rat) ^ (32 * e) = (2 : Rat) ^ (32 * (e + ds.length - 1) + i) := by
    rw [Rat.intCast_mul, B_cast, Rat.intCast_pow, show ((2 : Int) : Rat) = 2 by rfl, ← Rat.zpow_natCast, ← two_zpow_add, ← two_zpow_add]
    congr 1; omega
  have e1 : (2 : Rat) ^ (32 * (e + ds.length - 1) + j) ≤ (dval ds : Rat) * (2 : Rat) ^ (32 * e) := by
    rw [← cast]; exact Rat.mul_le_mul_of_nonneg_right (Rat.intCast_le_intCast.2 c1) (Rat.le_of_lt hp)
  have e2 : (dval ds : Rat) * (2 : Rat) ^ (32 * e) < (2 : Rat) ^ (32 * (e + ds.length - 1) + j + 1) := by
    rw [show (32 * (e + ds.length - 1) + j + 1 : Int) = 32 * (e + ds.length - 1) + ((j + 1 : Nat) : Int) by omega, ← cast]; exact Rat.mul_lt_mul_of_pos_right (Rat.intCast_lt_intCast.2 c2) hp
  unfold HighOf nv
  rcases hs with rfl | rfl
  · left; rw [Int.one_mul]; exact ⟨e1, e2⟩
  · right; rw [Int.neg_mul, Int.one_mul, Rat.intCast_neg, Rat.neg_mul, Rat.neg_neg]; exact ⟨e1, e2⟩

theorem low_nv {s : Int} {ds : List Int} {e : Int} {d x : Int} {j : Nat} (hs : s = 1 ∨ s = -1) (hfirst : d = ds.getD 0 0) (hdd : d = x * 2 ^ j) (hx : x % 2 = 1) (hd : 0 < d) (hd2 : d < 4294967296) :
    LowOf (nv s ds e) (32 * e + j) := by
  have hj : j < 32 := by
    apply Classical.byContradiction
    intro hc
    have h1 : (2 : Int) ^ 32 ≤ 2 ^ j := by
      have : (2 : Nat) ^ 32 ≤ 2 ^ j := Nat.pow_le_pow_right (by omega) (by omega)
      have e : (2 : Int) ^ j = ((2 ^ j : Nat) : Int) := by simp
      rw [e]; omega
    have hx1 : 1 ≤ x := by
      apply Classical.byContradiction
      intro hc2
      have : x * 2 ^ j ≤ 0 := Int.mul_nonpos_of_nonpos_of_nonneg (by omega) (by omega)
      omega
    have : 1 * 2 ^ j ≤ x * 2 ^ j := Int.mul_le_mul_of_nonneg_right hx1 (by omega)
    omega
  obtain ⟨y, ys, hy⟩ : ∃ y ys, ds = y :: ys := by
    cases ds with
    | nil => simp at hfirst; omega
    | cons y ys => exact ⟨y, ys, rfl⟩
  have h0 : y = d := by rw [hfirst, hy]; rfl
  have hv : dval ds = (x + 2 * (2 ^ (31 - j) * dval ys)) * 2 ^ j := by
    have h24 : (4294967296 : Int) = 2 * (2 ^ (31 - j) * 2 ^ j) := by
      rw [← Int.pow_add, show 31 - j + j = 31 by omega]; rfl
    rw [hy, dval, h0, hdd, h24]; grind
  refine ⟨s * (x + 2 * (2 ^ (31 - j) * dval ys)), ?_, ?_⟩
  · rcases hs with rfl | rfl <;> omega
  · unfold nv
    rw [hv, ← Int.mul_assoc, Rat.intCast_mul (_ * _) _, Int.add_comm (32 * e), two_zpow_add, Rat.intCast_pow, show ((2 : Int) : Rat) = 2 by rfl, ← Rat.zpow_natCast, Rat.mul_assoc]

theorem trim_ends {s : Int} {ds : List Int} {e s' : Int} {ds' : List Int} {e' : Int} (hd : Dok ds) (hp : 0 < dval ds) (h : TrimOf s ds e s' ds' e') :
    s' = s ∧ 0 < ds'.length ∧ 0 < ds'.getD 0 0 ∧ 0 < ds'.getD (ds'.length - 1) 0 ∧ Dok ds' := by
  rcases h with ⟨-, -, -, h⟩ | ⟨h1, j, m, h2, h3, h4, -, -, -, h5, h6⟩
  · have := dval_take_zero (ds := ds) (j := ds.length) (fun i _ => h i)
    rw [List.take_length] at this; omega
  · have hl : ds'.length = m - j := by rw [h4, List.length_take, List.length_drop]; omega
    have hg (i : Nat) (hi : i < m - j) : ds'.getD i 0 = ds.getD (j + i) 0 := by
      rw [h4, List.getD_eq_getElem?_getD, List.getElem?_take, if_pos hi, List.getElem?_drop, ← List.getD_eq_getElem?_getD]
    refine ⟨h1, by omega, ?_, ?_, by rw [h4]; exact dok_sub hd j (m - j)⟩
    · rw [hg 0 (by omega), Nat.add_zero]; have := hd j; omega
    · rw [hl, hg _ (by omega), show j + (m - j - 1) = m - 1 by omega]; have := hd (m - 1); omega

end TV.W
