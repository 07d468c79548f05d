/- Numbers of digits of 24 bits, in plain Lean: the digit at a place, what so many digits tell, and exact numbers as rationals. -/
namespace TV

/-- The digit at a place. -/
def dg (ds : List Int) (e i : Int) : Int := if i < e ∨ e + ds.length ≤ i then 0 else ds.getD (i - e).toNat 0

def Dok (ds : List Int) : Prop := ∀ i, 0 ≤ ds.getD i 0 ∧ ds.getD i 0 < 16777216

theorem dg_bound {ds : List Int} (h : Dok ds) (e i : Int) : 0 ≤ dg ds e i ∧ dg ds e i < 16777216 := by
  unfold dg; split
  · omega
  · exact h _

/-- What digits tell, the lowest first. -/
def dval : List Int → Int
  | [] => 0
  | d :: ds => d + 16777216 * dval ds

/-- What the n digits from a place on tell. -/
def V (ds : List Int) (e f : Int) : Nat → Int
  | 0 => 0
  | n + 1 => V ds e f n + dg ds e (f + n) * 16777216 ^ n

theorem B_pos (n : Nat) : (0 : Int) < 16777216 ^ n := Int.pow_pos (by decide)

theorem V_bound {ds : List Int} (h : Dok ds) (e f : Int) (n : Nat) : 0 ≤ V ds e f n ∧ V ds e f n < 16777216 ^ n := by
  induction n with
  | zero => simp [V]
  | succ n ih =>
    have hb := dg_bound h e (f + n)
    have hp := B_pos n
    have h1 : 0 ≤ dg ds e (f + n) * 16777216 ^ n := Int.mul_nonneg hb.1 (Int.le_of_lt hp)
    have h2 : dg ds e (f + n) * 16777216 ^ n ≤ 16777215 * 16777216 ^ n := Int.mul_le_mul_of_nonneg_right (by omega) (Int.le_of_lt hp)
    rw [V, Int.pow_succ]
    omega

theorem dval_nonneg {ds : List Int} (h : Dok ds) : 0 ≤ dval ds := by
  induction ds with
  | nil => simp [dval]
  | cons d ds ih =>
    have h0 := h 0
    have := ih (fun i => h (i + 1))
    simp at h0
    rw [dval]; omega

theorem dval_lt {ds : List Int} (h : Dok ds) : dval ds < 16777216 ^ ds.length := by
  induction ds with
  | nil => simp [dval]
  | cons d ds ih =>
    have h0 := h 0
    have := ih (fun i => h (i + 1))
    simp at h0
    rw [dval, List.length_cons, Int.pow_succ]; omega

theorem dval_append (a b : List Int) : dval (a ++ b) = dval a + 16777216 ^ a.length * dval b := by
  induction a with
  | nil => simp [dval]
  | cons d a ih => rw [List.cons_append, dval, ih, dval, List.length_cons, Int.pow_succ]; grind

theorem dval_take_succ (ds : List Int) (n : Nat) (h : n < ds.length) : dval (ds.take (n + 1)) = dval (ds.take n) + ds.getD n 0 * 16777216 ^ n := by
  rw [List.take_succ_eq_append_getElem h, dval_append, List.length_take, Nat.min_eq_left (by omega)]
  have : ds.getD n 0 = ds[n] := by rw [List.getD_eq_getElem?_getD, List.getElem?_eq_getElem h]; rfl
  rw [this, dval, dval]; grind

/-- Digits that lie wholly among the n from f on. -/
theorem V_full {ds : List Int} {e f : Int} {n : Nat} (h1 : f ≤ e) (h2 : e + ds.length ≤ f + n) : V ds e f n = dval ds * 16777216 ^ (e - f).toNat := by
  -- count up
  have key : ∀ m : Nat, V ds e f m = if (m : Int) ≤ e - f then 0 else dval (ds.take (f + m - e).toNat) * 16777216 ^ (e - f).toNat := by
    intro m
    induction m with
    | zero => rw [if_pos (by omega)]; rfl
    | succ m ih =>
      rw [V, ih]
      by_cases c : (m : Int) + 1 ≤ e - f
      · rw [if_pos (by omega), if_pos (by omega)]
        unfold dg; rw [if_pos (Or.inl (by omega))]; simp
      · rw [if_neg (by omega : ¬ ((m + 1 : Nat) : Int) ≤ e - f)]
        by_cases c2 : (m : Int) ≤ e - f
        · rw [if_pos c2]
          have e1 : (f + ((m + 1 : Nat) : Int) - e).toNat = 0 + 1 := by omega
          have e2 : (e - f).toNat = m := by omega
          rw [e1, e2]
          by_cases c3 : 0 < ds.length
          · rw [dval_take_succ ds 0 c3]
            unfold dg; rw [if_neg (by omega), show (f + (m : Int) - e).toNat = 0 by omega]; simp [dval]
          · have : ds = [] := by cases ds with
              | nil => rfl
              | cons a t => simp at c3
            subst this
            unfold dg; rw [if_pos (by right; simp; omega)]; simp [dval]
        · rw [if_neg c2]
          have e1 : (f + ((m + 1 : Nat) : Int) - e).toNat = (f + (m : Int) - e).toNat + 1 := by omega
          rw [e1]
          by_cases c3 : (f + (m : Int) - e).toNat < ds.length
          · rw [dval_take_succ ds _ c3]
            unfold dg; rw [if_neg (by omega)]
            have e3 : m = (f + (m : Int) - e).toNat + (e - f).toNat := by omega
            have e4 : (16777216 : Int) ^ m = 16777216 ^ (f + (m : Int) - e).toNat * 16777216 ^ (e - f).toNat := by
              rw [← Int.pow_add, ← e3]
            rw [e4]; grind
          · rw [List.take_of_length_le (by omega), List.take_of_length_le (by omega)]
            unfold dg; rw [if_pos (Or.inr (by omega))]; simp
  rw [key n]
  by_cases c : (n : Int) ≤ e - f
  · rw [if_pos c]
    have : ds = [] := by cases ds with
      | nil => rfl
      | cons a t => simp at h2; omega
    subst this; simp [dval]
  · rw [if_neg c, List.take_of_length_le (by omega)]

/-- The sign of a whole number. -/
def sg (n : Int) : Int := if n < 0 then -1 else if n = 0 then 0 else 1

/-- From the highest place down: the first unlike digits decide. -/
theorem V_decides {a b : List Int} {e g f : Int} (ha : Dok a) (hb : Dok b) {n k : Nat} (heq : V a e f n - V a e f (k + 1) = V b g f n - V b g f (k + 1)) (hne : dg b g (f + k) < dg a e (f + k)) : V b g f n < V a e f n := by
  have h1 := V_bound ha e f k
  have h2 := V_bound hb g f k
  have hp := B_pos k
  have : (dg b g (f + k) + 1) * 16777216 ^ k ≤ dg a e (f + k) * 16777216 ^ k := Int.mul_le_mul_of_nonneg_right (by omega) (Int.le_of_lt hp)
  rw [V, V] at heq
  rw [Int.add_mul, Int.one_mul] at this
  omega

/-! Exact numbers. -/
def nv (s : Int) (ds : List Int) (e : Int) : Rat := ((s * dval ds : Int) : Rat) * (2 : Rat) ^ (24 * e)

theorem two_zpow_pos (e : Int) : (0 : Rat) < (2 : Rat) ^ e := Rat.zpow_pos (by decide)
theorem two_zpow_add (a b : Int) : (2 : Rat) ^ (a + b) = (2 : Rat) ^ a * (2 : Rat) ^ b := Rat.zpow_add (by decide) a b
theorem two_zpow_nat (n : Nat) : (2 : Rat) ^ (n : Int) = ((2 ^ n : Nat) : Rat) := by
  rw [Rat.zpow_natCast]; simp
theorem B_cast (n : Nat) : (((16777216 : Int) ^ n : Int) : Rat) = (2 : Rat) ^ (24 * (n : Int)) := by
  rw [show (24 * (n : Int)) = ((24 * n : Nat) : Int) by omega, two_zpow_nat, Nat.pow_mul]
  simp

/-- The sign of a rational number. -/
def rs (q : Rat) : Int := if q < 0 then -1 else if q = 0 then 0 else 1

/-- Digits, sign and place of a number that lies among the places from -k to k. -/
structure Nm (s : Int) (ds : List Int) (e : Int) (k : Nat) : Prop where
  dok : Dok ds
  sgn : (s = 0 ∧ dval ds = 0) ∨ ((s = 1 ∨ s = -1) ∧ 0 < dval ds)
  lo : -(k : Int) ≤ e
  hi : e + ds.length ≤ k

/-- What trim makes of a number. -/
def TrimOf (s : Int) (ds : List Int) (e s' : Int) (ds' : List Int) (e' : Int) : Prop :=
  (s' = 0 ∧ ds' = [] ∧ e' = 0 ∧ ∀ i, ds.getD i 0 = 0) ∨
  (s' = s ∧ ∃ j m : Nat, j < m ∧ m ≤ ds.length ∧ ds' = (ds.drop j).take (m - j) ∧ e' = e + j ∧ (∀ i, i < j → ds.getD i 0 = 0) ∧ (∀ i, m ≤ i → ds.getD i 0 = 0) ∧ ds.getD j 0 ≠ 0 ∧ ds.getD (m - 1) 0 ≠ 0)

theorem dok_sub {ds : List Int} (h : Dok ds) (j n : Nat) : Dok ((ds.drop j).take n) := by
  intro i
  rw [List.getD_eq_getElem?_getD, List.getElem?_take]
  split
  · rw [List.getElem?_drop, ← List.getD_eq_getElem?_getD]; exact h _
  · simp
theorem dval_drop_zero {ds : List Int} {m : Nat} (h : ∀ i, m ≤ i → ds.getD i 0 = 0) : dval (ds.drop m) = 0 := by
  have key : ∀ l : List Int, (∀ i, l.getD i 0 = 0) → dval l = 0 := by
    intro l
    induction l with
    | nil => intro _; rfl
    | cons a t ih =>
      intro hl
      have h0 := hl 0
      simp at h0
      rw [dval, h0, ih (fun i => hl (i + 1))]; rfl
  apply key
  intro i
  rw [List.getD_eq_getElem?_getD, List.getElem?_drop, ← List.getD_eq_getElem?_getD]; exact h _ (by omega)
theorem dval_take_zero {ds : List Int} {j : Nat} (h : ∀ i, i < j → ds.getD i 0 = 0) : dval (ds.take j) = 0 := by
  have key : ∀ l : List Int, (∀ i, l.getD i 0 = 0) → dval l = 0 := fun l hl => by
    have := dval_drop_zero (ds := l) (m := 0) (fun i _ => hl i); simpa using this
  apply key
  intro i
  rw [List.getD_eq_getElem?_getD, List.getElem?_take]
  split
  · rename_i hlt; rw [← List.getD_eq_getElem?_getD]; exact h i hlt
  · rfl

theorem dval_split (ds : List Int) (n : Nat) (h : n ≤ ds.length) : dval ds = dval (ds.take n) + 16777216 ^ n * dval (ds.drop n) := by
  have := dval_append (ds.take n) (ds.drop n)
  rw [List.take_append_drop, List.length_take, Nat.min_eq_left h] at this; exact this

theorem dval_pos {ds : List Int} (h : Dok ds) {i : Nat} (hi : ds.getD i 0 ≠ 0) : 0 < dval ds := by
  have hlt : i < ds.length := by
    apply Nat.lt_of_not_le; intro hle; exact hi (by rw [List.getD_eq_getElem?_getD, List.getElem?_eq_none hle]; rfl)
  rw [dval_split ds (i + 1) hlt, dval_take_succ ds i hlt]
  have h1 := dval_nonneg (ds := ds.take i) (by have := dok_sub h 0 i; simpa using this)
  have h2 := dval_nonneg (ds := ds.drop (i + 1)) (by have := dok_sub h (i + 1) ds.length; rwa [List.take_of_length_le (by simp)] at this)
  have h3 := (h i).1
  have h4 : 0 < ds.getD i 0 * 16777216 ^ i := Int.mul_pos (by omega) (B_pos i)
  have h5 : 0 ≤ 16777216 ^ (i + 1) * dval (ds.drop (i + 1)) := Int.mul_nonneg (Int.le_of_lt (B_pos _)) h2
  omega

/-- What trim leaves tells the same. -/
theorem trim_nv {s : Int} {ds : List Int} {e s' : Int} {ds' : List Int} {e' : Int} (h : TrimOf s ds e s' ds' e') : nv s' ds' e' = nv s ds e := by
  rcases h with ⟨rfl, rfl, rfl, hz⟩ | ⟨rfl, j, m, hj, hm, rfl, rfl, h1, h2, h3, h4⟩
  · have := dval_drop_zero (ds := ds) (m := 0) (fun i _ => hz i)
    simp at this
    unfold nv; rw [this]; simp
  · have e1 := dval_split ds j (by omega)
    rw [dval_take_zero h1, Int.zero_add] at e1
    have e2 := dval_split (ds.drop j) (m - j) (by simp; omega)
    have e3 : dval ((ds.drop j).drop (m - j)) = 0 := by rw [List.drop_drop, show j + (m - j) = m by omega]; exact dval_drop_zero h2
    rw [e3, Int.mul_zero, Int.add_zero] at e2
    unfold nv
    rw [e1, e2, show 24 * (e + (j : Int)) = 24 * (j : Int) + 24 * e by omega, two_zpow_add, ← B_cast]
    simp only [Rat.intCast_mul]
    grind

theorem trim_nm {s : Int} {ds : List Int} {e s' : Int} {ds' : List Int} {e' : Int} {k : Nat} (hd : Dok ds) (h : TrimOf s ds e s' ds' e') (hs : s = 1 ∨ s = -1) (h1 : -(k : Int) ≤ e) (h2 : e + ds.length ≤ k) : Nm s' ds' e' k := by
  rcases h with ⟨rfl, rfl, rfl, hz⟩ | ⟨rfl, j, m, hj, hm, rfl, rfl, g1, g2, g3, g4⟩
  · exact ⟨fun i => by simp, Or.inl ⟨rfl, rfl⟩, by omega, by simp⟩
  · refine ⟨dok_sub hd _ _, Or.inr ⟨hs, ?_⟩, by omega, by simp; omega⟩
    apply dval_pos (dok_sub hd _ _) (i := 0)
    rw [List.getD_eq_getElem?_getD, List.getElem?_take, if_pos (by omega), List.getElem?_drop, ← List.getD_eq_getElem?_getD]; exact g3

/-- A number by the digits from a place below it on. -/
theorem nv_V {s : Int} {ds : List Int} {e f : Int} {n : Nat} (h1 : f ≤ e) (h2 : e + ds.length ≤ f + n) : nv s ds e = ((s * V ds e f n : Int) : Rat) * (2 : Rat) ^ (24 * f) := by
  rw [V_full h1 h2]
  unfold nv
  obtain ⟨d, hd⟩ : ∃ d : Nat, e = f + d := ⟨(e - f).toNat, by omega⟩
  subst hd
  rw [show (f + (d : Int) - f).toNat = d by omega, show 24 * (f + (d : Int)) = 24 * (d : Int) + 24 * f by omega, two_zpow_add, ← B_cast]
  simp only [Rat.intCast_mul]
  grind

theorem add_nv {s t e g σ f : Int} {a b os : List Int} {s' : Int} {ds' : List Int} {e' : Int} {k : Nat} (ha : Nm s a e k) (hb : Nm t b g k) (hs : s = 1 ∨ s = -1) (ht : t = s * σ) (hf : f = min e g)
    (hl : (os.length : Int) = max (e + a.length) (g + b.length) - f + 1) (ho : Dok os) (hv : dval os = V a e f os.length + σ * V b g f os.length) (htr : TrimOf s os f s' ds' e') :
    Nm s' ds' e' (k + 1) ∧ nv s' ds' e' = nv s a e + nv t b g := by
  obtain ⟨a1, a2, a3, a4⟩ := ha
  obtain ⟨b1, b2, b3, b4⟩ := hb
  refine ⟨trim_nm ho htr hs (by omega) (by omega), ?_⟩
  rw [trim_nv htr, nv_V (s := s) (ds := a) (e := e) (f := f) (n := os.length) (by omega) (by omega), nv_V (s := t) (ds := b) (e := g) (f := f) (n := os.length) (by omega) (by omega)]
  unfold nv
  rw [hv, ht]
  simp only [Rat.intCast_mul, Rat.intCast_add]
  grind

theorem getD_set (l : List Int) (i j : Nat) (x : Int) (hi : i < l.length) : (l.set i x).getD j 0 = if j = i then x else l.getD j 0 := by
  rw [List.getD_eq_getElem?_getD, List.getElem?_set]
  by_cases h : i = j
  · subst h; simp [hi]
  · rw [if_neg h, if_neg (Ne.symm h), ← List.getD_eq_getElem?_getD]

theorem dval_set (l : List Int) (i : Nat) (x : Int) (hi : i < l.length) : dval (l.set i x) = dval l + (x - l.getD i 0) * 16777216 ^ i := by
  induction l generalizing i with
  | nil => simp at hi
  | cons a t ih =>
    cases i with
    | zero => simp [dval]; omega
    | succ i =>
      simp at hi
      have := ih i hi
      rw [List.set_cons_succ, dval, this, dval, Int.pow_succ]
      have e : (a :: t).getD (i + 1) 0 = t.getD i 0 := by simp
      rw [e]; grind

theorem dok_set {l : List Int} (h : Dok l) (i : Nat) (x : Int) (hi : i < l.length) (h0 : 0 ≤ x) (h1 : x < 16777216) : Dok (l.set i x) := by
  intro j
  rw [getD_set l i j x hi]
  split
  · exact ⟨h0, h1⟩
  · exact h j
theorem dok_append {l : List Int} (h : Dok l) (x : Int) (h0 : 0 ≤ x) (h1 : x < 16777216) : Dok (l ++ [x]) := by
  intro i
  by_cases hi1 : i < l.length
  · rw [List.getD_eq_getElem?_getD, List.getElem?_append_left hi1, ← List.getD_eq_getElem?_getD]; exact h i
  · rw [List.getD_eq_getElem?_getD, List.getElem?_append_right (by omega)]
    by_cases hi2 : i = l.length
    · subst hi2; simp; omega
    · rw [List.getElem?_eq_none (by simp; omega)]; simp

/-- One step of a product with a small number. -/
theorem step_small {cur os : List Int} {i : Nat} {tw cr : Int} (hl : cur.length = os.length) (hi : i < os.length) (hcur : cur.getD i 0 = os.getD i 0)
    (h : dval cur + cr * 16777216 ^ i = dval os + (tw - 1) * dval (os.take i)) :
    dval (cur.set i ((cur.getD i 0 * tw + cr) % 16777216)) + (cur.getD i 0 * tw + cr) / 16777216 * 16777216 ^ (i + 1) = dval os + (tw - 1) * dval (os.take (i + 1)) := by
  rw [dval_set _ _ _ (by omega), dval_take_succ os i hi, ← hcur, Int.pow_succ]
  have hdm := Int.mul_ediv_add_emod (cur.getD i 0 * tw + cr) 16777216
  generalize (cur.getD i 0 * tw + cr) % 16777216 = r at *
  generalize (cur.getD i 0 * tw + cr) / 16777216 = d at *
  generalize cur.getD i 0 = c at *
  have e : r = c * tw + cr - 16777216 * d := by omega
  rw [e]
  grind

theorem nv_power {ds : List Int} {e tw : Int} {j n : Nat} (h : dval ds = tw * n) (ht : tw = 2 ^ j) : nv 1 ds e = (n : Rat) * (2 : Rat) ^ ((j : Int) + 24 * e) := by
  unfold nv
  rw [h, ht, Int.one_mul, two_zpow_add, two_zpow_nat]
  have : (((2 : Int) ^ j * (n : Int) : Int) : Rat) = ((2 ^ j : Nat) : Rat) * (n : Rat) := by rw [Rat.intCast_mul, Rat.intCast_natCast]; simp
  rw [this, Rat.mul_comm ((2 ^ j : Nat) : Rat), Rat.mul_assoc]

end TV
