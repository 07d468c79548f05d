/- Sums of floats that stand for one number: the reckoning on whole numbers, and in bits. -/
import Derived.Test.YtjogclokjonkeaaDoorPuA
/-! Sums of floats that stand for one number: the reckoning on whole numbers (units of 2^-1074). -/
namespace TV
/-- The sum of the magnitudes. -/
def ab : List Int → Nat
  | [] => 0
  | x :: l => x.natAbs + ab l
theorem ab_append (l m : List Int) : ab (l ++ m) = ab l + ab m := by
  induction l with
  | nil => simp [ab]
  | cons x l ih => simp [ab, ih]; omega
theorem ab_reverse (l : List Int) : ab l.reverse = ab l := by
  induction l with
  | nil => rfl
  | cons x l ih => simp [ab_append, ab, ih]; omega
theorem ab_le {l : List Int} {T : Nat} (h : ∀ x ∈ l, x.natAbs ≤ T) : ab l ≤ l.length * T := by
  induction l with
  | nil => simp [ab]
  | cons x l ih =>
    have h1 := h x (by simp)
    have h2 := ih (fun y hy => h y (by simp [hy]))
    simp only [ab, List.length_cons, Nat.add_mul, Nat.one_mul]; omega
theorem ab_mem {l : List Int} {x : Int} (h : x ∈ l) : x.natAbs ≤ ab l := by
  induction l with
  | nil => cases h
  | cons y l ih =>
    simp only [ab]
    rcases List.mem_cons.1 h with rfl | h
    · omega
    · have := ih h; omega
theorem sum_le_ab (l : List Int) : l.sum.natAbs ≤ ab l := by
  induction l with
  | nil => simp [ab]
  | cons x l ih => simp only [List.sum_cons, ab]; omega

/-- What was rounded off. -/
def er (t : Int) : Int := t - Rn t
theorem er_err (t : Int) : (er t).natAbs * 9007199254740992 ≤ t.natAbs := by
  have := Rn_err t
  rw [show (er t).natAbs = (Rn t - t).natAbs by unfold er; omega]; exact this
theorem er_small {t : Int} {T : Nat} (h : t.natAbs ≤ 9007199254740992 * T) : (er t).natAbs ≤ T := by
  have := er_err t
  omega
theorem Rn_small {t : Int} {T : Nat} (h : t.natAbs ≤ 9007199254740992 * T) : (Rn t).natAbs ≤ t.natAbs + T := by
  have := er_small h
  unfold er at this
  omega
def nz (x : Int) : List Int := if x ≠ 0 then [x] else []
theorem nz_sum (x : Int) : (nz x).sum = x := by unfold nz; split <;> simp_all
theorem nz_len (x : Int) : (nz x).length ≤ 1 := by unfold nz; split <;> simp
theorem nz_ab (x : Int) : ab (nz x) = x.natAbs := by unfold nz; split <;> simp_all [ab]
theorem nz_mem {x y : Int} (h : y ∈ nz x) : y = x ∧ x ≠ 0 := by unfold nz at h; split at h <;> simp_all

/-- A float is added to a sum. -/
def growI : List Int → Int → List Int
  | [], q => nz q
  | x :: e, q => nz (er (q + x)) ++ growI e (Rn (q + x))
/-- The errors alone, and the last float. -/
def growE : List Int → Int → List Int
  | [], _ => []
  | x :: e, q => nz (er (q + x)) ++ growE e (Rn (q + x))
def growQ : List Int → Int → Int
  | [], q => q
  | x :: e, q => growQ e (Rn (q + x))
theorem grow_parts (e : List Int) (q : Int) : growI e q = growE e q ++ nz (growQ e q) := by
  induction e generalizing q with
  | nil => rfl
  | cons x e ih => simp [growI, growE, growQ, ih]
theorem grow_sum (e : List Int) (q : Int) : (growE e q).sum + growQ e q = e.sum + q := by
  induction e generalizing q with
  | nil => simp [growE, growQ]
  | cons x e ih =>
    simp only [growE, growQ, List.sum_append, List.sum_cons, nz_sum]
    have := ih (Rn (q + x))
    unfold er
    omega
theorem growI_sum (e : List Int) (q : Int) : (growI e q).sum = e.sum + q := by
  rw [grow_parts, List.sum_append, nz_sum]; exact grow_sum e q
theorem growE_len (e : List Int) (q : Int) : (growE e q).length ≤ e.length := by
  induction e generalizing q with
  | nil => simp [growE]
  | cons x e ih => have := ih (Rn (q + x)); have := nz_len (er (q + x)); simp only [growE, List.length_append, List.length_cons]; omega
theorem growI_len (e : List Int) (q : Int) : (growI e q).length ≤ e.length + 1 := by
  rw [grow_parts, List.length_append]
  have := growE_len e q
  have := nz_len (growQ e q)
  omega
/-- The bounds: the errors are small, the last float is not much greater than all magnitudes together. -/
theorem grow_bound {T : Nat} (e : List Int) (q : Int) (h : ab e + q.natAbs + e.length * T ≤ 9007199254740992 * T) :
    (∀ x ∈ growE e q, x.natAbs ≤ T) ∧ (growQ e q).natAbs ≤ ab e + q.natAbs + e.length * T := by
  induction e generalizing q with
  | nil => exact ⟨fun x hx => by simp [growE] at hx, by simp [growQ, ab]⟩
  | cons x e ih =>
    simp only [ab, List.length_cons, Nat.add_mul, Nat.one_mul] at h ⊢
    have h1 : (q + x).natAbs ≤ 9007199254740992 * T := by omega
    have h2 := er_small h1
    have h3 := Rn_small h1
    obtain ⟨i1, i2⟩ := ih (Rn (q + x)) (by omega)
    refine ⟨fun y hy => ?_, by simp only [growQ]; omega⟩
    simp only [growE, List.mem_append] at hy
    rcases hy with hy | hy
    · rw [(nz_mem hy).1]; exact h2
    · exact i1 y hy
/-- The sums on the way are bounded as well: what is asked of each step (that it may be reckoned exactly). -/
def growOk (P : Int → Int → Prop) : List Int → Int → Prop
  | [], _ => True
  | x :: e, q => P q x ∧ growOk P e (Rn (q + x))
theorem grow_ok {T M : Nat} (e : List Int) (q : Int) (h : ab e + q.natAbs + e.length * T ≤ 9007199254740992 * T) (hM : ab e + q.natAbs + e.length * T ≤ M) :
    growOk (fun q x => q.natAbs ≤ M ∧ x.natAbs ≤ M) e q := by
  induction e generalizing q with
  | nil => trivial
  | cons x e ih =>
    simp only [ab, List.length_cons, Nat.add_mul, Nat.one_mul] at h hM
    have h1 : (q + x).natAbs ≤ 9007199254740992 * T := by omega
    have h3 := Rn_small h1
    exact ⟨⟨by omega, by omega⟩, ih (Rn (q + x)) (by omega) (by omega)⟩

/-- The first way of neat: from the greatest float down (the list turned about). -/
def dnG : List Int → Int → List Int
  | [], _ => []
  | x :: e, q => if er (q + x) ≠ 0 then Rn (q + x) :: dnG e (er (q + x)) else dnG e (Rn (q + x))
def dnQ : List Int → Int → Int
  | [], q => q
  | x :: e, q => if er (q + x) ≠ 0 then dnQ e (er (q + x)) else dnQ e (Rn (q + x))
theorem dn_sum (e : List Int) (q : Int) : (dnG e q).sum + dnQ e q = e.sum + q := by
  induction e generalizing q with
  | nil => simp [dnG, dnQ]
  | cons x e ih =>
    by_cases h : er (q + x) ≠ 0
    · simp only [dnG, dnQ, if_pos h, List.sum_cons]
      have := ih (er (q + x))
      unfold er at this ⊢
      omega
    · simp only [dnG, dnQ, if_neg h, List.sum_cons]
      have := ih (Rn (q + x))
      unfold er at h
      omega
theorem dn_len (e : List Int) (q : Int) : (dnG e q).length ≤ e.length := by
  induction e generalizing q with
  | nil => simp [dnG]
  | cons x e ih =>
    by_cases h : er (q + x) ≠ 0
    · have := ih (er (q + x)); simp only [dnG, if_pos h, List.length_cons]; omega
    · have := ih (Rn (q + x)); simp only [dnG, if_neg h, List.length_cons]; omega
def dnOk (P : Int → Int → Prop) : List Int → Int → Prop
  | [], _ => True
  | x :: e, q => P q x ∧ dnOk P e (if er (q + x) ≠ 0 then er (q + x) else Rn (q + x))
theorem dn_bound {T M : Nat} (e : List Int) (q : Int) (h : ab e + q.natAbs + 2 * (e.length * T) ≤ 9007199254740992 * T) (hM : ab e + q.natAbs + 2 * (e.length * T) ≤ M) :
    ab (dnG e q) + (dnQ e q).natAbs ≤ ab e + q.natAbs + 2 * (e.length * T) ∧ dnOk (fun q x => q.natAbs ≤ M ∧ x.natAbs ≤ M) e q := by
  induction e generalizing q with
  | nil => exact ⟨by simp [dnG, dnQ, ab], trivial⟩
  | cons x e ih =>
    simp only [ab, List.length_cons, Nat.add_mul, Nat.one_mul] at h hM ⊢
    have h1 : (q + x).natAbs ≤ 9007199254740992 * T := by omega
    have h2 := er_small h1
    have h3 := Rn_small h1
    by_cases c : er (q + x) ≠ 0
    · obtain ⟨i1, i2⟩ := ih (er (q + x)) (by omega) (by omega)
      simp only [dnG, dnQ, dnOk, if_pos c, ab]
      exact ⟨by omega, ⟨by omega, by omega⟩, i2⟩
    · have c' : Rn (q + x) = q + x := by unfold er at c; omega
      obtain ⟨i1, i2⟩ := ih (Rn (q + x)) (by omega) (by omega)
      simp only [dnG, dnQ, dnOk, if_neg c]
      exact ⟨by omega, ⟨by omega, by omega⟩, i2⟩
/-- The second way goes up through what the first one left: errors below, the last float above. -/
def upE : List Int → Int → List Int
  | [], _ => []
  | g :: l, q => nz (er (g + q)) ++ upE l (Rn (g + q))
def upQ : List Int → Int → Int
  | [], q => q
  | g :: l, q => upQ l (Rn (g + q))
theorem up_grow (l : List Int) (q : Int) : upE l q = growE l q ∧ upQ l q = growQ l q := by
  induction l generalizing q with
  | nil => exact ⟨rfl, rfl⟩
  | cons g l ih => obtain ⟨a, b⟩ := ih (Rn (q + g)); simp only [upE, upQ, growE, growQ, Int.add_comm g q]; exact ⟨by rw [a], b⟩
/-- neat of a list. -/
def neatE (l : List Int) : List Int := match l.reverse with
  | [] => []
  | q :: r => growE (dnG r q).reverse (dnQ r q)
def neatQ (l : List Int) : Int := match l.reverse with
  | [] => 0
  | q :: r => growQ (dnG r q).reverse (dnQ r q)
theorem sum_reverse (l : List Int) : l.reverse.sum = l.sum := by
  induction l with
  | nil => rfl
  | cons x l ih => simp [ih]; omega
theorem neat_sum (l : List Int) : (neatE l).sum + neatQ l = l.sum := by
  unfold neatE neatQ
  rw [← sum_reverse l]
  cases h : l.reverse with
  | nil => rfl
  | cons q r =>
    simp only []
    rw [grow_sum, sum_reverse, dn_sum, List.sum_cons]; omega
theorem neat_bound {T : Nat} (l : List Int) (h : ab l + 4 * (l.length * T) ≤ 9007199254740992 * T) :
    (∀ x ∈ neatE l, x.natAbs ≤ T) ∧ (neatQ l).natAbs ≤ ab l + 4 * (l.length * T) ∧ (neatE l).length ≤ l.length := by
  unfold neatE neatQ
  have ha := ab_reverse l
  have hl := List.length_reverse (as := l)
  cases hr : l.reverse with
  | nil => exact ⟨fun x hx => (by simp at hx), (by simp), (by simp)⟩
  | cons q r =>
    rw [hr] at ha hl
    simp only [ab, List.length_cons] at ha hl
    have e1 : l.length * T = r.length * T + T := by rw [← hl, Nat.add_mul, Nat.one_mul]
    obtain ⟨d1, -⟩ := dn_bound (T := T) (M := ab r + q.natAbs + 2 * (r.length * T)) r q (by omega) (Nat.le_refl _)
    have d2 := dn_len r q
    have d3 : (dnG r q).reverse.length * T ≤ r.length * T := by rw [List.length_reverse]; exact Nat.mul_le_mul_right T d2
    obtain ⟨g1, g2⟩ := grow_bound (T := T) (dnG r q).reverse (dnQ r q) (by rw [ab_reverse]; omega)
    rw [ab_reverse] at g2
    refine ⟨g1, by simp only []; omega, ?_⟩
    have := growE_len (dnG r q).reverse (dnQ r q)
    rw [List.length_reverse] at this
    simp only []; omega
end TV
namespace TV
/-- The lowest bit of a whole number. -/
def lowb (n : Nat) : Nat := if h : n = 0 then 0 else if n % 2 = 1 then 1 else 2 * lowb (n / 2)
termination_by n
decreasing_by omega
theorem lowb_zero : lowb 0 = 0 := by unfold lowb; rfl
theorem lowb_odd {n : Nat} (h : n % 2 = 1) : lowb n = 1 := by unfold lowb; rw [dif_neg (by omega), if_pos h]
theorem lowb_even {n : Nat} (h0 : n ≠ 0) (h : n % 2 = 0) : lowb n = 2 * lowb (n / 2) := by
  rw [lowb, dif_neg h0, if_neg (by omega)]
theorem lowb_two {n : Nat} (h0 : n ≠ 0) : lowb (2 * n) = 2 * lowb n := by rw [lowb_even (by omega) (by omega), show 2 * n / 2 = n by omega]
theorem lowb_pow {m : Nat} (k : Nat) (h : m ≠ 0) : lowb (m * 2 ^ k) = lowb m * 2 ^ k := by
  induction k with
  | zero => simp
  | succ k ih =>
    have h1 := Nat.two_pow_pos k
    rw [Nat.pow_succ, show m * (2 ^ k * 2) = 2 * (m * 2 ^ k) by rw [← Nat.mul_assoc, Nat.mul_comm], lowb_two (Nat.mul_ne_zero h (by omega)), ih]
    ac_rfl
theorem lowb_mk {m k : Nat} (h : m % 2 = 1) : lowb (m * 2 ^ k) = 2 ^ k := by rw [lowb_pow k (by omega), lowb_odd h, Nat.one_mul]
theorem lowb_parts : ∀ (n : Nat), n ≠ 0 → ∃ m k, m % 2 = 1 ∧ n = m * 2 ^ k ∧ lowb n = 2 ^ k := by
  intro n
  induction n using Nat.strongRecOn with
  | _ n ih =>
    intro h
    by_cases c : n % 2 = 1
    · exact ⟨n, 0, c, by simp, by rw [lowb_odd c, Nat.pow_zero]⟩
    · obtain ⟨m, k, h1, h2, h3⟩ := ih (n / 2) (by omega) (by omega)
      refine ⟨m, k + 1, h1, ?_, ?_⟩
      · rw [Nat.pow_succ, ← Nat.mul_assoc, ← h2]; omega
      · rw [lowb_even h (by omega), h3, Nat.pow_succ]; omega
theorem lowb_le {n : Nat} (h : n ≠ 0) : lowb n ≤ n := by
  obtain ⟨m, k, h1, h2, h3⟩ := lowb_parts n h
  rw [h3]; conv => rhs; rw [h2]
  exact Nat.le_mul_of_pos_left _ (by omega)
theorem lowb_pos {n : Nat} (h : n ≠ 0) : 0 < lowb n := by obtain ⟨m, k, -, -, h3⟩ := lowb_parts n h; rw [h3]; exact Nat.two_pow_pos k
/-- What is a multiple of 2^k has no lower bit. -/
theorem lowb_dvd {n k : Nat} (h : n ≠ 0) (hd : 2 ^ k ∣ n) : 2 ^ k ≤ lowb n := by
  obtain ⟨c, hc⟩ := hd
  have hc0 : c ≠ 0 := by rintro rfl; exact h (by rw [hc, Nat.mul_zero])
  rw [hc, Nat.mul_comm, lowb_pow k hc0]
  have := lowb_pos hc0
  exact Nat.le_mul_of_pos_left _ this

/-- What is rounded off is less than half of the lowest bit of what is kept, and so is what it is rounded to. -/
theorem er_low {n : Int} (h : er n ≠ 0) : (Rn (er n)).natAbs < lowb (Rn n).natAbs := by
  have hbig : 9007199254740992 < n.natAbs := by
    apply Classical.byContradiction
    intro hc
    exact h (by unfold er; rw [Rn_fix (Rep_small (by omega))]; omega)
  -- the least k for which n fits
  have hex : ∃ k, n.natAbs ≤ 9007199254740992 * 2 ^ k := ⟨n.natAbs, by have := Nat.lt_two_pow_self (n := n.natAbs); omega⟩
  obtain ⟨k, hk, hmin⟩ : ∃ k, n.natAbs ≤ 9007199254740992 * 2 ^ k ∧ ∀ j, j < k → ¬ n.natAbs ≤ 9007199254740992 * 2 ^ j := by
    obtain ⟨k0, h0⟩ := hex
    induction k0 using Nat.strongRecOn with
    | _ k0 ih =>
      by_cases c : ∃ j, j < k0 ∧ n.natAbs ≤ 9007199254740992 * 2 ^ j
      · obtain ⟨j, hj, hj2⟩ := c; exact ih j hj hj2
      · exact ⟨k0, h0, fun j hj hc => c ⟨j, hj, hc⟩⟩
  have hk0 : k ≠ 0 := by rintro rfl; simp at hk; omega
  obtain ⟨j, rfl⟩ : ∃ j, k = j + 1 := ⟨k - 1, by omega⟩
  have hlt := hmin j (by omega)
  have e2 : (2 : Nat) ^ (j + 1) = 2 * 2 ^ j := by rw [Nat.pow_succ, Nat.mul_comm]
  have hp := Nat.two_pow_pos j
  -- n is at least 2^52 2^(j+1)
  have hge : 4503599627370496 * 2 ^ (j + 1) ≤ n.natAbs := by rw [e2]; omega
  have hR : Rep ((4503599627370496 * 2 ^ (j + 1) : Nat) : Int) := Rep_mk (m := 4503599627370496) (k := j + 1) (by rw [Int.natCast_mul]; rfl) (by decide)
  have hRn := Rn_abs_le (n := n) hR (by rw [Int.natAbs_natCast]; exact hge)
  rw [Int.natAbs_natCast] at hRn
  have hd := Rep_dvd (Rep_Rn n) hRn
  have hd' : 2 ^ (j + 1) ∣ (Rn n).natAbs := by have := Int.natAbs_dvd_natAbs.2 hd; rwa [Int.natAbs_natCast] at this
  have hl := lowb_dvd (k := j + 1) (by omega) hd'
  have hh := Rn_half hk
  have he : (er n).natAbs ≤ 2 ^ j := by unfold er; rw [e2] at hh; omega
  have hRj : Rep ((2 ^ j : Nat) : Int) := Rep_mk (m := 1) (k := j) (by simp) (by decide)
  have h2 := Rn_abs_ge hRj (n := er n) (by rw [Int.natAbs_natCast]; exact he)
  rw [Int.natAbs_natCast] at h2
  rw [e2] at hl
  omega
theorem Rn_nz {n : Int} (h : n ≠ 0) : Rn n ≠ 0 := by
  have := Rn_abs_le (f := 1) (n := n) (Rep_small (by decide)) (by simp; omega)
  simp at this
  omega

/-- May a list be: no float nought, none above M, each one below the lowest bit of the next. -/
def okI (M : Nat) : List Int → Prop
  | [] => True
  | [x] => x ≠ 0 ∧ x.natAbs ≤ M
  | x :: y :: l => (x ≠ 0 ∧ x.natAbs ≤ M) ∧ x.natAbs < lowb y.natAbs ∧ okI M (y :: l)
/-- The slow way: the nearest float of what is left, again and again. -/
def slowR (fuel : Nat) (n : Int) (acc : List Int) : List Int := match fuel with
  | 0 => acc
  | f + 1 => if n = 0 then acc else slowR f (er n) (Rn n :: acc)
theorem er_lt {n : Int} (h : n ≠ 0) : (er n).natAbs < n.natAbs := by have := er_err n; omega
theorem slow_sum (fuel : Nat) (n : Int) (acc : List Int) (h : n.natAbs < fuel) : (slowR fuel n acc).sum = n + acc.sum := by
  induction fuel generalizing n acc with
  | zero => omega
  | succ f ih =>
    unfold slowR
    by_cases c : n = 0
    · rw [if_pos c, c]; simp
    · rw [if_neg c, ih _ _ (by have := er_lt c; omega), List.sum_cons]; unfold er; omega
theorem slow_ok {M : Nat} (hM : Rep M) (fuel : Nat) (n : Int) (acc : List Int) (hn : n.natAbs ≤ M) (ha : okI M acc) (hc : ∀ x l, acc = x :: l → n ≠ 0 → (Rn n).natAbs < lowb x.natAbs) : okI M (slowR fuel n acc) := by
  induction fuel generalizing n acc with
  | zero => exact ha
  | succ f ih =>
    unfold slowR
    by_cases c : n = 0
    · rw [if_pos c]; exact ha
    · rw [if_neg c]
      have h1 := Rn_abs_ge hM (n := n) (by rw [Int.natAbs_natCast]; exact hn)
      rw [Int.natAbs_natCast] at h1
      refine ih _ _ (by have := er_lt c; omega) ?_ ?_
      · cases acc with
        | nil => exact ⟨Rn_nz c, h1⟩
        | cons x l => exact ⟨⟨Rn_nz c, h1⟩, hc x l rfl c, ha⟩
      · intro x l hx he
        simp only [List.cons.injEq] at hx
        rw [← hx.1]
        exact er_low he
theorem slow_len (j fuel : Nat) (n : Int) (acc : List Int) (h : n.natAbs < 2 ^ (53 * j)) : (slowR fuel n acc).length ≤ acc.length + j := by
  induction fuel generalizing n acc j with
  | zero => simp [slowR]
  | succ f ih =>
    unfold slowR
    by_cases c : n = 0
    · rw [if_pos c]; omega
    · rw [if_neg c]
      cases j with
      | zero => simp at h; omega
      | succ j =>
        have h1 := er_err n
        have h2 : (er n).natAbs < 2 ^ (53 * j) := by
          rw [show 53 * (j + 1) = 53 * j + 53 by omega, Nat.pow_add, show (2 : Nat) ^ 53 = 9007199254740992 by decide] at h
          omega
        have := ih j (er n) (Rn n :: acc) h2
        simp only [List.length_cons] at this
        omega
theorem slow_ab {T : Nat} (fuel : Nat) (n : Int) (acc : List Int) (h : n.natAbs ≤ 9007199254740992 * T) (hT : Rep T) : ∃ t : List Int, (∀ x ∈ t, x.natAbs ≤ T) ∧ (slowR fuel n acc = acc ∨ slowR fuel n acc = t ++ Rn n :: acc) := by
  have key : ∀ (f : Nat) (m : Int) (a : List Int), m.natAbs ≤ T → ∃ t : List Int, (∀ x ∈ t, x.natAbs ≤ T) ∧ slowR f m a = t ++ a := by
    intro f
    induction f with
    | zero => intro m a _; exact ⟨[], by simp, rfl⟩
    | succ f ih =>
      intro m a hm
      unfold slowR
      by_cases c : m = 0
      · rw [if_pos c]; exact ⟨[], by simp, rfl⟩
      · rw [if_neg c]
        obtain ⟨t, h1, h2⟩ := ih (er m) (Rn m :: a) (by have := er_lt c; omega)
        have h3 := Rn_abs_ge hT (n := m) (by rw [Int.natAbs_natCast]; exact hm)
        rw [Int.natAbs_natCast] at h3
        refine ⟨t ++ [Rn m], fun x hx => ?_, by rw [h2]; simp⟩
        rcases List.mem_append.1 hx with hx | hx
        · exact h1 x hx
        · rw [List.mem_singleton.1 hx]; exact h3
  cases fuel with
  | zero => exact ⟨[], by simp, Or.inl rfl⟩
  | succ f =>
    unfold slowR
    by_cases c : n = 0
    · rw [if_pos c]; exact ⟨[], by simp, Or.inl rfl⟩
    · rw [if_neg c]
      obtain ⟨t, h1, h2⟩ := key f (er n) (Rn n :: acc) (er_small h)
      exact ⟨t, h1, Or.inr h2⟩

/-- The order in which plus takes the floats. -/
def mergeI : List Int → List Int → List Int
  | [], f => f
  | x :: e, [] => x :: e
  | x :: e, y :: f => if x.natAbs < y.natAbs then x :: mergeI e (y :: f) else y :: mergeI (x :: e) f
termination_by e f => e.length + f.length
theorem merge_ab (e f : List Int) : ab (mergeI e f) = ab e + ab f := by
  fun_induction mergeI e f with
  | case1 f => simp [ab]
  | case2 x e => simp [ab]
  | case3 x e y f h ih => simp only [ab, ih] at *; omega
  | case4 x e y f h ih => simp only [ab, ih] at *; omega
theorem merge_sum (e f : List Int) : (mergeI e f).sum = e.sum + f.sum := by
  fun_induction mergeI e f with
  | case1 f => simp
  | case2 x e => simp
  | case3 x e y f h ih => simp only [List.sum_cons] at *; omega
  | case4 x e y f h ih => simp only [List.sum_cons] at *; omega
theorem merge_len (e f : List Int) : (mergeI e f).length = e.length + f.length := by
  fun_induction mergeI e f with
  | case1 f => simp
  | case2 x e => simp
  | case3 x e y f h ih => simp only [List.length_cons] at *; omega
  | case4 x e y f h ih => simp only [List.length_cons] at *; omega
/-- Many floats are added, one after the other. -/
def growsI : List Int → List Int → List Int
  | out, [] => out
  | out, b :: bs => growsI (growI out b) bs
theorem grows_sum (out bs : List Int) : (growsI out bs).sum = out.sum + bs.sum := by
  induction bs generalizing out with
  | nil => simp [growsI]
  | cons b bs ih => rw [growsI, ih, growI_sum, List.sum_cons]; omega
/-- A list whose floats but the last one are small. -/
def Sm (T Q : Nat) (l : List Int) : Prop := ∃ t q, l = t ++ nz q ∧ (∀ x ∈ t, x.natAbs ≤ T) ∧ q.natAbs ≤ Q
theorem Sm.ab {T Q : Nat} {l : List Int} (h : Sm T Q l) : ab l ≤ l.length * T + Q := by
  obtain ⟨t, q, rfl, h1, h2⟩ := h
  rw [ab_append, nz_ab, List.length_append, Nat.add_mul]
  have := ab_le h1
  omega
theorem grows_bound {T N : Nat} (bs : List Int) (out : List Int) (Q : Nat) (h : Sm T Q out) (hN : out.length + bs.length ≤ N) (hT : Q + TV.ab bs + bs.length * (2 * N * T) + 2 * N * T ≤ 9007199254740992 * T) :
    Sm T (Q + TV.ab bs + bs.length * (2 * N * T)) (growsI out bs) ∧ (growsI out bs).length ≤ out.length + bs.length := by
  induction bs generalizing out Q with
  | nil => exact ⟨by simpa [growsI, TV.ab] using h, by simp [growsI]⟩
  | cons b bs ih =>
    simp only [TV.ab, List.length_cons, Nat.add_mul, Nat.one_mul] at hT hN ⊢
    have ha := h.ab
    have hl : out.length * T ≤ N * T := Nat.mul_le_mul_right T (by omega)
    have e1 : 2 * N * T = N * T + N * T := by rw [Nat.mul_assoc]; omega
    obtain ⟨g1, g2⟩ := grow_bound (T := T) out b (by omega)
    have g3 := growI_len out b
    have hs : Sm T (Q + b.natAbs + 2 * N * T) (growI out b) := ⟨growE out b, growQ out b, grow_parts out b, g1, by omega⟩
    obtain ⟨i1, i2⟩ := ih (growI out b) _ hs (by omega) (by omega)
    refine ⟨?_, by rw [growsI]; omega⟩
    rw [growsI]
    obtain ⟨t, q, k1, k2, k3⟩ := i1
    exact ⟨t, q, k1, k2, by omega⟩
end TV
namespace TV
/-- A finite float. -/
def Fl (x : Nat) : Prop := x < 18446744073709551616 ∧ rung x < inf
/-- 2^1000, in units. -/
def tameM : Nat := 2 ^ 2074
theorem tameM_mag : mag 9110782046170513408 = tameM := by unfold tameM; decide +kernel
theorem mag_le_iff {r s : Nat} : mag r ≤ mag s ↔ r ≤ s := by
  constructor
  · intro h; apply Classical.byContradiction; intro c; have := mag_lt (show s < r by omega); omega
  · intro h; rcases Nat.lt_or_eq_of_le h with h | h
    · exact Nat.le_of_lt (mag_lt h)
    · rw [h]; exact Nat.le_refl _
theorem mag_lt_iff {r s : Nat} : mag r < mag s ↔ r < s := by
  have h1 := @mag_le_iff s r
  omega
theorem tame_iff (x : Nat) : tameB x = true ↔ (fv x).natAbs ≤ tameM := by
  unfold tameB
  rw [decide_eq_true_eq, fv_natAbs, ← tameM_mag]
  exact mag_le_iff.symm
theorem fv_zero_iff (x : Nat) : fv x = 0 ↔ rung x = 0 := by
  constructor
  · intro h
    have h1 : (fv x).natAbs = 0 := by rw [h]; rfl
    rw [fv_natAbs] at h1
    apply Classical.byContradiction
    intro c
    have h2 := mag_lt (show 0 < rung x by omega)
    rw [mag_zero] at h2
    omega
  · exact fv_zero_of
def nzB (x : Nat) : List Nat := if rung x ≠ 0 then [x] else []
theorem nzB_fv (x : Nat) : (nzB x).map fv = nz (fv x) := by
  unfold nzB nz
  by_cases h : rung x = 0
  · rw [if_neg (by simpa using h), if_neg (by simpa using fv_zero_of h)]; rfl
  · rw [if_pos h, if_pos (fun c => h ((fv_zero_iff x).1 c))]; rfl
theorem nzB_mem {x y : Nat} (h : y ∈ nzB x) : y = x := by unfold nzB at h; split at h <;> simp_all
theorem s_tame {a b : Nat} (ha : (fv a).natAbs ≤ tameM) (hb : (fv b).natAbs ≤ tameM) : Fl (sHi a b) ∧ Fl (sLo a b) ∧ fv (sHi a b) = Rn (fv a + fv b) ∧ fv (sLo a b) = er (fv a + fv b) := by
  obtain ⟨l1, l2, r1, r2, v1, v2⟩ := s_any a b
  have e : sVal a b = fv a + fv b := by unfold sVal; rw [if_pos (by rw [(tame_iff a).2 ha, (tame_iff b).2 hb]; rfl)]
  rw [e] at v1 v2
  have hi : (9119789245425254400 : Nat) < inf := by decide
  exact ⟨⟨l1, by omega⟩, ⟨l2, by omega⟩, v1, by rw [v2]; rfl⟩

def growB : List Nat → Nat → List Nat
  | [], q => nzB q
  | x :: e, q => nzB (sLo q x) ++ growB e (sHi q x)
def tmP (q x : Int) : Prop := q.natAbs ≤ tameM ∧ x.natAbs ≤ tameM
theorem growB_fv (e : List Nat) (q : Nat) (hq : Fl q) (h : growOk tmP (e.map fv) (fv q)) : (growB e q).map fv = growI (e.map fv) (fv q) ∧ ∀ y ∈ growB e q, Fl y := by
  induction e generalizing q with
  | nil => exact ⟨nzB_fv q, fun y hy => by rw [nzB_mem hy]; exact hq⟩
  | cons x e ih =>
    obtain ⟨⟨h1, h2⟩, h3⟩ := h
    obtain ⟨f1, f2, v1, v2⟩ := s_tame h1 h2
    rw [← v1] at h3
    obtain ⟨i1, i2⟩ := ih (sHi q x) f1 h3
    refine ⟨?_, fun y hy => ?_⟩
    · simp only [growB, List.map_append, nzB_fv, i1, List.map_cons, growI, v1, v2]
    · rcases List.mem_append.1 hy with hy | hy
      · rw [nzB_mem hy]; exact f2
      · exact i2 y hy
theorem growB_len (e : List Nat) (q : Nat) : (growB e q).length ≤ e.length + 1 := by
  have hn : ∀ x, (nzB x).length ≤ 1 := fun x => by unfold nzB; split <;> simp
  induction e generalizing q with
  | nil => simpa [growB] using hn q
  | cons x e ih => have := ih (sHi q x); have := hn (sLo q x); simp only [growB, List.length_append, List.length_cons]; omega

/-- neat, in bits: the first way (the list turned about), the second one. -/
def dnBg : List Nat → Nat → List Nat
  | [], _ => []
  | x :: e, q => if rung (sLo q x) ≠ 0 then sHi q x :: dnBg e (sLo q x) else dnBg e (sHi q x)
def dnBq : List Nat → Nat → Nat
  | [], q => q
  | x :: e, q => if rung (sLo q x) ≠ 0 then dnBq e (sLo q x) else dnBq e (sHi q x)
theorem dnB_fv (e : List Nat) (q : Nat) (hq : Fl q) (h : dnOk tmP (e.map fv) (fv q)) :
    (dnBg e q).map fv = dnG (e.map fv) (fv q) ∧ fv (dnBq e q) = dnQ (e.map fv) (fv q) ∧ (∀ y ∈ dnBg e q, Fl y) ∧ Fl (dnBq e q) := by
  induction e generalizing q with
  | nil => exact ⟨rfl, rfl, fun y hy => (by cases hy), hq⟩
  | cons x e ih =>
    obtain ⟨⟨h1, h2⟩, h3⟩ := h
    obtain ⟨f1, f2, v1, v2⟩ := s_tame h1 h2
    by_cases c : rung (sLo q x) = 0
    · have c' : er (fv q + fv x) = 0 := by rw [← v2]; exact fv_zero_of c
      rw [if_neg (by simpa using c'), ← v1] at h3
      obtain ⟨i1, i2, i3, i4⟩ := ih (sHi q x) f1 h3
      have n1 : ¬ rung (sLo q x) ≠ 0 := by simpa using c
      have n2 : ¬ er (fv q + fv x) ≠ 0 := by simpa using c'
      simp only [dnBg, dnBq, List.map_cons, dnG, dnQ, if_neg n1, if_neg n2]
      rw [← v1]
      exact ⟨i1, i2, i3, i4⟩
    · have c' : er (fv q + fv x) ≠ 0 := by rw [← v2]; exact fun z => c ((fv_zero_iff _).1 z)
      rw [if_pos c', ← v2] at h3
      obtain ⟨i1, i2, i3, i4⟩ := ih (sLo q x) f2 h3
      simp only [dnBg, dnBq, List.map_cons, dnG, dnQ, if_pos c, if_pos c']
      rw [← v1, ← v2]
      refine ⟨by simp only [i1], i2, fun y hy => ?_, i4⟩
      rcases List.mem_cons.1 hy with rfl | hy
      · exact f1
      · exact i3 y hy
/-- The second way takes what the first one left from its end; the float that is taken stands first in the sum. -/
def upB : List Nat → Nat → List Nat
  | [], q => nzB q
  | g :: l, q => nzB (sLo g q) ++ upB l (sHi g q)
theorem upB_fv (l : List Nat) (q : Nat) (hq : Fl q) (h : growOk tmP (l.map fv) (fv q)) : (upB l q).map fv = growI (l.map fv) (fv q) ∧ ∀ y ∈ upB l q, Fl y := by
  induction l generalizing q with
  | nil => exact ⟨nzB_fv q, fun y hy => by rw [nzB_mem hy]; exact hq⟩
  | cons x e ih =>
    obtain ⟨⟨h1, h2⟩, h3⟩ := h
    obtain ⟨f1, f2, v1, v2⟩ := s_tame h2 h1
    rw [Int.add_comm] at v1 v2
    rw [← v1] at h3
    obtain ⟨i1, i2⟩ := ih (sHi x q) f1 h3
    refine ⟨?_, fun y hy => ?_⟩
    · simp only [upB, List.map_append, nzB_fv, i1, List.map_cons, growI, v1, v2]
    · rcases List.mem_append.1 hy with hy | hy
      · rw [nzB_mem hy]; exact f2
      · exact i2 y hy
def neatB (l : List Nat) : List Nat := match l.reverse with
  | [] => []
  | q :: r => upB (dnBg r q).reverse (dnBq r q)
theorem neatB_fv {T : Nat} (l : List Nat) (hl : ∀ y ∈ l, Fl y) (h : ab (l.map fv) + 4 * (l.length * T) ≤ 9007199254740992 * T) (hM : ab (l.map fv) + 4 * (l.length * T) ≤ tameM) :
    (neatB l).map fv = neatE (l.map fv) ++ nz (neatQ (l.map fv)) ∧ ∀ y ∈ neatB l, Fl y := by
  unfold neatB neatE neatQ
  rw [← List.map_reverse]
  have ha := ab_reverse (l.map fv)
  rw [← List.map_reverse] at ha
  have hn := List.length_reverse (as := l)
  cases hr : l.reverse with
  | nil => exact ⟨rfl, fun y hy => (by cases hy)⟩
  | cons q r =>
    have hm : ∀ y ∈ q :: r, Fl y := fun y hy => hl y (by rw [← hr] at hy; exact List.mem_reverse.1 hy)
    rw [hr] at ha hn
    simp only [List.map_cons, ab, List.length_cons] at ha hn ⊢
    have e1 : l.length * T = r.length * T + T := by rw [← hn, Nat.add_mul, Nat.one_mul]
    have e2 : (r.map fv).length = r.length := List.length_map ..
    obtain ⟨d1, d2⟩ := dn_bound (T := T) (M := tameM) (r.map fv) (fv q) (by rw [e2]; omega) (by rw [e2]; omega)
    obtain ⟨b1, b2, b3, b4⟩ := dnB_fv r q (hm q (by simp)) d2
    rw [e2] at d1
    have d3 : (dnG (r.map fv) (fv q)).reverse.length * T ≤ r.length * T := by
      rw [List.length_reverse]; have := dn_len (r.map fv) (fv q); rw [e2] at this; exact Nat.mul_le_mul_right T this
    have g := grow_ok (T := T) (M := tameM) (dnG (r.map fv) (fv q)).reverse (dnQ (r.map fv) (fv q)) (by rw [ab_reverse]; omega) (by rw [ab_reverse]; omega)
    rw [← b1, ← b2, ← List.map_reverse] at g
    obtain ⟨u1, u2⟩ := upB_fv (dnBg r q).reverse (dnBq r q) b4 g
    refine ⟨?_, u2⟩
    rw [u1, grow_parts, List.map_reverse, b1, b2]
end TV
