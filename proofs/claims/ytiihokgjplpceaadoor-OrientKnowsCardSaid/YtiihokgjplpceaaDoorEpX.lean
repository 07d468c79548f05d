/- Texts of one kind, joined. -/
import Derived.Test.YtiihokgjplpceaaDoorPuA

section
/- Sums of floats that stand for one number: the reckoning on whole numbers, and in bits. -/
/-! Sums of floats that stand for one number: the reckoning on whole numbers (units of 2^-1074). -/
namespace TV
/-- The sum of the magnitudes. -/
def ab : List Int → Nat
  | [] => 0
  | x :: l => x.natAbs + ab l
theorem ab_append (l m : List Int) : ab (l ++ m) = ab l + ab m := by
  induction l with
  | nil => simp [ab]
  | cons x l ih => simp [ab, ih]; omega
theorem ab_reverse (l : List Int) : ab l.reverse = ab l := by
  induction l with
  | nil => rfl
  | cons x l ih => simp [ab_append, ab, ih]; omega
theorem ab_le {l : List Int} {T : Nat} (h : ∀ x ∈ l, x.natAbs ≤ T) : ab l ≤ l.length * T := by
  induction l with
  | nil => simp [ab]
  | cons x l ih =>
    have h1 := h x (by simp)
    have h2 := ih (fun y hy => h y (by simp [hy]))
    simp only [ab, List.length_cons, Nat.add_mul, Nat.one_mul]; omega
theorem ab_mem {l : List Int} {x : Int} (h : x ∈ l) : x.natAbs ≤ ab l := by
  induction l with
  | nil => cases h
  | cons y l ih =>
    simp only [ab]
    rcases List.mem_cons.1 h with rfl | h
    · omega
    · have := ih h; omega
theorem sum_le_ab (l : List Int) : l.sum.natAbs ≤ ab l := by
  induction l with
  | nil => simp [ab]
  | cons x l ih => simp only [List.sum_cons, ab]; omega

/-- What was rounded off. -/
def er (t : Int) : Int := t - Rn t
theorem er_err (t : Int) : (er t).natAbs * 9007199254740992 ≤ t.natAbs := by
  have := Rn_err t
  rw [show (er t).natAbs = (Rn t - t).natAbs by unfold er; omega]; exact this
theorem er_small {t : Int} {T : Nat} (h : t.natAbs ≤ 9007199254740992 * T) : (er t).natAbs ≤ T := by
  have := er_err t
  omega
theorem Rn_small {t : Int} {T : Nat} (h : t.natAbs ≤ 9007199254740992 * T) : (Rn t).natAbs ≤ t.natAbs + T := by
  have := er_small h
  unfold er at this
  omega
def nz (x : Int) : List Int := if x ≠ 0 then [x] else []
theorem nz_sum (x : Int) : (nz x).sum = x := by unfold nz; split <;> simp_all
theorem nz_len (x : Int) : (nz x).length ≤ 1 := by unfold nz; split <;> simp
theorem nz_ab (x : Int) : ab (nz x) = x.natAbs := by unfold nz; split <;> simp_all [ab]
theorem nz_mem {x y : Int} (h : y ∈ nz x) : y = x ∧ x ≠ 0 := by unfold nz at h; split at h <;> simp_all

/-- A float is added to a sum. -/
def growI : List Int → Int → List Int
  | [], q => nz q
  | x :: e, q => nz (er (q + x)) ++ growI e (Rn (q + x))
/-- The errors alone, and the last float. -/
def growE : List Int → Int → List Int
  | [], _ => []
  | x :: e, q => nz (er (q + x)) ++ growE e (Rn (q + x))
def growQ : List Int → Int → Int
  | [], q => q
  | x :: e, q => growQ e (Rn (q + x))
theorem grow_parts (e : List Int) (q : Int) : growI e q = growE e q ++ nz (growQ e q) := by
  induction e generalizing q with
  | nil => rfl
  | cons x e ih => simp [growI, growE, growQ, ih]
theorem grow_sum (e : List Int) (q : Int) : (growE e q).sum + growQ e q = e.sum + q := by
  induction e generalizing q with
  | nil => simp [growE, growQ]
  | cons x e ih =>
    simp only [growE, growQ, List.sum_append, List.sum_cons, nz_sum]
    have := ih (Rn (q + x))
    unfold er
    omega
theorem growI_sum (e : List Int) (q : Int) : (growI e q).sum = e.sum + q := by
  rw [grow_parts, List.sum_append, nz_sum]; exact grow_sum e q
theorem growE_len (e : List Int) (q : Int) : (growE e q).length ≤ e.length := by
  induction e generalizing q with
  | nil => simp [growE]
  | cons x e ih => have := ih (Rn (q + x)); have := nz_len (er (q + x)); simp only [growE, List.length_append, List.length_cons]; omega
theorem growI_len (e : List Int) (q : Int) : (growI e q).length ≤ e.length + 1 := by
  rw [grow_parts, List.length_append]
  have := growE_len e q
  have := nz_len (growQ e q)
  omega
/-- The bounds: the errors are small, the last float is not much greater than all magnitudes together. -/
theorem grow_bound {T : Nat} (e : List Int) (q : Int) (h : ab e + q.natAbs + e.length * T ≤ 9007199254740992 * T) :
    (∀ x ∈ growE e q, x.natAbs ≤ T) ∧ (growQ e q).natAbs ≤ ab e + q.natAbs + e.length * T := by
  induction e generalizing q with
  | nil => exact ⟨fun x hx => by simp [growE] at hx, by simp [growQ, ab]⟩
  | cons x e ih =>
    simp only [ab, List.length_cons, Nat.add_mul, Nat.one_mul] at h ⊢
    have h1 : (q + x).natAbs ≤ 9007199254740992 * T := by omega
    have h2 := er_small h1
    have h3 := Rn_small h1
    obtain ⟨i1, i2⟩ := ih (Rn (q + x)) (by omega)
    refine ⟨fun y hy => ?_, by simp only [growQ]; omega⟩
    simp only [growE, List.mem_append] at hy
    rcases hy with hy | hy
    · rw [(nz_mem hy).1]; exact h2
    · exact i1 y hy
/-- The sums on the way are bounded as well: what is asked of each step (that it may be reckoned exactly). -/
def growOk (P : Int → Int → Prop) : List Int → Int → Prop
  | [], _ => True
  | x :: e, q => P q x ∧ growOk P e (Rn (q + x))
theorem grow_ok {T M : Nat} (e : List Int) (q : Int) (h : ab e + q.natAbs + e.length * T ≤ 9007199254740992 * T) (hM : ab e + q.natAbs + e.length * T ≤ M) :
    growOk (fun q x => q.natAbs ≤ M ∧ x.natAbs ≤ M) e q := by
  induction e generalizing q with
  | nil => trivial
  | cons x e ih =>
    simp only [ab, List.length_cons, Nat.add_mul, Nat.one_mul] at h hM
    have h1 : (q + x).natAbs ≤ 9007199254740992 * T := by omega
    have h3 := Rn_small h1
    exact ⟨⟨by omega, by omega⟩, ih (Rn (q + x)) (by omega) (by omega)⟩

/-- The first way of neat: from the greatest float down (the list turned about). -/
def dnG : List Int → Int → List Int
  | [], _ => []
  | x :: e, q => if er (q + x) ≠ 0 then Rn (q + x) :: dnG e (er (q + x)) else dnG e (Rn (q + x))
def dnQ : List Int → Int → Int
  | [], q => q
  | x :: e, q => if er (q + x) ≠ 0 then dnQ e (er (q + x)) else dnQ e (Rn (q + x))
theorem dn_sum (e : List Int) (q : Int) : (dnG e q).sum + dnQ e q = e.sum + q := by
  induction e generalizing q with
  | nil => simp [dnG, dnQ]
  | cons x e ih =>
    by_cases h : er (q + x) ≠ 0
    · simp only [dnG, dnQ, if_pos h, List.sum_cons]
      have := ih (er (q + x))
      unfold er at this ⊢
      omega
    · simp only [dnG, dnQ, if_neg h, List.sum_cons]
      have := ih (Rn (q + x))
      unfold er at h
      omega
theorem dn_len (e : List Int) (q : Int) : (dnG e q).length ≤ e.length := by
  induction e generalizing q with
  | nil => simp [dnG]
  | cons x e ih =>
    by_cases h : er (q + x) ≠ 0
    · have := ih (er (q + x)); simp only [dnG, if_pos h, List.length_cons]; omega
    · have := ih (Rn (q + x)); simp only [dnG, if_neg h, List.length_cons]; omega
def dnOk (P : Int → Int → Prop) : List Int → Int → Prop
  | [], _ => True
  | x :: e, q => P q x ∧ dnOk P e (if er (q + x) ≠ 0 then er (q + x) else Rn (q + x))
theorem dn_bound {T M : Nat} (e : List Int) (q : Int) (h : ab e + q.natAbs + 2 * (e.length * T) ≤ 9007199254740992 * T) (hM : ab e + q.natAbs + 2 * (e.length * T) ≤ M) :
    ab (dnG e q) + (dnQ e q).natAbs ≤ ab e + q.natAbs + 2 * (e.length * T) ∧ dnOk (fun q x => q.natAbs ≤ M ∧ x.natAbs ≤ M) e q := by
  induction e generalizing q with
  | nil => exact ⟨by simp [dnG, dnQ, ab], trivial⟩
  | cons x e ih =>
    simp only [ab, List.length_cons, Nat.add_mul, Nat.one_mul] at h hM ⊢
    have h1 : (q + x).natAbs ≤ 9007199254740992 * T := by omega
    have h2 := er_small h1
    have h3 := Rn_small h1
    by_cases c : er (q + x) ≠ 0
    · obtain ⟨i1, i2⟩ := ih (er (q + x)) (by omega) (by omega)
      simp only [dnG, dnQ, dnOk, if_pos c, ab]
      exact ⟨by omega, ⟨by omega, by omega⟩, i2⟩
    · have c' : Rn (q + x) = q + x := by unfold er at c; omega
      obtain ⟨i1, i2⟩ := ih (Rn (q + x)) (by omega) (by omega)
      simp only [dnG, dnQ, dnOk, if_neg c]
      exact ⟨by omega, ⟨by omega, by omega⟩, i2⟩
/-- The second way goes up through what the first one left: errors below, the last float above. -/
def upE : List Int → Int → List Int
  | [], _ => []
  | g :: l, q => nz (er (g + q)) ++ upE l (Rn (g + q))
def upQ : List Int → Int → Int
  | [], q => q
  | g :: l, q => upQ l (Rn (g + q))
theorem up_grow (l : List Int) (q : Int) : upE l q = growE l q ∧ upQ l q = growQ l q := by
  induction l generalizing q with
  | nil => exact ⟨rfl, rfl⟩
  | cons g l ih => obtain ⟨a, b⟩ := ih (Rn (q + g)); simp only [upE, upQ, growE, growQ, Int.add_comm g q]; exact ⟨by rw [a], b⟩
/-- neat of a list. -/
def neatE (l : List Int) : List Int := match l.reverse with
  | [] => []
  | q :: r => growE (dnG r q).reverse (dnQ r q)
def neatQ (l : List Int) : Int := match l.reverse with
  | [] => 0
  | q :: r => growQ (dnG r q).reverse (dnQ r q)
theorem sum_reverse (l : List Int) : l.reverse.sum = l.sum := by
  induction l with
  | nil => rfl
  | cons x l ih => simp [ih]; omega
theorem neat_sum (l : List Int) : (neatE l).sum + neatQ l = l.sum := by
  unfold neatE neatQ
  rw [← sum_reverse l]
  cases h : l.reverse with
  | nil => rfl
  | cons q r =>
    simp only []
    rw [grow_sum, sum_reverse, dn_sum, List.sum_cons]; omega
theorem neat_bound {T : Nat} (l : List Int) (h : ab l + 4 * (l.length * T) ≤ 9007199254740992 * T) :
    (∀ x ∈ neatE l, x.natAbs ≤ T) ∧ (neatQ l).natAbs ≤ ab l + 4 * (l.length * T) ∧ (neatE l).length ≤ l.length := by
  unfold neatE neatQ
  have ha := ab_reverse l
  have hl := List.length_reverse (as := l)
  cases hr : l.reverse with
  | nil => exact ⟨fun x hx => (by simp at hx), (by simp), (by simp)⟩
  | cons q r =>
    rw [hr] at ha hl
    simp only [ab, List.length_cons] at ha hl
    have e1 : l.length * T = r.length * T + T := by rw [← hl, Nat.add_mul, Nat.one_mul]
    obtain ⟨d1, -⟩ := dn_bound (T := T) (M := ab r + q.natAbs + 2 * (r.length * T)) r q (by omega) (Nat.le_refl _)
    have d2 := dn_len r q
    have d3 : (dnG r q).reverse.length * T ≤ r.length * T := by rw [List.length_reverse]; exact Nat.mul_le_mul_right T d2
    obtain ⟨g1, g2⟩ := grow_bound (T := T) (dnG r q).reverse (dnQ r q) (by rw [ab_reverse]; omega)
    rw [ab_reverse] at g2
    refine ⟨g1, by simp only []; omega, ?_⟩
    have := growE_len (dnG r q).reverse (dnQ r q)
    rw [List.length_reverse] at this
    simp only []; omega
end TV
namespace TV
/-- The lowest bit of a whole number. -/
def lowb (n : Nat) : Nat := if h : n = 0 then 0 else if n % 2 = 1 then 1 else 2 * lowb (n / 2)
termination_by n
decreasing_by omega
theorem lowb_zero : lowb 0 = 0 := by unfold lowb; rfl
theorem lowb_odd {n : Nat} (h : n % 2 = 1) : lowb n = 1 := by unfold lowb; rw [dif_neg (by omega), if_pos h]
theorem lowb_even {n : Nat} (h0 : n ≠ 0) (h : n % 2 = 0) : lowb n = 2 * lowb (n / 2) := by
  rw [lowb, dif_neg h0, if_neg (by omega)]
theorem lowb_two {n : Nat} (h0 : n ≠ 0) : lowb (2 * n) = 2 * lowb n := by rw [lowb_even (by omega) (by omega), show 2 * n / 2 = n by omega]
theorem lowb_pow {m : Nat} (k : Nat) (h : m ≠ 0) : lowb (m * 2 ^ k) = lowb m * 2 ^ k := by
  induction k with
  | zero => simp
  | succ k ih =>
    have h1 := Nat.two_pow_pos k
    rw [Nat.pow_succ, show m * (2 ^ k * 2) = 2 * (m * 2 ^ k) by rw [← Nat.mul_assoc, Nat.mul_comm], lowb_two (Nat.mul_ne_zero h (by omega)), ih]
    ac_rfl
theorem lowb_mk {m k : Nat} (h : m % 2 = 1) : lowb (m * 2 ^ k) = 2 ^ k := by rw [lowb_pow k (by omega), lowb_odd h, Nat.one_mul]
theorem lowb_parts : ∀ (n : Nat), n ≠ 0 → ∃ m k, m % 2 = 1 ∧ n = m * 2 ^ k ∧ lowb n = 2 ^ k := by
  intro n
  induction n using Nat.strongRecOn with
  | _ n ih =>
    intro h
    by_cases c : n % 2 = 1
    · exact ⟨n, 0, c, by simp, by rw [lowb_odd c, Nat.pow_zero]⟩
    · obtain ⟨m, k, h1, h2, h3⟩ := ih (n / 2) (by omega) (by omega)
      refine ⟨m, k + 1, h1, ?_, ?_⟩
      · rw [Nat.pow_succ, ← Nat.mul_assoc, ← h2]; omega
      · rw [lowb_even h (by omega), h3, Nat.pow_succ]; omega
theorem lowb_le {n : Nat} (h : n ≠ 0) : lowb n ≤ n := by
  obtain ⟨m, k, h1, h2, h3⟩ := lowb_parts n h
  rw [h3]; conv => rhs; rw [h2]
  exact Nat.le_mul_of_pos_left _ (by omega)
theorem lowb_pos {n : Nat} (h : n ≠ 0) : 0 < lowb n := by obtain ⟨m, k, -, -, h3⟩ := lowb_parts n h; rw [h3]; exact Nat.two_pow_pos k
/-- What is a multiple of 2^k has no lower bit. -/
theorem lowb_dvd {n k : Nat} (h : n ≠ 0) (hd : 2 ^ k ∣ n) : 2 ^ k ≤ lowb n := by
  obtain ⟨c, hc⟩ := hd
  have hc0 : c ≠ 0 := by rintro rfl; exact h (by rw [hc, Nat.mul_zero])
  rw [hc, Nat.mul_comm, lowb_pow k hc0]
  have := lowb_pos hc0
  exact Nat.le_mul_of_pos_left _ this

/-- What is rounded off is less than half of the lowest bit of what is kept, and so is what it is rounded to. -/
theorem er_low {n : Int} (h : er n ≠ 0) : (Rn (er n)).natAbs < lowb (Rn n).natAbs := by
  have hbig : 9007199254740992 < n.natAbs := by
    apply Classical.byContradiction
    intro hc
    exact h (by unfold er; rw [Rn_fix (Rep_small (by omega))]; omega)
  -- the least k for which n fits
  have hex : ∃ k, n.natAbs ≤ 9007199254740992 * 2 ^ k := ⟨n.natAbs, by have := Nat.lt_two_pow_self (n := n.natAbs); omega⟩
  obtain ⟨k, hk, hmin⟩ : ∃ k, n.natAbs ≤ 9007199254740992 * 2 ^ k ∧ ∀ j, j < k → ¬ n.natAbs ≤ 9007199254740992 * 2 ^ j := by
    obtain ⟨k0, h0⟩ := hex
    induction k0 using Nat.strongRecOn with
    | _ k0 ih =>
      by_cases c : ∃ j, j < k0 ∧ n.natAbs ≤ 9007199254740992 * 2 ^ j
      · obtain ⟨j, hj, hj2⟩ := c; exact ih j hj hj2
      · exact ⟨k0, h0, fun j hj hc => c ⟨j, hj, hc⟩⟩
  have hk0 : k ≠ 0 := by rintro rfl; simp at hk; omega
  obtain ⟨j, rfl⟩ : ∃ j, k = j + 1 := ⟨k - 1, by omega⟩
  have hlt := hmin j (by omega)
  have e2 : (2 : Nat) ^ (j + 1) = 2 * 2 ^ j := by rw [Nat.pow_succ, Nat.mul_comm]
  have hp := Nat.two_pow_pos j
  -- n is at least 2^52 2^(j+1)
  have hge : 4503599627370496 * 2 ^ (j + 1) ≤ n.natAbs := by rw [e2]; omega
  have hR : Rep ((4503599627370496 * 2 ^ (j + 1) : Nat) : Int) := Rep_mk (m := 4503599627370496) (k := j + 1) (by rw [Int.natCast_mul]; rfl) (by decide)
  have hRn := Rn_abs_le (n := n) hR (by rw [Int.natAbs_natCast]; exact hge)
  rw [Int.natAbs_natCast] at hRn
  have hd := Rep_dvd (Rep_Rn n) hRn
  have hd' : 2 ^ (j + 1) ∣ (Rn n).natAbs := by have := Int.natAbs_dvd_natAbs.2 hd; rwa [Int.natAbs_natCast] at this
  have hl := lowb_dvd (k := j + 1) (by omega) hd'
  have hh := Rn_half hk
  have he : (er n).natAbs ≤ 2 ^ j := by unfold er; rw [e2] at hh; omega
  have hRj : Rep ((2 ^ j : Nat) : Int) := Rep_mk (m := 1) (k := j) (by simp) (by decide)
  have h2 := Rn_abs_ge hRj (n := er n) (by rw [Int.natAbs_natCast]; exact he)
  rw [Int.natAbs_natCast] at h2
  rw [e2] at hl
  omega
theorem Rn_nz {n : Int} (h : n ≠ 0) : Rn n ≠ 0 := by
  have := Rn_abs_le (f := 1) (n := n) (Rep_small (by decide)) (by simp; omega)
  simp at this
  omega

/-- May a list be: no float nought, none above M, each one below the lowest bit of the next. -/
def okI (M : Nat) : List Int → Prop
  | [] => True
  | [x] => x ≠ 0 ∧ x.natAbs ≤ M
  | x :: y :: l => (x ≠ 0 ∧ x.natAbs ≤ M) ∧ x.natAbs < lowb y.natAbs ∧ okI M (y :: l)
/-- The slow way: the nearest float of what is left, again and again. -/
def slowR (fuel : Nat) (n : Int) (acc : List Int) : List Int := match fuel with
  | 0 => acc
  | f + 1 => if n = 0 then acc else slowR f (er n) (Rn n :: acc)
theorem er_lt {n : Int} (h : n ≠ 0) : (er n).natAbs < n.natAbs := by have := er_err n; omega
theorem slow_sum (fuel : Nat) (n : Int) (acc : List Int) (h : n.natAbs < fuel) : (slowR fuel n acc).sum = n + acc.sum := by
  induction fuel generalizing n acc with
  | zero => omega
  | succ f ih =>
    unfold slowR
    by_cases c : n = 0
    · rw [if_pos c, c]; simp
    · rw [if_neg c, ih _ _ (by have := er_lt c; omega), List.sum_cons]; unfold er; omega
theorem slow_ok {M : Nat} (hM : Rep M) (fuel : Nat) (n : Int) (acc : List Int) (hn : n.natAbs ≤ M) (ha : okI M acc) (hc : ∀ x l, acc = x :: l → n ≠ 0 → (Rn n).natAbs < lowb x.natAbs) : okI M (slowR fuel n acc) := by
  induction fuel generalizing n acc with
  | zero => exact ha
  | succ f ih =>
    unfold slowR
    by_cases c : n = 0
    · rw [if_pos c]; exact ha
    · rw [if_neg c]
      have h1 := Rn_abs_ge hM (n := n) (by rw [Int.natAbs_natCast]; exact hn)
      rw [Int.natAbs_natCast] at h1
      refine ih _ _ (by have := er_lt c; omega) ?_ ?_
      · cases acc with
        | nil => exact ⟨Rn_nz c, h1⟩
        | cons x l => exact ⟨⟨Rn_nz c, h1⟩, hc x l rfl c, ha⟩
      · intro x l hx he
        simp only [List.cons.injEq] at hx
        rw [← hx.1]
        exact er_low he
theorem slow_len (j fuel : Nat) (n : Int) (acc : List Int) (h : n.natAbs < 2 ^ (53 * j)) : (slowR fuel n acc).length ≤ acc.length + j := by
  induction fuel generalizing n acc j with
  | zero => simp [slowR]
  | succ f ih =>
    unfold slowR
    by_cases c : n = 0
    · rw [if_pos c]; omega
    · rw [if_neg c]
      cases j with
      | zero => simp at h; omega
      | succ j =>
        have h1 := er_err n
        have h2 : (er n).natAbs < 2 ^ (53 * j) := by
          rw [show 53 * (j + 1) = 53 * j + 53 by omega, Nat.pow_add, show (2 : Nat) ^ 53 = 9007199254740992 by decide] at h
          omega
        have := ih j (er n) (Rn n :: acc) h2
        simp only [List.length_cons] at this
        omega
theorem slow_ab {T : Nat} (fuel : Nat) (n : Int) (acc : List Int) (h : n.natAbs ≤ 9007199254740992 * T) (hT : Rep T) : ∃ t : List Int, (∀ x ∈ t, x.natAbs ≤ T) ∧ (slowR fuel n acc = acc ∨ slowR fuel n acc = t ++ Rn n :: acc) := by
  have key : ∀ (f : Nat) (m : Int) (a : List Int), m.natAbs ≤ T → ∃ t : List Int, (∀ x ∈ t, x.natAbs ≤ T) ∧ slowR f m a = t ++ a := by
    intro f
    induction f with
    | zero => intro m a _; exact ⟨[], by simp, rfl⟩
    | succ f ih =>
      intro m a hm
      unfold slowR
      by_cases c : m = 0
      · rw [if_pos c]; exact ⟨[], by simp, rfl⟩
      · rw [if_neg c]
        obtain ⟨t, h1, h2⟩ := ih (er m) (Rn m :: a) (by have := er_lt c; omega)
        have h3 := Rn_abs_ge hT (n := m) (by rw [Int.natAbs_natCast]; exact hm)
        rw [Int.natAbs_natCast] at h3
        refine ⟨t ++ [Rn m], fun x hx => ?_, by rw [h2]; simp⟩
        rcases List.mem_append.1 hx with hx | hx
        · exact h1 x hx
        · rw [List.mem_singleton.1 hx]; exact h3
  cases fuel with
  | zero => exact ⟨[], by simp, Or.inl rfl⟩
  | succ f =>
    unfold slowR
    by_cases c : n = 0
    · rw [if_pos c]; exact ⟨[], by simp, Or.inl rfl⟩
    · rw [if_neg c]
      obtain ⟨t, h1, h2⟩ := key f (er n) (Rn n :: acc) (er_small h)
      exact ⟨t, h1, Or.inr h2⟩

/-- The order in which plus takes the floats. -/
def mergeI : List Int → List Int → List Int
  | [], f => f
  | x :: e, [] => x :: e
  | x :: e, y :: f => if x.natAbs < y.natAbs then x :: mergeI e (y :: f) else y :: mergeI (x :: e) f
termination_by e f => e.length + f.length
theorem merge_ab (e f : List Int) : ab (mergeI e f) = ab e + ab f := by
  fun_induction mergeI e f with
  | case1 f => simp [ab]
  | case2 x e => simp [ab]
  | case3 x e y f h ih => simp only [ab, ih] at *; omega
  | case4 x e y f h ih => simp only [ab, ih] at *; omega
theorem merge_sum (e f : List Int) : (mergeI e f).sum = e.sum + f.sum := by
  fun_induction mergeI e f with
  | case1 f => simp
  | case2 x e => simp
  | case3 x e y f h ih => simp only [List.sum_cons] at *; omega
  | case4 x e y f h ih => simp only [List.sum_cons] at *; omega
theorem merge_len (e f : List Int) : (mergeI e f).length = e.length + f.length := by
  fun_induction mergeI e f with
  | case1 f => simp
  | case2 x e => simp
  | case3 x e y f h ih => simp only [List.length_cons] at *; omega
  | case4 x e y f h ih => simp only [List.length_cons] at *; omega
/-- Many floats are added, one after the other. -/
def growsI : List Int → List Int → List Int
  | out, [] => out
  | out, b :: bs => growsI (growI out b) bs
theorem grows_sum (out bs : List Int) : (growsI out bs).sum = out.sum + bs.sum := by
  induction bs generalizing out with
  | nil => simp [growsI]
  | cons b bs ih => rw [growsI, ih, growI_sum, List.sum_cons]; omega
/-- A list whose floats but the last one are small. -/
def Sm (T Q : Nat) (l : List Int) : Prop := ∃ t q, l = t ++ nz q ∧ (∀ x ∈ t, x.natAbs ≤ T) ∧ q.natAbs ≤ Q
theorem Sm.ab {T Q : Nat} {l : List Int} (h : Sm T Q l) : ab l ≤ l.length * T + Q := by
  obtain ⟨t, q, rfl, h1, h2⟩ := h
  rw [ab_append, nz_ab, List.length_append, Nat.add_mul]
  have := ab_le h1
  omega
theorem grows_bound {T N : Nat} (bs : List Int) (out : List Int) (Q : Nat) (h : Sm T Q out) (hN : out.length + bs.length ≤ N) (hT : Q + TV.ab bs + bs.length * (2 * N * T) + 2 * N * T ≤ 9007199254740992 * T) :
    Sm T (Q + TV.ab bs + bs.length * (2 * N * T)) (growsI out bs) ∧ (growsI out bs).length ≤ out.length + bs.length := by
  induction bs generalizing out Q with
  | nil => exact ⟨by simpa [growsI, TV.ab] using h, by simp [growsI]⟩
  | cons b bs ih =>
    simp only [TV.ab, List.length_cons, Nat.add_mul, Nat.one_mul] at hT hN ⊢
    have ha := h.ab
    have hl : out.length * T ≤ N * T := Nat.mul_le_mul_right T (by omega)
    have e1 : 2 * N * T = N * T + N * T := by rw [Nat.mul_assoc]; omega
    obtain ⟨g1, g2⟩ := grow_bound (T := T) out b (by omega)
    have g3 := growI_len out b
    have hs : Sm T (Q + b.natAbs + 2 * N * T) (growI out b) := ⟨growE out b, growQ out b, grow_parts out b, g1, by omega⟩
    obtain ⟨i1, i2⟩ := ih (growI out b) _ hs (by omega) (by omega)
    refine ⟨?_, by rw [growsI]; omega⟩
    rw [growsI]
    obtain ⟨t, q, k1, k2, k3⟩ := i1
    exact ⟨t, q, k1, k2, by omega⟩
end TV
namespace TV
/-- A finite float. -/
def Fl (x : Nat) : Prop := x < 18446744073709551616 ∧ rung x < inf
/-- 2^1000, in units. -/
def tameM : Nat := 2 ^ 2074
theorem tameM_mag : mag 9110782046170513408 = tameM := by unfold tameM; decide +kernel
theorem mag_le_iff {r s : Nat} : mag r ≤ mag s ↔ r ≤ s := by
  constructor
  · intro h; apply Classical.byContradiction; intro c; have := mag_lt (show s < r by omega); omega
  · intro h; rcases Nat.lt_or_eq_of_le h with h | h
    · exact Nat.le_of_lt (mag_lt h)
    · rw [h]; exact Nat.le_refl _
theorem mag_lt_iff {r s : Nat} : mag r < mag s ↔ r < s := by
  have h1 := @mag_le_iff s r
  omega
theorem tame_iff (x : Nat) : tameB x = true ↔ (fv x).natAbs ≤ tameM := by
  unfold tameB
  rw [decide_eq_true_eq, fv_natAbs, ← tameM_mag]
  exact mag_le_iff.symm
theorem fv_zero_iff (x : Nat) : fv x = 0 ↔ rung x = 0 := by
  constructor
  · intro h
    have h1 : (fv x).natAbs = 0 := by rw [h]; rfl
    rw [fv_natAbs] at h1
    apply Classical.byContradiction
    intro c
    have h2 := mag_lt (show 0 < rung x by omega)
    rw [mag_zero] at h2
    omega
  · exact fv_zero_of
def nzB (x : Nat) : List Nat := if rung x ≠ 0 then [x] else []
theorem nzB_fv (x : Nat) : (nzB x).map fv = nz (fv x) := by
  unfold nzB nz
  by_cases h : rung x = 0
  · rw [if_neg (by simpa using h), if_neg (by simpa using fv_zero_of h)]; rfl
  · rw [if_pos h, if_pos (fun c => h ((fv_zero_iff x).1 c))]; rfl
theorem nzB_mem {x y : Nat} (h : y ∈ nzB x) : y = x := by unfold nzB at h; split at h <;> simp_all
theorem s_tame {a b : Nat} (ha : (fv a).natAbs ≤ tameM) (hb : (fv b).natAbs ≤ tameM) : Fl (sHi a b) ∧ Fl (sLo a b) ∧ fv (sHi a b) = Rn (fv a + fv b) ∧ fv (sLo a b) = er (fv a + fv b) := by
  obtain ⟨l1, l2, r1, r2, v1, v2⟩ := s_any a b
  have e : sVal a b = fv a + fv b := by unfold sVal; rw [if_pos (by rw [(tame_iff a).2 ha, (tame_iff b).2 hb]; rfl)]
  rw [e] at v1 v2
  have hi : (9119789245425254400 : Nat) < inf := by decide
  exact ⟨⟨l1, by omega⟩, ⟨l2, by omega⟩, v1, by rw [v2]; rfl⟩

def growB : List Nat → Nat → List Nat
  | [], q => nzB q
  | x :: e, q => nzB (sLo q x) ++ growB e (sHi q x)
def tmP (q x : Int) : Prop := q.natAbs ≤ tameM ∧ x.natAbs ≤ tameM
theorem growB_fv (e : List Nat) (q : Nat) (hq : Fl q) (h : growOk tmP (e.map fv) (fv q)) : (growB e q).map fv = growI (e.map fv) (fv q) ∧ ∀ y ∈ growB e q, Fl y := by
  induction e generalizing q with
  | nil => exact ⟨nzB_fv q, fun y hy => by rw [nzB_mem hy]; exact hq⟩
  | cons x e ih =>
    obtain ⟨⟨h1, h2⟩, h3⟩ := h
    obtain ⟨f1, f2, v1, v2⟩ := s_tame h1 h2
    rw [← v1] at h3
    obtain ⟨i1, i2⟩ := ih (sHi q x) f1 h3
    refine ⟨?_, fun y hy => ?_⟩
    · simp only [growB, List.map_append, nzB_fv, i1, List.map_cons, growI, v1, v2]
    · rcases List.mem_append.1 hy with hy | hy
      · rw [nzB_mem hy]; exact f2
      · exact i2 y hy
theorem growB_len (e : List Nat) (q : Nat) : (growB e q).length ≤ e.length + 1 := by
  have hn : ∀ x, (nzB x).length ≤ 1 := fun x => by unfold nzB; split <;> simp
  induction e generalizing q with
  | nil => simpa [growB] using hn q
  | cons x e ih => have := ih (sHi q x); have := hn (sLo q x); simp only [growB, List.length_append, List.length_cons]; omega

/-- neat, in bits: the first way (the list turned about), the second one. -/
def dnBg : List Nat → Nat → List Nat
  | [], _ => []
  | x :: e, q => if rung (sLo q x) ≠ 0 then sHi q x :: dnBg e (sLo q x) else dnBg e (sHi q x)
def dnBq : List Nat → Nat → Nat
  | [], q => q
  | x :: e, q => if rung (sLo q x) ≠ 0 then dnBq e (sLo q x) else dnBq e (sHi q x)
theorem dnB_fv (e : List Nat) (q : Nat) (hq : Fl q) (h : dnOk tmP (e.map fv) (fv q)) :
    (dnBg e q).map fv = dnG (e.map fv) (fv q) ∧ fv (dnBq e q) = dnQ (e.map fv) (fv q) ∧ (∀ y ∈ dnBg e q, Fl y) ∧ Fl (dnBq e q) := by
  induction e generalizing q with
  | nil => exact ⟨rfl, rfl, fun y hy => (by cases hy), hq⟩
  | cons x e ih =>
    obtain ⟨⟨h1, h2⟩, h3⟩ := h
    obtain ⟨f1, f2, v1, v2⟩ := s_tame h1 h2
    by_cases c : rung (sLo q x) = 0
    · have c' : er (fv q + fv x) = 0 := by rw [← v2]; exact fv_zero_of c
      rw [if_neg (by simpa using c'), ← v1] at h3
      obtain ⟨i1, i2, i3, i4⟩ := ih (sHi q x) f1 h3
      have n1 : ¬ rung (sLo q x) ≠ 0 := by simpa using c
      have n2 : ¬ er (fv q + fv x) ≠ 0 := by simpa using c'
      simp only [dnBg, dnBq, List.map_cons, dnG, dnQ, if_neg n1, if_neg n2]
      rw [← v1]
      exact ⟨i1, i2, i3, i4⟩
    · have c' : er (fv q + fv x) ≠ 0 := by rw [← v2]; exact fun z => c ((fv_zero_iff _).1 z)
      rw [if_pos c', ← v2] at h3
      obtain ⟨i1, i2, i3, i4⟩ := ih (sLo q x) f2 h3
      simp only [dnBg, dnBq, List.map_cons, dnG, dnQ, if_pos c, if_pos c']
      rw [← v1, ← v2]
      refine ⟨by simp only [i1], i2, fun y hy => ?_, i4⟩
      rcases List.mem_cons.1 hy with rfl | hy
      · exact f1
      · exact i3 y hy
/-- The second way takes what the first one left from its end; the float that is taken stands first in the sum. -/
def upB : List Nat → Nat → List Nat
  | [], q => nzB q
  | g :: l, q => nzB (sLo g q) ++ upB l (sHi g q)
theorem upB_fv (l : List Nat) (q : Nat) (hq : Fl q) (h : growOk tmP (l.map fv) (fv q)) : (upB l q).map fv = growI (l.map fv) (fv q) ∧ ∀ y ∈ upB l q, Fl y := by
  induction l generalizing q with
  | nil => exact ⟨nzB_fv q, fun y hy => by rw [nzB_mem hy]; exact hq⟩
  | cons x e ih =>
    obtain ⟨⟨h1, h2⟩, h3⟩ := h
    obtain ⟨f1, f2, v1, v2⟩ := s_tame h2 h1
    rw [Int.add_comm] at v1 v2
    rw [← v1] at h3
    obtain ⟨i1, i2⟩ := ih (sHi x q) f1 h3
    refine ⟨?_, fun y hy => ?_⟩
    · simp only [upB, List.map_append, nzB_fv, i1, List.map_cons, growI, v1, v2]
    · rcases List.mem_append.1 hy with hy | hy
      · rw [nzB_mem hy]; exact f2
      · exact i2 y hy
def neatB (l : List Nat) : List Nat := match l.reverse with
  | [] => []
  | q :: r => upB (dnBg r q).reverse (dnBq r q)
theorem neatB_fv {T : Nat} (l : List Nat) (hl : ∀ y ∈ l, Fl y) (h : ab (l.map fv) + 4 * (l.length * T) ≤ 9007199254740992 * T) (hM : ab (l.map fv) + 4 * (l.length * T) ≤ tameM) :
    (neatB l).map fv = neatE (l.map fv) ++ nz (neatQ (l.map fv)) ∧ ∀ y ∈ neatB l, Fl y := by
  unfold neatB neatE neatQ
  rw [← List.map_reverse]
  have ha := ab_reverse (l.map fv)
  rw [← List.map_reverse] at ha
  have hn := List.length_reverse (as := l)
  cases hr : l.reverse with
  | nil => exact ⟨rfl, fun y hy => (by cases hy)⟩
  | cons q r =>
    have hm : ∀ y ∈ q :: r, Fl y := fun y hy => hl y (by rw [← hr] at hy; exact List.mem_reverse.1 hy)
    rw [hr] at ha hn
    simp only [List.map_cons, ab, List.length_cons] at ha hn ⊢
    have e1 : l.length * T = r.length * T + T := by rw [← hn, Nat.add_mul, Nat.one_mul]
    have e2 : (r.map fv).length = r.length := List.length_map ..
    obtain ⟨d1, d2⟩ := dn_bound (T := T) (M := tameM) (r.map fv) (fv q) (by rw [e2]; omega) (by rw [e2]; omega)
    obtain ⟨b1, b2, b3, b4⟩ := dnB_fv r q (hm q (by simp)) d2
    rw [e2] at d1
    have d3 : (dnG (r.map fv) (fv q)).reverse.length * T ≤ r.length * T := by
      rw [List.length_reverse]; have := dn_len (r.map fv) (fv q); rw [e2] at this; exact Nat.mul_le_mul_right T this
    have g := grow_ok (T := T) (M := tameM) (dnG (r.map fv) (fv q)).reverse (dnQ (r.map fv) (fv q)) (by rw [ab_reverse]; omega) (by rw [ab_reverse]; omega)
    rw [← b1, ← b2, ← List.map_reverse] at g
    obtain ⟨u1, u2⟩ := upB_fv (dnBg r q).reverse (dnBq r q) b4 g
    refine ⟨?_, u2⟩
    rw [u1, grow_parts, List.map_reverse, b1, b2]
end TV
end

section
/- Sums of floats, on whole numbers and in bits: plus, apart; what may be; the last float leads. -/
namespace TV
/-- The order in which plus takes the floats. -/
def mergeB : List Nat → List Nat → List Nat
  | [], f => f
  | x :: e, [] => x :: e
  | x :: e, y :: f => if rung x < rung y then x :: mergeB e (y :: f) else y :: mergeB (x :: e) f
termination_by e f => e.length + f.length
theorem mergeB_nil (f : List Nat) : mergeB [] f = f := by unfold mergeB; rfl
theorem mergeB_right (e : List Nat) : mergeB e [] = e := by cases e <;> simp [mergeB]
theorem mergeB_lt {x y : Nat} {e f : List Nat} (h : rung x < rung y) : mergeB (x :: e) (y :: f) = x :: mergeB e (y :: f) := by rw [mergeB, if_pos h]
theorem mergeB_ge {x y : Nat} {e f : List Nat} (h : ¬ rung x < rung y) : mergeB (x :: e) (y :: f) = y :: mergeB (x :: e) f := by rw [mergeB, if_neg h]
theorem mergeB_fv (e f : List Nat) : (mergeB e f).map fv = mergeI (e.map fv) (f.map fv) := by
  fun_induction mergeB e f with
  | case1 f => simp [mergeI]
  | case2 x e => simp [mergeI]
  | case3 x e y f h ih => 
    have h' : (fv x).natAbs < (fv y).natAbs := by rw [fv_natAbs, fv_natAbs]; exact mag_lt_iff.2 h
    simp only [List.map_cons, mergeI, if_pos h', ih]
  | case4 x e y f h ih =>
    have h' : ¬ (fv x).natAbs < (fv y).natAbs := by rw [fv_natAbs, fv_natAbs, mag_lt_iff]; exact h
    simp only [List.map_cons, mergeI, if_neg h', ih]
theorem mergeB_len (e f : List Nat) : (mergeB e f).length = e.length + f.length := by
  have h := congrArg List.length (mergeB_fv e f)
  rw [merge_len] at h
  simpa using h
theorem mergeB_mem {P : Nat → Prop} (e f : List Nat) (he : ∀ x ∈ e, P x) (hf : ∀ x ∈ f, P x) : ∀ x ∈ mergeB e f, P x := by
  fun_induction mergeB e f with
  | case1 f => exact hf
  | case2 x e => exact he
  | case3 x e y f h ih =>
    intro z hz
    rcases List.mem_cons.1 hz with rfl | hz
    · exact he _ (by simp)
    · exact ih (fun a ha => he a (by simp [ha])) hf z hz
  | case4 x e y f h ih =>
    intro z hz
    rcases List.mem_cons.1 hz with rfl | hz
    · exact hf _ (by simp)
    · exact ih he (fun a ha => hf a (by simp [ha])) z hz
theorem sHi_fl (a b : Nat) : Fl (sHi a b) := by
  obtain ⟨l1, l2, r1, r2, v1, v2⟩ := s_any a b
  have hi : (9119789245425254400 : Nat) < inf := by decide
  exact ⟨l1, by omega⟩
theorem sLo_fl (a b : Nat) : Fl (sLo a b) := by
  obtain ⟨l1, l2, r1, r2, v1, v2⟩ := s_any a b
  have hi : (9119789245425254400 : Nat) < inf := by decide
  exact ⟨l2, by omega⟩
theorem growB_fl (e : List Nat) (q : Nat) (hq : Fl q) : ∀ y ∈ growB e q, Fl y := by
  induction e generalizing q with
  | nil => intro y hy; rw [nzB_mem hy]; exact hq
  | cons x e ih =>
    intro y hy
    rcases List.mem_append.1 hy with hy | hy
    · rw [nzB_mem hy]; exact sLo_fl _ _
    · exact ih _ (sHi_fl _ _) y hy
theorem dnB_fl (e : List Nat) (q : Nat) (hq : Fl q) : (∀ y ∈ dnBg e q, Fl y) ∧ Fl (dnBq e q) := by
  induction e generalizing q with
  | nil => exact ⟨fun y hy => (by cases hy), hq⟩
  | cons x e ih =>
    by_cases c : rung (sLo q x) ≠ 0
    · obtain ⟨a, b⟩ := ih _ (sLo_fl q x)
      simp only [dnBg, dnBq, if_pos c]
      refine ⟨fun y hy => ?_, b⟩
      rcases List.mem_cons.1 hy with rfl | hy
      · exact sHi_fl _ _
      · exact a y hy
    · obtain ⟨a, b⟩ := ih _ (sHi_fl q x)
      simp only [dnBg, dnBq, if_neg c]
      exact ⟨a, b⟩
theorem upB_fl (l : List Nat) (q : Nat) (hq : Fl q) : ∀ y ∈ upB l q, Fl y := by
  induction l generalizing q with
  | nil => intro y hy; rw [nzB_mem hy]; exact hq
  | cons x e ih =>
    intro y hy
    rcases List.mem_append.1 hy with hy | hy
    · rw [nzB_mem hy]; exact sLo_fl _ _
    · exact ih _ (sHi_fl _ _) y hy
theorem neatB_fl (l : List Nat) (hl : ∀ y ∈ l, Fl y) : ∀ y ∈ neatB l, Fl y := by
  unfold neatB
  cases hr : l.reverse with
  | nil => intro y hy; cases hy
  | cons q r =>
    have hq : Fl q := hl q (by rw [← List.mem_reverse, hr]; simp)
    exact upB_fl _ _ (dnB_fl r q hq).2
theorem growB_len1 (e : List Nat) (q : Nat) : (growB e q).length ≤ e.length + 1 := growB_len e q
theorem upB_len (e : List Nat) (q : Nat) : (upB e q).length ≤ e.length + 1 := by
  have hn : ∀ x, (nzB x).length ≤ 1 := fun x => by unfold nzB; split <;> simp
  induction e generalizing q with
  | nil => simpa [upB] using hn q
  | cons x e ih => have := ih (sHi x q); have := hn (sLo x q); simp only [upB, List.length_append, List.length_cons]; omega
theorem dnB_len (e : List Nat) (q : Nat) : (dnBg e q).length ≤ e.length := by
  induction e generalizing q with
  | nil => simp [dnBg]
  | cons x e ih =>
    by_cases c : rung (sLo q x) ≠ 0
    · have := ih (sLo q x); simp only [dnBg, if_pos c, List.length_cons]; omega
    · have := ih (sHi q x); simp only [dnBg, if_neg c, List.length_cons]; omega
theorem neatB_len (l : List Nat) : (neatB l).length ≤ l.length := by
  unfold neatB
  have hn := List.length_reverse (as := l)
  cases hr : l.reverse with
  | nil => simp
  | cons q r =>
    rw [hr] at hn
    have h1 := upB_len (dnBg r q).reverse (dnBq r q)
    have h2 := dnB_len r q
    rw [List.length_reverse] at h1
    simp only [List.length_cons] at hn ⊢
    omega
/-- Many floats are added, one after the other. -/
def growsB : List Nat → List Nat → List Nat
  | out, [] => out
  | out, b :: bs => growsB (growB out b) bs
theorem growsB_fl (bs out : List Nat) (ho : ∀ y ∈ out, Fl y) (hb : ∀ y ∈ bs, Fl y) : ∀ y ∈ growsB out bs, Fl y := by
  induction bs generalizing out with
  | nil => exact ho
  | cons b bs ih => exact ih _ (growB_fl out b (hb b (by simp))) (fun y hy => hb y (by simp [hy]))
theorem growsB_len (bs out : List Nat) : (growsB out bs).length ≤ out.length + bs.length := by
  induction bs generalizing out with
  | nil => simp [growsB]
  | cons b bs ih => have := ih (growB out b); have := growB_len out b; simp only [growsB, List.length_cons]; omega
theorem growsB_fv {T N : Nat} (bs : List Nat) (out : List Nat) (Q : Nat) (ho : ∀ y ∈ out, Fl y) (hb : ∀ y ∈ bs, Fl y) (h : Sm T Q (out.map fv)) (hN : out.length + bs.length ≤ N)
    (hT : Q + ab (bs.map fv) + bs.length * (2 * N * T) + 2 * N * T ≤ 9007199254740992 * T) (hM : Q + ab (bs.map fv) + bs.length * (2 * N * T) + 2 * N * T ≤ tameM) :
    (growsB out bs).map fv = growsI (out.map fv) (bs.map fv) := by
  induction bs generalizing out Q with
  | nil => rfl
  | cons b bs ih =>
    simp only [List.map_cons, ab, List.length_cons, Nat.add_mul, Nat.one_mul] at hT hN hM
    have hol : (out.map fv).length = out.length := List.length_map ..
    have ha := h.ab
    rw [hol] at ha
    have hl : out.length * T ≤ N * T := Nat.mul_le_mul_right T (by omega)
    have e1 : 2 * N * T = N * T + N * T := by rw [Nat.mul_assoc]; omega
    have hok : growOk tmP (out.map fv) (fv b) := grow_ok (T := T) (M := tameM) (out.map fv) (fv b) (by rw [hol]; omega) (by rw [hol]; omega)
    obtain ⟨k1, k2⟩ := growB_fv out b (hb b (by simp)) hok
    obtain ⟨g1, g2⟩ := grow_bound (T := T) (out.map fv) (fv b) (by rw [hol]; omega)
    rw [hol] at g2
    have hs : Sm T (Q + (fv b).natAbs + 2 * N * T) ((growB out b).map fv) := by
      rw [k1]
      exact ⟨growE (out.map fv) (fv b), growQ (out.map fv) (fv b), grow_parts _ _, g1, by omega⟩
    have hlen := growB_len out b
    have := ih (growB out b) _ k2 (fun y hy => hb y (by simp [hy])) hs (by omega) (by omega) (by omega)
    rw [growsB, this, k1]; rfl
end TV
namespace TV
/-- May the floats that are left be, behind one of the rung p? -/
def allFrom (a b : Nat) : Option Nat → List Nat → Bool
  | _, [] => true
  | p, x :: l => decide (a ≤ rung x ∧ rung x ≤ b) && (match p with | none => true | some r => decide (mag r < lowb (mag (rung x)))) && allFrom a b (some (rung x)) l
def allB (a b : Nat) (l : List Nat) : Bool := decide (l.length ≤ 64) && allFrom a b none l

theorem okI_cons {M : Nat} {x : Int} {l : List Int} : okI M (x :: l) ↔ (x ≠ 0 ∧ x.natAbs ≤ M) ∧ (∀ y t, l = y :: t → x.natAbs < lowb y.natAbs) ∧ okI M l := by
  cases l with
  | nil => simp [okI]
  | cons y t =>
    simp only [okI]
    constructor
    · rintro ⟨h1, h2, h3⟩
      exact ⟨h1, fun y' t' h => by cases h; exact h2, h3⟩
    · rintro ⟨h1, h2, h3⟩
      exact ⟨h1, h2 y t rfl, h3⟩
theorem okI_mem {M : Nat} {l : List Int} (h : okI M l) : ∀ x ∈ l, x ≠ 0 ∧ x.natAbs ≤ M := by
  induction l with
  | nil => intro x hx; cases hx
  | cons y l ih =>
    rw [okI_cons] at h
    intro x hx
    rcases List.mem_cons.1 hx with rfl | hx
    · exact h.1
    · exact ih h.2.2 x hx
theorem okI_bound {M N : Nat} {l : List Int} (h : okI M l) (hN : ∀ x ∈ l, x.natAbs ≤ N) : okI N l := by
  induction l with
  | nil => trivial
  | cons y l ih =>
    rw [okI_cons] at h ⊢
    exact ⟨⟨h.1.1, hN y (by simp)⟩, h.2.1, ih h.2.2 (fun x hx => hN x (by simp [hx]))⟩
theorem allFrom_ok (a b : Nat) (ha : 0 < a) (l : List Nat) : ∀ (p : Option Nat), allFrom a b p l = true ↔ (∀ r y t, p = some r → l = y :: t → mag r < lowb (mag (rung y))) ∧ okI (mag b) (l.map fv) ∧ ∀ x ∈ l, a ≤ rung x := by
  induction l with
  | nil => intro p; simp [allFrom, okI]
  | cons x l ih =>
    intro p
    simp only [allFrom, Bool.and_eq_true, decide_eq_true_eq, List.map_cons]
    rw [okI_cons, ih]
    constructor
    · rintro ⟨⟨⟨h1, h2⟩, h3⟩, h4, h5, h6⟩
      refine ⟨?_, ⟨⟨?_, ?_⟩, ?_, h5⟩, ?_⟩
      · rintro r y t rfl ht
        cases ht
        simpa using h3
      · intro c; have := (fv_zero_iff x).1 c; omega
      · rw [fv_natAbs]; exact mag_le_iff.2 h2
      · intro y t ht
        cases l with
        | nil => cases ht
        | cons z l =>
          simp only [List.map_cons, List.cons.injEq] at ht
          rw [← ht.1, fv_natAbs, fv_natAbs]
          exact h4 _ z l rfl rfl
      · intro y hy
        rcases List.mem_cons.1 hy with rfl | hy
        · exact h1
        · exact h6 y hy
    · rintro ⟨h1, ⟨⟨h2, h3⟩, h4, h5⟩, h6⟩
      refine ⟨⟨⟨h6 x (by simp), ?_⟩, ?_⟩, ?_, h5, fun y hy => h6 y (by simp [hy])⟩
      · rw [fv_natAbs] at h3; exact mag_le_iff.1 h3
      · cases p with
        | none => rfl
        | some r => simpa using h1 r x l rfl rfl
      · rintro r y t hr rfl
        simp only [Option.some.injEq] at hr
        have := h4 (fv y) (t.map fv) rfl
        rw [fv_natAbs, fv_natAbs] at this
        rw [← hr]; exact this
theorem allB_ok {a b : Nat} (ha : 0 < a) (l : List Nat) : allB a b l = true ↔ l.length ≤ 64 ∧ okI (mag b) (l.map fv) ∧ ∀ x ∈ l, a ≤ rung x := by
  unfold allB
  rw [Bool.and_eq_true, decide_eq_true_eq, allFrom_ok a b ha]
  constructor
  · rintro ⟨h1, -, h2, h3⟩
    exact ⟨h1, h2, h3⟩
  · rintro ⟨h1, h2, h3⟩
    exact ⟨h1, (fun r y t h => by cases h), h2, h3⟩
theorem allB_one {b : Nat} (l : List Nat) : allB 1 b l = true ↔ l.length ≤ 64 ∧ okI (mag b) (l.map fv) := by
  rw [allB_ok (by decide)]
  constructor
  · rintro ⟨h1, h2, h3⟩; exact ⟨h1, h2⟩
  · rintro ⟨h1, h2⟩
    refine ⟨h1, h2, fun x hx => ?_⟩
    have := (okI_mem h2 (fv x) (List.mem_map_of_mem hx)).1
    have h0 : rung x ≠ 0 := fun c => this ((fv_zero_iff x).2 c)
    omega
/-- All floats but the last one are together less than its lowest bit. -/
theorem low_step {S x y : Nat} (hx : x ≠ 0) (hy : y ≠ 0) (h1 : S < lowb x) (h2 : x < lowb y) : S + x < lowb y := by
  obtain ⟨m, i, a1, a2, a3⟩ := lowb_parts x hx
  obtain ⟨k, j, b1, b2, b3⟩ := lowb_parts y hy
  rw [b3] at h2 ⊢
  rw [a3] at h1
  have hle := lowb_le hx
  rw [a3] at hle
  have hij : i < j := by
    apply Classical.byContradiction
    intro c
    have := Nat.pow_le_pow_right (show 0 < 2 by omega) (show j ≤ i by omega)
    omega
  obtain ⟨d, rfl⟩ : ∃ d, j = i + d := ⟨j - i, by omega⟩
  rw [Nat.pow_add, Nat.mul_comm] at h2 ⊢
  rw [a2] at h2 ⊢
  have hp := Nat.two_pow_pos i
  have h3 : m < 2 ^ d := Nat.lt_of_mul_lt_mul_right h2
  have h4 : (m + 1) * 2 ^ i ≤ 2 ^ d * 2 ^ i := Nat.mul_le_mul_right _ h3
  rw [Nat.add_mul, Nat.one_mul] at h4
  omega
theorem okI_low {M : Nat} (t : List Int) (q : Int) : okI M (t ++ [q]) → ab t < lowb q.natAbs := by
  have key : ∀ (n : Nat) (t : List Int) (S : Nat) (x : Int) (q : Int), t.length = n → x ≠ 0 → S < lowb x.natAbs → okI M (x :: (t ++ [q])) → S + x.natAbs + ab t < lowb q.natAbs := by
    intro n
    induction n with
    | zero =>
      intro t S x q ht hx hS h
      obtain rfl : t = [] := List.length_eq_zero_iff.1 ht
      rw [okI_cons] at h
      have h2 := h.2.1 q [] rfl
      have h3 := okI_mem h.2.2 q (by simp)
      have := low_step (x := x.natAbs) (y := q.natAbs) (by omega) (by omega) hS h2
      simp only [ab]; omega
    | succ n ih =>
      intro t S x q ht hx hS h
      cases t with
      | nil => simp at ht
      | cons y t =>
        rw [okI_cons] at h
        have h2 := h.2.1 y (t ++ [q]) rfl
        have h3 := okI_mem h.2.2 y (by simp)
        have h4 := low_step (x := x.natAbs) (y := y.natAbs) (by omega) (by omega) hS h2
        have := ih t (S + x.natAbs) y q (by simpa using ht) h3.1 h4 h.2.2
        simp only [ab]; omega
  intro h
  cases t with
  | nil =>
    have := okI_mem h q (by simp)
    have := lowb_pos (n := q.natAbs) (by omega)
    simp only [ab]; exact this
  | cons x t =>
    have hx := okI_mem h x (by simp)
    have := key t.length t 0 x q rfl hx.1 (lowb_pos (by omega)) h
    simp only [ab]; omega
/-- The last float leads. -/
theorem okI_leads {M : Nat} {l : List Int} (h : okI M l) (h0 : l ≠ []) : ∃ t q, l = t ++ [q] ∧ q ≠ 0 ∧ (l.sum - q).natAbs < lowb q.natAbs ∧ (l.sum < 0 ↔ q < 0) ∧ (0 < l.sum ↔ 0 < q) ∧ l.sum ≠ 0 := by
  obtain ⟨t, q, rfl⟩ : ∃ t q, l = t ++ [q] := ⟨l.dropLast, l.getLast h0, (List.dropLast_concat_getLast h0).symm⟩
  have h1 := okI_low t q h
  have h2 := (okI_mem h q (by simp)).1
  have h3 := sum_le_ab t
  have h4 := lowb_le (n := q.natAbs) (by omega)
  have e : (t ++ [q]).sum = t.sum + q := by simp
  rw [e]
  refine ⟨t, q, rfl, h2, by omega, by omega, by omega, by omega⟩

/-- The float nearest to a number, in bits. -/
def rnB (n : Int) : Nat := flo (decide (n < 0)) (min (rndAt 0 n.natAbs) inf)
theorem rnd_tame {n : Int} (h : n.natAbs ≤ tameM) : rndAt 0 n.natAbs < inf := by
  have h1 := rnd_mono (u := 0) (show n.natAbs ≤ mag 9110782046170513408 by rw [tameM_mag]; exact h)
  rw [rnd_exact0] at h1
  have : (9110782046170513408 : Nat) < inf := by decide
  omega
theorem rnB_fl {n : Int} (h : n.natAbs ≤ tameM) : Fl (rnB n) ∧ fv (rnB n) = Rn n := by
  have h1 := rnd_tame h
  have h2 := inf_lt
  unfold rnB
  rw [Nat.min_eq_left (Nat.le_of_lt h1)]
  exact ⟨⟨flo_lt (by omega), by rw [rung_flo (by omega)]; exact h1⟩, by rw [fv_flo (by omega)]; rfl⟩
/-- The slow way, in bits. -/
def slowB (fuel : Nat) (n : Int) (acc : List Nat) : List Nat := match fuel with
  | 0 => acc
  | f + 1 => if n = 0 then acc else slowB f (er n) (rnB n :: acc)
theorem slowB_fv (fuel : Nat) (n : Int) (acc : List Nat) (h : n.natAbs ≤ tameM) (ha : ∀ y ∈ acc, Fl y) : (slowB fuel n acc).map fv = slowR fuel n (acc.map fv) ∧ ∀ y ∈ slowB fuel n acc, Fl y := by
  induction fuel generalizing n acc with
  | zero => exact ⟨rfl, ha⟩
  | succ f ih =>
    unfold slowB slowR
    by_cases c : n = 0
    · rw [if_pos c, if_pos c]; exact ⟨rfl, ha⟩
    · rw [if_neg c, if_neg c]
      obtain ⟨f1, f2⟩ := rnB_fl h
      have := er_lt c
      obtain ⟨a, b⟩ := ih (er n) (rnB n :: acc) (by omega) (fun y hy => by
        rcases List.mem_cons.1 hy with rfl | hy
        · exact f1
        · exact ha y hy)
      rw [List.map_cons, f2] at a
      exact ⟨a, b⟩
theorem pow_lt2 {a b : Nat} (h : a < b) : 2 ^ a < 2 ^ b := Nat.pow_lt_pow_right (by decide) h
theorem tame_slow : tameM < 2 ^ (53 * 40) := by unfold tameM; decide +kernel
/-- apart of a list. -/
def apartB (l : List Nat) : List Nat := if allB 1 inf l then l else slowB ((l.map fv).sum.natAbs + 1) (l.map fv).sum []
/-- An expansion of the number n (in units), of floats that are together at most A. -/
structure Ex (A : Nat) (n : Int) (l : List Nat) : Prop where
  fl : ∀ x ∈ l, Fl x
  sum : (l.map fv).sum = n
  ok : okI A (l.map fv)
  len : l.length ≤ 64
  abl : ab (l.map fv) ≤ A
theorem Ex.mono {A B : Nat} {n : Int} {l : List Nat} (h : Ex A n l) (hB : A ≤ B) : Ex B n l :=
  ⟨h.fl, h.sum, okI_bound h.ok (fun x hx => Nat.le_trans (okI_mem h.ok x hx).2 hB), h.len, Nat.le_trans h.abl hB⟩
theorem Ex.nil (A : Nat) : Ex A 0 [] := ⟨fun x hx => (by cases hx), rfl, trivial, by simp, by simp [ab]⟩
theorem apartB_ex {T Q : Nat} (hT : Rep (T : Int)) (l : List Nat) (hl : ∀ y ∈ l, Fl y) (h : Sm T Q (l.map fv)) (hs : (l.map fv).sum.natAbs ≤ Q) (h1 : Q ≤ 9007199254740992 * T) (h2 : Q ≤ tameM) :
    Ex (Q + 64 * T) (l.map fv).sum (apartB l) := by
  unfold apartB
  by_cases c : allB 1 inf l = true
  · rw [if_pos c]
    obtain ⟨c1, c2⟩ := (allB_one l).1 c
    have ha := h.ab
    rw [List.length_map] at ha
    have hlt : l.length * T ≤ 64 * T := Nat.mul_le_mul_right T c1
    exact ⟨hl, rfl, okI_bound c2 (fun x hx => by have := ab_mem hx; omega), c1, by omega⟩
  · rw [if_neg c]
    generalize hn : (l.map fv).sum = n at *
    obtain ⟨v1, v2⟩ := slowB_fv (n.natAbs + 1) n [] (by omega) (fun y hy => (by cases hy))
    have hM : Rep (tameM : Int) := Rep_mk (m := 1) (k := 2074) (by unfold tameM; rw [Int.one_mul]) (by decide)
    have k1 := slow_ok (M := tameM) hM (n.natAbs + 1) n [] (by omega) trivial (fun x l h => by cases h)
    have k2 := slow_len 40 (n.natAbs + 1) n [] (Nat.lt_of_le_of_lt (Nat.le_trans hs h2) tame_slow)
    have k3 := slow_sum (n.natAbs + 1) n [] (by omega)
    obtain ⟨t, k4, k5⟩ := slow_ab (T := T) (n.natAbs + 1) n [] (by omega) hT
    rw [List.map_nil] at v1
    rw [← v1] at k1 k2 k3 k5
    simp only [List.length_map, List.length_nil, Nat.zero_add] at k2
    have hab : ab ((slowB (n.natAbs + 1) n []).map fv) ≤ Q + 64 * T := by
      rcases k5 with k5 | k5
      · rw [k5]; simp [ab]
      · have hl1 := congrArg List.length k5
        simp only [List.length_map, List.length_append, List.length_cons, List.length_nil] at hl1
        rw [k5, ab_append]
        have h3 := ab_le k4
        have h4 : t.length * T ≤ 39 * T := Nat.mul_le_mul_right T (by omega)
        have h6 := Rn_small (t := n) (T := T) (by omega)
        simp only [ab]; omega
    exact ⟨v2, by rw [k3]; simp, okI_bound k1 (fun x hx => by have := ab_mem hx; omega), by omega, hab⟩
/-- Floats added one by one, then made neat and taken apart. -/
def apneB (bs : List Nat) : List Nat := apartB (neatB (growsB [] bs))
theorem apneB_ex {T : Nat} (hT : Rep (T : Int)) (hTM : 18014398509481984 * T ≤ tameM) (bs : List Nat) (hb : ∀ y ∈ bs, Fl y) (hn : bs.length ≤ 200) (hA : ab (bs.map fv) ≤ 4503599627370496 * T) :
    Ex (ab (bs.map fv) + 82000 * T) (bs.map fv).sum (apneB bs) := by
  have hbl : bs.length * (2 * 200 * T) ≤ 200 * (2 * 200 * T) := Nat.mul_le_mul_right _ hn
  have hbl' : (bs.map fv).length * (2 * 200 * T) ≤ 200 * (2 * 200 * T) := by rw [List.length_map]; exact hbl
  have e2 : 2 * 200 * T = 400 * T := by omega
  have e3 : 200 * (2 * 200 * T) = 80000 * T := by omega
  have v := growsB_fv (T := T) (N := 200) bs [] 0 (fun y hy => (by cases hy)) hb ⟨[], 0, rfl, fun x hx => (by cases hx), Nat.le_refl _⟩ (by simpa using hn) (by omega) (by omega)
  obtain ⟨g1, g2⟩ := grows_bound (T := T) (N := 200) (bs.map fv) [] 0 ⟨[], 0, rfl, fun x hx => (by cases hx), Nat.le_refl _⟩ (by simpa using hn) (by omega)
  have gs := grows_sum [] (bs.map fv)
  rw [List.map_nil] at v
  rw [← v] at g1 g2 gs
  have f1 := growsB_fl bs [] (fun y hy => (by cases hy)) hb
  have l1 := growsB_len bs []
  obtain ⟨m, hm⟩ : ∃ m, m = growsB [] bs := ⟨_, rfl⟩
  unfold apneB
  rw [← hm] at v g1 g2 gs f1 l1 ⊢
  have a1 := g1.ab
  rw [List.length_map] at a1
  simp only [List.length_nil, Nat.zero_add] at l1
  have hml : m.length * T ≤ 200 * T := Nat.mul_le_mul_right T (by omega)
  have hml2 : (m.map fv).length * T ≤ 200 * T := by rw [List.length_map]; exact hml
  obtain ⟨n1, n2⟩ := neatB_fv (T := T) m f1 (by omega) (by omega)
  obtain ⟨b1, b2, b3⟩ := neat_bound (T := T) (m.map fv) (by omega)
  have ns := neat_sum (m.map fv)
  have hs : ((neatB m).map fv).sum = (bs.map fv).sum := by
    rw [n1, List.sum_append, nz_sum, ns, gs]; simp
  have := sum_le_ab (bs.map fv)
  have E := apartB_ex (T := T) (Q := ab (bs.map fv) + 81500 * T) hT (neatB m) n2 ⟨neatE (m.map fv), neatQ (m.map fv), n1, b1, by omega⟩ (by rw [hs]; omega) (by omega) (by omega)
  rw [hs] at E
  exact E.mono (by omega)
theorem apne_tame {T : Nat} (hTM : 18014398509481984 * T ≤ tameM) (bs : List Nat) (hb : ∀ y ∈ bs, Fl y) (hn : bs.length ≤ 200) (hA : ab (bs.map fv) ≤ 4503599627370496 * T) :
    ((neatB (growsB [] bs)).map fv).sum.natAbs ≤ tameM := by
  have hbl : bs.length * (2 * 200 * T) ≤ 200 * (2 * 200 * T) := Nat.mul_le_mul_right _ hn
  have hbl' : (bs.map fv).length * (2 * 200 * T) ≤ 200 * (2 * 200 * T) := by rw [List.length_map]; exact hbl
  have e2 : 2 * 200 * T = 400 * T := by omega
  have e3 : 200 * (2 * 200 * T) = 80000 * T := by omega
  have v := growsB_fv (T := T) (N := 200) bs [] 0 (fun y hy => (by cases hy)) hb ⟨[], 0, rfl, fun x hx => (by cases hx), Nat.le_refl _⟩ (by simpa using hn) (by omega) (by omega)
  obtain ⟨g1, g2⟩ := grows_bound (T := T) (N := 200) (bs.map fv) [] 0 ⟨[], 0, rfl, fun x hx => (by cases hx), Nat.le_refl _⟩ (by simpa using hn) (by omega)
  have gs := grows_sum [] (bs.map fv)
  rw [List.map_nil] at v
  rw [← v] at g1 g2 gs
  have f1 := growsB_fl bs [] (fun y hy => (by cases hy)) hb
  have l1 := growsB_len bs []
  obtain ⟨m, hm⟩ : ∃ m, m = growsB [] bs := ⟨_, rfl⟩
  rw [← hm] at v g1 g2 gs f1 l1 ⊢
  have a1 := g1.ab
  rw [List.length_map] at a1
  simp only [List.length_nil, Nat.zero_add] at l1
  have hml : m.length * T ≤ 200 * T := Nat.mul_le_mul_right T (by omega)
  obtain ⟨n1, n2⟩ := neatB_fv (T := T) m f1 (by omega) (by omega)
  have ns := neat_sum (m.map fv)
  have hs : ((neatB m).map fv).sum = (bs.map fv).sum := by
    rw [n1, List.sum_append, nz_sum, ns, gs]; simp
  have := sum_le_ab (bs.map fv)
  rw [hs]; omega
def plusB (e f : List Nat) : List Nat := apneB (mergeB e f)
def T0 : Nat := 2 ^ 2020
theorem T0_rep : Rep (T0 : Int) := Rep_mk (m := 1) (k := 2020) (by unfold T0; rw [Int.one_mul]) (by decide)
theorem T0_tame : 18014398509481984 * T0 = tameM := by unfold T0 tameM; decide +kernel
theorem plusB_ex {A B : Nat} {n m : Int} {e f : List Nat} (he : Ex A n e) (hf : Ex B m f) (h : A + B ≤ 4503599627370496 * T0) : Ex (A + B + 82000 * T0) (n + m) (plusB e f) := by
  have e1 := mergeB_fv e f
  have a1 := merge_ab (e.map fv) (f.map fv)
  have s1 := merge_sum (e.map fv) (f.map fv)
  rw [← e1] at a1 s1
  have l1 := mergeB_len e f
  have := he.len
  have := hf.len
  have := he.abl
  have := hf.abl
  have E := apneB_ex T0_rep (Nat.le_of_eq T0_tame) (mergeB e f) (mergeB_mem e f he.fl hf.fl) (by omega) (by omega)
  rw [s1, he.sum, hf.sum] at E
  exact E.mono (by omega)
theorem plus_tame {A B : Nat} {n m : Int} {e f : List Nat} (he : Ex A n e) (hf : Ex B m f) (h : A + B ≤ 4503599627370496 * T0) : ((neatB (growsB [] (mergeB e f))).map fv).sum.natAbs ≤ tameM := by
  have e1 := mergeB_fv e f
  have a1 := merge_ab (e.map fv) (f.map fv)
  rw [← e1] at a1
  have l1 := mergeB_len e f
  have := he.len
  have := hf.len
  have := he.abl
  have := hf.abl
  exact apne_tame (Nat.le_of_eq T0_tame) (mergeB e f) (mergeB_mem e f he.fl hf.fl) (by omega) (by omega)
end TV
end

section
/- Sums of floats: products, many sums, bounds. -/
namespace TV
/-- Lists of floats that may be are expansions of their sum. -/
theorem allB_ex {b : Nat} (hb : b < inf) (l : List Nat) (hl : ∀ x ∈ l, x < 18446744073709551616) (h : allB 1 b l = true) : Ex (64 * mag b) (l.map fv).sum l := by
  obtain ⟨h1, h2⟩ := (allB_one l).1 h
  have hm := okI_mem h2
  refine ⟨fun x hx => ⟨hl x hx, ?_⟩, rfl, okI_bound h2 (fun x hx => by have := (hm x hx).2; omega), h1, ?_⟩
  · have h3 := (hm (fv x) (List.mem_map_of_mem hx)).2
    rw [fv_natAbs] at h3
    have := mag_le_iff.1 h3
    omega
  · have h3 := ab_le (l := l.map fv) (T := mag b) (fun x hx => (hm x hx).2)
    rw [List.length_map] at h3
    have h4 : l.length * mag b ≤ 64 * mag b := Nat.mul_le_mul_right _ h1
    omega
/-- An expansion of floats below a bound may be. -/
theorem Ex.may {A b : Nat} {n : Int} {l : List Nat} (h : Ex A n l) (hA : A ≤ mag b) : allB 1 b l = true :=
  (allB_one l).2 ⟨h.len, okI_bound h.ok (fun x hx => Nat.le_trans (okI_mem h.ok x hx).2 hA)⟩
theorem mag_most : mag 9065746049896808448 = 2 ^ 2064 := by decide +kernel
theorem mag_add : mag 8660422083433463808 = 2 ^ 1974 := by decide +kernel
def kS : Nat := 2 ^ 1524
def kP : Nat := 2 ^ 1974
theorem mag_safe : mag 6633802251116740608 = kS := by unfold kS; decide +kernel
theorem uW_two : 2 ^ 1074 = uW := by unfold uW uE; rfl
theorem kS_sq : kS * kS = kP * uW := by unfold kS kP uW uE; decide +kernel
/-- Bounds in T0. -/
theorem most_T0 : mag 9065746049896808448 = 17592186044416 * T0 := by unfold T0; decide +kernel
theorem add_T0 : 64 * mag 8660422083433463808 ≤ T0 := by unfold T0; decide +kernel
theorem safe_T0 : 64 * (3 * kP) ≤ T0 := by unfold T0 kP; decide +kernel

/-- The products of a list with a float. -/
def prodsB : List Nat → Nat → List Nat
  | [], _ => []
  | x :: e, b => pLo x b :: pHi x b :: prodsB e b
theorem p_fl (a b : Nat) : Fl (pHi a b) ∧ Fl (pLo a b) := by
  obtain ⟨h1, h2, h3, h4, -⟩ := p_any a b
  have hi : (9119789245425254400 : Nat) < inf := by decide
  exact ⟨⟨h1, by omega⟩, ⟨h2, by omega⟩⟩
theorem prods_fl (e : List Nat) (b : Nat) : ∀ y ∈ prodsB e b, Fl y := by
  induction e with
  | nil => intro y hy; cases hy
  | cons x e ih =>
    intro y hy
    simp only [prodsB, List.mem_cons] at hy
    rcases hy with rfl | rfl | hy
    · exact (p_fl x b).2
    · exact (p_fl x b).1
    · exact ih y hy
theorem prods_len (e : List Nat) (b : Nat) : (prodsB e b).length = 2 * e.length := by
  induction e with
  | nil => rfl
  | cons x e ih => simp only [prodsB, List.length_cons, ih]; omega
theorem safe_mag {x : Nat} (h : safeB x = true) : (fv x).natAbs ≤ kS := by
  rw [fv_natAbs, ← mag_safe, mag_le_iff]
  have := of_decide_eq_true h
  omega
theorem p_facts {x b : Nat} (hx : safeB x = true) (hb : safeB b = true) :
    ∃ t : Int, fv x * fv b = t * (uW : Int) ∧ fv (pHi x b) = Rn t ∧ fv (pLo x b) = er t ∧ t.natAbs ≤ kP := by
  obtain ⟨-, -, -, -, t, h1, h2, h3⟩ := p_any x b
  have e : pVal x b = fv x * fv b := by unfold pVal; rw [hx, hb]; rfl
  rw [e, uW_two] at h1
  refine ⟨t, h1, h2, h3, ?_⟩
  have h4 := congrArg Int.natAbs h1
  rw [Int.natAbs_mul, Int.natAbs_mul, Int.natAbs_natCast] at h4
  have h5 := Nat.mul_le_mul (safe_mag hx) (safe_mag hb)
  rw [h4, kS_sq] at h5
  exact Nat.le_of_mul_le_mul_right h5 uW_pos
theorem prods_facts (e : List Nat) (b : Nat) (he : ∀ x ∈ e, safeB x = true) (hb : safeB b = true) :
    ((prodsB e b).map fv).sum * (uW : Int) = (e.map fv).sum * fv b ∧ ab ((prodsB e b).map fv) ≤ e.length * (3 * kP) := by
  induction e with
  | nil => exact ⟨by simp [prodsB], by simp [prodsB, ab]⟩
  | cons x e ih =>
    obtain ⟨i1, i2⟩ := ih (fun y hy => he y (by simp [hy]))
    obtain ⟨t, h1, h2, h3, h4⟩ := p_facts (he x (by simp)) hb
    have h5 := er_err t
    have h6 := Rn_small (t := t) (T := t.natAbs) (by omega)
    constructor
    · simp only [prodsB, List.map_cons, List.sum_cons, h2, h3]
      have : er t + (Rn t + ((prodsB e b).map fv).sum) = t + ((prodsB e b).map fv).sum := by unfold er; omega
      rw [this, Int.add_mul, Int.add_mul, i1, h1]
    · simp only [prodsB, List.map_cons, ab, h2, h3, List.length_cons, Nat.add_mul, Nat.one_mul]
      omega
def scaleB (e : List Nat) (b : Nat) : List Nat := apneB (prodsB e b)
theorem prods_ab {e : List Nat} {b : Nat} (he : ∀ x ∈ e, safeB x = true) (hb : safeB b = true) (hl : e.length ≤ 64) : ab ((prodsB e b).map fv) ≤ T0 := by
  have h1 := (prods_facts e b he hb).2
  have h2 : e.length * (3 * kP) ≤ 64 * (3 * kP) := Nat.mul_le_mul_right _ hl
  exact Nat.le_trans h1 (Nat.le_trans h2 safe_T0)
theorem scaleB_ex {e : List Nat} {b : Nat} (he : ∀ x ∈ e, safeB x = true) (hb : safeB b = true) (hl : e.length ≤ 64) :
    Ex (82001 * T0) ((prodsB e b).map fv).sum (scaleB e b) ∧ ((neatB (growsB [] (prodsB e b))).map fv).sum.natAbs ≤ tameM := by
  have h1 := prods_ab he hb hl
  have hn : (prodsB e b).length ≤ 200 := by rw [prods_len]; omega
  exact ⟨(apneB_ex T0_rep (Nat.le_of_eq T0_tame) (prodsB e b) (prods_fl e b) hn (by omega)).mono (by omega), apne_tame (Nat.le_of_eq T0_tame) (prodsB e b) (prods_fl e b) hn (by omega)⟩
/-- The product of two lists. -/
def mulFrom (e : List Nat) : List Nat → List Nat → List Nat
  | out, [] => out
  | out, b :: f => mulFrom e (plusB out (scaleB e b)) f
def mulX (e f : List Nat) : List Nat := mulFrom e [] f
theorem mulFrom_ex {e : List Nat} (he : ∀ x ∈ e, safeB x = true) (hl : e.length ≤ 64) (f : List Nat) (hf : ∀ x ∈ f, safeB x = true) (out : List Nat) (A : Nat) (n : Int) (h : Ex A n out) (hA : A + f.length * (164001 * T0) ≤ 1000000000 * T0) :
    ∃ m : Int, Ex (A + f.length * (164001 * T0)) (n + m) (mulFrom e out f) ∧ m * (uW : Int) = (e.map fv).sum * (f.map fv).sum := by
  induction f generalizing out A n with
  | nil => exact ⟨0, by simpa [mulFrom] using h, by simp⟩
  | cons b f ih =>
    simp only [List.length_cons, Nat.add_mul, Nat.one_mul] at hA
    have hb := hf b (by simp)
    have h1 := (scaleB_ex he hb hl).1
    have h2 := plusB_ex h h1 (by omega)
    obtain ⟨m, h3, h4⟩ := ih (fun x hx => hf x (by simp [hx])) _ _ _ (h2.mono (show _ ≤ A + 164001 * T0 by omega)) (by omega)
    refine ⟨((prodsB e b).map fv).sum + m, ?_, ?_⟩
    · simp only [mulFrom, List.length_cons, Nat.add_mul, Nat.one_mul]
      have e1 : n + (((prodsB e b).map fv).sum + m) = n + ((prodsB e b).map fv).sum + m := by omega
      rw [e1]
      exact h3.mono (by omega)
    · rw [Int.add_mul, (prods_facts e b he hb).1, h4, List.map_cons, List.sum_cons, Int.mul_add]
theorem mulX_ex {e f : List Nat} (he : ∀ x ∈ e, safeB x = true) (hl : e.length ≤ 64) (hf : ∀ x ∈ f, safeB x = true) (hlf : f.length ≤ 64) :
    ∃ m : Int, Ex (10500000 * T0) m (mulX e f) ∧ m * (uW : Int) = (e.map fv).sum * (f.map fv).sum := by
  have hle : f.length * (164001 * T0) ≤ 64 * (164001 * T0) := Nat.mul_le_mul_right _ hlf
  obtain ⟨m, h1, h2⟩ := mulFrom_ex he hl f hf [] 0 0 (Ex.nil 0) (by omega)
  rw [Int.zero_add] at h1
  exact ⟨m, h1.mono (by omega), h2⟩
/-- Safe lists. -/
theorem allB_safe {l : List Nat} (h : allB 2580562586483294208 6633802251116740608 l = true) : l.length ≤ 64 ∧ (∀ x ∈ l, safeB x = true) ∧ okI (mag 6633802251116740608) (l.map fv) := by
  obtain ⟨h1, h2, h3⟩ := (allB_ok (by decide) l).1 h
  refine ⟨h1, fun x hx => ?_, h2⟩
  have h4 := (okI_mem h2 (fv x) (List.mem_map_of_mem hx)).2
  rw [fv_natAbs] at h4
  exact decide_eq_true (Or.inr ⟨h3 x hx, mag_le_iff.1 h4⟩)
/-- The sum of many lists. -/
def sumFrom : List Nat → List (List Nat) → List Nat
  | out, [] => out
  | out, e :: l => sumFrom (plusB out e) l
def isum : List (List Nat) → Int
  | [] => 0
  | e :: l => (e.map fv).sum + isum l
theorem sumFrom_ex (l : List (List Nat)) (hl : ∀ e ∈ l, ∃ n, Ex T0 n e) (out : List Nat) (A : Nat) (n : Int) (h : Ex A n out) (hA : A + l.length * (82001 * T0) ≤ 1000000000 * T0) :
    Ex (A + l.length * (82001 * T0)) (n + isum l) (sumFrom out l) := by
  induction l generalizing out A n with
  | nil => simpa [sumFrom, isum] using h
  | cons e l ih =>
    simp only [List.length_cons, Nat.add_mul, Nat.one_mul] at hA
    obtain ⟨m, hm⟩ := hl e (by simp)
    have h2 := plusB_ex h hm (by omega)
    have h3 := ih (fun x hx => hl x (by simp [hx])) _ _ _ (h2.mono (show _ ≤ A + 82001 * T0 by omega)) (by omega)
    simp only [sumFrom, isum, List.length_cons, Nat.add_mul, Nat.one_mul]
    rw [hm.sum, show n + (m + isum l) = n + m + isum l by omega]
    exact h3.mono (by omega)
end TV
end

section
/- Sums of floats: sharper bounds, multiples of powers of two, what is safe, the negative. -/
namespace TV
/-! ### Sharper bounds -/
theorem pw51 {p : Nat} (h : 51 ≤ p) (h2 : p ≤ 2071) : ∃ T : Nat, Rep (T : Int) ∧ 18014398509481984 * T ≤ tameM ∧ 2 ^ p = 2251799813685248 * T := by
  obtain ⟨k, rfl⟩ : ∃ k, p = 51 + k := ⟨p - 51, by omega⟩
  refine ⟨2 ^ k, Rep_mk (m := 1) (k := k) (by rw [Int.one_mul]) (by decide), ?_, by rw [Nat.pow_add]⟩
  unfold tameM
  have h3 : (18014398509481984 : Nat) = 2 ^ 54 := by decide
  rw [h3, ← Nat.pow_add, show (2074 : Nat) = (54 + k) + (2020 - k) by omega, Nat.pow_add 2 (54 + k)]
  exact Nat.le_mul_of_pos_right _ (Nat.two_pow_pos _)
theorem apne2 {p : Nat} (h1 : 51 ≤ p) (h2 : p ≤ 2071) (bs : List Nat) (hb : ∀ y ∈ bs, Fl y) (hn : bs.length ≤ 200) (hA : ab (bs.map fv) ≤ 2 ^ p) :
    Ex (2 ^ (p + 1)) (bs.map fv).sum (apneB bs) ∧ ((neatB (growsB [] bs)).map fv).sum.natAbs ≤ tameM := by
  obtain ⟨T, hT, hTM, hp⟩ := pw51 h1 h2
  have e : 2 ^ (p + 1) = 2 * 2 ^ p := by rw [Nat.pow_succ, Nat.mul_comm]
  rw [e]
  rw [hp] at hA ⊢
  exact ⟨(apneB_ex hT hTM bs hb hn (by omega)).mono (by omega), apne_tame hTM bs hb hn (by omega)⟩
theorem plus2 {p A B : Nat} (h1 : 51 ≤ p) (h2 : p ≤ 2071) {n m : Int} {e f : List Nat} (he : Ex A n e) (hf : Ex B m f) (h : A + B ≤ 2 ^ p) :
    Ex (2 ^ (p + 1)) (n + m) (plusB e f) ∧ ((neatB (growsB [] (mergeB e f))).map fv).sum.natAbs ≤ tameM := by
  have e1 := mergeB_fv e f
  have a1 := merge_ab (e.map fv) (f.map fv)
  have s1 := merge_sum (e.map fv) (f.map fv)
  rw [← e1] at a1 s1
  have l1 := mergeB_len e f
  have := he.len
  have := hf.len
  have := he.abl
  have := hf.abl
  have E := apne2 h1 h2 (mergeB e f) (mergeB_mem e f he.fl hf.fl) (by omega) (by omega)
  rw [s1, he.sum, hf.sum] at E
  exact E
/-- The magnitudes of all products. -/
def psum (e : List Nat) : List Nat → Nat
  | [] => 0
  | b :: f => ab ((prodsB e b).map fv) + psum e f
theorem prods_ab2 (e : List Nat) (b : Nat) (he : ∀ x ∈ e, safeB x = true) (hb : safeB b = true) : ab ((prodsB e b).map fv) * uW ≤ 3 * (ab (e.map fv) * (fv b).natAbs) := by
  induction e with
  | nil => simp [prodsB, ab]
  | cons x e ih =>
    have i := ih (fun y hy => he y (by simp [hy]))
    obtain ⟨t, h1, h2, h3, h4⟩ := p_facts (he x (by simp)) hb
    have h5 := er_err t
    have h6 := Rn_small (t := t) (T := t.natAbs) (by omega)
    have h7 := congrArg Int.natAbs h1
    rw [Int.natAbs_mul, Int.natAbs_mul, Int.natAbs_natCast] at h7
    simp only [prodsB, List.map_cons, ab, h2, h3]
    have h8 : (er t).natAbs + ((Rn t).natAbs + ab ((prodsB e b).map fv)) ≤ 3 * t.natAbs + ab ((prodsB e b).map fv) := by omega
    refine Nat.le_trans (Nat.mul_le_mul_right uW h8) ?_
    rw [Nat.add_mul, Nat.mul_assoc, ← h7, Nat.add_mul, Nat.mul_add]
    omega
theorem psum_ab (e f : List Nat) (he : ∀ x ∈ e, safeB x = true) (hf : ∀ x ∈ f, safeB x = true) : psum e f * uW ≤ 3 * (ab (e.map fv) * ab (f.map fv)) := by
  induction f with
  | nil => simp [psum]
  | cons b f ih =>
    have i := ih (fun y hy => hf y (by simp [hy]))
    have h := prods_ab2 e b he (hf b (by simp))
    simp only [psum, List.map_cons, ab, Nat.add_mul, Nat.mul_add] at *
    omega
theorem mulFrom2 {T : Nat} (hT : Rep (T : Int)) (hTM : 18014398509481984 * T ≤ tameM) {e : List Nat} (he : ∀ x ∈ e, safeB x = true) (hl : e.length ≤ 64) (f : List Nat) (hf : ∀ x ∈ f, safeB x = true) (out : List Nat) (A : Nat) (n : Int) (h : Ex A n out) (hA : A + psum e f + f.length * (164001 * T) ≤ 4503599627370496 * T) :
    ∃ m : Int, Ex (A + psum e f + f.length * (164001 * T)) (n + m) (mulFrom e out f) ∧ m * (uW : Int) = (e.map fv).sum * (f.map fv).sum := by
  induction f generalizing out A n with
  | nil => exact ⟨0, by simpa [mulFrom, psum] using h, by simp⟩
  | cons b f ih =>
    simp only [psum, List.length_cons, Nat.add_mul, Nat.one_mul] at hA
    have hb := hf b (by simp)
    have hn : (prodsB e b).length ≤ 200 := by rw [prods_len]; omega
    have h1 := apneB_ex hT hTM (prodsB e b) (prods_fl e b) hn (by omega)
    have e1 := mergeB_fv out (scaleB e b)
    have a1 := merge_ab (out.map fv) ((scaleB e b).map fv)
    have s1 := merge_sum (out.map fv) ((scaleB e b).map fv)
    rw [← e1] at a1 s1
    have l1 := mergeB_len out (scaleB e b)
    have c1 := h.len
    have c2 : (scaleB e b).length ≤ 64 := h1.len
    have c3 := h.abl
    have c4 : ab ((scaleB e b).map fv) ≤ _ := h1.abl
    have c5 : ((scaleB e b).map fv).sum = _ := h1.sum
    have h2 := apneB_ex hT hTM (mergeB out (scaleB e b)) (mergeB_mem _ _ h.fl h1.fl) (by omega) (by omega)
    rw [s1, h.sum, c5] at h2
    obtain ⟨m, h3, h4⟩ := ih (fun x hx => hf x (by simp [hx])) (plusB out (scaleB e b)) (A + ab ((prodsB e b).map fv) + 164001 * T) _ (h2.mono (by omega)) (by omega)
    refine ⟨((prodsB e b).map fv).sum + m, ?_, ?_⟩
    · simp only [mulFrom, psum, List.length_cons, Nat.add_mul, Nat.one_mul]
      have e1 : n + (((prodsB e b).map fv).sum + m) = n + ((prodsB e b).map fv).sum + m := by omega
      rw [e1]
      exact h3.mono (by omega)
    · rw [Int.add_mul, (prods_facts e b he hb).1, h4, List.map_cons, List.sum_cons, Int.mul_add]
theorem mul2 {p A B : Nat} (h1 : 51 ≤ p) (h2 : p ≤ 2071) {n m : Int} {e f : List Nat} (he : Ex A n e) (hf : Ex B m f) (hse : ∀ x ∈ e, safeB x = true) (hsf : ∀ x ∈ f, safeB x = true) (h : 3 * (A * B) ≤ 2 ^ p * uW) :
    ∃ k : Int, Ex (2 ^ (p + 1)) k (mulX e f) ∧ k * (uW : Int) = n * m := by
  obtain ⟨T, hT, hTM, hp⟩ := pw51 h1 h2
  have hab := psum_ab e f hse hsf
  have hAB := Nat.mul_le_mul he.abl hf.abl
  have hps : psum e f ≤ 2 ^ p := by
    have : psum e f * uW ≤ 2 ^ p * uW := by omega
    exact Nat.le_of_mul_le_mul_right this uW_pos
  have hle : f.length * (164001 * T) ≤ 64 * (164001 * T) := Nat.mul_le_mul_right _ hf.len
  have e2 : 2 ^ (p + 1) = 2 * 2 ^ p := by rw [Nat.pow_succ, Nat.mul_comm]
  rw [e2]
  rw [hp] at hps ⊢
  obtain ⟨k, h3, h4⟩ := mulFrom2 hT hTM hse he.len f hsf [] 0 0 (Ex.nil 0) (by omega)
  rw [Int.zero_add] at h3
  rw [he.sum, hf.sum] at h4
  exact ⟨k, h3.mono (by omega), h4⟩

/-! ### Multiples of a power of two -/
def Dv (j : Nat) (l : List Nat) : Prop := ∀ x ∈ l, ((2 ^ j : Nat) : Int) ∣ fv x
theorem Dv.nil (j : Nat) : Dv j [] := fun x hx => by cases hx
theorem Dv.mono {i j : Nat} {l : List Nat} (h : Dv j l) (hi : i ≤ j) : Dv i l := fun x hx =>
  Int.dvd_trans (Int.natCast_dvd_natCast.2 (Nat.pow_dvd_pow 2 hi)) (h x hx)
theorem Dv.sum {j : Nat} {l : List Nat} (h : Dv j l) : ((2 ^ j : Nat) : Int) ∣ (l.map fv).sum := by
  induction l with
  | nil => exact ⟨0, by simp⟩
  | cons x l ih =>
    rw [List.map_cons, List.sum_cons]
    exact Int.dvd_add (h x (by simp)) (ih (fun y hy => h y (by simp [hy])))
theorem s_dv {j a b : Nat} (ha : ((2 ^ j : Nat) : Int) ∣ fv a) (hb : ((2 ^ j : Nat) : Int) ∣ fv b) : ((2 ^ j : Nat) : Int) ∣ fv (sHi a b) ∧ ((2 ^ j : Nat) : Int) ∣ fv (sLo a b) := by
  obtain ⟨-, -, -, -, h1, h2⟩ := s_any a b
  have h : ((2 ^ j : Nat) : Int) ∣ sVal a b := by
    unfold sVal; split
    · exact Int.dvd_add ha hb
    · exact ⟨0, by simp⟩
  rw [h1, h2]
  exact ⟨Rn_dvd h, Int.dvd_sub h (Rn_dvd h)⟩
theorem nzB_dv {j x : Nat} (h : ((2 ^ j : Nat) : Int) ∣ fv x) : Dv j (nzB x) := fun y hy => by rw [nzB_mem hy]; exact h
theorem Dv.append {j : Nat} {l m : List Nat} (hl : Dv j l) (hm : Dv j m) : Dv j (l ++ m) := fun x hx => by
  rcases List.mem_append.1 hx with h | h
  · exact hl x h
  · exact hm x h
theorem Dv.cons {j x : Nat} {l : List Nat} (hx : ((2 ^ j : Nat) : Int) ∣ fv x) (hl : Dv j l) : Dv j (x :: l) := fun y hy => by
  rcases List.mem_cons.1 hy with rfl | h
  · exact hx
  · exact hl y h
theorem Dv.tail {j x : Nat} {l : List Nat} (h : Dv j (x :: l)) : Dv j l := fun y hy => h y (by simp [hy])
theorem Dv.head {j x : Nat} {l : List Nat} (h : Dv j (x :: l)) : ((2 ^ j : Nat) : Int) ∣ fv x := h x (by simp)
theorem growB_dv {j : Nat} (e : List Nat) (q : Nat) (he : Dv j e) (hq : ((2 ^ j : Nat) : Int) ∣ fv q) : Dv j (growB e q) := by
  induction e generalizing q with
  | nil => exact nzB_dv hq
  | cons x e ih =>
    obtain ⟨h1, h2⟩ := s_dv hq he.head
    exact (nzB_dv h2).append (ih _ he.tail h1)
theorem growsB_dv {j : Nat} (bs out : List Nat) (ho : Dv j out) (hb : Dv j bs) : Dv j (growsB out bs) := by
  induction bs generalizing out with
  | nil => exact ho
  | cons b bs ih => exact ih _ (growB_dv out b ho hb.head) hb.tail
theorem dnB_dv {j : Nat} (e : List Nat) (q : Nat) (he : Dv j e) (hq : ((2 ^ j : Nat) : Int) ∣ fv q) : Dv j (dnBg e q) ∧ ((2 ^ j : Nat) : Int) ∣ fv (dnBq e q) := by
  induction e generalizing q with
  | nil => exact ⟨Dv.nil j, hq⟩
  | cons x e ih =>
    obtain ⟨h1, h2⟩ := s_dv hq he.head
    by_cases c : rung (sLo q x) ≠ 0
    · simp only [dnBg, dnBq, if_pos c]
      obtain ⟨a, b⟩ := ih _ he.tail h2
      exact ⟨Dv.cons h1 a, b⟩
    · simp only [dnBg, dnBq, if_neg c]
      exact ih _ he.tail h1
theorem upB_dv {j : Nat} (e : List Nat) (q : Nat) (he : Dv j e) (hq : ((2 ^ j : Nat) : Int) ∣ fv q) : Dv j (upB e q) := by
  induction e generalizing q with
  | nil => exact nzB_dv hq
  | cons x e ih =>
    obtain ⟨h1, h2⟩ := s_dv he.head hq
    exact (nzB_dv h2).append (ih _ he.tail h1)
theorem Dv.reverse {j : Nat} {l : List Nat} (h : Dv j l) : Dv j l.reverse := fun x hx => h x (List.mem_reverse.1 hx)
theorem neatB_dv {j : Nat} {l : List Nat} (h : Dv j l) : Dv j (neatB l) := by
  unfold neatB
  have hr := h.reverse
  cases hl : l.reverse with
  | nil => exact Dv.nil j
  | cons q r =>
    rw [hl] at hr
    obtain ⟨a, b⟩ := dnB_dv r q hr.tail hr.head
    exact upB_dv _ _ a.reverse b
theorem slowB_dv {j : Nat} (fuel : Nat) (n : Int) (acc : List Nat) (h : n.natAbs ≤ tameM) (hn : ((2 ^ j : Nat) : Int) ∣ n) (ha : Dv j acc) : Dv j (slowB fuel n acc) := by
  induction fuel generalizing n acc with
  | zero => exact ha
  | succ f ih =>
    unfold slowB
    by_cases c : n = 0
    · rw [if_pos c]; exact ha
    · rw [if_neg c]
      have := er_lt c
      exact ih (er n) _ (by omega) (Int.dvd_sub hn (Rn_dvd hn)) (Dv.cons (by rw [(rnB_fl h).2]; exact Rn_dvd hn) ha)
theorem apneB_dv {j : Nat} {bs : List Nat} (h : Dv j bs) (hM : ((neatB (growsB [] bs)).map fv).sum.natAbs ≤ tameM) : Dv j (apneB bs) := by
  have h1 := neatB_dv (growsB_dv bs [] (Dv.nil j) h)
  unfold apneB apartB
  split
  · exact h1
  · exact slowB_dv _ _ _ hM h1.sum (Dv.nil j)
theorem plusB_dv {j : Nat} {e f : List Nat} (he : Dv j e) (hf : Dv j f) (hM : ((neatB (growsB [] (mergeB e f))).map fv).sum.natAbs ≤ tameM) : Dv j (plusB e f) :=
  apneB_dv (mergeB_mem (P := fun x => ((2 ^ j : Nat) : Int) ∣ fv x) e f he hf) hM
theorem p_dv {i k j x b : Nat} (hx : safeB x = true) (hb : safeB b = true) (h1 : ((2 ^ i : Nat) : Int) ∣ fv x) (h2 : ((2 ^ k : Nat) : Int) ∣ fv b) (hj : i + k = j + uE) : ((2 ^ j : Nat) : Int) ∣ fv (pHi x b) ∧ ((2 ^ j : Nat) : Int) ∣ fv (pLo x b) := by
  obtain ⟨t, h3, h4, h5, -⟩ := p_facts hx hb
  obtain ⟨c, hc⟩ := h1
  obtain ⟨d, hd⟩ := h2
  have ht : ((2 ^ j : Nat) : Int) ∣ t := by
    refine ⟨c * d, ?_⟩
    have hU : (0 : Int) < (uW : Int) := by have := uW_pos; omega
    have e : ((2 ^ i : Nat) : Int) * ((2 ^ k : Nat) : Int) = ((2 ^ j : Nat) : Int) * (uW : Int) := by
      unfold uW
      rw [← Int.natCast_mul, ← Nat.pow_add, hj, Nat.pow_add, Int.natCast_mul]
    rw [hc, hd] at h3
    obtain ⟨U, hUU⟩ : ∃ U, U = (uW : Int) := ⟨_, rfl⟩
    rw [← hUU] at hU e h3
    apply Int.eq_of_mul_eq_mul_right (Int.ne_of_gt hU)
    rw [← h3]
    calc ((2 ^ i : Nat) : Int) * c * (((2 ^ k : Nat) : Int) * d) = (((2 ^ i : Nat) : Int) * ((2 ^ k : Nat) : Int)) * (c * d) := by ac_rfl
      _ = ((2 ^ j : Nat) : Int) * (c * d) * U := by rw [e]; ac_rfl
  rw [h4, h5]
  exact ⟨Rn_dvd ht, Int.dvd_sub ht (Rn_dvd ht)⟩
theorem prods_dv {i k j : Nat} {e : List Nat} {b : Nat} (he : ∀ x ∈ e, safeB x = true) (hb : safeB b = true) (h1 : Dv i e) (h2 : ((2 ^ k : Nat) : Int) ∣ fv b) (hj : i + k = j + uE) : Dv j (prodsB e b) := by
  induction e with
  | nil => exact Dv.nil j
  | cons x e ih =>
    obtain ⟨a, c⟩ := p_dv (he x (by simp)) hb h1.head h2 hj
    exact Dv.cons c (Dv.cons a (ih (fun y hy => he y (by simp [hy])) h1.tail))
theorem mulX_dv {i k j : Nat} {e f : List Nat} (he : ∀ x ∈ e, safeB x = true) (hle : e.length ≤ 64) (hf : ∀ x ∈ f, safeB x = true) (hlf : f.length ≤ 64) (h1 : Dv i e) (h2 : Dv k f) (hj : i + k = j + uE) : Dv j (mulX e f) := by
  have key : ∀ (f : List Nat) (out : List Nat) (A : Nat) (n : Int), (∀ x ∈ f, safeB x = true) → Dv k f → Ex A n out → A + f.length * (164001 * T0) ≤ 1000000000 * T0 → Dv j out → Dv j (mulFrom e out f) := by
    intro f
    induction f with
    | nil => intro out A n _ _ _ _ h; exact h
    | cons b f ih =>
      intro out A n hf h2 h hA hd
      simp only [List.length_cons, Nat.add_mul, Nat.one_mul] at hA
      have hb := hf b (by simp)
      obtain ⟨s1, s2⟩ := scaleB_ex he hb hle
      have s3 := plusB_ex h s1 (by omega)
      have s4 := plus_tame h s1 (by omega)
      have d1 : Dv j (scaleB e b) := apneB_dv (prods_dv he hb h1 h2.head hj) s2
      exact ih (plusB out (scaleB e b)) _ _ (fun x hx => hf x (by simp [hx])) h2.tail (s3.mono (show _ ≤ A + 164001 * T0 by omega)) (by omega) (plusB_dv hd d1 s4)
  have hle : f.length * (164001 * T0) ≤ 64 * (164001 * T0) := Nat.mul_le_mul_right _ hlf
  exact key f [] 0 0 hf h2 (Ex.nil 0) (by omega) (Dv.nil j)
theorem pow_up {a b : Nat} (h : a ≤ b) : 2 ^ a ≤ 2 ^ b := Nat.pow_le_pow_right (by decide) h
def e624 : Nat := 624
theorem safe_low {j : Nat} (h : 624 ≤ j) : mag 2580562586483294208 ≤ 2 ^ j := by
  have h1 : mag 2580562586483294208 = 2 ^ e624 := by unfold e624; decide +kernel
  rw [h1]
  exact pow_up h
/-- Multiples that are small enough are safe. -/
theorem safe_of {A j : Nat} {n : Int} {l : List Nat} (h : Ex A n l) (hd : Dv j l) (hA : A ≤ kS) (hj : 624 ≤ j) : (∀ x ∈ l, safeB x = true) ∧ allB 2580562586483294208 6633802251116740608 l = true := by
  have h1 : ∀ x ∈ l, 2580562586483294208 ≤ rung x ∧ rung x ≤ 6633802251116740608 := by
    intro x hx
    obtain ⟨h2, h3⟩ := okI_mem h.ok (fv x) (List.mem_map_of_mem hx)
    have h4 : 2 ^ j ∣ (fv x).natAbs := by have := Int.natAbs_dvd_natAbs.2 (hd x hx); rwa [Int.natAbs_natCast] at this
    have h5 := Nat.le_of_dvd (by omega) h4
    have h6 : mag 2580562586483294208 ≤ 2 ^ j := safe_low hj
    rw [fv_natAbs] at h3 h5
    rw [← mag_safe] at hA
    exact ⟨mag_le_iff.1 (Nat.le_trans h6 h5), mag_le_iff.1 (Nat.le_trans h3 hA)⟩
  refine ⟨fun x hx => decide_eq_true (Or.inr (h1 x hx)), ?_⟩
  exact (allB_ok (by decide) l).2 ⟨h.len, okI_bound h.ok (fun x hx => by have := (okI_mem h.ok x hx).2; rw [mag_safe]; omega), fun x hx => (h1 x hx).1⟩
/-- The negative of a list. -/
theorem fneg_fl {x : Nat} (h : Fl x) : Fl (fneg x) ∧ fv (fneg x) = - fv x := by
  exact ⟨⟨fneg_lt h.1, by rw [rung_fneg h.1]; exact h.2⟩, fv_fneg h.1⟩
theorem neg_fv {l : List Nat} (h : ∀ x ∈ l, Fl x) : (l.map fneg).map fv = (l.map fv).map (fun x => -x) := by
  induction l with
  | nil => rfl
  | cons x l ih =>
    simp only [List.map_cons]
    rw [(fneg_fl (h x (by simp))).2, ih (fun y hy => h y (by simp [hy]))]
theorem okI_neg {M : Nat} {l : List Int} (h : okI M l) : okI M (l.map (fun x => -x)) := by
  induction l with
  | nil => trivial
  | cons x l ih =>
    rw [List.map_cons, okI_cons]
    rw [okI_cons] at h
    refine ⟨by rw [Int.natAbs_neg]; exact ⟨by have := h.1.1; omega, h.1.2⟩, ?_, ih h.2.2⟩
    intro y t ht
    cases l with
    | nil => cases ht
    | cons z l =>
      simp only [List.map_cons, List.cons.injEq] at ht
      rw [← ht.1, Int.natAbs_neg, Int.natAbs_neg]
      exact h.2.1 z l rfl
theorem Ex.neg {A : Nat} {n : Int} {l : List Nat} (h : Ex A n l) : Ex A (-n) (l.map fneg) := by
  have hs : ∀ l : List Int, (l.map (fun x => -x)).sum = - l.sum := by
    intro l; induction l with
    | nil => rfl
    | cons x l ih => simp only [List.map_cons, List.sum_cons, ih]; omega
  have ha : ∀ l : List Int, ab (l.map (fun x => -x)) = ab l := by
    intro l; induction l with
    | nil => rfl
    | cons x l ih => simp only [List.map_cons, ab, ih, Int.natAbs_neg]
  refine ⟨fun x hx => ?_, ?_, ?_, by rw [List.length_map]; exact h.len, ?_⟩
  · obtain ⟨y, hy, rfl⟩ := List.mem_map.1 hx
    exact (fneg_fl (h.fl y hy)).1
  · rw [neg_fv h.fl, hs, h.sum]
  · rw [neg_fv h.fl]; exact okI_neg h.ok
  · rw [neg_fv h.fl, ha]; exact h.abl
theorem Dv.neg {j : Nat} {l : List Nat} (h : Dv j l) (hl : ∀ x ∈ l, Fl x) : Dv j (l.map fneg) := fun x hx => by
  obtain ⟨y, hy, rfl⟩ := List.mem_map.1 hx
  rw [(fneg_fl (hl y hy)).2]
  exact Int.dvd_neg.2 (h y hy)
/-- One float. -/
theorem Ex.one {x A : Nat} (hx : Fl x) (h0 : rung x ≠ 0) (hA : mag (rung x) ≤ A) : Ex A (fv x) [x] := by
  refine ⟨fun y hy => by rw [List.mem_singleton.1 hy]; exact hx, by simp, ?_, by simp, by simp only [List.map_cons, List.map_nil, ab, fv_natAbs]; omega⟩
  exact ⟨fun c => h0 ((fv_zero_iff x).1 c), by rw [fv_natAbs]; exact hA⟩
/-- Nothing but the empty list tells nought. -/
theorem Ex.empty {A : Nat} {l : List Nat} (h : Ex A 0 l) : l = [] := by
  apply Classical.byContradiction
  intro c
  obtain ⟨t, q, h1, h2, h3, h4, h5, h6⟩ := okI_leads h.ok (by simpa using c)
  exact h6 h.sum
end TV
end

section
/- Sums of floats: the examples. -/
namespace TV
/-! ### The examples -/
def k874 : Nat := 2 ^ 874
def k674 : Nat := 2 ^ 674
def oneF : Nat := 4607182418800017408
def moneF : Nat := 13830554455654793216
def tinyF : Nat := 3706462493325918208
def mtinyF : Nat := 12929834530180694016
def mt2F : Nat := 12029114604706594816
theorem fv_one : fv oneF = (uW : Int) := by unfold oneF uW uE; decide +kernel
theorem fv_mone : fv moneF = -(uW : Int) := by unfold moneF uW uE; decide +kernel
theorem fv_tiny : fv tinyF = (k874 : Int) := by unfold tinyF k874; decide +kernel
theorem fv_mtiny : fv mtinyF = -(k874 : Int) := by unfold mtinyF k874; decide +kernel
theorem fv_mt2 : fv mt2F = -(k674 : Int) := by unfold mt2F k674; decide +kernel
theorem fl_one : Fl oneF ∧ Fl moneF ∧ Fl tinyF ∧ Fl mtinyF ∧ Fl mt2F := by unfold Fl; decide
theorem k_lt : k674 < k874 ∧ k874 < uW ∧ 0 < k674 := by unfold k674 k874 uW uE; decide +kernel
theorem k_sq : k874 * k874 = k674 * uW := by unfold k674 k874 uW uE; decide +kernel
def p1080 : Nat := 1090
theorem uW_bound : 100 * uW ≤ 2 ^ p1080 := by unfold uW uE p1080; decide +kernel
theorem p_bound : 3 * (4 * uW * (4 * uW)) ≤ 2 ^ p1080 * uW := by unfold uW uE p1080; decide +kernel
theorem p_most : 2 ^ (p1080 + 4) ≤ mag 9065746049896808448 ∧ 2 ^ (p1080 + 4) ≤ mag 8660422083433463808 ∧ 2 ^ (p1080 + 4) ≤ kS := by unfold p1080 kS; decide +kernel
theorem lowb_uW : lowb uW = uW := by
  have := lowb_mk (m := 1) (k := uE) (by decide)
  rw [Nat.one_mul] at this; exact this
theorem ex_two {A : Nat} {x y : Nat} (hx : Fl x) (hy : Fl y) (h0 : fv x ≠ 0) (hl : (fv x).natAbs < lowb (fv y).natAbs) (h1 : fv y ≠ 0) (hA : (fv x).natAbs + (fv y).natAbs ≤ A) : Ex A (fv x + fv y) [x, y] := by
  refine ⟨fun z hz => ?_, by simp, ⟨⟨h0, by omega⟩, hl, h1, by omega⟩, by simp, by simp only [List.map_cons, List.map_nil, ab]; omega⟩
  simp only [List.mem_cons, List.not_mem_nil, or_false] at hz
  rcases hz with rfl | rfl
  · exact hx
  · exact hy
theorem ex_tiny_one : Ex (4 * uW) (fv tinyF + fv oneF) [tinyF, oneF] := by
  have := k_lt
  have e1 : (fv tinyF).natAbs = k874 := by rw [fv_tiny]; omega
  have e2 : (fv oneF).natAbs = uW := by rw [fv_one]; omega
  refine ex_two fl_one.2.2.1 fl_one.1 ?_ ?_ ?_ ?_
  · intro c; rw [c] at e1; simp at e1; omega
  · rw [e1, e2, lowb_uW]; omega
  · intro c; rw [c] at e2; simp at e2; omega
  · rw [e1, e2]; omega
theorem ex_tiny_mone : Ex (4 * uW) (fv tinyF + fv moneF) [tinyF, moneF] := by
  have := k_lt
  have e1 : (fv tinyF).natAbs = k874 := by rw [fv_tiny]; omega
  have e2 : (fv moneF).natAbs = uW := by rw [fv_mone]; omega
  refine ex_two fl_one.2.2.1 fl_one.2.1 ?_ ?_ ?_ ?_
  · intro c; rw [c] at e1; simp at e1; omega
  · rw [e1, e2, lowb_uW]; omega
  · intro c; rw [c] at e2; simp at e2; omega
  · rw [e1, e2]; omega
theorem ex_mtiny_one : Ex (4 * uW) (fv mtinyF + fv oneF) [mtinyF, oneF] := by
  have := k_lt
  have e1 : (fv mtinyF).natAbs = k874 := by rw [fv_mtiny]; omega
  have e2 : (fv oneF).natAbs = uW := by rw [fv_one]; omega
  refine ex_two fl_one.2.2.2.1 fl_one.1 ?_ ?_ ?_ ?_
  · intro c; rw [c] at e1; simp at e1; omega
  · rw [e1, e2, lowb_uW]; omega
  · intro c; rw [c] at e2; simp at e2; omega
  · rw [e1, e2]; omega
theorem ex_one : Ex (4 * uW) (fv oneF) [oneF] := by
  have := k_lt
  refine Ex.one fl_one.1 (by decide) ?_
  rw [← fv_natAbs, fv_one]; omega
theorem ex_tiny : Ex (4 * uW) (fv tinyF) [tinyF] := by
  have := k_lt
  refine Ex.one fl_one.2.2.1 (by decide) ?_
  rw [← fv_natAbs, fv_tiny]; omega
theorem ex_mt2 : Ex (4 * uW) (fv mt2F) [mt2F] := by
  have := k_lt
  refine Ex.one fl_one.2.2.2.2 (by decide) ?_
  rw [← fv_natAbs, fv_mt2]; omega
theorem s_tiny : sHi oneF tinyF = oneF ∧ sLo oneF tinyF = tinyF ∧ sHi tinyF oneF = oneF ∧ sLo tinyF oneF = tinyF := by decide +kernel
theorem plus_one_tiny : plusB [oneF] [tinyF] = [tinyF, oneF] := by
  have h1 : mergeB [oneF] [tinyF] = [tinyF, oneF] := by
    rw [mergeB_ge (by decide), mergeB_right]
  have h2 : growsB [] [tinyF, oneF] = [tinyF, oneF] := by decide +kernel
  have h3 : neatB [tinyF, oneF] = [tinyF, oneF] := by decide +kernel
  unfold plusB apneB
  rw [h1, h2, h3]
  unfold apartB
  rw [if_pos]
  refine (allB_one _).2 ⟨by decide, okI_bound ex_tiny_one.ok (fun x hx => ?_)⟩
  have := (okI_mem ex_tiny_one.ok x hx).2
  have h4 : 4 * uW ≤ mag inf := by unfold uW uE; decide +kernel
  omega
theorem dv_one : Dv k674.log2 [] := Dv.nil _
/-- The second example: its number. -/
theorem mul_example : ∃ k : Int, Ex (2 ^ (p1080 + 1)) k (mulX [tinyF, oneF] [tinyF, moneF]) ∧ k = (k674 : Int) - uW := by
  have hs1 : ∀ x ∈ [tinyF, oneF], safeB x = true := by decide
  have hs2 : ∀ x ∈ [tinyF, moneF], safeB x = true := by decide
  obtain ⟨k, h1, h2⟩ := mul2 (p := p1080) (by decide) (by decide) ex_tiny_one ex_tiny_mone hs1 hs2 p_bound
  refine ⟨k, h1, ?_⟩
  rw [fv_tiny, fv_one, fv_mone] at h2
  have hU : (0 : Int) < (uW : Int) := by have := uW_pos; omega
  have hsq : (k874 : Int) * k874 = k674 * (uW : Int) := by rw [← Int.natCast_mul, k_sq, Int.natCast_mul]
  generalize (uW : Int) = U at *
  generalize (k874 : Int) = K at *
  generalize (k674 : Int) = L at *
  have h3 : (K + U) * (K + -U) = (L - U) * U := by
    have : (K + U) * (K + -U) = K * K - U * U := by grind
    rw [this, hsq]; grind
  rw [h3] at h2
  exact Int.eq_of_mul_eq_mul_right (Int.ne_of_gt hU) h2
theorem sum_example : sumFrom [] [mulX [tinyF, oneF] [tinyF, moneF], [oneF], [mt2F]] = [] := by
  obtain ⟨k, h1, h2⟩ := mul_example
  have hb : 2 ^ (p1080 + 1) = 2 * 2 ^ p1080 := by rw [Nat.pow_succ, Nat.mul_comm]
  have hb2 : 2 ^ (p1080 + 2) = 4 * 2 ^ p1080 := by rw [Nat.pow_succ, hb]; omega
  have hb3 : 2 ^ (p1080 + 3) = 8 * 2 ^ p1080 := by rw [Nat.pow_succ, hb2]; omega
  have hu := uW_bound
  have a1 := (plus2 (p := p1080 + 1) (by decide) (by decide) (Ex.nil 0) h1 (by omega)).1
  have a2 := (plus2 (p := p1080 + 3) (by decide) (by decide) a1 ex_one (by omega)).1
  have hb4 : 2 ^ (p1080 + 3 + 1) = 16 * 2 ^ p1080 := by rw [Nat.pow_succ, hb3]; omega
  have hb5 : 2 ^ (p1080 + 5) = 32 * 2 ^ p1080 := by rw [show p1080 + 5 = p1080 + 3 + 1 + 1 from rfl, Nat.pow_succ, hb4]; omega
  have a3 := (plus2 (p := p1080 + 5) (by decide) (by decide) a2 ex_mt2 (by omega)).1
  have e : 0 + k + fv oneF + fv mt2F = 0 := by rw [h2, fv_one, fv_mt2]; omega
  rw [e] at a3
  exact a3.empty
end TV
end
