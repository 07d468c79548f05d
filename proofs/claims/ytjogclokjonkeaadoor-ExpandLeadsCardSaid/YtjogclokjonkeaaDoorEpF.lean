/- Sums of floats: products, many sums, bounds. -/
import Derived.Test.YtjogclokjonkeaaDoorEpD
namespace TV
/-- Lists of floats that may be are expansions of their sum. -/
theorem allB_ex {b : Nat} (hb : b < inf) (l : List Nat) (hl : ∀ x ∈ l, x < 18446744073709551616) (h : allB 1 b l = true) : Ex (64 * mag b) (l.map fv).sum l := by
  obtain ⟨h1, h2⟩ := (allB_one l).1 h
  have hm := okI_mem h2
  refine ⟨fun x hx => ⟨hl x hx, ?_⟩, rfl, okI_bound h2 (fun x hx => by have := (hm x hx).2; omega), h1, ?_⟩
  · have h3 := (hm (fv x) (List.mem_map_of_mem hx)).2
    rw [fv_natAbs] at h3
    have := mag_le_iff.1 h3
    omega
  · have h3 := ab_le (l := l.map fv) (T := mag b) (fun x hx => (hm x hx).2)
    rw [List.length_map] at h3
    have h4 : l.length * mag b ≤ 64 * mag b := Nat.mul_le_mul_right _ h1
    omega
/-- An expansion of floats below a bound may be. -/
theorem Ex.may {A b : Nat} {n : Int} {l : List Nat} (h : Ex A n l) (hA : A ≤ mag b) : allB 1 b l = true :=
  (allB_one l).2 ⟨h.len, okI_bound h.ok (fun x hx => Nat.le_trans (okI_mem h.ok x hx).2 hA)⟩
theorem mag_most : mag 9065746049896808448 = 2 ^ 2064 := by decide +kernel
theorem mag_add : mag 8660422083433463808 = 2 ^ 1974 := by decide +kernel
def kS : Nat := 2 ^ 1524
def kP : Nat := 2 ^ 1974
theorem mag_safe : mag 6633802251116740608 = kS := by unfold kS; decide +kernel
theorem uW_two : 2 ^ 1074 = uW := by unfold uW uE; rfl
theorem kS_sq : kS * kS = kP * uW := by unfold kS kP uW uE; decide +kernel
/-- Bounds in T0. -/
theorem most_T0 : mag 9065746049896808448 = 17592186044416 * T0 := by unfold T0; decide +kernel
theorem add_T0 : 64 * mag 8660422083433463808 ≤ T0 := by unfold T0; decide +kernel
theorem safe_T0 : 64 * (3 * kP) ≤ T0 := by unfold T0 kP; decide +kernel

/-- The products of a list with a float. -/
def prodsB : List Nat → Nat → List Nat
  | [], _ => []
  | x :: e, b => pLo x b :: pHi x b :: prodsB e b
theorem p_fl (a b : Nat) : Fl (pHi a b) ∧ Fl (pLo a b) := by
  obtain ⟨h1, h2, h3, h4, -⟩ := p_any a b
  have hi : (9119789245425254400 : Nat) < inf := by decide
  exact ⟨⟨h1, by omega⟩, ⟨h2, by omega⟩⟩
theorem prods_fl (e : List Nat) (b : Nat) : ∀ y ∈ prodsB e b, Fl y := by
  induction e with
  | nil => intro y hy; cases hy
  | cons x e ih =>
    intro y hy
    simp only [prodsB, List.mem_cons] at hy
    rcases hy with rfl | rfl | hy
    · exact (p_fl x b).2
    · exact (p_fl x b).1
    · exact ih y hy
theorem prods_len (e : List Nat) (b : Nat) : (prodsB e b).length = 2 * e.length := by
  induction e with
  | nil => rfl
  | cons x e ih => simp only [prodsB, List.length_cons, ih]; omega
theorem safe_mag {x : Nat} (h : safeB x = true) : (fv x).natAbs ≤ kS := by
  rw [fv_natAbs, ← mag_safe, mag_le_iff]
  have := of_decide_eq_true h
  omega
theorem p_facts {x b : Nat} (hx : safeB x = true) (hb : safeB b = true) :
    ∃ t : Int, fv x * fv b = t * (uW : Int) ∧ fv (pHi x b) = Rn t ∧ fv (pLo x b) = er t ∧ t.natAbs ≤ kP := by
  obtain ⟨-, -, -, -, t, h1, h2, h3⟩ := p_any x b
  have e : pVal x b = fv x * fv b := by unfold pVal; rw [hx, hb]; rfl
  rw [e, uW_two] at h1
  refine ⟨t, h1, h2, h3, ?_⟩
  have h4 := congrArg Int.natAbs h1
  rw [Int.natAbs_mul, Int.natAbs_mul, Int.natAbs_natCast] at h4
  have h5 := Nat.mul_le_mul (safe_mag hx) (safe_mag hb)
  rw [h4, kS_sq] at h5
  exact Nat.le_of_mul_le_mul_right h5 uW_pos
theorem prods_facts (e : List Nat) (b : Nat) (he : ∀ x ∈ e, safeB x = true) (hb : safeB b = true) :
    ((prodsB e b).map fv).sum * (uW : Int) = (e.map fv).sum * fv b ∧ ab ((prodsB e b).map fv) ≤ e.length * (3 * kP) := by
  induction e with
  | nil => exact ⟨by simp [prodsB], by simp [prodsB, ab]⟩
  | cons x e ih =>
    obtain ⟨i1, i2⟩ := ih (fun y hy => he y (by simp [hy]))
    obtain ⟨t, h1, h2, h3, h4⟩ := p_facts (he x (by simp)) hb
    have h5 := er_err t
    have h6 := Rn_small (t := t) (T := t.natAbs) (by omega)
    constructor
    · simp only [prodsB, List.map_cons, List.sum_cons, h2, h3]
      have : er t + (Rn t + ((prodsB e b).map fv).sum) = t + ((prodsB e b).map fv).sum := by unfold er; omega
      rw [this, Int.add_mul, Int.add_mul, i1, h1]
    · simp only [prodsB, List.map_cons, ab, h2, h3, List.length_cons, Nat.add_mul, Nat.one_mul]
      omega
def scaleB (e : List Nat) (b : Nat) : List Nat := apneB (prodsB e b)
theorem prods_ab {e : List Nat} {b : Nat} (he : ∀ x ∈ e, safeB x = true) (hb : safeB b = true) (hl : e.length ≤ 64) : ab ((prodsB e b).map fv) ≤ T0 := by
  have h1 := (prods_facts e b he hb).2
  have h2 : e.length * (3 * kP) ≤ 64 * (3 * kP) := Nat.mul_le_mul_right _ hl
  exact Nat.le_trans h1 (Nat.le_trans h2 safe_T0)
theorem scaleB_ex {e : List Nat} {b : Nat} (he : ∀ x ∈ e, safeB x = true) (hb : safeB b = true) (hl : e.length ≤ 64) :
    Ex (82001 * T0) ((prodsB e b).map fv).sum (scaleB e b) ∧ ((neatB (growsB [] (prodsB e b))).map fv).sum.natAbs ≤ tameM := by
  have h1 := prods_ab he hb hl
  have hn : (prodsB e b).length ≤ 200 := by rw [prods_len]; omega
  exact ⟨(apneB_ex T0_rep (Nat.le_of_eq T0_tame) (prodsB e b) (prods_fl e b) hn (by omega)).mono (by omega), apne_tame (Nat.le_of_eq T0_tame) (prodsB e b) (prods_fl e b) hn (by omega)⟩
/-- The product of two lists. -/
def mulFrom (e : List Nat) : List Nat → List Nat → List Nat
  | out, [] => out
  | out, b :: f => mulFrom e (plusB out (scaleB e b)) f
def mulX (e f : List Nat) : List Nat := mulFrom e [] f
theorem mulFrom_ex {e : List Nat} (he : ∀ x ∈ e, safeB x = true) (hl : e.length ≤ 64) (f : List Nat) (hf : ∀ x ∈ f, safeB x = true) (out : List Nat) (A : Nat) (n : Int) (h : Ex A n out) (hA : A + f.length * (164001 * T0) ≤ 1000000000 * T0) :
    ∃ m : Int, Ex (A + f.length * (164001 * T0)) (n + m) (mulFrom e out f) ∧ m * (uW : Int) = (e.map fv).sum * (f.map fv).sum := by
  induction f generalizing out A n with
  | nil => exact ⟨0, by simpa [mulFrom] using h, by simp⟩
  | cons b f ih =>
    simp only [List.length_cons, Nat.add_mul, Nat.one_mul] at hA
    have hb := hf b (by simp)
    have h1 := (scaleB_ex he hb hl).1
    have h2 := plusB_ex h h1 (by omega)
    obtain ⟨m, h3, h4⟩ := ih (fun x hx => hf x (by simp [hx])) _ _ _ (h2.mono (show _ ≤ A + 164001 * T0 by omega)) (by omega)
    refine ⟨((prodsB e b).map fv).sum + m, ?_, ?_⟩
    · simp only [mulFrom, List.length_cons, Nat.add_mul, Nat.one_mul]
      have e1 : n + (((prodsB e b).map fv).sum + m) = n + ((prodsB e b).map fv).sum + m := by omega
      rw [e1]
      exact h3.mono (by omega)
    · rw [Int.add_mul, (prods_facts e b he hb).1, h4, List.map_cons, List.sum_cons, Int.mul_add]
theorem mulX_ex {e f : List Nat} (he : ∀ x ∈ e, safeB x = true) (hl : e.length ≤ 64) (hf : ∀ x ∈ f, safeB x = true) (hlf : f.length ≤ 64) :
    ∃ m : Int, Ex (10500000 * T0) m (mulX e f) ∧ m * (uW : Int) = (e.map fv).sum * (f.map fv).sum := by
  have hle : f.length * (164001 * T0) ≤ 64 * (164001 * T0) := Nat.mul_le_mul_right _ hlf
  obtain ⟨m, h1, h2⟩ := mulFrom_ex he hl f hf [] 0 0 (Ex.nil 0) (by omega)
  rw [Int.zero_add] at h1
  exact ⟨m, h1.mono (by omega), h2⟩
/-- Safe lists. -/
theorem allB_safe {l : List Nat} (h : allB 2580562586483294208 6633802251116740608 l = true) : l.length ≤ 64 ∧ (∀ x ∈ l, safeB x = true) ∧ okI (mag 6633802251116740608) (l.map fv) := by
  obtain ⟨h1, h2, h3⟩ := (allB_ok (by decide) l).1 h
  refine ⟨h1, fun x hx => ?_, h2⟩
  have h4 := (okI_mem h2 (fv x) (List.mem_map_of_mem hx)).2
  rw [fv_natAbs] at h4
  exact decide_eq_true (Or.inr ⟨h3 x hx, mag_le_iff.1 h4⟩)
/-- The sum of many lists. -/
def sumFrom : List Nat → List (List Nat) → List Nat
  | out, [] => out
  | out, e :: l => sumFrom (plusB out e) l
def isum : List (List Nat) → Int
  | [] => 0
  | e :: l => (e.map fv).sum + isum l
theorem sumFrom_ex (l : List (List Nat)) (hl : ∀ e ∈ l, ∃ n, Ex T0 n e) (out : List Nat) (A : Nat) (n : Int) (h : Ex A n out) (hA : A + l.length * (82001 * T0) ≤ 1000000000 * T0) :
    Ex (A + l.length * (82001 * T0)) (n + isum l) (sumFrom out l) := by
  induction l generalizing out A n with
  | nil => simpa [sumFrom, isum] using h
  | cons e l ih =>
    simp only [List.length_cons, Nat.add_mul, Nat.one_mul] at hA
    obtain ⟨m, hm⟩ := hl e (by simp)
    have h2 := plusB_ex h hm (by omega)
    have h3 := ih (fun x hx => hl x (by simp [hx])) _ _ _ (h2.mono (show _ ≤ A + 82001 * T0 by omega)) (by omega)
    simp only [sumFrom, isum, List.length_cons, Nat.add_mul, Nat.one_mul]
    rw [hm.sum, show n + (m + isum l) = n + m + isum l by omega]
    exact h3.mono (by omega)
end TV
