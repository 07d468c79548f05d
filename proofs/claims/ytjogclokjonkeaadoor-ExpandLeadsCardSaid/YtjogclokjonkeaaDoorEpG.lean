/- Sums of floats: sharper bounds, multiples of powers of two, what is safe, the negative. -/
import Derived.Test.YtjogclokjonkeaaDoorEpF
namespace TV
/-! ### Sharper bounds -/
theorem pw51 {p : Nat} (h : 51 ≤ p) (h2 : p ≤ 2071) : ∃ T : Nat, Rep (T : Int) ∧ 18014398509481984 * T ≤ tameM ∧ 2 ^ p = 2251799813685248 * T := by
  obtain ⟨k, rfl⟩ : ∃ k, p = 51 + k := ⟨p - 51, by omega⟩
  refine ⟨2 ^ k, Rep_mk (m := 1) (k := k) (by rw [Int.one_mul]) (by decide), ?_, by rw [Nat.pow_add]⟩
  unfold tameM
  have h3 : (18014398509481984 : Nat) = 2 ^ 54 := by decide
  rw [h3, ← Nat.pow_add, show (2074 : Nat) = (54 + k) + (2020 - k) by omega, Nat.pow_add 2 (54 + k)]
  exact Nat.le_mul_of_pos_right _ (Nat.two_pow_pos _)
theorem apne2 {p : Nat} (h1 : 51 ≤ p) (h2 : p ≤ 2071) (bs : List Nat) (hb : ∀ y ∈ bs, Fl y) (hn : bs.length ≤ 200) (hA : ab (bs.map fv) ≤ 2 ^ p) :
    Ex (2 ^ (p + 1)) (bs.map fv).sum (apneB bs) ∧ ((neatB (growsB [] bs)).map fv).sum.natAbs ≤ tameM := by
  obtain ⟨T, hT, hTM, hp⟩ := pw51 h1 h2
  have e : 2 ^ (p + 1) = 2 * 2 ^ p := by rw [Nat.pow_succ, Nat.mul_comm]
  rw [e]
  rw [hp] at hA ⊢
  exact ⟨(apneB_ex hT hTM bs hb hn (by omega)).mono (by omega), apne_tame hTM bs hb hn (by omega)⟩
theorem plus2 {p A B : Nat} (h1 : 51 ≤ p) (h2 : p ≤ 2071) {n m : Int} {e f : List Nat} (he : Ex A n e) (hf : Ex B m f) (h : A + B ≤ 2 ^ p) :
    Ex (2 ^ (p + 1)) (n + m) (plusB e f) ∧ ((neatB (growsB [] (mergeB e f))).map fv).sum.natAbs ≤ tameM := by
  have e1 := mergeB_fv e f
  have a1 := merge_ab (e.map fv) (f.map fv)
  have s1 := merge_sum (e.map fv) (f.map fv)
  rw [← e1] at a1 s1
  have l1 := mergeB_len e f
  have := he.len
  have := hf.len
  have := he.abl
  have := hf.abl
  have E := apne2 h1 h2 (mergeB e f) (mergeB_mem e f he.fl hf.fl) (by omega) (by omega)
  rw [s1, he.sum, hf.sum] at E
  exact E
/-- The magnitudes of all products. -/
def psum (e : List Nat) : List Nat → Nat
  | [] => 0
  | b :: f => ab ((prodsB e b).map fv) + psum e f
theorem prods_ab2 (e : List Nat) (b : Nat) (he : ∀ x ∈ e, safeB x = true) (hb : safeB b = true) : ab ((prodsB e b).map fv) * uW ≤ 3 * (ab (e.map fv) * (fv b).natAbs) := by
  induction e with
  | nil => simp [prodsB, ab]
  | cons x e ih =>
    have i := ih (fun y hy => he y (by simp [hy]))
    obtain ⟨t, h1, h2, h3, h4⟩ := p_facts (he x (by simp)) hb
    have h5 := er_err t
    have h6 := Rn_small (t := t) (T := t.natAbs) (by omega)
    have h7 := congrArg Int.natAbs h1
    rw [Int.natAbs_mul, Int.natAbs_mul, Int.natAbs_natCast] at h7
    simp only [prodsB, List.map_cons, ab, h2, h3]
    have h8 : (er t).natAbs + ((Rn t).natAbs + ab ((prodsB e b).map fv)) ≤ 3 * t.natAbs + ab ((prodsB e b).map fv) := by omega
    refine Nat.le_trans (Nat.mul_le_mul_right uW h8) ?_
    rw [Nat.add_mul, Nat.mul_assoc, ← h7, Nat.add_mul, Nat.mul_add]
    omega
theorem psum_ab (e f : List Nat) (he : ∀ x ∈ e, safeB x = true) (hf : ∀ x ∈ f, safeB x = true) : psum e f * uW ≤ 3 * (ab (e.map fv) * ab (f.map fv)) := by
  induction f with
  | nil => simp [psum]
  | cons b f ih =>
    have i := ih (fun y hy => hf y (by simp [hy]))
    have h := prods_ab2 e b he (hf b (by simp))
    simp only [psum, List.map_cons, ab, Nat.add_mul, Nat.mul_add] at *
    omega
theorem mulFrom2 {T : Nat} (hT : Rep (T : Int)) (hTM : 18014398509481984 * T ≤ tameM) {e : List Nat} (he : ∀ x ∈ e, safeB x = true) (hl : e.length ≤ 64) (f : List Nat) (hf : ∀ x ∈ f, safeB x = true) (out : List Nat) (A : Nat) (n : Int) (h : Ex A n out) (hA : A + psum e f + f.length * (164001 * T) ≤ 4503599627370496 * T) :
    ∃ m : Int, Ex (A + psum e f + f.length * (164001 * T)) (n + m) (mulFrom e out f) ∧ m * (uW : Int) = (e.map fv).sum * (f.map fv).sum := by
  induction f generalizing out A n with
  | nil => exact ⟨0, by simpa [mulFrom, psum] using h, by simp⟩
  | cons b f ih =>
    simp only [psum, List.length_cons, Nat.add_mul, Nat.one_mul] at hA
    have hb := hf b (by simp)
    have hn : (prodsB e b).length ≤ 200 := by rw [prods_len]; omega
    have h1 := apneB_ex hT hTM (prodsB e b) (prods_fl e b) hn (by omega)
    have e1 := mergeB_fv out (scaleB e b)
    have a1 := merge_ab (out.map fv) ((scaleB e b).map fv)
    have s1 := merge_sum (out.map fv) ((scaleB e b).map fv)
    rw [← e1] at a1 s1
    have l1 := mergeB_len out (scaleB e b)
    have c1 := h.len
    have c2 : (scaleB e b).length ≤ 64 := h1.len
    have c3 := h.abl
    have c4 : ab ((scaleB e b).map fv) ≤ _ := h1.abl
    have c5 : ((scaleB e b).map fv).sum = _ := h1.sum
    have h2 := apneB_ex hT hTM (mergeB out (scaleB e b)) (mergeB_mem _ _ h.fl h1.fl) (by omega) (by omega)
    rw [s1, h.sum, c5] at h2
    obtain ⟨m, h3, h4⟩ := ih (fun x hx => hf x (by simp [hx])) (plusB out (scaleB e b)) (A + ab ((prodsB e b).map fv) + 164001 * T) _ (h2.mono (by omega)) (by omega)
    refine ⟨((prodsB e b).map fv).sum + m, ?_, ?_⟩
    · simp only [mulFrom, psum, List.length_cons, Nat.add_mul, Nat.one_mul]
      have e1 : n + (((prodsB e b).map fv).sum + m) = n + ((prodsB e b).map fv).sum + m := by omega
      rw [e1]
      exact h3.mono (by omega)
    · rw [Int.add_mul, (prods_facts e b he hb).1, h4, List.map_cons, List.sum_cons, Int.mul_add]
theorem mul2 {p A B : Nat} (h1 : 51 ≤ p) (h2 : p ≤ 2071) {n m : Int} {e f : List Nat} (he : Ex A n e) (hf : Ex B m f) (hse : ∀ x ∈ e, safeB x = true) (hsf : ∀ x ∈ f, safeB x = true) (h : 3 * (A * B) ≤ 2 ^ p * uW) :
    ∃ k : Int, Ex (2 ^ (p + 1)) k (mulX e f) ∧ k * (uW : Int) = n * m := by
  obtain ⟨T, hT, hTM, hp⟩ := pw51 h1 h2
  have hab := psum_ab e f hse hsf
  have hAB := Nat.mul_le_mul he.abl hf.abl
  have hps : psum e f ≤ 2 ^ p := by
    have : psum e f * uW ≤ 2 ^ p * uW := by omega
    exact Nat.le_of_mul_le_mul_right this uW_pos
  have hle : f.length * (164001 * T) ≤ 64 * (164001 * T) := Nat.mul_le_mul_right _ hf.len
  have e2 : 2 ^ (p + 1) = 2 * 2 ^ p := by rw [Nat.pow_succ, Nat.mul_comm]
  rw [e2]
  rw [hp] at hps ⊢
  obtain ⟨k, h3, h4⟩ := mulFrom2 hT hTM hse he.len f hsf [] 0 0 (Ex.nil 0) (by omega)
  rw [Int.zero_add] at h3
  rw [he.sum, hf.sum] at h4
  exact ⟨k, h3.mono (by omega), h4⟩

/-! ### Multiples of a power of two -/
def Dv (j : Nat) (l : List Nat) : Prop := ∀ x ∈ l, ((2 ^ j : Nat) : Int) ∣ fv x
theorem Dv.nil (j : Nat) : Dv j [] := fun x hx => by cases hx
theorem Dv.mono {i j : Nat} {l : List Nat} (h : Dv j l) (hi : i ≤ j) : Dv i l := fun x hx =>
  Int.dvd_trans (Int.natCast_dvd_natCast.2 (Nat.pow_dvd_pow 2 hi)) (h x hx)
theorem Dv.sum {j : Nat} {l : List Nat} (h : Dv j l) : ((2 ^ j : Nat) : Int) ∣ (l.map fv).sum := by
  induction l with
  | nil => exact ⟨0, by simp⟩
  | cons x l ih =>
    rw [List.map_cons, List.sum_cons]
    exact Int.dvd_add (h x (by simp)) (ih (fun y hy => h y (by simp [hy])))
theorem s_dv {j a b : Nat} (ha : ((2 ^ j : Nat) : Int) ∣ fv a) (hb : ((2 ^ j : Nat) : Int) ∣ fv b) : ((2 ^ j : Nat) : Int) ∣ fv (sHi a b) ∧ ((2 ^ j : Nat) : Int) ∣ fv (sLo a b) := by
  obtain ⟨-, -, -, -, h1, h2⟩ := s_any a b
  have h : ((2 ^ j : Nat) : Int) ∣ sVal a b := by
    unfold sVal; split
    · exact Int.dvd_add ha hb
    · exact ⟨0, by simp⟩
  rw [h1, h2]
  exact ⟨Rn_dvd h, Int.dvd_sub h (Rn_dvd h)⟩
theorem nzB_dv {j x : Nat} (h : ((2 ^ j : Nat) : Int) ∣ fv x) : Dv j (nzB x) := fun y hy => by rw [nzB_mem hy]; exact h
theorem Dv.append {j : Nat} {l m : List Nat} (hl : Dv j l) (hm : Dv j m) : Dv j (l ++ m) := fun x hx => by
  rcases List.mem_append.1 hx with h | h
  · exact hl x h
  · exact hm x h
theorem Dv.cons {j x : Nat} {l : List Nat} (hx : ((2 ^ j : Nat) : Int) ∣ fv x) (hl : Dv j l) : Dv j (x :: l) := fun y hy => by
  rcases List.mem_cons.1 hy with rfl | h
  · exact hx
  · exact hl y h
theorem Dv.tail {j x : Nat} {l : List Nat} (h : Dv j (x :: l)) : Dv j l := fun y hy => h y (by simp [hy])
theorem Dv.head {j x : Nat} {l : List Nat} (h : Dv j (x :: l)) : ((2 ^ j : Nat) : Int) ∣ fv x := h x (by simp)
theorem growB_dv {j : Nat} (e : List Nat) (q : Nat) (he : Dv j e) (hq : ((2 ^ j : Nat) : Int) ∣ fv q) : Dv j (growB e q) := by
  induction e generalizing q with
  | nil => exact nzB_dv hq
  | cons x e ih =>
    obtain ⟨h1, h2⟩ := s_dv hq he.head
    exact (nzB_dv h2).append (ih _ he.tail h1)
theorem growsB_dv {j : Nat} (bs out : List Nat) (ho : Dv j out) (hb : Dv j bs) : Dv j (growsB out bs) := by
  induction bs generalizing out with
  | nil => exact ho
  | cons b bs ih => exact ih _ (growB_dv out b ho hb.head) hb.tail
theorem dnB_dv {j : Nat} (e : List Nat) (q : Nat) (he : Dv j e) (hq : ((2 ^ j : Nat) : Int) ∣ fv q) : Dv j (dnBg e q) ∧ ((2 ^ j : Nat) : Int) ∣ fv (dnBq e q) := by
  induction e generalizing q with
  | nil => exact ⟨Dv.nil j, hq⟩
  | cons x e ih =>
    obtain ⟨h1, h2⟩ := s_dv hq he.head
    by_cases c : rung (sLo q x) ≠ 0
    · simp only [dnBg, dnBq, if_pos c]
      obtain ⟨a, b⟩ := ih _ he.tail h2
      exact ⟨Dv.cons h1 a, b⟩
    · simp only [dnBg, dnBq, if_neg c]
      exact ih _ he.tail h1
theorem upB_dv {j : Nat} (e : List Nat) (q : Nat) (he : Dv j e) (hq : ((2 ^ j : Nat) : Int) ∣ fv q) : Dv j (upB e q) := by
  induction e generalizing q with
  | nil => exact nzB_dv hq
  | cons x e ih =>
    obtain ⟨h1, h2⟩ := s_dv he.head hq
    exact (nzB_dv h2).append (ih _ he.tail h1)
theorem Dv.reverse {j : Nat} {l : List Nat} (h : Dv j l) : Dv j l.reverse := fun x hx => h x (List.mem_reverse.1 hx)
theorem neatB_dv {j : Nat} {l : List Nat} (h : Dv j l) : Dv j (neatB l) := by
  unfold neatB
  have hr := h.reverse
  cases hl : l.reverse with
  | nil => exact Dv.nil j
  | cons q r =>
    rw [hl] at hr
    obtain ⟨a, b⟩ := dnB_dv r q hr.tail hr.head
    exact upB_dv _ _ a.reverse b
theorem slowB_dv {j : Nat} (fuel : Nat) (n : Int) (acc : List Nat) (h : n.natAbs ≤ tameM) (hn : ((2 ^ j : Nat) : Int) ∣ n) (ha : Dv j acc) : Dv j (slowB fuel n acc) := by
  induction fuel generalizing n acc with
  | zero => exact ha
  | succ f ih =>
    unfold slowB
    by_cases c : n = 0
    · rw [if_pos c]; exact ha
    · rw [if_neg c]
      have := er_lt c
      exact ih (er n) _ (by omega) (Int.dvd_sub hn (Rn_dvd hn)) (Dv.cons (by rw [(rnB_fl h).2]; exact Rn_dvd hn) ha)
theorem apneB_dv {j : Nat} {bs : List Nat} (h : Dv j bs) (hM : ((neatB (growsB [] bs)).map fv).sum.natAbs ≤ tameM) : Dv j (apneB bs) := by
  have h1 := neatB_dv (growsB_dv bs [] (Dv.nil j) h)
  unfold apneB apartB
  split
  · exact h1
  · exact slowB_dv _ _ _ hM h1.sum (Dv.nil j)
theorem plusB_dv {j : Nat} {e f : List Nat} (he : Dv j e) (hf : Dv j f) (hM : ((neatB (growsB [] (mergeB e f))).map fv).sum.natAbs ≤ tameM) : Dv j (plusB e f) :=
  apneB_dv (mergeB_mem (P := fun x => ((2 ^ j : Nat) : Int) ∣ fv x) e f he hf) hM
theorem p_dv {i k j x b : Nat} (hx : safeB x = true) (hb : safeB b = true) (h1 : ((2 ^ i : Nat) : Int) ∣ fv x) (h2 : ((2 ^ k : Nat) : Int) ∣ fv b) (hj : i + k = j + uE) : ((2 ^ j : Nat) : Int) ∣ fv (pHi x b) ∧ ((2 ^ j : Nat) : Int) ∣ fv (pLo x b) := by
  obtain ⟨t, h3, h4, h5, -⟩ := p_facts hx hb
  obtain ⟨c, hc⟩ := h1
  obtain ⟨d, hd⟩ := h2
  have ht : ((2 ^ j : Nat) : Int) ∣ t := by
    refine ⟨c * d, ?_⟩
    have hU : (0 : Int) < (uW : Int) := by have := uW_pos; omega
    have e : ((2 ^ i : Nat) : Int) * ((2 ^ k : Nat) : Int) = ((2 ^ j : Nat) : Int) * (uW : Int) := by
      unfold uW
      rw [← Int.natCast_mul, ← Nat.pow_add, hj, Nat.pow_add, Int.natCast_mul]
    rw [hc, hd] at h3
    obtain ⟨U, hUU⟩ : ∃ U, U = (uW : Int) := ⟨_, rfl⟩
    rw [← hUU] at hU e h3
    apply Int.eq_of_mul_eq_mul_right (Int.ne_of_gt hU)
    rw [← h3]
    calc ((2 ^ i : Nat) : Int) * c * (((2 ^ k : Nat) : Int) * d) = (((2 ^ i : Nat) : Int) * ((2 ^ k : Nat) : Int)) * (c * d) := by ac_rfl
      _ = ((2 ^ j : Nat) : Int) * (c * d) * U := by rw [e]; ac_rfl
  rw [h4, h5]
  exact ⟨Rn_dvd ht, Int.dvd_sub ht (Rn_dvd ht)⟩
theorem prods_dv {i k j : Nat} {e : List Nat} {b : Nat} (he : ∀ x ∈ e, safeB x = true) (hb : safeB b = true) (h1 : Dv i e) (h2 : ((2 ^ k : Nat) : Int) ∣ fv b) (hj : i + k = j + uE) : Dv j (prodsB e b) := by
  induction e with
  | nil => exact Dv.nil j
  | cons x e ih =>
    obtain ⟨a, c⟩ := p_dv (he x (by simp)) hb h1.head h2 hj
    exact Dv.cons c (Dv.cons a (ih (fun y hy => he y (by simp [hy])) h1.tail))
theorem mulX_dv {i k j : Nat} {e f : List Nat} (he : ∀ x ∈ e, safeB x = true) (hle : e.length ≤ 64) (hf : ∀ x ∈ f, safeB x = true) (hlf : f.length ≤ 64) (h1 : Dv i e) (h2 : Dv k f) (hj : i + k = j + uE) : Dv j (mulX e f) := by
  have key : ∀ (f : List Nat) (out : List Nat) (A : Nat) (n : Int), (∀ x ∈ f, safeB x = true) → Dv k f → Ex A n out → A + f.length * (164001 * T0) ≤ 1000000000 * T0 → Dv j out → Dv j (mulFrom e out f) := by
    intro f
    induction f with
    | nil => intro out A n _ _ _ _ h; exact h
    | cons b f ih =>
      intro out A n hf h2 h hA hd
      simp only [List.length_cons, Nat.add_mul, Nat.one_mul] at hA
      have hb := hf b (by simp)
      obtain ⟨s1, s2⟩ := scaleB_ex he hb hle
      have s3 := plusB_ex h s1 (by omega)
      have s4 := plus_tame h s1 (by omega)
      have d1 : Dv j (scaleB e b) := apneB_dv (prods_dv he hb h1 h2.head hj) s2
      exact ih (plusB out (scaleB e b)) _ _ (fun x hx => hf x (by simp [hx])) h2.tail (s3.mono (show _ ≤ A + 164001 * T0 by omega)) (by omega) (plusB_dv hd d1 s4)
  have hle : f.length * (164001 * T0) ≤ 64 * (164001 * T0) := Nat.mul_le_mul_right _ hlf
  exact key f [] 0 0 hf h2 (Ex.nil 0) (by omega) (Dv.nil j)
theorem pow_up {a b : Nat} (h : a ≤ b) : 2 ^ a ≤ 2 ^ b := Nat.pow_le_pow_right (by decide) h
def e624 : Nat := 624
theorem safe_low {j : Nat} (h : 624 ≤ j) : mag 2580562586483294208 ≤ 2 ^ j := by
  have h1 : mag 2580562586483294208 = 2 ^ e624 := by unfold e624; decide +kernel
  rw [h1]
  exact pow_up h
/-- Multiples that are small enough are safe. -/
theorem safe_of {A j : Nat} {n : Int} {l : List Nat} (h : Ex A n l) (hd : Dv j l) (hA : A ≤ kS) (hj : 624 ≤ j) : (∀ x ∈ l, safeB x = true) ∧ allB 2580562586483294208 6633802251116740608 l = true := by
  have h1 : ∀ x ∈ l, 2580562586483294208 ≤ rung x ∧ rung x ≤ 6633802251116740608 := by
    intro x hx
    obtain ⟨h2, h3⟩ := okI_mem h.ok (fv x) (List.mem_map_of_mem hx)
    have h4 : 2 ^ j ∣ (fv x).natAbs := by have := Int.natAbs_dvd_natAbs.2 (hd x hx); rwa [Int.natAbs_natCast] at this
    have h5 := Nat.le_of_dvd (by omega) h4
    have h6 : mag 2580562586483294208 ≤ 2 ^ j := safe_low hj
    rw [fv_natAbs] at h3 h5
    rw [← mag_safe] at hA
    exact ⟨mag_le_iff.1 (Nat.le_trans h6 h5), mag_le_iff.1 (Nat.le_trans h3 hA)⟩
  refine ⟨fun x hx => decide_eq_true (Or.inr (h1 x hx)), ?_⟩
  exact (allB_ok (by decide) l).2 ⟨h.len, okI_bound h.ok (fun x hx => by have := (okI_mem h.ok x hx).2; rw [mag_safe]; omega), fun x hx => (h1 x hx).1⟩
/-- The negative of a list. -/
theorem fneg_fl {x : Nat} (h : Fl x) : Fl (fneg x) ∧ fv (fneg x) = - fv x := by
  exact ⟨⟨fneg_lt h.1, by rw [rung_fneg h.1]; exact h.2⟩, fv_fneg h.1⟩
theorem neg_fv {l : List Nat} (h : ∀ x ∈ l, Fl x) : (l.map fneg).map fv = (l.map fv).map (fun x => -x) := by
  induction l with
  | nil => rfl
  | cons x l ih =>
    simp only [List.map_cons]
    rw [(fneg_fl (h x (by simp))).2, ih (fun y hy => h y (by simp [hy]))]
theorem okI_neg {M : Nat} {l : List Int} (h : okI M l) : okI M (l.map (fun x => -x)) := by
  induction l with
  | nil => trivial
  | cons x l ih =>
    rw [List.map_cons, okI_cons]
    rw [okI_cons] at h
    refine ⟨by rw [Int.natAbs_neg]; exact ⟨by have := h.1.1; omega, h.1.2⟩, ?_, ih h.2.2⟩
    intro y t ht
    cases l with
    | nil => cases ht
    | cons z l =>
      simp only [List.map_cons, List.cons.injEq] at ht
      rw [← ht.1, Int.natAbs_neg, Int.natAbs_neg]
      exact h.2.1 z l rfl
theorem Ex.neg {A : Nat} {n : Int} {l : List Nat} (h : Ex A n l) : Ex A (-n) (l.map fneg) := by
  have hs : ∀ l : List Int, (l.map (fun x => -x)).sum = - l.sum := by
    intro l; induction l with
    | nil => rfl
    | cons x l ih => simp only [List.map_cons, List.sum_cons, ih]; omega
  have ha : ∀ l : List Int, ab (l.map (fun x => -x)) = ab l := by
    intro l; induction l with
    | nil => rfl
    | cons x l ih => simp only [List.map_cons, ab, ih, Int.natAbs_neg]
  refine ⟨fun x hx => ?_, ?_, ?_, by rw [List.length_map]; exact h.len, ?_⟩
  · obtain ⟨y, hy, rfl⟩ := List.mem_map.1 hx
    exact (fneg_fl (h.fl y hy)).1
  · rw [neg_fv h.fl, hs, h.sum]
  · rw [neg_fv h.fl]; exact okI_neg h.ok
  · rw [neg_fv h.fl, ha]; exact h.abl
theorem Dv.neg {j : Nat} {l : List Nat} (h : Dv j l) (hl : ∀ x ∈ l, Fl x) : Dv j (l.map fneg) := fun x hx => by
  obtain ⟨y, hy, rfl⟩ := List.mem_map.1 hx
  rw [(fneg_fl (hl y hy)).2]
  exact Int.dvd_neg.2 (h y hy)
/-- One float. -/
theorem Ex.one {x A : Nat} (hx : Fl x) (h0 : rung x ≠ 0) (hA : mag (rung x) ≤ A) : Ex A (fv x) [x] := by
  refine ⟨fun y hy => by rw [List.mem_singleton.1 hy]; exact hx, by simp, ?_, by simp, by simp only [List.map_cons, List.map_nil, ab, fv_natAbs]; omega⟩
  exact ⟨fun c => h0 ((fv_zero_iff x).1 c), by rw [fv_natAbs]; exact hA⟩
/-- Nothing but the empty list tells nought. -/
theorem Ex.empty {A : Nat} {l : List Nat} (h : Ex A 0 l) : l = [] := by
  apply Classical.byContradiction
  intro c
  obtain ⟨t, q, h1, h2, h3, h4, h5, h6⟩ := okI_leads h.ok (by simpa using c)
  exact h6 h.sum
end TV
