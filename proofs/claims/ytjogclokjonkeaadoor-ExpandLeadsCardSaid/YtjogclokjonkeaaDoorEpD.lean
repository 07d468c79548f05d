/- Sums of floats, on whole numbers and in bits: plus, apart; what may be; the last float leads. -/
import Derived.Test.YtjogclokjonkeaaDoorEpA
namespace TV
/-- The order in which plus takes the floats. -/
def mergeB : List Nat → List Nat → List Nat
  | [], f => f
  | x :: e, [] => x :: e
  | x :: e, y :: f => if rung x < rung y then x :: mergeB e (y :: f) else y :: mergeB (x :: e) f
termination_by e f => e.length + f.length
theorem mergeB_nil (f : List Nat) : mergeB [] f = f := by unfold mergeB; rfl
theorem mergeB_right (e : List Nat) : mergeB e [] = e := by cases e <;> simp [mergeB]
theorem mergeB_lt {x y : Nat} {e f : List Nat} (h : rung x < rung y) : mergeB (x :: e) (y :: f) = x :: mergeB e (y :: f) := by rw [mergeB, if_pos h]
theorem mergeB_ge {x y : Nat} {e f : List Nat} (h : ¬ rung x < rung y) : mergeB (x :: e) (y :: f) = y :: mergeB (x :: e) f := by rw [mergeB, if_neg h]
theorem mergeB_fv (e f : List Nat) : (mergeB e f).map fv = mergeI (e.map fv) (f.map fv) := by
  fun_induction mergeB e f with
  | case1 f => simp [mergeI]
  | case2 x e => simp [mergeI]
  | case3 x e y f h ih => 
    have h' : (fv x).natAbs < (fv y).natAbs := by rw [fv_natAbs, fv_natAbs]; exact mag_lt_iff.2 h
    simp only [List.map_cons, mergeI, if_pos h', ih]
  | case4 x e y f h ih =>
    have h' : ¬ (fv x).natAbs < (fv y).natAbs := by rw [fv_natAbs, fv_natAbs, mag_lt_iff]; exact h
    simp only [List.map_cons, mergeI, if_neg h', ih]
theorem mergeB_len (e f : List Nat) : (mergeB e f).length = e.length + f.length := by
  have h := congrArg List.length (mergeB_fv e f)
  rw [merge_len] at h
  simpa using h
theorem mergeB_mem {P : Nat → Prop} (e f : List Nat) (he : ∀ x ∈ e, P x) (hf : ∀ x ∈ f, P x) : ∀ x ∈ mergeB e f, P x := by
  fun_induction mergeB e f with
  | case1 f => exact hf
  | case2 x e => exact he
  | case3 x e y f h ih =>
    intro z hz
    rcases List.mem_cons.1 hz with rfl | hz
    · exact he _ (by simp)
    · exact ih (fun a ha => he a (by simp [ha])) hf z hz
  | case4 x e y f h ih =>
    intro z hz
    rcases List.mem_cons.1 hz with rfl | hz
    · exact hf _ (by simp)
    · exact ih he (fun a ha => hf a (by simp [ha])) z hz
theorem sHi_fl (a b : Nat) : Fl (sHi a b) := by
  obtain ⟨l1, l2, r1, r2, v1, v2⟩ := s_any a b
  have hi : (9119789245425254400 : Nat) < inf := by decide
  exact ⟨l1, by omega⟩
theorem sLo_fl (a b : Nat) : Fl (sLo a b) := by
  obtain ⟨l1, l2, r1, r2, v1, v2⟩ := s_any a b
  have hi : (9119789245425254400 : Nat) < inf := by decide
  exact ⟨l2, by omega⟩
theorem growB_fl (e : List Nat) (q : Nat) (hq : Fl q) : ∀ y ∈ growB e q, Fl y := by
  induction e generalizing q with
  | nil => intro y hy; rw [nzB_mem hy]; exact hq
  | cons x e ih =>
    intro y hy
    rcases List.mem_append.1 hy with hy | hy
    · rw [nzB_mem hy]; exact sLo_fl _ _
    · exact ih _ (sHi_fl _ _) y hy
theorem dnB_fl (e : List Nat) (q : Nat) (hq : Fl q) : (∀ y ∈ dnBg e q, Fl y) ∧ Fl (dnBq e q) := by
  induction e generalizing q with
  | nil => exact ⟨fun y hy => (by cases hy), hq⟩
  | cons x e ih =>
    by_cases c : rung (sLo q x) ≠ 0
    · obtain ⟨a, b⟩ := ih _ (sLo_fl q x)
      simp only [dnBg, dnBq, if_pos c]
      refine ⟨fun y hy => ?_, b⟩
      rcases List.mem_cons.1 hy with rfl | hy
      · exact sHi_fl _ _
      · exact a y hy
    · obtain ⟨a, b⟩ := ih _ (sHi_fl q x)
      simp only [dnBg, dnBq, if_neg c]
      exact ⟨a, b⟩
theorem upB_fl (l : List Nat) (q : Nat) (hq : Fl q) : ∀ y ∈ upB l q, Fl y := by
  induction l generalizing q with
  | nil => intro y hy; rw [nzB_mem hy]; exact hq
  | cons x e ih =>
    intro y hy
    rcases List.mem_append.1 hy with hy | hy
    · rw [nzB_mem hy]; exact sLo_fl _ _
    · exact ih _ (sHi_fl _ _) y hy
theorem neatB_fl (l : List Nat) (hl : ∀ y ∈ l, Fl y) : ∀ y ∈ neatB l, Fl y := by
  unfold neatB
  cases hr : l.reverse with
  | nil => intro y hy; cases hy
  | cons q r =>
    have hq : Fl q := hl q (by rw [← List.mem_reverse, hr]; simp)
    exact upB_fl _ _ (dnB_fl r q hq).2
theorem growB_len1 (e : List Nat) (q : Nat) : (growB e q).length ≤ e.length + 1 := growB_len e q
theorem upB_len (e : List Nat) (q : Nat) : (upB e q).length ≤ e.length + 1 := by
  have hn : ∀ x, (nzB x).length ≤ 1 := fun x => by unfold nzB; split <;> simp
  induction e generalizing q with
  | nil => simpa [upB] using hn q
  | cons x e ih => have := ih (sHi x q); have := hn (sLo x q); simp only [upB, List.length_append, List.length_cons]; omega
theorem dnB_len (e : List Nat) (q : Nat) : (dnBg e q).length ≤ e.length := by
  induction e generalizing q with
  | nil => simp [dnBg]
  | cons x e ih =>
    by_cases c : rung (sLo q x) ≠ 0
    · have := ih (sLo q x); simp only [dnBg, if_pos c, List.length_cons]; omega
    · have := ih (sHi q x); simp only [dnBg, if_neg c, List.length_cons]; omega
theorem neatB_len (l : List Nat) : (neatB l).length ≤ l.length := by
  unfold neatB
  have hn := List.length_reverse (as := l)
  cases hr : l.reverse with
  | nil => simp
  | cons q r =>
    rw [hr] at hn
    have h1 := upB_len (dnBg r q).reverse (dnBq r q)
    have h2 := dnB_len r q
    rw [List.length_reverse] at h1
    simp only [List.length_cons] at hn ⊢
    omega
/-- Many floats are added, one after the other. -/
def growsB : List Nat → List Nat → List Nat
  | out, [] => out
  | out, b :: bs => growsB (growB out b) bs
theorem growsB_fl (bs out : List Nat) (ho : ∀ y ∈ out, Fl y) (hb : ∀ y ∈ bs, Fl y) : ∀ y ∈ growsB out bs, Fl y := by
  induction bs generalizing out with
  | nil => exact ho
  | cons b bs ih => exact ih _ (growB_fl out b (hb b (by simp))) (fun y hy => hb y (by simp [hy]))
theorem growsB_len (bs out : List Nat) : (growsB out bs).length ≤ out.length + bs.length := by
  induction bs generalizing out with
  | nil => simp [growsB]
  | cons b bs ih => have := ih (growB out b); have := growB_len out b; simp only [growsB, List.length_cons]; omega
theorem growsB_fv {T N : Nat} (bs : List Nat) (out : List Nat) (Q : Nat) (ho : ∀ y ∈ out, Fl y) (hb : ∀ y ∈ bs, Fl y) (h : Sm T Q (out.map fv)) (hN : out.length + bs.length ≤ N)
    (hT : Q + ab (bs.map fv) + bs.length * (2 * N * T) + 2 * N * T ≤ 9007199254740992 * T) (hM : Q + ab (bs.map fv) + bs.length * (2 * N * T) + 2 * N * T ≤ tameM) :
    (growsB out bs).map fv = growsI (out.map fv) (bs.map fv) := by
  induction bs generalizing out Q with
  | nil => rfl
  | cons b bs ih =>
    simp only [List.map_cons, ab, List.length_cons, Nat.add_mul, Nat.one_mul] at hT hN hM
    have hol : (out.map fv).length = out.length := List.length_map ..
    have ha := h.ab
    rw [hol] at ha
    have hl : out.length * T ≤ N * T := Nat.mul_le_mul_right T (by omega)
    have e1 : 2 * N * T = N * T + N * T := by rw [Nat.mul_assoc]; omega
    have hok : growOk tmP (out.map fv) (fv b) := grow_ok (T := T) (M := tameM) (out.map fv) (fv b) (by rw [hol]; omega) (by rw [hol]; omega)
    obtain ⟨k1, k2⟩ := growB_fv out b (hb b (by simp)) hok
    obtain ⟨g1, g2⟩ := grow_bound (T := T) (out.map fv) (fv b) (by rw [hol]; omega)
    rw [hol] at g2
    have hs : Sm T (Q + (fv b).natAbs + 2 * N * T) ((growB out b).map fv) := by
      rw [k1]
      exact ⟨growE (out.map fv) (fv b), growQ (out.map fv) (fv b), grow_parts _ _, g1, by omega⟩
    have hlen := growB_len out b
    have := ih (growB out b) _ k2 (fun y hy => hb y (by simp [hy])) hs (by omega) (by omega) (by omega)
    rw [growsB, this, k1]; rfl
end TV
namespace TV
/-- May the floats that are left be, behind one of the rung p? -/
def allFrom (a b : Nat) : Option Nat → List Nat → Bool
  | _, [] => true
  | p, x :: l => decide (a ≤ rung x ∧ rung x ≤ b) && (match p with | none => true | some r => decide (mag r < lowb (mag (rung x)))) && allFrom a b (some (rung x)) l
def allB (a b : Nat) (l : List Nat) : Bool := decide (l.length ≤ 64) && allFrom a b none l

theorem okI_cons {M : Nat} {x : Int} {l : List Int} : okI M (x :: l) ↔ (x ≠ 0 ∧ x.natAbs ≤ M) ∧ (∀ y t, l = y :: t → x.natAbs < lowb y.natAbs) ∧ okI M l := by
  cases l with
  | nil => simp [okI]
  | cons y t =>
    simp only [okI]
    constructor
    · rintro ⟨h1, h2, h3⟩
      exact ⟨h1, fun y' t' h => by cases h; exact h2, h3⟩
    · rintro ⟨h1, h2, h3⟩
      exact ⟨h1, h2 y t rfl, h3⟩
theorem okI_mem {M : Nat} {l : List Int} (h : okI M l) : ∀ x ∈ l, x ≠ 0 ∧ x.natAbs ≤ M := by
  induction l with
  | nil => intro x hx; cases hx
  | cons y l ih =>
    rw [okI_cons] at h
    intro x hx
    rcases List.mem_cons.1 hx with rfl | hx
    · exact h.1
    · exact ih h.2.2 x hx
theorem okI_bound {M N : Nat} {l : List Int} (h : okI M l) (hN : ∀ x ∈ l, x.natAbs ≤ N) : okI N l := by
  induction l with
  | nil => trivial
  | cons y l ih =>
    rw [okI_cons] at h ⊢
    exact ⟨⟨h.1.1, hN y (by simp)⟩, h.2.1, ih h.2.2 (fun x hx => hN x (by simp [hx]))⟩
theorem allFrom_ok (a b : Nat) (ha : 0 < a) (l : List Nat) : ∀ (p : Option Nat), allFrom a b p l = true ↔ (∀ r y t, p = some r → l = y :: t → mag r < lowb (mag (rung y))) ∧ okI (mag b) (l.map fv) ∧ ∀ x ∈ l, a ≤ rung x := by
  induction l with
  | nil => intro p; simp [allFrom, okI]
  | cons x l ih =>
    intro p
    simp only [allFrom, Bool.and_eq_true, decide_eq_true_eq, List.map_cons]
    rw [okI_cons, ih]
    constructor
    · rintro ⟨⟨⟨h1, h2⟩, h3⟩, h4, h5, h6⟩
      refine ⟨?_, ⟨⟨?_, ?_⟩, ?_, h5⟩, ?_⟩
      · rintro r y t rfl ht
        cases ht
        simpa using h3
      · intro c; have := (fv_zero_iff x).1 c; omega
      · rw [fv_natAbs]; exact mag_le_iff.2 h2
      · intro y t ht
        cases l with
        | nil => cases ht
        | cons z l =>
          simp only [List.map_cons, List.cons.injEq] at ht
          rw [← ht.1, fv_natAbs, fv_natAbs]
          exact h4 _ z l rfl rfl
      · intro y hy
        rcases List.mem_cons.1 hy with rfl | hy
        · exact h1
        · exact h6 y hy
    · rintro ⟨h1, ⟨⟨h2, h3⟩, h4, h5⟩, h6⟩
      refine ⟨⟨⟨h6 x (by simp), ?_⟩, ?_⟩, ?_, h5, fun y hy => h6 y (by simp [hy])⟩
      · rw [fv_natAbs] at h3; exact mag_le_iff.1 h3
      · cases p with
        | none => rfl
        | some r => simpa using h1 r x l rfl rfl
      · rintro r y t hr rfl
        simp only [Option.some.injEq] at hr
        have := h4 (fv y) (t.map fv) rfl
        rw [fv_natAbs, fv_natAbs] at this
        rw [← hr]; exact this
theorem allB_ok {a b : Nat} (ha : 0 < a) (l : List Nat) : allB a b l = true ↔ l.length ≤ 64 ∧ okI (mag b) (l.map fv) ∧ ∀ x ∈ l, a ≤ rung x := by
  unfold allB
  rw [Bool.and_eq_true, decide_eq_true_eq, allFrom_ok a b ha]
  constructor
  · rintro ⟨h1, -, h2, h3⟩
    exact ⟨h1, h2, h3⟩
  · rintro ⟨h1, h2, h3⟩
    exact ⟨h1, (fun r y t h => by cases h), h2, h3⟩
theorem allB_one {b : Nat} (l : List Nat) : allB 1 b l = true ↔ l.length ≤ 64 ∧ okI (mag b) (l.map fv) := by
  rw [allB_ok (by decide)]
  constructor
  · rintro ⟨h1, h2, h3⟩; exact ⟨h1, h2⟩
  · rintro ⟨h1, h2⟩
    refine ⟨h1, h2, fun x hx => ?_⟩
    have := (okI_mem h2 (fv x) (List.mem_map_of_mem hx)).1
    have h0 : rung x ≠ 0 := fun c => this ((fv_zero_iff x).2 c)
    omega
/-- All floats but the last one are together less than its lowest bit. -/
theorem low_step {S x y : Nat} (hx : x ≠ 0) (hy : y ≠ 0) (h1 : S < lowb x) (h2 : x < lowb y) : S + x < lowb y := by
  obtain ⟨m, i, a1, a2, a3⟩ := lowb_parts x hx
  obtain ⟨k, j, b1, b2, b3⟩ := lowb_parts y hy
  rw [b3] at h2 ⊢
  rw [a3] at h1
  have hle := lowb_le hx
  rw [a3] at hle
  have hij : i < j := by
    apply Classical.byContradiction
    intro c
    have := Nat.pow_le_pow_right (show 0 < 2 by omega) (show j ≤ i by omega)
    omega
  obtain ⟨d, rfl⟩ : ∃ d, j = i + d := ⟨j - i, by omega⟩
  rw [Nat.pow_add, Nat.mul_comm] at h2 ⊢
  rw [a2] at h2 ⊢
  have hp := Nat.two_pow_pos i
  have h3 : m < 2 ^ d := Nat.lt_of_mul_lt_mul_right h2
  have h4 : (m + 1) * 2 ^ i ≤ 2 ^ d * 2 ^ i := Nat.mul_le_mul_right _ h3
  rw [Nat.add_mul, Nat.one_mul] at h4
  omega
theorem okI_low {M : Nat} (t : List Int) (q : Int) : okI M (t ++ [q]) → ab t < lowb q.natAbs := by
  have key : ∀ (n : Nat) (t : List Int) (S : Nat) (x : Int) (q : Int), t.length = n → x ≠ 0 → S < lowb x.natAbs → okI M (x :: (t ++ [q])) → S + x.natAbs + ab t < lowb q.natAbs := by
    intro n
    induction n with
    | zero =>
      intro t S x q ht hx hS h
      obtain rfl : t = [] := List.length_eq_zero_iff.1 ht
      rw [okI_cons] at h
      have h2 := h.2.1 q [] rfl
      have h3 := okI_mem h.2.2 q (by simp)
      have := low_step (x := x.natAbs) (y := q.natAbs) (by omega) (by omega) hS h2
      simp only [ab]; omega
    | succ n ih =>
      intro t S x q ht hx hS h
      cases t with
      | nil => simp at ht
      | cons y t =>
        rw [okI_cons] at h
        have h2 := h.2.1 y (t ++ [q]) rfl
        have h3 := okI_mem h.2.2 y (by simp)
        have h4 := low_step (x := x.natAbs) (y := y.natAbs) (by omega) (by omega) hS h2
        have := ih t (S + x.natAbs) y q (by simpa using ht) h3.1 h4 h.2.2
        simp only [ab]; omega
  intro h
  cases t with
  | nil =>
    have := okI_mem h q (by simp)
    have := lowb_pos (n := q.natAbs) (by omega)
    simp only [ab]; exact this
  | cons x t =>
    have hx := okI_mem h x (by simp)
    have := key t.length t 0 x q rfl hx.1 (lowb_pos (by omega)) h
    simp only [ab]; omega
/-- The last float leads. -/
theorem okI_leads {M : Nat} {l : List Int} (h : okI M l) (h0 : l ≠ []) : ∃ t q, l = t ++ [q] ∧ q ≠ 0 ∧ (l.sum - q).natAbs < lowb q.natAbs ∧ (l.sum < 0 ↔ q < 0) ∧ (0 < l.sum ↔ 0 < q) ∧ l.sum ≠ 0 := by
  obtain ⟨t, q, rfl⟩ : ∃ t q, l = t ++ [q] := ⟨l.dropLast, l.getLast h0, (List.dropLast_concat_getLast h0).symm⟩
  have h1 := okI_low t q h
  have h2 := (okI_mem h q (by simp)).1
  have h3 := sum_le_ab t
  have h4 := lowb_le (n := q.natAbs) (by omega)
  have e : (t ++ [q]).sum = t.sum + q := by simp
  rw [e]
  refine ⟨t, q, rfl, h2, by omega, by omega, by omega, by omega⟩

/-- The float nearest to a number, in bits. -/
def rnB (n : Int) : Nat := flo (decide (n < 0)) (min (rndAt 0 n.natAbs) inf)
theorem rnd_tame {n : Int} (h : n.natAbs ≤ tameM) : rndAt 0 n.natAbs < inf := by
  have h1 := rnd_mono (u := 0) (show n.natAbs ≤ mag 9110782046170513408 by rw [tameM_mag]; exact h)
  rw [rnd_exact0] at h1
  have : (9110782046170513408 : Nat) < inf := by decide
  omega
theorem rnB_fl {n : Int} (h : n.natAbs ≤ tameM) : Fl (rnB n) ∧ fv (rnB n) = Rn n := by
  have h1 := rnd_tame h
  have h2 := inf_lt
  unfold rnB
  rw [Nat.min_eq_left (Nat.le_of_lt h1)]
  exact ⟨⟨flo_lt (by omega), by rw [rung_flo (by omega)]; exact h1⟩, by rw [fv_flo (by omega)]; rfl⟩
/-- The slow way, in bits. -/
def slowB (fuel : Nat) (n : Int) (acc : List Nat) : List Nat := match fuel with
  | 0 => acc
  | f + 1 => if n = 0 then acc else slowB f (er n) (rnB n :: acc)
theorem slowB_fv (fuel : Nat) (n : Int) (acc : List Nat) (h : n.natAbs ≤ tameM) (ha : ∀ y ∈ acc, Fl y) : (slowB fuel n acc).map fv = slowR fuel n (acc.map fv) ∧ ∀ y ∈ slowB fuel n acc, Fl y := by
  induction fuel generalizing n acc with
  | zero => exact ⟨rfl, ha⟩
  | succ f ih =>
    unfold slowB slowR
    by_cases c : n = 0
    · rw [if_pos c, if_pos c]; exact ⟨rfl, ha⟩
    · rw [if_neg c, if_neg c]
      obtain ⟨f1, f2⟩ := rnB_fl h
      have := er_lt c
      obtain ⟨a, b⟩ := ih (er n) (rnB n :: acc) (by omega) (fun y hy => by
        rcases List.mem_cons.1 hy with rfl | hy
        · exact f1
        · exact ha y hy)
      rw [List.map_cons, f2] at a
      exact ⟨a, b⟩
theorem pow_lt2 {a b : Nat} (h : a < b) : 2 ^ a < 2 ^ b := Nat.pow_lt_pow_right (by decide) h
theorem tame_slow : tameM < 2 ^ (53 * 40) := by unfold tameM; decide +kernel
/-- apart of a list. -/
def apartB (l : List Nat) : List Nat := if allB 1 inf l then l else slowB ((l.map fv).sum.natAbs + 1) (l.map fv).sum []
/-- An expansion of the number n (in units), of floats that are together at most A. -/
structure Ex (A : Nat) (n : Int) (l : List Nat) : Prop where
  fl : ∀ x ∈ l, Fl x
  sum : (l.map fv).sum = n
  ok : okI A (l.map fv)
  len : l.length ≤ 64
  abl : ab (l.map fv) ≤ A
theorem Ex.mono {A B : Nat} {n : Int} {l : List Nat} (h : Ex A n l) (hB : A ≤ B) : Ex B n l :=
  ⟨h.fl, h.sum, okI_bound h.ok (fun x hx => Nat.le_trans (okI_mem h.ok x hx).2 hB), h.len, Nat.le_trans h.abl hB⟩
theorem Ex.nil (A : Nat) : Ex A 0 [] := ⟨fun x hx => (by cases hx), rfl, trivial, by simp, by simp [ab]⟩
theorem apartB_ex {T Q : Nat} (hT : Rep (T : Int)) (l : List Nat) (hl : ∀ y ∈ l, Fl y) (h : Sm T Q (l.map fv)) (hs : (l.map fv).sum.natAbs ≤ Q) (h1 : Q ≤ 9007199254740992 * T) (h2 : Q ≤ tameM) :
    Ex (Q + 64 * T) (l.map fv).sum (apartB l) := by
  unfold apartB
  by_cases c : allB 1 inf l = true
  · rw [if_pos c]
    obtain ⟨c1, c2⟩ := (allB_one l).1 c
    have ha := h.ab
    rw [List.length_map] at ha
    have hlt : l.length * T ≤ 64 * T := Nat.mul_le_mul_right T c1
    exact ⟨hl, rfl, okI_bound c2 (fun x hx => by have := ab_mem hx; omega), c1, by omega⟩
  · rw [if_neg c]
    generalize hn : (l.map fv).sum = n at *
    obtain ⟨v1, v2⟩ := slowB_fv (n.natAbs + 1) n [] (by omega) (fun y hy => (by cases hy))
    have hM : Rep (tameM : Int) := Rep_mk (m := 1) (k := 2074) (by unfold tameM; rw [Int.one_mul]) (by decide)
    have k1 := slow_ok (M := tameM) hM (n.natAbs + 1) n [] (by omega) trivial (fun x l h => by cases h)
    have k2 := slow_len 40 (n.natAbs + 1) n [] (Nat.lt_of_le_of_lt (Nat.le_trans hs h2) tame_slow)
    have k3 := slow_sum (n.natAbs + 1) n [] (by omega)
    obtain ⟨t, k4, k5⟩ := slow_ab (T := T) (n.natAbs + 1) n [] (by omega) hT
    rw [List.map_nil] at v1
    rw [← v1] at k1 k2 k3 k5
    simp only [List.length_map, List.length_nil, Nat.zero_add] at k2
    have hab : ab ((slowB (n.natAbs + 1) n []).map fv) ≤ Q + 64 * T := by
      rcases k5 with k5 | k5
      · rw [k5]; simp [ab]
      · have hl1 := congrArg List.length k5
        simp only [List.length_map, List.length_append, List.length_cons, List.length_nil] at hl1
        rw [k5, ab_append]
        have h3 := ab_le k4
        have h4 : t.length * T ≤ 39 * T := Nat.mul_le_mul_right T (by omega)
        have h6 := Rn_small (t := n) (T := T) (by omega)
        simp only [ab]; omega
    exact ⟨v2, by rw [k3]; simp, okI_bound k1 (fun x hx => by have := ab_mem hx; omega), by omega, hab⟩
/-- Floats added one by one, then made neat and taken apart. -/
def apneB (bs : List Nat) : List Nat := apartB (neatB (growsB [] bs))
theorem apneB_ex {T : Nat} (hT : Rep (T : Int)) (hTM : 18014398509481984 * T ≤ tameM) (bs : List Nat) (hb : ∀ y ∈ bs, Fl y) (hn : bs.length ≤ 200) (hA : ab (bs.map fv) ≤ 4503599627370496 * T) :
    Ex (ab (bs.map fv) + 82000 * T) (bs.map fv).sum (apneB bs) := by
  have hbl : bs.length * (2 * 200 * T) ≤ 200 * (2 * 200 * T) := Nat.mul_le_mul_right _ hn
  have hbl' : (bs.map fv).length * (2 * 200 * T) ≤ 200 * (2 * 200 * T) := by rw [List.length_map]; exact hbl
  have e2 : 2 * 200 * T = 400 * T := by omega
  have e3 : 200 * (2 * 200 * T) = 80000 * T := by omega
  have v := growsB_fv (T := T) (N := 200) bs [] 0 (fun y hy => (by cases hy)) hb ⟨[], 0, rfl, fun x hx => (by cases hx), Nat.le_refl _⟩ (by simpa using hn) (by omega) (by omega)
  obtain ⟨g1, g2⟩ := grows_bound (T := T) (N := 200) (bs.map fv) [] 0 ⟨[], 0, rfl, fun x hx => (by cases hx), Nat.le_refl _⟩ (by simpa using hn) (by omega)
  have gs := grows_sum [] (bs.map fv)
  rw [List.map_nil] at v
  rw [← v] at g1 g2 gs
  have f1 := growsB_fl bs [] (fun y hy => (by cases hy)) hb
  have l1 := growsB_len bs []
  obtain ⟨m, hm⟩ : ∃ m, m = growsB [] bs := ⟨_, rfl⟩
  unfold apneB
  rw [← hm] at v g1 g2 gs f1 l1 ⊢
  have a1 := g1.ab
  rw [List.length_map] at a1
  simp only [List.length_nil, Nat.zero_add] at l1
  have hml : m.length * T ≤ 200 * T := Nat.mul_le_mul_right T (by omega)
  have hml2 : (m.map fv).length * T ≤ 200 * T := by rw [List.length_map]; exact hml
  obtain ⟨n1, n2⟩ := neatB_fv (T := T) m f1 (by omega) (by omega)
  obtain ⟨b1, b2, b3⟩ := neat_bound (T := T) (m.map fv) (by omega)
  have ns := neat_sum (m.map fv)
  have hs : ((neatB m).map fv).sum = (bs.map fv).sum := by
    rw [n1, List.sum_append, nz_sum, ns, gs]; simp
  have := sum_le_ab (bs.map fv)
  have E := apartB_ex (T := T) (Q := ab (bs.map fv) + 81500 * T) hT (neatB m) n2 ⟨neatE (m.map fv), neatQ (m.map fv), n1, b1, by omega⟩ (by rw [hs]; omega) (by omega) (by omega)
  rw [hs] at E
  exact E.mono (by omega)
theorem apne_tame {T : Nat} (hTM : 18014398509481984 * T ≤ tameM) (bs : List Nat) (hb : ∀ y ∈ bs, Fl y) (hn : bs.length ≤ 200) (hA : ab (bs.map fv) ≤ 4503599627370496 * T) :
    ((neatB (growsB [] bs)).map fv).sum.natAbs ≤ tameM := by
  have hbl : bs.length * (2 * 200 * T) ≤ 200 * (2 * 200 * T) := Nat.mul_le_mul_right _ hn
  have hbl' : (bs.map fv).length * (2 * 200 * T) ≤ 200 * (2 * 200 * T) := by rw [List.length_map]; exact hbl
  have e2 : 2 * 200 * T = 400 * T := by omega
  have e3 : 200 * (2 * 200 * T) = 80000 * T := by omega
  have v := growsB_fv (T := T) (N := 200) bs [] 0 (fun y hy => (by cases hy)) hb ⟨[], 0, rfl, fun x hx => (by cases hx), Nat.le_refl _⟩ (by simpa using hn) (by omega) (by omega)
  obtain ⟨g1, g2⟩ := grows_bound (T := T) (N := 200) (bs.map fv) [] 0 ⟨[], 0, rfl, fun x hx => (by cases hx), Nat.le_refl _⟩ (by simpa using hn) (by omega)
  have gs := grows_sum [] (bs.map fv)
  rw [List.map_nil] at v
  rw [← v] at g1 g2 gs
  have f1 := growsB_fl bs [] (fun y hy => (by cases hy)) hb
  have l1 := growsB_len bs []
  obtain ⟨m, hm⟩ : ∃ m, m = growsB [] bs := ⟨_, rfl⟩
  rw [← hm] at v g1 g2 gs f1 l1 ⊢
  have a1 := g1.ab
  rw [List.length_map] at a1
  simp only [List.length_nil, Nat.zero_add] at l1
  have hml : m.length * T ≤ 200 * T := Nat.mul_le_mul_right T (by omega)
  obtain ⟨n1, n2⟩ := neatB_fv (T := T) m f1 (by omega) (by omega)
  have ns := neat_sum (m.map fv)
  have hs : ((neatB m).map fv).sum = (bs.map fv).sum := by
    rw [n1, List.sum_append, nz_sum, ns, gs]; simp
  have := sum_le_ab (bs.map fv)
  rw [hs]; omega
def plusB (e f : List Nat) : List Nat := apneB (mergeB e f)
def T0 : Nat := 2 ^ 2020
theorem T0_rep : Rep (T0 : Int) := Rep_mk (m := 1) (k := 2020) (by unfold T0; rw [Int.one_mul]) (by decide)
theorem T0_tame : 18014398509481984 * T0 = tameM := by unfold T0 tameM; decide +kernel
theorem plusB_ex {A B : Nat} {n m : Int} {e f : List Nat} (he : Ex A n e) (hf : Ex B m f) (h : A + B ≤ 4503599627370496 * T0) : Ex (A + B + 82000 * T0) (n + m) (plusB e f) := by
  have e1 := mergeB_fv e f
  have a1 := merge_ab (e.map fv) (f.map fv)
  have s1 := merge_sum (e.map fv) (f.map fv)
  rw [← e1] at a1 s1
  have l1 := mergeB_len e f
  have := he.len
  have := hf.len
  have := he.abl
  have := hf.abl
  have E := apneB_ex T0_rep (Nat.le_of_eq T0_tame) (mergeB e f) (mergeB_mem e f he.fl hf.fl) (by omega) (by omega)
  rw [s1, he.sum, hf.sum] at E
  exact E.mono (by omega)
theorem plus_tame {A B : Nat} {n m : Int} {e f : List Nat} (he : Ex A n e) (hf : Ex B m f) (h : A + B ≤ 4503599627370496 * T0) : ((neatB (growsB [] (mergeB e f))).map fv).sum.natAbs ≤ tameM := by
  have e1 := mergeB_fv e f
  have a1 := merge_ab (e.map fv) (f.map fv)
  rw [← e1] at a1
  have l1 := mergeB_len e f
  have := he.len
  have := hf.len
  have := he.abl
  have := hf.abl
  exact apne_tame (Nat.le_of_eq T0_tame) (mergeB e f) (mergeB_mem e f he.fl hf.fl) (by omega) (by omega)
end TV
