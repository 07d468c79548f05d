/- Sums of floats: the examples. -/
import Derived.Test.YtjogclokjonkeaaDoorEpG
namespace TV
/-! ### The examples -/
def k874 : Nat := 2 ^ 874
def k674 : Nat := 2 ^ 674
def oneF : Nat := 4607182418800017408
def moneF : Nat := 13830554455654793216
def tinyF : Nat := 3706462493325918208
def mtinyF : Nat := 12929834530180694016
def mt2F : Nat := 12029114604706594816
theorem fv_one : fv oneF = (uW : Int) := by unfold oneF uW uE; decide +kernel
theorem fv_mone : fv moneF = -(uW : Int) := by unfold moneF uW uE; decide +kernel
theorem fv_tiny : fv tinyF = (k874 : Int) := by unfold tinyF k874; decide +kernel
theorem fv_mtiny : fv mtinyF = -(k874 : Int) := by unfold mtinyF k874; decide +kernel
theorem fv_mt2 : fv mt2F = -(k674 : Int) := by unfold mt2F k674; decide +kernel
theorem fl_one : Fl oneF ∧ Fl moneF ∧ Fl tinyF ∧ Fl mtinyF ∧ Fl mt2F := by unfold Fl; decide
theorem k_lt : k674 < k874 ∧ k874 < uW ∧ 0 < k674 := by unfold k674 k874 uW uE; decide +kernel
theorem k_sq : k874 * k874 = k674 * uW := by unfold k674 k874 uW uE; decide +kernel
def p1080 : Nat := 1090
theorem uW_bound : 100 * uW ≤ 2 ^ p1080 := by unfold uW uE p1080; decide +kernel
theorem p_bound : 3 * (4 * uW * (4 * uW)) ≤ 2 ^ p1080 * uW := by unfold uW uE p1080; decide +kernel
theorem p_most : 2 ^ (p1080 + 4) ≤ mag 9065746049896808448 ∧ 2 ^ (p1080 + 4) ≤ mag 8660422083433463808 ∧ 2 ^ (p1080 + 4) ≤ kS := by unfold p1080 kS; decide +kernel
theorem lowb_uW : lowb uW = uW := by
  have := lowb_mk (m := 1) (k := uE) (by decide)
  rw [Nat.one_mul] at this; exact this
theorem ex_two {A : Nat} {x y : Nat} (hx : Fl x) (hy : Fl y) (h0 : fv x ≠ 0) (hl : (fv x).natAbs < lowb (fv y).natAbs) (h1 : fv y ≠ 0) (hA : (fv x).natAbs + (fv y).natAbs ≤ A) : Ex A (fv x + fv y) [x, y] := by
  refine ⟨fun z hz => ?_, by simp, ⟨⟨h0, by omega⟩, hl, h1, by omega⟩, by simp, by simp only [List.map_cons, List.map_nil, ab]; omega⟩
  simp only [List.mem_cons, List.not_mem_nil, or_false] at hz
  rcases hz with rfl | rfl
  · exact hx
  · exact hy
theorem ex_tiny_one : Ex (4 * uW) (fv tinyF + fv oneF) [tinyF, oneF] := by
  have := k_lt
  have e1 : (fv tinyF).natAbs = k874 := by rw [fv_tiny]; omega
  have e2 : (fv oneF).natAbs = uW := by rw [fv_one]; omega
  refine ex_two fl_one.2.2.1 fl_one.1 ?_ ?_ ?_ ?_
  · intro c; rw [c] at e1; simp at e1; omega
  · rw [e1, e2, lowb_uW]; omega
  · intro c; rw [c] at e2; simp at e2; omega
  · rw [e1, e2]; omega
theorem ex_tiny_mone : Ex (4 * uW) (fv tinyF + fv moneF) [tinyF, moneF] := by
  have := k_lt
  have e1 : (fv tinyF).natAbs = k874 := by rw [fv_tiny]; omega
  have e2 : (fv moneF).natAbs = uW := by rw [fv_mone]; omega
  refine ex_two fl_one.2.2.1 fl_one.2.1 ?_ ?_ ?_ ?_
  · intro c; rw [c] at e1; simp at e1; omega
  · rw [e1, e2, lowb_uW]; omega
  · intro c; rw [c] at e2; simp at e2; omega
  · rw [e1, e2]; omega
theorem ex_mtiny_one : Ex (4 * uW) (fv mtinyF + fv oneF) [mtinyF, oneF] := by
  have := k_lt
  have e1 : (fv mtinyF).natAbs = k874 := by rw [fv_mtiny]; omega
  have e2 : (fv oneF).natAbs = uW := by rw [fv_one]; omega
  refine ex_two fl_one.2.2.2.1 fl_one.1 ?_ ?_ ?_ ?_
  · intro c; rw [c] at e1; simp at e1; omega
  · rw [e1, e2, lowb_uW]; omega
  · intro c; rw [c] at e2; simp at e2; omega
  · rw [e1, e2]; omega
theorem ex_one : Ex (4 * uW) (fv oneF) [oneF] := by
  have := k_lt
  refine Ex.one fl_one.1 (by decide) ?_
  rw [← fv_natAbs, fv_one]; omega
theorem ex_tiny : Ex (4 * uW) (fv tinyF) [tinyF] := by
  have := k_lt
  refine Ex.one fl_one.2.2.1 (by decide) ?_
  rw [← fv_natAbs, fv_tiny]; omega
theorem ex_mt2 : Ex (4 * uW) (fv mt2F) [mt2F] := by
  have := k_lt
  refine Ex.one fl_one.2.2.2.2 (by decide) ?_
  rw [← fv_natAbs, fv_mt2]; omega
theorem s_tiny : sHi oneF tinyF = oneF ∧ sLo oneF tinyF = tinyF ∧ sHi tinyF oneF = oneF ∧ sLo tinyF oneF = tinyF := by decide +kernel
theorem plus_one_tiny : plusB [oneF] [tinyF] = [tinyF, oneF] := by
  have h1 : mergeB [oneF] [tinyF] = [tinyF, oneF] := by
    rw [mergeB_ge (by decide), mergeB_right]
  have h2 : growsB [] [tinyF, oneF] = [tinyF, oneF] := by decide +kernel
  have h3 : neatB [tinyF, oneF] = [tinyF, oneF] := by decide +kernel
  unfold plusB apneB
  rw [h1, h2, h3]
  unfold apartB
  rw [if_pos]
  refine (allB_one _).2 ⟨by decide, okI_bound ex_tiny_one.ok (fun x hx => ?_)⟩
  have := (okI_mem ex_tiny_one.ok x hx).2
  have h4 : 4 * uW ≤ mag inf := by unfold uW uE; decide +kernel
  omega
theorem dv_one : Dv k674.log2 [] := Dv.nil _
/-- The second example: its number. -/
theorem mul_example : ∃ k : Int, Ex (2 ^ (p1080 + 1)) k (mulX [tinyF, oneF] [tinyF, moneF]) ∧ k = (k674 : Int) - uW := by
  have hs1 : ∀ x ∈ [tinyF, oneF], safeB x = true := by decide
  have hs2 : ∀ x ∈ [tinyF, moneF], safeB x = true := by decide
  obtain ⟨k, h1, h2⟩ := mul2 (p := p1080) (by decide) (by decide) ex_tiny_one ex_tiny_mone hs1 hs2 p_bound
  refine ⟨k, h1, ?_⟩
  rw [fv_tiny, fv_one, fv_mone] at h2
  have hU : (0 : Int) < (uW : Int) := by have := uW_pos; omega
  have hsq : (k874 : Int) * k874 = k674 * (uW : Int) := by rw [← Int.natCast_mul, k_sq, Int.natCast_mul]
  generalize (uW : Int) = U at *
  generalize (k874 : Int) = K at *
  generalize (k674 : Int) = L at *
  have h3 : (K + U) * (K + -U) = (L - U) * U := by
    have : (K + U) * (K + -U) = K * K - U * U := by grind
    rw [this, hsq]; grind
  rw [h3] at h2
  exact Int.eq_of_mul_eq_mul_right (Int.ne_of_gt hU) h2
theorem sum_example : sumFrom [] [mulX [tinyF, oneF] [tinyF, moneF], [oneF], [mt2F]] = [] := by
  obtain ⟨k, h1, h2⟩ := mul_example
  have hb : 2 ^ (p1080 + 1) = 2 * 2 ^ p1080 := by rw [Nat.pow_succ, Nat.mul_comm]
  have hb2 : 2 ^ (p1080 + 2) = 4 * 2 ^ p1080 := by rw [Nat.pow_succ, hb]; omega
  have hb3 : 2 ^ (p1080 + 3) = 8 * 2 ^ p1080 := by rw [Nat.pow_succ, hb2]; omega
  have hu := uW_bound
  have a1 := (plus2 (p := p1080 + 1) (by decide) (by decide) (Ex.nil 0) h1 (by omega)).1
  have a2 := (plus2 (p := p1080 + 3) (by decide) (by decide) a1 ex_one (by omega)).1
  have hb4 : 2 ^ (p1080 + 3 + 1) = 16 * 2 ^ p1080 := by rw [Nat.pow_succ, hb3]; omega
  have hb5 : 2 ^ (p1080 + 5) = 32 * 2 ^ p1080 := by rw [show p1080 + 5 = p1080 + 3 + 1 + 1 from rfl, Nat.pow_succ, hb4]; omega
  have a3 := (plus2 (p := p1080 + 5) (by decide) (by decide) a2 ex_mt2 (by omega)).1
  have e : 0 + k + fv oneF + fv mt2F = 0 := by rw [h2, fv_one, fv_mt2]; omega
  rw [e] at a3
  exact a3.empty
end TV
