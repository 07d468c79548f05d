/- Package expand, walked: Cmp; the examples of the statements. -/
import Derived.Test.YtiihokgjplpceaaDoorEwU
import Derived.Test.YtiihokgjplpceaaDoorEwX
import Derived.Test.YtiihokgjplpceaaDoorEpX
namespace Go.Proofs.YtiihokgjplpceaaDoor
open Go.RowKit TV
set_option linter.unusedVariables false

theorem sgnL_all {l : List Nat} (h : allB 1 9065746049896808448 l = true) : sgnL l = TV.sg (l.map fv).sum := by
  unfold sgnL
  by_cases c : l = []
  · rw [if_neg (fun h => h.2 c)]
    subst c; rfl
  · rw [if_pos ⟨h, c⟩]
    obtain ⟨t, q, h1, h2, h3, h4, h5, h6⟩ := okI_leads ((allB_one l).1 h).2 (by simpa using c)
    have hlen : 0 < l.length := List.length_pos_iff.2 c
    have hq : fv (l.getD (l.length - 1) 0) = q := by
      have e1 : (l.map fv).getLast (by simpa using c) = q := by simp only [h1]; simp
      rw [List.getLast_eq_getElem] at e1
      simp only [List.length_map, List.getElem_map] at e1
      rw [List.getD_eq_getElem?_getD, List.getElem?_eq_getElem (by omega)]
      exact e1
    rw [hq]
    unfold TV.sg
    by_cases z : q < 0
    · rw [if_pos z, if_pos (h4.2 z)]
    · rw [if_neg z, if_neg (fun h => z (h4.1 h)), if_neg h6]
theorem sgnL_ex {A : Nat} {n : Int} {l : List Nat} (h : Ex A n l) (hA : A ≤ mag 9065746049896808448) : sgnL l = TV.sg n := by
  rw [sgnL_all (h.may hA), h.sum]
theorem fvs_neg_lt {l : List Nat} (h : ∀ x ∈ l, x < 18446744073709551616) : ∀ x ∈ l.map fneg, x < 18446744073709551616 := fun x hx => by
  obtain ⟨y, hy, rfl⟩ := List.mem_map.1 hx
  exact fneg_lt (h y hy)
/-- Cmp of two lists that may be. -/
theorem ecmp_calls {w : World} (ht : TabOk w) {ve vf : Value} {le lf : List Nat} (hse : Sl w ve (fvs le)) (hsf : Sl w vf (fvs lf)) (hle : ∀ x ∈ le, Fl x) (hlf : ∀ x ∈ lf, Fl x) (hn1 : le.length ≤ 1000) (hn2 : lf.length ≤ 1000)
    (c1 : allB 1 9065746049896808448 le = true) (c2 : allB 1 9065746049896808448 lf = true) (hM : ((neatB (growsB [] (mergeB le (lf.map fneg)))).map fv).sum.natAbs ≤ tameM) (hE : ∀ x ∈ plusB le (lf.map fneg), x < 18446744073709551616) (hL : (plusB le (lf.map fneg)).length ≤ 1000) :
    Calls Tryd.prog 40 #[ve, vf] w fun x w' => x = .returned (.int .i64 (sgnL (plusB le (lf.map fneg)))) ∧ Below w.heap.size w w' := by
  have HA := Lib.hid (check_calls hse (fun x hx => (hle x hx).1) (by omega))
  have HB := Lib.hid (fun (W : World) (h : Sl W vf (fvs lf)) => check_calls h (fun x hx => (hlf x hx).1) (by omega))
  have HN := Lib.hid (fun (W : World) (h : Sl W vf (fvs lf)) => neg_calls2 h (fun x hx => (hlf x hx).1) (by omega))
  have hfl : ∀ x ∈ lf.map fneg, Fl x := fun x hx => by
    obtain ⟨y, hy, rfl⟩ := List.mem_map.1 hx
    exact (fneg_fl (hlf y hy)).1
  have HP := Lib.hid (fun (W : World) (u : Value) (hW : TabOk W) (h1 : Sl W ve (fvs le)) (h2 : Sl W u (fvs (lf.map fneg))) => plus_calls hW h1 h2 hle hfl hn1 (by simpa using hn2) hM)
  have HS := Lib.hid (fun (W : World) (u : Value) (h : Sl W u (fvs (plusB le (lf.map fneg)))) => esign_calls h hE (by omega))
  have HSE := Lib.hid hse
  have HSF := Lib.hid hsf
  have HT := Lib.hid ht
  rw [c1] at HA
  rw [c2] at HB
  obtain ⟨r, hr⟩ : ∃ r, r = plusB le (lf.map fneg) := ⟨_, rfl⟩
  rw [← hr] at HS HP ⊢
  obtain ⟨g, hg⟩ : ∃ g, g = lf.map fneg := ⟨_, rfl⟩
  rw [← hg] at HN HP
  obtain ⟨p, ce, rfl⟩ := hse.form
  obtain ⟨q, cf, rfl⟩ := hsf.form
  clear hse hsf hle hlf c1 c2 hM hE hL hfl hr hg ht
  go_enter Tryd.func40, Tryd.ntmps40
  go_wp2_with fail
  refine HA.out.mono ?_
  rintro _ w1 ⟨rfl, b1⟩
  have h2 := Lib.hid (HB.out w1 (HSF.out.keep b1))
  go_wp2_with fail
  refine h2.out.mono ?_
  rintro _ w2 ⟨rfl, b2⟩
  have b12 := below2 b1 b2
  have h3 := Lib.hid (HN.out w2 (HSF.out.keep b12))
  go_wp2_with fail
  refine h3.out.mono ?_
  rintro _ w3 ⟨v3, rfl, hown3, b3⟩
  have b13 := below2 b12 b3
  obtain ⟨p3, c3, rfl⟩ := own_form hown3
  have hsl3 : Sl w3 (.slice p3 lf.length c3) (fvs g) := own_sl hown3
  have h4 := Lib.hid (HP.out w3 _ (HT.out.keep b13) (HSE.out.keep b13) hsl3)
  clear hown3 hsl3
  go_wp2_with fail
  refine h4.out.mono ?_
  rintro _ w4 ⟨v4, rfl, hown4, b4⟩
  obtain ⟨p4, c4, rfl⟩ := own_form hown4
  have h5 := Lib.hid (HS.out w4 _ (own_sl hown4))
  clear hown4
  go_wp2_with fail
  refine h5.out.mono ?_
  rintro _ w5 ⟨rfl, b5⟩
  go_wp2_with fail
  go_ret
  exact ⟨rfl, below2 (below2 b13 b4) b5⟩
theorem own_lit2 (w : World) (T : TypeId) (x y : Value) {base : Nat} (h : base ≤ w.heap.size) : (w.alloc (.cells #[x, y] T)).ownsRow base T 1 (.slice (some ⟨w.heap.size, 0, none⟩) 2 2) 2 [x, y] :=
  ⟨rfl, Or.inr ⟨w.heap.size, 2, #[x, y], rfl, h, heap_alloc_new _ _, Nat.le_refl _, by unfold maxLen; omega, by simp, by simp⟩⟩
theorem own_lit3 (w : World) (T : TypeId) (x y z : Value) {base : Nat} (h : base ≤ w.heap.size) : (w.alloc (.cells #[x, y, z] T)).ownsRow base T 1 (.slice (some ⟨w.heap.size, 0, none⟩) 3 3) 3 [x, y, z] :=
  ⟨rfl, Or.inr ⟨w.heap.size, 3, #[x, y, z], rfl, h, heap_alloc_new _ _, Nat.le_refl _, by unfold maxLen; omega, by simp, by simp⟩⟩
theorem exA {A : Nat} (h : A ≤ 2 ^ (p1080 + 4)) : A ≤ mag 9065746049896808448 ∧ A ≤ mag 8660422083433463808 ∧ A ≤ kS := ⟨Nat.le_trans h p_most.1, Nat.le_trans h p_most.2.1, Nat.le_trans h p_most.2.2⟩
theorem exU : 4 * uW ≤ 2 ^ (p1080 + 4) := by
  have h := uW_bound
  have h2 : 2 ^ (p1080 + 4) = 2 ^ p1080 * 16 := by rw [Nat.pow_add]
  omega
theorem add_example : addOk [4607182418800017408] [3706462493325918208] = true ∧ addL [4607182418800017408] [3706462493325918208] = [3706462493325918208, 4607182418800017408] := by
  have h : addOk [4607182418800017408] [3706462493325918208] = true := by
    unfold addOk
    rw [ex_one.may (l := [4607182418800017408]) (exA exU).2.1, ex_tiny.may (l := [3706462493325918208]) (exA exU).2.1]; rfl
  exact ⟨h, by unfold addL; rw [if_pos h]; exact plus_one_tiny⟩
theorem safe_two {A : Nat} {n : Int} {x y : Nat} (h : Ex A n [x, y]) (hA : A ≤ kS) (h1 : 2580562586483294208 ≤ rung x) (h2 : 2580562586483294208 ≤ rung y) : allB 2580562586483294208 6633802251116740608 [x, y] = true := by
  refine (allB_ok (by decide) _).2 ⟨h.len, okI_bound h.ok (fun z hz => by have := (okI_mem h.ok z hz).2; rw [mag_safe]; omega), fun z hz => ?_⟩
  simp only [List.mem_cons, List.not_mem_nil, or_false] at hz
  rcases hz with rfl | rfl
  · exact h1
  · exact h2
theorem mul_ex_ok : xmOk [3706462493325918208, 4607182418800017408] [3706462493325918208, 13830554455654793216] = true := by
  unfold xmOk
  rw [safe_two (x := 3706462493325918208) (y := 4607182418800017408) ex_tiny_one (exA exU).2.2 (by decide) (by decide), safe_two (x := 3706462493325918208) (y := 13830554455654793216) ex_tiny_mone (exA exU).2.2 (by decide) (by decide)]; rfl
/-- The facts of the second and third example. -/
theorem mul_ex : ∃ m, xmL [3706462493325918208, 4607182418800017408] [3706462493325918208, 13830554455654793216] = m ∧ (∀ x ∈ m, x < 18446744073709551616) ∧ m.length ≤ 64 ∧ sgnL m = -1 ∧ sumOk [m, [4607182418800017408], [12029114604706594816]] = true ∧ sumL [m, [4607182418800017408], [12029114604706594816]] = [] := by
  obtain ⟨k, h1, h2⟩ := mul_example
  have hA : 2 ^ (p1080 + 1) ≤ 2 ^ (p1080 + 4) := pow_up (by omega)
  have hs : sumOk [mulX [tinyF, oneF] [tinyF, moneF], [4607182418800017408], [12029114604706594816]] = true := by
    unfold sumOk
    simp only [List.all_cons, List.all_nil]
    rw [h1.may (exA hA).2.1, ex_one.may (l := [4607182418800017408]) (exA exU).2.1, ex_mt2.may (l := [12029114604706594816]) (exA exU).2.1]; rfl
  refine ⟨_, (by unfold xmL; rw [if_pos mul_ex_ok]; rfl : _ = mulX [tinyF, oneF] [tinyF, moneF]), fun x hx => (h1.fl x hx).1, h1.len, ?_, hs, by unfold sumL; rw [if_pos hs]; exact sum_example⟩
  rw [sgnL_ex h1 (exA hA).1, h2]
  have := k_lt
  unfold TV.sg
  rw [if_pos (by omega)]
theorem sign_ex : sgnL [12929834530180694016, 4607182418800017408] = 1 := by
  rw [sgnL_ex (l := [12929834530180694016, 4607182418800017408]) ex_mtiny_one (exA exU).1, fv_mtiny, fv_one]
  have := k_lt
  unfold TV.sg
  rw [if_neg (by omega), if_neg (by omega)]
theorem neg_one_eq : ([4607182418800017408] : List Nat).map fneg = [13830554455654793216] := by decide
theorem ex_mone : Ex (4 * uW) (fv moneF) [moneF] := by
  have := k_lt
  refine Ex.one fl_one.2.1 (by decide) ?_
  rw [← fv_natAbs, fv_mone]; omega
theorem cmp_ex : sgnL (plusB [3706462493325918208, 4607182418800017408] [13830554455654793216]) = 1 ∧ (∀ x ∈ plusB [3706462493325918208, 4607182418800017408] [13830554455654793216], x < 18446744073709551616) ∧ (plusB [3706462493325918208, 4607182418800017408] [13830554455654793216]).length ≤ 64 ∧
    ((neatB (growsB [] (mergeB [3706462493325918208, 4607182418800017408] [13830554455654793216]))).map fv).sum.natAbs ≤ tameM := by
  have hb : 4 * uW + 4 * uW ≤ 2 ^ p1080 := by have := uW_bound; omega
  obtain ⟨h1, h2⟩ := plus2 (p := p1080) (by decide) (by decide) ex_tiny_one ex_mone hb
  have hA : 2 ^ (p1080 + 1) ≤ 2 ^ (p1080 + 4) := pow_up (by omega)
  refine ⟨?_, fun x hx => (h1.fl x hx).1, h1.len, h2⟩
  rw [show plusB [3706462493325918208, 4607182418800017408] [13830554455654793216] = plusB [tinyF, oneF] [moneF] from rfl, sgnL_ex h1 (exA hA).1, fv_tiny, fv_one, fv_mone]
  have := k_lt
  unfold TV.sg
  rw [if_neg (by omega), if_neg (by omega)]
theorem small_two {x y : Nat} (hx : x < 18446744073709551616) (hy : y < 18446744073709551616) : ∀ z ∈ [x, y], z < 18446744073709551616 := fun z hz => by
  simp only [List.mem_cons, List.not_mem_nil, or_false] at hz
  rcases hz with rfl | rfl
  · exact hx
  · exact hy
theorem lsl3 {w : World} {va vb vc : Value} {a b c : List Nat} (ha : Sl w va (fvs a)) (hb : Sl w vb (fvs b)) (hc : Sl w vc (fvs c)) : Lsl w [va, vb, vc] [a, b, c] := by
  refine ⟨rfl, fun i v l h1 h2 => ?_⟩
  match i with
  | 0 => simp at h1 h2; subst h1; subst h2; exact ha
  | 1 => simp at h1 h2; subst h1; subst h2; exact hb
  | 2 => simp at h1 h2; subst h1; subst h2; exact hc
  | i + 3 => simp at h1
theorem all3 {P : List Nat → Prop} {a b c : List Nat} (ha : P a) (hb : P b) (hc : P c) : ∀ l ∈ [a, b, c], P l := fun l hl => by
  simp only [List.mem_cons, List.not_mem_nil, or_false] at hl
  rcases hl with rfl | rfl | rfl
  · exact ha
  · exact hb
  · exact hc
end Go.Proofs.YtiihokgjplpceaaDoor
