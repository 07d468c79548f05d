/- Package expand, walked: Cmp; the examples of the statements. -/
import Derived.Test.YtjogclokjonkeaaDoorEwO
import Derived.Test.YtjogclokjonkeaaDoorEwI
import Derived.Test.YtjogclokjonkeaaDoorEpW
namespace Go.Proofs.YtjogclokjonkeaaDoor
open Go.RowKit TV
set_option linter.unusedVariables false

theorem sgnL_all {l : List Nat} (h : allB 1 9065746049896808448 l = true) : sgnL l = TV.sg (l.map fv).sum := by
  unfold sgnL
  by_cases c : l = []
  · rw [if_neg (fun h => h.2 c)]
    subst c; rfl
  · rw [if_pos ⟨h, c⟩]
    obtain ⟨t, q, h1, h2, h3, h4, h5, h6⟩ := okI_leads ((allB_one l).1 h).2 (by simpa using c)
    have hlen : 0 < l.length := List.length_pos_iff.2 c
    have hq : fv (l.getD (l.length - 1) 0) = q := by
      have e1 : (l.map fv).getLast (by simpa using c) = q := by simp only [h1]; simp
      rw [List.getLast_eq_getElem] at e1
      simp only [List.length_map, List.getElem_map] at e1
      rw [List.getD_eq_getElem?_getD, List.getElem?_eq_getElem (by omega)]
      exact e1
    rw [hq]
    unfold TV.sg
    by_cases z : q < 0
    · rw [if_pos z, if_pos (h4.2 z)]
    · rw [if_neg z, if_neg (fun h => z (h4.1 h)), if_neg h6]
theorem sgnL_ex {A : Nat} {n : Int} {l : List Nat} (h : Ex A n l) (hA : A ≤ mag 9065746049896808448) : sgnL l = TV.sg n := by
  rw [sgnL_all (h.may hA), h.sum]
theorem fvs_neg_lt {l : List Nat} (h : ∀ x ∈ l, x < 18446744073709551616) : ∀ x ∈ l.map fneg, x < 18446744073709551616 := fun x hx => by
  obtain ⟨y, hy, rfl⟩ := List.mem_map.1 hx
  exact fneg_lt (h y hy)
/-- Cmp of two lists that may be. -/
theorem ecmp_calls {w : World} (ht : TabOk w) {ve vf : Value} {le lf : List Nat} (hse : Sl w ve (fvs le)) (hsf : Sl w vf (fvs lf)) (hle : ∀ x ∈ le, Fl x) (hlf : ∀ x ∈ lf, Fl x) (hn1 : le.length ≤ 1000) (hn2 : lf.length ≤ 1000)
    (c1 : allB 1 9065746049896808448 le = true) (c2 : allB 1 9065746049896808448 lf = true) (hM : ((neatB (growsB [] (mergeB le (lf.map fneg)))).map fv).sum.natAbs ≤ tameM) (hE : ∀ x ∈ plusB le (lf.map fneg), x < 18446744073709551616) (hL : (plusB le (lf.map fneg)).length ≤ 1000) :
    Calls Tryd.prog 22 #[ve, vf] w fun x w' => x = .returned (.int .i64 (sgnL (plusB le (lf.map fneg)))) ∧ Below w.heap.size w w' := by
  have HA := Lib.hid (check_calls hse (fun x hx => (hle x hx).1) (by omega))
  have HB := Lib.hid (fun (W : World) (h : Sl W vf (fvs lf)) => check_calls h (fun x hx => (hlf x hx).1) (by omega))
  have HN := Lib.hid (fun (W : World) (h : Sl W vf (fvs lf)) => neg_calls2 h (fun x hx => (hlf x hx).1) (by omega))
  have hfl : ∀ x ∈ lf.map fneg, Fl x := fun x hx => by
    obtain ⟨y, hy, rfl⟩ := List.mem_map.1 hx
    exact (fneg_fl (hlf y hy)).1
  have HP := Lib.hid (fun (W : World) (u : Value) (hW : TabOk W) (h1 : Sl W ve (fvs le)) (h2 : Sl W u (fvs (lf.map fneg))) => plus_calls hW h1 h2 hle hfl hn1 (by simpa using hn2) hM)
  have HS := Lib.hid (fun (W : World) (u : Value) (h : Sl W u (fvs (plusB le (lf.map fneg)))) => esign_calls h hE (by omega))
  have HSE := Lib.hid hse
  have HSF := Lib.hid hsf
  have HT := Lib.hid ht
  rw [c1] at HA
  rw [c2] at HB
  obtain ⟨r, hr⟩ : ∃ r, r = plusB le (lf.map fneg) := ⟨_, rfl⟩
  rw [← hr] at HS HP ⊢
  obtain ⟨g, hg⟩ : ∃ g, g = lf.map fneg := ⟨_, rfl⟩
  rw [← hg] at HN HP
  obtain ⟨p, ce, rfl⟩ := hse.form
  obtain ⟨q, cf, rfl⟩ := hsf.form
  clear hse hsf hle hlf c1 c2 hM hE hL hfl hr hg ht
  go_enter Tryd.func22, Tryd.ntmps22
  go_wp2_with fail
  refine HA.out.mono ?_
  rintro _ w1 ⟨rfl, b1⟩
  have h2 := Lib.hid (HB.out w1 (HSF.out.keep b1))
  go_wp2_with fail
  refine h2.out.mono ?_
  rintro _ w2 ⟨rfl, b2⟩
  have b12 := below2 b1 b2
  have h3 := Lib.hid (HN.out w2 (HSF.out.keep b12))
  go_wp2_with fail
  refine h3.out.mono ?_
  rintro _ w3 ⟨v3, rfl, hown3, b3⟩
  have b13 := below2 b12 b3
  obtain ⟨p3, c3, rfl⟩ := own_form hown3
  have hsl3 : Sl w3 (.slice p3 lf.length c3) (fvs g) := own_sl hown3
  have h4 := Lib.hid (HP.out w3 _ (HT.out.keep b13) (HSE.out.keep b13) hsl3)
  clear hown3 hsl3
  go_wp2_with fail
  refine h4.out.mono ?_
  rintro _ w4 ⟨v4, rfl, hown4, b4⟩
  obtain ⟨p4, c4, rfl⟩ := own_form hown4
  have h5 := Lib.hid (HS.out w4 _ (own_sl hown4))
  clear hown4
  go_wp2_with fail
  refine h5.out.mono ?_
  rintro _ w5 ⟨rfl, b5⟩
  go_wp2_with fail
  go_ret
  exact ⟨rfl, below2 (below2 b13 b4) b5⟩
theorem own_lit2 (w : World) (T : TypeId) (x y : Value) {base : Nat} (h : base ≤ w.heap.size) : (w.alloc (.cells #[x, y] T)).ownsRow base T 1 (.slice (some ⟨w.heap.size, 0, none⟩) 2 2) 2 [x, y] :=
  ⟨rfl, Or.inr ⟨w.heap.size, 2, #[x, y], rfl, h, heap_alloc_new _ _, Nat.le_refl _, by unfold maxLen; omega, by simp, by simp⟩⟩
theorem own_lit3 (w : World) (T : TypeId) (x y z : Value) {base : Nat} (h : base ≤ w.heap.size) : (w.alloc (.cells #[x, y, z] T)).ownsRow base T 1 (.slice (some ⟨w.heap.size, 0, none⟩) 3 3) 3 [x, y, z] :=
  ⟨rfl, Or.inr ⟨w.heap.size, 3, #[x, y, z], rfl, h, heap_alloc_new _ _, Nat.le_refl _, by unfold maxLen; omega, by simp, by simp⟩⟩
theorem exA {A : Nat} (h : A ≤ 2 ^ (p1080 + 4)) : A ≤ mag 9065746049896808448 ∧ A ≤ mag 8660422083433463808 ∧ A ≤ kS := ⟨Nat.le_trans h p_most.1, Nat.le_trans h p_most.2.1, Nat.le_trans h p_most.2.2⟩
theorem exU : 4 * uW ≤ 2 ^ (p1080 + 4) := by
  have h := uW_bound
  have h2 : 2 ^ (p1080 + 4) = 2 ^ p1080 * 16 := by rw [Nat.pow_add]
  omega
theorem add_example : addOk [4607182418800017408] [3706462493325918208] = true ∧ addL [4607182418800017408] [3706462493325918208] = [3706462493325918208, 4607182418800017408] := by
  have h : addOk [4607182418800017408] [3706462493325918208] = true := by
    unfold addOk
    rw [ex_one.may (l := [4607182418800017408]) (exA exU).2.1, ex_tiny.may (l := [3706462493325918208]) (exA exU).2.1]; rfl
  exact ⟨h, by unfold addL; rw [if_pos h]; exact plus_one_tiny⟩
theorem safe_two {A : Nat} {n : Int} {x y : Nat} (h : Ex A n [x, y]) (hA : A ≤ kS) (h1 : 2580562586483294208 ≤ rung x) (h2 : 2580562586483294208 ≤ rung y) : allB 2580562586483294208 6633802251116740608 [x, y] = true := by
  refine (allB_ok (by decide) _).2 ⟨h.len, okI_bound h.ok (fun z hz => by have := (okI_mem h.ok z hz).2; rw [mag_safe]; omega), fun z hz => ?_⟩
  simp only [List.mem_cons, List.not_mem_nil, or_false] at hz
  rcases hz with rfl | rfl
  · exact h1
  · exact h2
theorem mul_ex_ok : xmOk [3706462493325918208, 4607182418800017408] [3706462493325918208, 13830554455654793216] = true := by
  unfold xmOk
  rw [safe_two (x := 3706462493325918208) (y := 4607182418800017408) ex_tiny_one (exA exU).2.2 (by decide) (by decide), safe_two (x := 3706462493325918208) (y := 13830554455654793216) ex_tiny_mone (exA exU).2.2 (by decide) (by decide)]; rfl
/-- The facts of the second and third example. -/
theorem mul_ex : ∃ m, xmL [3706462493325918208, 4607182418800017408] [3706462493325918208, 13830554455654793216] = m ∧ (∀ x ∈ m, x < 18446744073709551616) ∧ m.length ≤ 64 ∧ sgnL m = -1 ∧ sumOk [m, [4607182418800017408], [12029114604706594816]] = true ∧ sumL [m, [4607182418800017408], [12029114604706594816]] = [] := by
  obtain ⟨k, h1, h2⟩ := mul_example
  have hA : 2 ^ (p1080 + 1) ≤ 2 ^ (p1080 + 4) := pow_up (by omega)
  have hs : sumOk [mulX [tinyF, oneF] [tinyF, moneF], [4607182418800017408], [12029114604706594816]] = true := by
    unfold sumOk
    simp only [List.all_cons, List.all_nil]
    rw [h1.may (exA hA).2.1, ex_one.may (l := [4607182418800017408]) (exA exU).2.1, ex_mt2.may (l := [12029114604706594816]) (exA exU).2.1]; rfl
  refine ⟨_, (by unfold xmL; rw [if_pos mul_ex_ok]; rfl : _ = mulX [tinyF, oneF] [tinyF, moneF]), fun x hx => (h1.fl x hx).1, h1.len, ?_, hs, by unfold sumL; rw [if_pos hs]; exact sum_example⟩
  rw [sgnL_ex h1 (exA hA).1, h2]
  have := k_lt
  unfold TV.sg
  rw [if_pos (by omega)]
theorem sign_ex : sgnL [12929834530180694016, 4607182418800017408] = 1 := by
  rw [sgnL_ex (l := [12929834530180694016, 4607182418800017408]) ex_mtiny_one (exA exU).1, fv_mtiny, fv_one]
  have := k_lt
  unfold TV.sg
  rw [if_neg (by omega), if_neg (by omega)]
theorem neg_one_eq : ([4607182418800017408] : List Nat).map fneg = [13830554455654793216] := by decide
theorem ex_mone : Ex (4 * uW) (fv moneF) [moneF] := by
  have := k_lt
  refine Ex.one fl_one.2.1 (by decide) ?_
  rw [← fv_natAbs, fv_mone]; omega
theorem cmp_ex : sgnL (plusB [3706462493325918208, 4607182418800017408] [13830554455654793216]) = 1 ∧ (∀ x ∈ plusB [3706462493325918208, 4607182418800017408] [13830554455654793216], x < 18446744073709551616) ∧ (plusB [3706462493325918208, 4607182418800017408] [13830554455654793216]).length ≤ 64 ∧
    ((neatB (growsB [] (mergeB [3706462493325918208, 4607182418800017408] [13830554455654793216]))).map fv).sum.natAbs ≤ tameM := by
  have hb : 4 * uW + 4 * uW ≤ 2 ^ p1080 := by have := uW_bound; omega
  obtain ⟨h1, h2⟩ := plus2 (p := p1080) (by decide) (by decide) ex_tiny_one ex_mone hb
  have hA : 2 ^ (p1080 + 1) ≤ 2 ^ (p1080 + 4) := pow_up (by omega)
  refine ⟨?_, fun x hx => (h1.fl x hx).1, h1.len, h2⟩
  rw [show plusB [3706462493325918208, 4607182418800017408] [13830554455654793216] = plusB [tinyF, oneF] [moneF] from rfl, sgnL_ex h1 (exA hA).1, fv_tiny, fv_one, fv_mone]
  have := k_lt
  unfold TV.sg
  rw [if_neg (by omega), if_neg (by omega)]
theorem small_two {x y : Nat} (hx : x < 18446744073709551616) (hy : y < 18446744073709551616) : ∀ z ∈ [x, y], z < 18446744073709551616 := fun z hz => by
  simp only [List.mem_cons, List.not_mem_nil, or_false] at hz
  rcases hz with rfl | rfl
  · exact hx
  · exact hy
theorem lsl3 {w : World} {va vb vc : Value} {a b c : List Nat} (ha : Sl w va (fvs a)) (hb : Sl w vb (fvs b)) (hc : Sl w vc (fvs c)) : Lsl w [va, vb, vc] [a, b, c] := by
  refine ⟨rfl, fun i v l h1 h2 => ?_⟩
  match i with
  | 0 => simp at h1 h2; subst h1; subst h2; exact ha
  | 1 => simp at h1 h2; subst h1; subst h2; exact hb
  | 2 => simp at h1 h2; subst h1; subst h2; exact hc
  | i + 3 => simp at h1
theorem all3 {P : List Nat → Prop} {a b c : List Nat} (ha : P a) (hb : P b) (hc : P c) : ∀ l ∈ [a, b, c], P l := fun l hl => by
  simp only [List.mem_cons, List.not_mem_nil, or_false] at hl
  rcases hl with rfl | rfl | rfl
  · exact ha
  · exact hb
  · exact hc
/-- Sum of three lists. -/
theorem sum3_calls {w : World} (ht : TabOk w) {v va vb vc : Value} {a b c : List Nat} (hs : Sl w v [va, vb, vc]) (ha : Sl w va (fvs a)) (hb : Sl w vb (fvs b)) (hc : Sl w vc (fvs c)) (la : ∀ x ∈ a, x < 18446744073709551616) (lb : ∀ x ∈ b, x < 18446744073709551616) (lc : ∀ x ∈ c, x < 18446744073709551616)
    (na : a.length ≤ 1000) (nb : b.length ≤ 1000) (nc : c.length ≤ 1000) : Calls Tryd.prog 10 #[v] w (TwoP (sumL [a, b, c]) (sumOk [a, b, c]) w) := by
  cases h : sumOk [a, b, c] with
  | true =>
    have := sum_calls2 ht hs (lsl3 ha hb hc) (all3 (P := fun l => ∀ x ∈ l, x < 18446744073709551616) la lb lc) (all3 (P := fun l => l.length ≤ 1000) na nb nc) (by simp) h
    rw [h] at this; exact this
  | false =>
    have := sum_not hs (lsl3 ha hb hc) (all3 (P := fun l => ∀ x ∈ l, x < 18446744073709551616) la lb lc) (all3 (P := fun l => l.length ≤ 1000) na nb nc) (by simp) h
    rw [h] at this; exact this
set_option maxRecDepth 100000 in
set_option maxHeartbeats 2000000 in
theorem eworks_calls {w : World} (ht : TabOk w) :
    Calls Tryd.prog 30 #[] w fun x w' => x = .returned (.bool true) ∧ Below w.heap.size w w' := by
  have hn : fneg 3706462493325918208 = 12929834530180694016 := by decide +kernel
  have hm : (Ieee.double.mul 12929834530180694016 3706462493325918208).isSome = true := by decide +kernel
  have hm2 : fmul 12929834530180694016 3706462493325918208 = 12029114604706594816 := by decide +kernel
  have o1 : (FloatKind.f64.format.order 3706462493325918208 3706462493325918208 == some .eq) = true := by decide +kernel
  have o2 : (FloatKind.f64.format.order 4607182418800017408 4607182418800017408 == some .eq) = true := by decide +kernel
  have HT := Lib.hid ht
  obtain ⟨m, m1, m2, m3, m4, m5, m6⟩ := mul_ex
  have HM1 := Lib.hid m1
  have HM2 := Lib.hid m2
  have HM3 := Lib.hid m3
  have HM4 := Lib.hid m4
  have HM5 := Lib.hid m5
  have HM6 := Lib.hid m6
  clear ht m1 m2 m3 m4 m5 m6
  go_enter Tryd.func30, Tryd.ntmps30
  go_wp2_with fail
  have b2 : Below w.heap.size w ((w.alloc (.cells #[.float .f64 4607182418800017408] 34)).alloc (.cells #[.float .f64 3706462493325918208] 34)) := ((Below.refl _ _).alloc (Nat.le_refl _) _).alloc (by simp) _
  have HA := Lib.hid (eadd_calls (HT.out.keep b2) (le := [4607182418800017408]) (lf := [3706462493325918208]) ((own_sl (own_lit w 34 _ (Nat.le_refl _))).keep ((Below.refl _ _).alloc (Nat.le_refl _) _)) (own_sl (own_lit (w.alloc (.cells #[.float .f64 4607182418800017408] 34)) 34 _ (Nat.le_refl _))) (by decide) (by decide) (by decide) (by decide))
  rw [add_example.1, add_example.2] at HA
  rw [World.size_alloc] at HA
  refine HA.out.mono ?_
  rintro _ w1 ⟨v1, rfl, hown1, b1⟩
  have B1 := Lib.hid (bl_pack b2 b2.size b1)
  obtain ⟨g1, cap1, rfl, hg1, hgl1⟩ := own_some hown1 (by simp)
  obtain ⟨x0, -⟩ := own_cell (i := 0) hown1 (by simp [fvs])
  obtain ⟨x1, -⟩ := own_cell (i := 1) hown1 (by simp [fvs])
  simp only [fvs, List.map_cons, List.map_nil, List.getElem_cons_zero, List.getElem_cons_succ] at x0 x1
  rw [show ([3706462493325918208, 4607182418800017408] : List Nat).length = 2 from rfl]
  clear hown1 b1 b2 HA
  go_wp2_with fail
  have b3 : Below w1.heap.size w1 ((w1.alloc (.cells #[.float .f64 3706462493325918208, .float .f64 4607182418800017408] 34)).alloc (.cells #[.float .f64 3706462493325918208, .float .f64 13830554455654793216] 34)) := ((Below.refl _ _).alloc (Nat.le_refl _) _).alloc (by simp) _
  have HA := Lib.hid (mul_calls2 ((HT.out.keep B1.out).keep b3) (le := [3706462493325918208, 4607182418800017408]) (lf := [3706462493325918208, 13830554455654793216]) ((own_sl (own_lit2 w1 34 _ _ (Nat.le_refl _))).keep ((Below.refl _ _).alloc (Nat.le_refl _) _)) (own_sl (own_lit2 (w1.alloc (.cells #[.float .f64 3706462493325918208, .float .f64 4607182418800017408] 34)) 34 _ _ (Nat.le_refl _))) (by decide) (by decide) (by decide) (by decide))
  rw [HM1.out, mul_ex_ok] at HA
  rw [World.size_alloc] at HA
  refine HA.out.mono ?_
  rintro _ w2 ⟨v2, rfl, hown2, b2⟩
  have B12 := bl_pack b3 b3.size b2
  have B2 := Lib.hid (bl_pack B1.out B1.out.size B12)
  have hc1 := Lib.hid (fun (W : World) (b : Below w1.heap.size w1 W) => (⟨(bcell b).1 g1 0 hgl1, (bcell b).1 g1 1 hgl1⟩ : _ ∧ _))
  have HX0 := Lib.hid x0
  have HX1 := Lib.hid x1
  have HB12 := Lib.hid B12
  have HO2 := Lib.hid (own_sl hown2)
  obtain ⟨p2, cap2, rfl⟩ := own_form hown2
  clear hown2 b2 b3 HA x0 x1 hg1 B12
  go_wp2_with fail
  have b4 : Below w2.heap.size w2 ((w2.alloc (.cells #[.float .f64 4607182418800017408] 34)).alloc (.cells #[.float .f64 12029114604706594816] 34)) := ((Below.refl _ _).alloc (Nat.le_refl _) _).alloc (by simp) _
  have b5 : Below w2.heap.size w2 (((w2.alloc (.cells #[.float .f64 4607182418800017408] 34)).alloc (.cells #[.float .f64 12029114604706594816] 34)).alloc (.cells #[.slice p2 m.length cap2, .slice (some ⟨w2.heap.size, 0, none⟩) 1 1, .slice (some ⟨w2.heap.size + 1, 0, none⟩) 1 1] 22)) := b4.alloc (by simp <;> omega) _
  have HA := Lib.hid (sum3_calls ((HT.out.keep B2.out).keep b5) (a := m) (b := [4607182418800017408]) (c := [12029114604706594816]) (own_sl (own_lit3 ((w2.alloc (.cells #[.float .f64 4607182418800017408] 34)).alloc (.cells #[.float .f64 12029114604706594816] 34)) 22 _ _ _ (Nat.le_refl _)))
    (HO2.out.keep b5) ((own_sl (own_lit w2 34 (.float .f64 4607182418800017408) (Nat.le_refl _))).keep (((Below.refl _ _).alloc (Nat.le_refl _) _).alloc (by simp) _))
    (by
      have := (own_sl (own_lit (w2.alloc (.cells #[.float .f64 4607182418800017408] 34)) 34 (.float .f64 12029114604706594816) (Nat.le_refl _))).keep (w1 := ((w2.alloc (.cells #[.float .f64 4607182418800017408] 34)).alloc (.cells #[.float .f64 12029114604706594816] 34)).alloc (.cells #[.slice p2 m.length cap2, .slice (some ⟨w2.heap.size, 0, none⟩) 1 1, .slice (some ⟨w2.heap.size + 1, 0, none⟩) 1 1] 22)) ((Below.refl _ _).alloc (Nat.le_refl _) _)
      rw [World.size_alloc] at this; exact this) HM2.out (by decide) (by decide) (by have := HM3.out; omega) (by decide) (by decide))
  rw [HM5.out, HM6.out] at HA
  simp only [World.size_alloc] at HA
  refine HA.out.mono ?_
  rintro _ w3 ⟨v3, rfl, hown3, b6⟩
  obtain ⟨p3, cap3, rfl⟩ := own_form hown3
  have B23 := Lib.hid (bl_pack b5 b5.size b6)
  have B3 := Lib.hid (bl_pack B2.out B2.out.size B23.out)
  have B13 := Lib.hid (bl_pack HB12.out HB12.out.size B23.out)
  have x0 := (hc1.out w3 B13.out).1.trans HX0.out
  have x1 := (hc1.out w3 B13.out).2.trans HX1.out
  have hg3 := Nat.lt_of_lt_of_le hgl1 B13.out.size
  have HS1 := Lib.hid (esign_calls (HO2.out.keep B23.out) HM2.out (by have := HM3.out; omega))
  rw [HM4.out] at HS1
  have HS2 := Lib.hid (fun (W : World) (v : Value) (h : Sl W v (fvs [12929834530180694016, 4607182418800017408])) => esign_calls h (small_two (by decide) (by decide)) (by decide))
  rw [sign_ex] at HS2
  have HC := Lib.hid (fun (W : World) (u v : Value) (hT : TabOk W) (h : Sl W u (fvs [3706462493325918208, 4607182418800017408])) (h2 : Sl W v (fvs [4607182418800017408])) => ecmp_calls hT h h2 ex_tiny_one.fl ex_one.fl (by decide) (by decide) (ex_tiny_one.may (exA exU).1) (ex_one.may (exA exU).1) (by rw [neg_one_eq]; exact cmp_ex.2.2.2) (by rw [neg_one_eq]; exact cmp_ex.2.1) (by rw [neg_one_eq]; have := cmp_ex.2.2.1; omega))
  rw [neg_one_eq, cmp_ex.1] at HC
  clear hown3 b4 b5 b6 HA hgl1
  go_wp2_with fail
  refine HS1.out.mono ?_
  rintro _ w4 ⟨rfl, b7⟩
  go_wp2_with fail
  have b8 : Below w4.heap.size w4 (w4.alloc (.cells #[.float .f64 12929834530180694016, .float .f64 4607182418800017408] 34)) := (Below.refl _ _).alloc (Nat.le_refl _) _
  have HS3 := Lib.hid (HS2.out _ _ (own_sl (own_lit2 w4 34 (.float .f64 12929834530180694016) (.float .f64 4607182418800017408) (Nat.le_refl _))))
  refine HS3.out.mono ?_
  rintro _ w5 ⟨rfl, b9⟩
  have B35 := Lib.hid (bl_pack (bl_pack b7 b7.size b8) (Nat.le_trans b7.size b8.size) b9)
  clear b7 b8 b9
  go_wp2_with fail
  have b10 : Below w5.heap.size w5 ((w5.alloc (.cells #[.float .f64 3706462493325918208, .float .f64 4607182418800017408] 34)).alloc (.cells #[.float .f64 4607182418800017408] 34)) := ((Below.refl _ _).alloc (Nat.le_refl _) _).alloc (by simp) _
  have B5 := bl_pack B3.out B3.out.size B35.out
  have HC2 := Lib.hid (HC.out _ _ _ ((HT.out.keep B5).keep b10) ((own_sl (own_lit2 w5 34 (.float .f64 3706462493325918208) (.float .f64 4607182418800017408) (Nat.le_refl _))).keep ((Below.refl _ _).alloc (Nat.le_refl _) _)) (own_sl (own_lit (w5.alloc (.cells #[.float .f64 3706462493325918208, .float .f64 4607182418800017408] 34)) 34 (.float .f64 4607182418800017408) (Nat.le_refl _))))
  rw [World.size_alloc] at HC2
  refine HC2.out.mono ?_
  rintro _ w6 ⟨rfl, b11⟩
  have B6 := Lib.hid (bl_pack (bl_pack B5 B5.size b10) (Nat.le_trans B5.size b10.size) b11)
  clear b10 b11 B5
  go_wp2_with fail
  go_ret
  exact ⟨rfl, B6.out⟩
end Go.Proofs.YtjogclokjonkeaaDoor
