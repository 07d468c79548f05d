/- What is told fast of a point and a line is right; the exact sign, by expansions. -/
import Derived.Test.YtiihokgjplpceaaDoorEpX
namespace TV
/-! ### What is told fast is right -/
theorem rn_rel (n : Int) : 9007199254740991 * (Rn n - n).natAbs ≤ (Rn n).natAbs := by
  have := Rn_err n
  omega
theorem err2 {a b e f : Int} (he : 9007199254740991 * e.natAbs ≤ a.natAbs) (hf : 9007199254740991 * f.natAbs ≤ b.natAbs) :
    9007199254740991 * (9007199254740991 * (a * b - (a - e) * (b - f)).natAbs) ≤ 18014398509481983 * (a * b).natAbs := by
  have h0 : a * b - (a - e) * (b - f) = a * f + e * b - e * f := by grind
  have h1 : (a * f + e * b - e * f).natAbs ≤ a.natAbs * f.natAbs + e.natAbs * b.natAbs + e.natAbs * f.natAbs := by
    have e1 := Int.natAbs_mul a f
    have e2 := Int.natAbs_mul e b
    have e3 := Int.natAbs_mul e f
    generalize a.natAbs * f.natAbs = A1 at *
    generalize e.natAbs * b.natAbs = A2 at *
    generalize e.natAbs * f.natAbs = A3 at *
    generalize a * f = B1 at *
    generalize e * b = B2 at *
    generalize e * f = B3 at *
    omega
  have n1 : 9007199254740991 * (a.natAbs * f.natAbs) ≤ a.natAbs * b.natAbs := by
    have := Nat.mul_le_mul_left a.natAbs hf
    rw [Nat.mul_left_comm] at this; exact this
  have n2 : 9007199254740991 * (e.natAbs * b.natAbs) ≤ a.natAbs * b.natAbs := by
    have := Nat.mul_le_mul_right b.natAbs he
    rw [Nat.mul_assoc] at this; exact this
  have n3 : 9007199254740991 * (9007199254740991 * (e.natAbs * f.natAbs)) ≤ a.natAbs * b.natAbs := by
    have := Nat.mul_le_mul he hf
    rw [Nat.mul_assoc, Nat.mul_left_comm e.natAbs] at this; exact this
  rw [h0, Int.natAbs_mul a b]
  generalize a.natAbs * f.natAbs = A1 at *
  generalize e.natAbs * b.natAbs = A2 at *
  generalize e.natAbs * f.natAbs = A3 at *
  generalize a.natAbs * b.natAbs = A4 at *
  omega
/-- A product of two rounded differences, rounded: how far it is from the exact one. -/
theorem prod_near {d1 d2 X t : Int} {U : Nat} (hU : 0 < U) (ht : t * (U : Int) = Rn d1 * Rn d2) (hX : X * (U : Int) = d1 * d2) : 2251799813685248 * (Rn t - X).natAbs ≤ (Rn t).natAbs := by
  have h1 := err2 (rn_rel d1) (rn_rel d2)
  have e1 : (Rn d1 - (Rn d1 - d1)) * (Rn d2 - (Rn d2 - d2)) = d1 * d2 := by grind
  rw [e1, ← ht, ← hX, ← Int.sub_mul, Int.natAbs_mul, Int.natAbs_mul, Int.natAbs_natCast] at h1
  have h2 : 9007199254740991 * (9007199254740991 * (t - X).natAbs) ≤ 18014398509481983 * t.natAbs := by
    have h3 : (9007199254740991 * (9007199254740991 * (t - X).natAbs)) * U ≤ (18014398509481983 * t.natAbs) * U := by
      rw [Nat.mul_assoc, Nat.mul_assoc, Nat.mul_assoc]; exact h1
    exact Nat.le_of_mul_le_mul_right h3 hU
  have h4 := rn_rel t
  omega
theorem rn_sign (n : Int) : (0 < Rn n ↔ 0 < n) ∧ (Rn n < 0 ↔ n < 0) := by
  have h1 := @Rn_nonneg_of n
  have h2 := @Rn_nonpos_of n
  have h3 := @Rn_nz n
  omega
theorem fast_law {d1 d2 d3 d4 X Y t s : Int} {U : Nat} (hU : 0 < U) (ht : t * (U : Int) = Rn d1 * Rn d2) (hs : s * (U : Int) = Rn d3 * Rn d4) (hX : X * (U : Int) = d1 * d2) (hY : Y * (U : Int) = d3 * d4)
    (hc : Rn (((Rn t).natAbs + (Rn s).natAbs : Nat) : Int) < (((Rn (Rn t - Rn s)).natAbs * 1125899906842624 : Nat) : Int)) : TV.sg (Rn (Rn t - Rn s)) = TV.sg (X - Y) := by
  have h1 := prod_near hU ht hX
  have h2 := prod_near hU hs hY
  have h3 := Rn_err (((Rn t).natAbs + (Rn s).natAbs : Nat) : Int)
  have h4 := Rn_err (Rn t - Rn s)
  obtain ⟨h5, h6⟩ := rn_sign (Rn t - Rn s)
  generalize Rn t = x at *
  generalize Rn s = y at *
  generalize Rn ((x.natAbs + y.natAbs : Nat) : Int) = q at *
  generalize Rn (x - y) = d at *
  unfold TV.sg
  have key : (0 < x - y ↔ 0 < X - Y) ∧ (x - y < 0 ↔ X - Y < 0) := by omega
  by_cases c1 : d < 0
  · rw [if_pos c1, if_pos (key.2.1 (h6.1 c1))]
  · rw [if_neg c1, if_neg (fun h => c1 (h6.2 (key.2.2 h)))]
    by_cases c2 : d = 0
    · rw [if_pos c2, if_pos]
      omega
    · rw [if_neg c2, if_neg]
      omega
end TV
namespace TV
/-! ### The sign, by expansions -/
/-- 2^100, in units. -/
def kC : Nat := 2 ^ 1174
def pM : Nat := 1290
def j974 : Nat := 974
def j874 : Nat := 874
theorem kC_tame : 8 * kC ≤ tameM ∧ 8 * kC ≤ kS := by unfold kC tameM kS; decide +kernel
theorem kC_prod : 3 * (8 * kC * (8 * kC)) ≤ 2 ^ pM * uW := by unfold kC pM uW uE; decide +kernel
theorem pM_most : 2 ^ (pM + 2 + 1) ≤ mag 9065746049896808448 := by unfold pM; decide +kernel
/-- A difference of two floats as a list. -/
def lessB (x y : Nat) : List Nat := nzB (sLo x (fneg y)) ++ nzB (sHi x (fneg y))
theorem lessB_ex {x y : Nat} (hy : Fl y) (bx : (fv x).natAbs ≤ kC) (bY : (fv y).natAbs ≤ kC) : Ex (8 * kC) (fv x - fv y) (lessB x y) ∧ (lessB x y).length ≤ 2 := by
  have ht := kC_tame.1
  obtain ⟨fn, vn⟩ := fneg_fl hy
  obtain ⟨f1, f2, v1, v2⟩ := s_tame (a := x) (b := fneg y) (by omega) (by rw [vn, Int.natAbs_neg]; omega)
  rw [vn] at v1 v2
  have e : fv x + -fv y = fv x - fv y := by omega
  rw [e] at v1 v2
  obtain ⟨n, hn⟩ : ∃ n, n = fv x - fv y := ⟨_, rfl⟩
  have hnb : n.natAbs ≤ 2 * kC := by omega
  rw [← hn] at v1 v2 ⊢
  obtain ⟨hi, h1⟩ : ∃ z, z = sHi x (fneg y) := ⟨_, rfl⟩
  obtain ⟨lo, h2⟩ : ∃ z, z = sLo x (fneg y) := ⟨_, rfl⟩
  unfold lessB
  rw [← h1, ← h2]
  rw [← h1] at f1 v1
  rw [← h2] at f2 v2
  have g1 := er_err n
  have g2 := Rn_small (t := n) (T := n.natAbs) (by omega)
  have hs : fv lo + fv hi = n := by rw [v1, v2]; unfold er; omega
  by_cases z : rung hi = 0
  · have hz : Rn n = 0 := by rw [← v1]; exact fv_zero_of z
    have hn0 : n = 0 := Classical.byContradiction fun h => Rn_nz h hz
    have hl : rung lo = 0 := (fv_zero_iff lo).1 (by rw [v2, hn0]; decide)
    have e1 : nzB lo ++ nzB hi = [] := by unfold nzB; rw [if_neg (by simpa using hl), if_neg (by simpa using z)]; rfl
    rw [e1, hn0]
    exact ⟨Ex.nil _, by simp⟩
  · have hh : fv hi ≠ 0 := fun c => z ((fv_zero_iff hi).1 c)
    by_cases zl : rung lo = 0
    · have e1 : nzB lo ++ nzB hi = [hi] := by unfold nzB; rw [if_neg (by simpa using zl), if_pos z]; rfl
      rw [e1]
      have hl0 := fv_zero_of zl
      have hv : fv hi = n := by omega
      refine ⟨?_, by simp⟩
      rw [← hv]
      exact Ex.one f1 z (by rw [← fv_natAbs]; omega)
    · have e1 : nzB lo ++ nzB hi = [lo, hi] := by unfold nzB; rw [if_pos zl, if_pos z]; rfl
      rw [e1]
      have hl0 : fv lo ≠ 0 := fun c => zl ((fv_zero_iff lo).1 c)
      have hlow := er_low (n := n) (by rw [← v2]; exact hl0)
      have hrep : Rn (er n) = er n := by rw [← v2]; exact Rn_fix (Rep_fv lo)
      rw [hrep, ← v1, ← v2] at hlow
      refine ⟨⟨fun q hq => ?_, by simp [hs], ⟨⟨hl0, by omega⟩, hlow, hh, by omega⟩, by simp, by simp only [List.map_cons, List.map_nil, ab]; omega⟩, by simp⟩
      simp only [List.mem_cons, List.not_mem_nil, or_false] at hq
      rcases hq with rfl | rfl
      · exact f2
      · exact f1
theorem lessB_dv {j x y : Nat} (hy : Fl y) (hx : ((2 ^ j : Nat) : Int) ∣ fv x) (h2 : ((2 ^ j : Nat) : Int) ∣ fv y) : Dv j (lessB x y) := by
  have hn : ((2 ^ j : Nat) : Int) ∣ fv (fneg y) := by rw [(fneg_fl hy).2]; exact Int.dvd_neg.2 h2
  obtain ⟨a, b⟩ := s_dv hx hn
  exact (nzB_dv b).append (nzB_dv a)
theorem pow_two_two (p : Nat) : 2 ^ (p + 1) + 2 ^ (p + 1) ≤ 2 ^ (p + 2) := by rw [Nat.pow_succ 2 (p + 1)]; omega
/-- Two products of differences, one less the other: as lists. -/
theorem exact_law {x1 y1 x2 y2 x3 y3 x4 y4 : Nat} (h : ∀ z ∈ [x1, y1, x2, y2, x3, y3, x4, y4], Fl z ∧ (fv z).natAbs ≤ kC ∧ ((2 ^ j974 : Nat) : Int) ∣ fv z) :
    (∀ z ∈ lessB x1 y1, safeB z = true) ∧ (∀ z ∈ lessB x2 y2, safeB z = true) ∧ (∀ z ∈ lessB x3 y3, safeB z = true) ∧ (∀ z ∈ lessB x4 y4, safeB z = true) ∧
    allB 2580562586483294208 6633802251116740608 (lessB x1 y1) = true ∧ allB 2580562586483294208 6633802251116740608 (lessB x2 y2) = true ∧ allB 2580562586483294208 6633802251116740608 (lessB x3 y3) = true ∧ allB 2580562586483294208 6633802251116740608 (lessB x4 y4) = true ∧
    ∃ k1 k2 : Int, k1 * (uW : Int) = (fv x1 - fv y1) * (fv x2 - fv y2) ∧ k2 * (uW : Int) = (fv x3 - fv y3) * (fv x4 - fv y4) ∧
      Ex (2 ^ (pM + 1)) k1 (mulX (lessB x1 y1) (lessB x2 y2)) ∧ Ex (2 ^ (pM + 1)) k2 (mulX (lessB x3 y3) (lessB x4 y4)) ∧
      Ex (2 ^ (pM + 2 + 1)) (k1 - k2) (plusB (mulX (lessB x1 y1) (lessB x2 y2)) ((mulX (lessB x3 y3) (lessB x4 y4)).map fneg)) ∧
      ((neatB (growsB [] (mergeB (mulX (lessB x1 y1) (lessB x2 y2)) ((mulX (lessB x3 y3) (lessB x4 y4)).map fneg)))).map fv).sum.natAbs ≤ tameM := by
  simp only [List.mem_cons, List.not_mem_nil, or_false, forall_eq_or_imp, forall_eq] at h
  obtain ⟨⟨a1, b1, c1⟩, ⟨a2, b2, c2⟩, ⟨a3, b3, c3⟩, ⟨a4, b4, c4⟩, ⟨a5, b5, c5⟩, ⟨a6, b6, c6⟩, ⟨a7, b7, c7⟩, ⟨a8, b8, c8⟩⟩ := h
  obtain ⟨E1, l1⟩ := lessB_ex a2 b1 b2
  obtain ⟨E2, l2⟩ := lessB_ex a4 b3 b4
  obtain ⟨E3, l3⟩ := lessB_ex a6 b5 b6
  obtain ⟨E4, l4⟩ := lessB_ex a8 b7 b8
  have D1 := lessB_dv a2 c1 c2
  have D2 := lessB_dv a4 c3 c4
  have D3 := lessB_dv a6 c5 c6
  have D4 := lessB_dv a8 c7 c8
  obtain ⟨s1, t1⟩ := safe_of E1 D1 kC_tame.2 (by decide)
  obtain ⟨s2, t2⟩ := safe_of E2 D2 kC_tame.2 (by decide)
  obtain ⟨s3, t3⟩ := safe_of E3 D3 kC_tame.2 (by decide)
  obtain ⟨s4, t4⟩ := safe_of E4 D4 kC_tame.2 (by decide)
  obtain ⟨k1, m1, n1⟩ := mul2 (p := pM) (by decide) (by decide) E1 E2 s1 s2 kC_prod
  obtain ⟨k2, m2, n2⟩ := mul2 (p := pM) (by decide) (by decide) E3 E4 s3 s4 kC_prod
  have hb := pow_two_two pM
  obtain ⟨p1, p2⟩ := plus2 (p := pM + 2) (by decide) (by decide) m1 m2.neg hb
  exact ⟨s1, s2, s3, s4, t1, t2, t3, t4, k1, k2, n1, n2, m1, m2, p1, p2⟩
end TV
namespace TV
def M101 : Nat := 5062045981164437504
def M202 : Nat := 5516909543528857600
def M203 : Nat := 5521413143156228096
def j100 : Nat := 100
def j50 : Nat := 50
def j1024 : Nat := 1024
def BND : Nat := 4382002437431492608
theorem mag_Ms : mag M101 = 2 * kC ∧ mag M202 * uW = 2 * kC * (2 * kC) ∧ mag M203 = 2 * mag M202 := by unfold M101 M202 M203 kC uW uE; decide +kernel
theorem M_inf : M101 < inf ∧ M202 < inf ∧ M203 < inf := by decide
theorem fv_BND : fv BND = 1 * ((2 ^ j1024 : Nat) : Int) := by unfold BND j1024; decide +kernel
theorem fl_BND : Fl BND := by unfold Fl; decide
/-- A coordinate that may be. -/
def Co (x : Nat) : Prop := Fl x ∧ (fv x).natAbs ≤ kC ∧ ((2 ^ j974 : Nat) : Int) ∣ fv x
/-- A difference of two coordinates. -/
theorem co_sub {x y : Nat} (hx : Co x) (hy : Co y) : (Ieee.double.sub x y).isSome = true ∧ fsub x y < 18446744073709551616 ∧ rung (fsub x y) < inf ∧ rung (fsub x y) ≤ M101 ∧ fv (fsub x y) = Rn (fv x - fv y) ∧ ((2 ^ j974 : Nat) : Int) ∣ fv (fsub x y) := by
  obtain ⟨h1, h2, h3, h4⟩ := fsub_val hx.1.2 hy.1.2 M_inf.1 (by rw [mag_Ms.1]; have := hx.2.1; have := hy.2.1; omega)
  refine ⟨by rw [h1]; rfl, h2, by have := M_inf.1; omega, h3, h4, ?_⟩
  rw [h4]
  exact Rn_dvd (Int.dvd_sub hx.2.2 hy.2.2)
theorem dvd_low {i j : Nat} {n : Int} (h : ((2 ^ j : Nat) : Int) ∣ n) (hi : i ≤ j) : ((2 ^ i : Nat) : Int) ∣ n := Int.dvd_trans (Int.natCast_dvd_natCast.2 (Nat.pow_dvd_pow 2 hi)) h
theorem pow_split {i j k : Nat} (h : i + j = k) : ((2 ^ i : Nat) : Int) * ((2 ^ j : Nat) : Int) = ((2 ^ k : Nat) : Int) := by rw [← Int.natCast_mul, ← Nat.pow_add, h]
theorem uE_cast : ((2 ^ uE : Nat) : Int) = (uW : Int) := rfl
/-- A product of two such differences. -/
theorem co_mul {p q : Nat} (hp : rung p ≤ M101) (hq : rung q ≤ M101) (dp : ((2 ^ j974 : Nat) : Int) ∣ fv p) (dq : ((2 ^ j974 : Nat) : Int) ∣ fv q) :
    (Ieee.double.mul p q).isSome = true ∧ fmul p q < 18446744073709551616 ∧ rung (fmul p q) ≤ M202 ∧ ∃ t : Int, t * (uW : Int) = fv p * fv q ∧ fv (fmul p q) = Rn t ∧ ((2 ^ j50 : Nat) : Int) ∣ fv (fmul p q) := by
  obtain ⟨a, ha⟩ := dp
  obtain ⟨b, hb⟩ := dvd_low (i := j100) dq (by decide)
  have hk : j974 + j100 = uE := rfl
  have hi := M_inf
  have e : a * b * (uW : Int) = fv p * fv q := by
    rw [ha, hb, ← uE_cast, ← pow_split hk]
    generalize ((2 ^ j974 : Nat) : Int) = P
    generalize ((2 ^ j100 : Nat) : Int) = Q
    ac_rfl
  have hab : (a * b).natAbs ≤ mag M202 := by
    have h1 := congrArg Int.natAbs e
    rw [Int.natAbs_mul (a * b), Int.natAbs_mul (fv p), Int.natAbs_natCast, fv_natAbs, fv_natAbs] at h1
    have h2 := Nat.mul_le_mul (mag_le hp) (mag_le hq)
    rw [mag_Ms.1, ← mag_Ms.2.1] at h2
    rw [← h1] at h2
    exact Nat.le_of_mul_le_mul_right h2 uW_pos
  obtain ⟨h1, h2, h3, h4⟩ := fmul_val (x := p) (y := q) (k := j974) (j := j100) (a := a) (b := b) (by omega) (by omega) hi.2.1 (by rw [ha, Int.mul_comm]) (by rw [hb, Int.mul_comm]) rfl hab
  refine ⟨by rw [h1]; rfl, h2, h3, a * b, e, h4, ?_⟩
  rw [h4]
  refine Rn_dvd ?_
  obtain ⟨c, hc⟩ := dvd_low (i := j974) dq (Nat.le_refl _)
  have hb2 : b * ((2 ^ j100 : Nat) : Int) = c * ((2 ^ 874 : Nat) : Int) * ((2 ^ j100 : Nat) : Int) := by
    have : fv q = b * ((2 ^ j100 : Nat) : Int) := by rw [hb, Int.mul_comm]
    rw [← this, hc, Int.mul_assoc, pow_split (show 874 + j100 = j974 from rfl), Int.mul_comm]
  have hp100 : ((2 ^ j100 : Nat) : Int) ≠ 0 := by have := Nat.two_pow_pos j100; omega
  have hb3 := Int.eq_of_mul_eq_mul_right hp100 hb2
  rw [hb3, ← Int.mul_assoc]
  exact Int.dvd_trans (Int.natCast_dvd_natCast.2 (Nat.pow_dvd_pow 2 (show j50 ≤ 874 by decide))) ⟨a * c, Int.mul_comm _ _⟩
theorem fv_rung {x : Nat} : fv (rung x) = (mag (rung x) : Int) := fv_pos_rung _ (rung_lt x)
/-- What Fast reckons. -/
theorem fast_vals {ax ay bx bY cx cy : Nat} (hax : Co ax) (hay : Co ay) (hbx : Co bx) (hby : Co bY) (hcx : Co cx) (hcy : Co cy) :
    (Ieee.double.sub bx ax).isSome = true ∧ (Ieee.double.sub cy ay).isSome = true ∧ (Ieee.double.sub bY ay).isSome = true ∧ (Ieee.double.sub cx ax).isSome = true ∧
    (Ieee.double.mul (fsub bx ax) (fsub cy ay)).isSome = true ∧ (Ieee.double.mul (fsub bY ay) (fsub cx ax)).isSome = true ∧
    ∃ x y : Nat, x = fmul (fsub bx ax) (fsub cy ay) ∧ y = fmul (fsub bY ay) (fsub cx ax) ∧ x < 18446744073709551616 ∧ y < 18446744073709551616 ∧ (Ieee.double.sub x y).isSome = true ∧ fsub x y < 18446744073709551616 ∧ rung (fsub x y) < inf ∧
      (Ieee.double.add (rung x) (rung y)).isSome = true ∧ (Ieee.double.mul BND (fadd (rung x) (rung y))).isSome = true ∧ rung (fmul BND (fadd (rung x) (rung y))) < inf ∧
      fv x = Rn (fv x) ∧ fv (fsub x y) = Rn (fv x - fv y) ∧
      (Ieee.double.order (rung (fsub x y)) (fmul BND (fadd (rung x) (rung y))) == some .gt) = decide (Rn ((((fv x).natAbs + (fv y).natAbs : Nat)) : Int) < (((fv (fsub x y)).natAbs * 1125899906842624 : Nat) : Int)) ∧
      ((∃ t : Int, t * (uW : Int) = Rn (fv bx - fv ax) * Rn (fv cy - fv ay) ∧ fv x = Rn t) ∧ ∃ t : Int, t * (uW : Int) = Rn (fv bY - fv ay) * Rn (fv cx - fv ax) ∧ fv y = Rn t) := by
  obtain ⟨a1, a2, a3, a4, a5, a6⟩ := co_sub hbx hax
  obtain ⟨b1, b2, b3, b4, b5, b6⟩ := co_sub hcy hay
  obtain ⟨c1, c2, c3, c4, c5, c6⟩ := co_sub hby hay
  obtain ⟨d1, d2, d3, d4, d5, d6⟩ := co_sub hcx hax
  obtain ⟨x1, x2, x3, t, x4, x5, x6⟩ := co_mul a4 b4 a6 b6
  obtain ⟨y1, y2, y3, s, y4, y5, y6⟩ := co_mul c4 d4 c6 d6
  rw [a5, b5] at x4
  rw [c5, d5] at y4
  refine ⟨a1, b1, c1, d1, x1, y1, _, _, rfl, rfl, x2, y2, ?_⟩
  obtain ⟨x, hx⟩ : ∃ x, x = fmul (fsub bx ax) (fsub cy ay) := ⟨_, rfl⟩
  obtain ⟨y, hy⟩ : ∃ y, y = fmul (fsub bY ay) (fsub cx ax) := ⟨_, rfl⟩
  rw [← hx] at x2 x3 x5 x6 ⊢
  rw [← hy] at y2 y3 y5 y6 ⊢
  have hi := M_inf
  have m203 := mag_Ms.2.2
  have mx := mag_le x3
  have my := mag_le y3
  have e1 := fv_natAbs x
  have e2 := fv_natAbs y
  obtain ⟨s1, s2, s3, s4⟩ := fsub_val (x := x) (y := y) (M := M203) (by omega) (by omega) hi.2.2 (by omega)
  have r1 := @fv_rung x
  have r2 := @fv_rung y
  have rr1 : rung (rung x) = rung x := rung_small (rung_lt x)
  have rr2 : rung (rung y) = rung y := rung_small (rung_lt y)
  obtain ⟨p1, p2, p3, p4⟩ := fadd_val (x := rung x) (y := rung y) (M := M203) (by omega) (by omega) hi.2.2 (by rw [r1, r2]; omega)
  have hpd : ((2 ^ j50 : Nat) : Int) ∣ fv (fadd (rung x) (rung y)) := by
    rw [p4, r1, r2, ← e1, ← e2]
    exact Rn_dvd (Int.dvd_add (Int.dvd_natAbs.2 x6) (Int.dvd_natAbs.2 y6))
  obtain ⟨b, hb⟩ := hpd
  have hb' : fv (fadd (rung x) (rung y)) = b * ((2 ^ j50 : Nat) : Int) := by rw [hb, Int.mul_comm]
  have hRb : Rn b = b := by
    have h1 := Rn_pow b j50
    rw [← hb', Rn_fix (Rep_fv _), hb'] at h1
    have hp : ((2 ^ j50 : Nat) : Int) ≠ 0 := by have := Nat.two_pow_pos j50; omega
    exact (Int.eq_of_mul_eq_mul_right hp h1).symm
  have hj50 : ((2 ^ j50 : Nat) : Int) = 1125899906842624 := by decide
  have hbb : (1 * b).natAbs ≤ mag M203 := by
    have h1 := mag_le p3
    rw [← fv_natAbs, hb', hj50] at h1
    omega
  obtain ⟨q1, q2, q3, q4⟩ := fmul_val (x := BND) (y := fadd (rung x) (rung y)) (k := j1024) (j := j50) (a := 1) (b := b) fl_BND.2 (by omega) hi.2.2 fv_BND hb' rfl hbb
  rw [Int.one_mul, hRb] at q4
  have hfd : rung (fsub x y) < inf := by omega
  have hfm : rung (fmul BND (fadd (rung x) (rung y))) < inf := by omega
  refine ⟨by rw [s1]; rfl, s2, hfd, by rw [p1]; rfl, by rw [q1]; rfl, hfm, (Rn_fix (Rep_fv x)).symm, s4, ?_, ⟨t, x4, x5⟩, s, y4, y5⟩
  have ho := order_fin (x := rung (fsub x y)) (y := fmul BND (fadd (rung x) (rung y))) (by rw [rung_small (rung_lt _)]; exact hfd) hfm
  rw [show Ieee.double.order (rung (fsub x y)) (fmul BND (fadd (rung x) (rung y))) = some (compare (fv (rung (fsub x y))) (fv (fmul BND (fadd (rung x) (rung y))))) from ho, cmp_gt, q4, fv_rung, ← fv_natAbs]
  refine decide_eq_decide.2 ?_
  have h2 : Rn ((((fv x).natAbs + (fv y).natAbs : Nat)) : Int) = b * 1125899906842624 := by
    rw [← hj50, ← hb', p4, r1, r2, ← e1, ← e2, Int.natCast_add]
  rw [h2]
  omega
end TV
