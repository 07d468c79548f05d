/- ExpandLeads walked whole. -/
import Derived.Test.YtjogclokjonkeaaDoorEwQ
import Derived.Test.YtjogclokjonkeaaDoorArF
namespace Go.Proofs.YtjogclokjonkeaaDoor
open Go.RowKit TV
set_option linter.unusedVariables false

theorem un_pow (k : Nat) : un ((2 ^ k : Nat) : Int) = (2 : Rat) ^ ((k : Int) - 1074) := by
  unfold un uu
  rw [Rat.intCast_natCast, ← two_zpow_nat, ← two_zpow_add]; rfl
theorem low_fr {x : Nat} (hx : Fl x) (h0 : fv x ≠ 0) : ∃ k : Nat, lowb (fv x).natAbs = 2 ^ k ∧ LowOf (fr x) ((k : Int) - 1074) ∧ ((k : Int) - 1074).natAbs ≤ 2000 := by
  obtain ⟨m, k, h1, h2, h3⟩ := lowb_parts (fv x).natAbs (by omega)
  have hk : k < 2098 := by
    apply Classical.byContradiction
    intro c
    have h4 := mag_lt hx.2
    rw [← fv_natAbs, mag_inf] at h4
    obtain ⟨E, hE⟩ : ∃ E : Nat, E = 2045 := ⟨_, rfl⟩
    rw [← hE] at h4
    obtain ⟨d, rfl⟩ : ∃ d, k = E + (53 + d) := ⟨k - 2098, by omega⟩
    rw [Nat.pow_add] at h2
    have h5 : (9007199254740992 : Nat) ≤ 2 ^ (53 + d) := by
      rw [Nat.pow_add]
      have := Nat.two_pow_pos d
      have e : (2 : Nat) ^ 53 = 9007199254740992 := by decide
      rw [e]; exact Nat.le_mul_of_pos_right _ this
    have h6 : 2 ^ E * 9007199254740992 ≤ m * (2 ^ E * 2 ^ (53 + d)) := Nat.le_trans (Nat.mul_le_mul_left _ h5) (Nat.le_mul_of_pos_left _ (by omega))
    rw [← h2, Nat.mul_comm] at h6
    omega
  refine ⟨k, h3, ?_, by omega⟩
  have e : ∃ s : Int, s % 2 = 1 ∧ fv x = s * ((2 ^ k : Nat) : Int) := by
    rcases Int.lt_or_gt_of_ne h0 with h | h
    · refine ⟨-(m : Int), by omega, ?_⟩
      have : fv x = -((fv x).natAbs : Int) := by omega
      rw [this, h2, Int.natCast_mul, Int.neg_mul]
    · refine ⟨(m : Int), by omega, ?_⟩
      have : fv x = ((fv x).natAbs : Int) := by omega
      rw [this, h2, Int.natCast_mul]
  obtain ⟨s, s1, s2⟩ := e
  refine ⟨s, s1, ?_⟩
  rw [fr_un, s2]
  unfold un
  rw [Rat.intCast_mul, Rat.mul_assoc]
  congr 1
  exact un_pow k
theorem rs_below {t : Int} {k : Nat} (h : t < ((2 ^ k : Nat) : Int)) : rs (un t - ((1 : Int) : Rat) * (2 : Rat) ^ ((k : Int) - 1074)) = -1 := by
  rw [← un_pow, show ((1 : Int) : Rat) = 1 from rfl, Rat.one_mul, ← un_sub]
  exact rs_neg (un_neg (by omega))
theorem un_negI (t : Int) : un (-t) = - un t := by unfold un; rw [Rat.intCast_neg]; grind
set_option maxRecDepth 100000 in
set_option maxHeartbeats 2000000 in
theorem leads_walk {w : World} (ht : TabOk w) {v : Value} {l : List Nat} (hsa : Sa w v (fvs l)) (hl : ∀ x ∈ l, x < 18446744073709551616) (hn : l.length ≤ 17592186044416) :
    Calls Tryd.prog 7 #[v] w fun x w' => x = .returned (.bool true) ∧ Below w.heap.size w w' := by
  have HT := Lib.hid ht
  by_cases h0 : l = []
  · obtain ⟨p, cap, rfl⟩ := hsa.formL
    subst h0
    rw [show ([] : List Nat).length = 0 from rfl]
    have HN := Lib.hid (fun (W : World) => number2_nil p cap W)
    clear hsa hl hn ht
    go_enter Tryd.func7, Tryd.ntmps7
    go_wp2_with fail
    refine (eworks_calls HT.out).mono ?_
    rintro _ w1 ⟨rfl, b1⟩
    go_wp2_with fail
    refine (check_nil _ _ _).mono ?_
    rintro _ w2 ⟨rfl, rfl⟩
    go_wp2_with fail
    refine (HN.out _).mono ?_
    rintro _ w2 ⟨vn, rfl, Mn, b2⟩
    have b12 := below2 b1 b2
    obtain ⟨pn, nn, cn, en, gn, rfl⟩ := Mn.form
    obtain ⟨W3, h3, b3, -, J3⟩ := box_res w2 (.cells #[.slice pn nn cn, .int .i64 en, .bool gn, .bool false] 53)
    go_upto_region 5 with (fail)
    rw [← h3]
    clear h3
    have N3 := Mn.keep b3
    obtain ⟨q0, q1, q2, q3, -, -, -, -⟩ := res4_facts J3
    have b13 := below2 b12 b3
    clear Mn J3 b1 b2 b3 b12
    go_wp2_with fail
    refine (signBn 0 N3 (by rfl)).mono ?_
    rintro _ w4 ⟨rfl, b4⟩
    go_wp2_with fail
    refine (sign_nil _ _ _).mono ?_
    rintro _ w5 ⟨rfl, rfl⟩
    go_wp2_with fail
    go_ret
    exact ⟨rfl, below2 b13 b4⟩
  · have hs := hsa.toSl h0
    clear hsa
    by_cases h100 : l.length ≤ 100
    · by_cases c : allB 1 9065746049896808448 l = true
      · have hE := allB_ex (by decide) l hl c
        obtain ⟨t, q, e1, e2, e3, e4, e5, e6⟩ := okI_leads hE.ok (by simpa using h0)
        have hlen : 0 < l.length := List.length_pos_iff.2 h0
        obtain ⟨n, hN⟩ : ∃ n, l.length = n + 1 := ⟨l.length - 1, by omega⟩
        have hlt : n < l.length := by omega
        have hq : fv l[n] = q := by
          have e1' : (l.map fv).getLast (by simpa using h0) = q := by simp only [e1]; simp
          rw [List.getLast_eq_getElem] at e1'
          simp only [List.length_map, List.getElem_map, hN, Nat.add_sub_cancel] at e1'
          exact e1'
        have hFl := hE.fl l[n] (List.getElem_mem hlt)
        obtain ⟨p, cap, rfl⟩ := hs.form
        have hll : (fvs l).length = l.length := by simp [fvs]
        rw [hll] at hs ⊢
        obtain ⟨bb, oo, hp, hcell⟩ := sl_atf hs hlt
        obtain ⟨x, hx⟩ : ∃ x, x = l[n] := ⟨_, rfl⟩
        rw [← hx] at hq hFl hcell
        subst hq
        have hsum := numL_un l
        obtain ⟨k, k1, k2, k3⟩ := low_fr hFl e2
        rw [k1] at e3
        obtain ⟨s, hs'⟩ : ∃ s, s = (l.map fv).sum := ⟨_, rfl⟩
        rw [← hs'] at e3 e4 e5 e6 hsum
        have hsg : TV.sg (fv x) = TV.sg s := by
          unfold TV.sg
          by_cases z : fv x < 0
          · rw [if_pos z, if_pos (e4.2 z)]
          · rw [if_neg z, if_neg (fun h => z (e4.1 h)), if_neg e2, if_neg e6]
        have g1 : rs (fr x) = TV.sg s := by rw [fr_un, rs_un, hsg]
        have g2 : rs (numL l) = TV.sg s := by rw [hsum, rs_un]
        have g3 : sgnL l = TV.sg s := by rw [sgnL_all c, hs']
        have hd : numL l - fr x = un (s - fv x) := by rw [hsum, fr_un, un_sub]
        by_cases z : s - fv x < 0
        · refine leads_neg ht hs hE.fl hE.len c hN bb oo hp hcell hFl _ g1 g2 g3 _ k2 k3 (by rw [hd]; exact rs_neg (un_neg z)) ?_
          rw [hd, ← un_negI]
          exact rs_below (by omega)
        · refine leads_pos ht hs hE.fl hE.len c hN bb oo hp hcell hFl _ g1 g2 g3 _ k2 k3 (TV.sg (s - fv x)) (by rw [hd, rs_un]) ?_ ?_
          · unfold TV.sg
            rw [if_neg z]
            split <;> rfl
          · rw [hd]
            exact rs_below (by omega)
      · have c' : allB 1 9065746049896808448 l = false := by simpa using c
        have hd : decide ((100 : Int) < (l.length : Int)) = false := decide_eq_false (by omega)
        have HC := Lib.hid (fun (W : World) (h : Sl W v (fvs l)) => (by
          have h4 := check_calls h hl (by omega)
          rw [c'] at h4
          exact h4 : Calls Tryd.prog 18 #[v] W fun x w' => x = .returned (.bool false) ∧ Below W.heap.size W w'))
        have HS := Lib.hid hs
        obtain ⟨p, cap, rfl⟩ := hs.form
        have hll : (fvs l).length = l.length := by simp [fvs]
        rw [hll] at HC HS ⊢
        clear hs hl hn c c' h0 hll ht h100
        go_enter Tryd.func7, Tryd.ntmps7
        go_wp2_with fail
        refine (eworks_calls HT.out).mono ?_
        rintro _ w1 ⟨rfl, b1⟩
        go_wp2_with fail
        refine (HC.out w1 (HS.out.keep b1)).mono ?_
        rintro _ w2 ⟨rfl, b2⟩
        go_wp2_with fail
        refine (eworks_calls (HT.out.keep (below2 b1 b2))).mono ?_
        rintro _ w3 ⟨rfl, b3⟩
        go_wp2_with fail
        go_ret
        exact ⟨rfl, below2 (below2 b1 b2) b3⟩
    · have hd : decide ((100 : Int) < (l.length : Int)) = true := decide_eq_true (by omega)
      obtain ⟨p, cap, rfl⟩ := hs.form
      have hll : (fvs l).length = l.length := by simp [fvs]
      rw [hll]
      clear hs hl h0 hll ht h100
      go_enter Tryd.func7, Tryd.ntmps7
      go_wp2_with fail
      refine (eworks_calls HT.out).mono ?_
      rintro _ w1 ⟨rfl, b1⟩
      go_wp2_with fail
      refine (eworks_calls (HT.out.keep b1)).mono ?_
      rintro _ w2 ⟨rfl, b2⟩
      go_wp2_with fail
      go_ret
      exact ⟨rfl, below2 b1 b2⟩
end Go.Proofs.YtjogclokjonkeaaDoor
