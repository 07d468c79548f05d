/- Package expand, walked: all. -/
import Derived.Test.YtjogclokjonkeaaDoorEwD
import Derived.Test.YtjogclokjonkeaaDoorEpD
import Derived.Test.YtjogclokjonkeaaDoorRfG
namespace Go.Proofs.YtjogclokjonkeaaDoor
open Go.RowKit TV
set_option linter.unusedVariables false

theorem lowF_ex {r : Nat} (h0 : 0 < r) (h : r < inf) : ∃ s, LowF r s := by
  have hm : mag r ≠ 0 := by have := mag_lt h0; rw [mag_zero] at this; omega
  obtain ⟨m, k, h1, h2, h3⟩ := lowb_parts (mag r) hm
  obtain ⟨s, hs⟩ : Rep ((2 ^ k : Nat) : Int) := Rep_mk (m := 1) (k := k) (by simp) (by decide)
  rw [Int.natAbs_natCast] at hs
  refine ⟨s, mag_lt_iff.1 ?_, by rw [← hs, h3]⟩
  have h4 := lowb_le hm
  have h5 := mag_lt h
  rw [h3] at h4
  rw [← hs]; omega
theorem elow_at (x s : Nat) (hx : x < 18446744073709551616) (h0 : 0 < rung x) (h : rung x < inf) (hs : LowF (rung x) s) (w : World) :
    Calls Tryd.prog 66 #[.float .f64 x] w fun e w' => e = .returned (.float .f64 s) ∧ w = w' := by
  refine (elow_calls x hx h0 h w).mono ?_
  rintro e w' ⟨y, rfl, hy, rfl⟩
  rw [mag_inj (hy.2.trans hs.2.symm)]; exact ⟨rfl, rfl⟩
/-- The rung of the float ahead of place k. -/
def prevR (l : List Nat) : Nat → Option Nat
  | 0 => none
  | k + 1 => some (rung (l.getD k 0))
set_option maxRecDepth 100000 in
set_option maxHeartbeats 1000000 in
theorem all_calls {w : World} {v : Value} {l : List Nat} (hs : Sl w v (fvs l)) (hl : ∀ x ∈ l, x < 18446744073709551616) (a b : Nat) (ha0 : 0 < a) (ha : a ≤ inf) (hb : b ≤ inf) (hfin : ∀ x ∈ l, rung x ≤ b → rung x < inf) (hn : l.length ≤ 1000000000) :
    Calls Tryd.prog 42 #[v, .float .f64 a, .float .f64 b] w fun x w' => x = .returned (.bool (allB a b l)) ∧ Below w.heap.size w w' := by
  obtain ⟨p, cap, rfl⟩ := hs.form
  have hll : (fvs l).length = l.length := by simp [fvs]
  rw [hll] at hs ⊢
  by_cases hlen : l.length ≤ 64
  · have h1 : decide ((64 : Int) < l.length) = false := decide_eq_false (by omega)
    go_enter Tryd.func42, Tryd.ntmps42
    go_wp2_with fail
    go_loopw [7, 8, 14] (fun _ _ iv wr => ∃ (k m : Nat), k ≤ l.length ∧ iv = .int .i64 k ∧ wr = w.drewN m ∧ Hid (allFrom a b none l = allFrom a b (prevR l k) (l.drop k)) ∧ Hid (∀ j, k = j + 1 → rung (l.getD j 0) ≤ inf)) (fun _ _ iv _ => l.length - (intOf iv).toNat)
    case atStart => exact ⟨0, 0, Nat.zero_le _, rfl, rfl, by show _ = _; rfl, fun j h => by omega⟩
    case round =>
      obtain ⟨k, m, hk, rfl, rfl, HA, HP⟩ := hrel
      have hbw : Below w.heap.size w (w.drewN m) := below_drewN (Below.refl _ _) m
      by_cases hlt : k < l.length
      · obtain ⟨bb, oo, rfl, hcell⟩ := sl_atf hs hlt
        have hx := hl l[k] (List.getElem_mem hlt)
        have hf := hfin l[k] (List.getElem_mem hlt)
        have hA := HA.out
        rw [List.drop_eq_getElem_cons hlt] at hA
        have hP := HP.out
        have hg : l.getD k 0 = l[k] := by rw [List.getD_eq_getElem?_getD, List.getElem?_eq_getElem hlt]; rfl
        obtain ⟨x, hxx⟩ : ∃ x, x = l[k] := ⟨_, rfl⟩
        rw [← hxx] at hcell hx hf hA hg
        simp only [allFrom] at hA
        have HW1 := Lib.hid (fun w => within_calls x a b hx ha hb w)
        by_cases c1 : inB a b x = true
        · rw [c1] at HW1
          have c2 := c1
          unfold inB at c2
          rw [c2, Bool.true_and] at hA
          obtain ⟨c3, c4⟩ := of_decide_eq_true c2
          have hx0 : 0 < rung x := by omega
          have hxi := hf c4
          obtain ⟨s, hS⟩ := lowF_ex hx0 hxi
          have HLo := Lib.hid (fun w => elow_at x s hx hx0 hxi hS w)
          have hR := Lib.hid (show rung x ≤ inf by omega)
          cases k with
          | zero =>
            simp only [prevR, Bool.true_and] at hA
            have HA2 := Lib.hid hA
            have HG := Lib.hid hg
            have HR1 : Hid (allFrom a b none l = allFrom a b (prevR l 1) (l.drop 1)) := by
              show _ = _
              rw [HA2.out]; simp only [prevR]; rw [HG.out]
            have HR2 : Hid (∀ j, 1 = j + 1 → rung (l.getD j 0) ≤ inf) := by
              intro j h
              obtain rfl : j = 0 := by omega
              rw [HG.out]; exact hR.out
            rw [Nat.add_zero] at hcell
            have hj1 : (0 : Int) < l.length := by omega
            clear hA hxx c1 c2 c3 c4 hP hx0 hxi hf hg HA HP
            rw [show ((0 : Nat) : Int) = (0 : Int) from rfl]
            go_wp2_with (go_at_call 54; ((with_reducible refine (HW1.out _).mono ?_); rintro e w1 ⟨rfl, rfl⟩))
            go_roundw
            case rel => exact ⟨1, m, by omega, rfl, rfl, HR1, HR2⟩
            case measure => simp [intOf]; omega
          | succ k =>
            have hk2 : k < l.length := by omega
            obtain ⟨b2, o2, h2, hcell2⟩ := sl_atf hs hk2
            simp only [Option.some.injEq, Addr.mk.injEq, and_true] at h2
            obtain ⟨rfl, rfl⟩ := h2
            have hgy : l.getD k 0 = l[k] := by rw [List.getD_eq_getElem?_getD, List.getElem?_eq_getElem hk2]; rfl
            have hyl := hl l[k] (List.getElem_mem hk2)
            have hyi := hP k rfl
            simp only [prevR] at hA
            obtain ⟨y, hyy⟩ : ∃ y, y = l[k] := ⟨_, rfl⟩
            rw [← hyy] at hcell2 hgy hyl
            rw [hgy] at hyi hA
            obtain ⟨ry, hry⟩ : ∃ ry, ry = rung y := ⟨_, rfl⟩
            have HAy := Lib.hid (fun w => abs_at y ry hyl hry w)
            rw [← hry] at hyi hA
            have ho := ord_r (r := ry) (c := s) hyi (Nat.le_of_lt hS.1)
            have hmg : decide (mag ry < lowb (mag (rung x))) = decide (ry < s) := by rw [← hS.2]; exact decide_eq_decide.2 mag_lt_iff
            rw [hmg] at hA
            have HG := Lib.hid hg
            have hj2 : (0 : Int) < (k : Int) + 1 := by omega
            have hj3 : (k : Int) + 1 - 1 = k := by omega
            have hj4 : (k : Int) < l.length := by omega
            have hj5 : (0 : Int) ≤ k := by omega
            by_cases c5 : ry < s
            · rw [Nat.compare_eq_lt.2 c5] at ho
              rw [decide_eq_true c5, Bool.true_and] at hA
              have HA2 := Lib.hid hA
              have HR1 : Hid (allFrom a b none l = allFrom a b (prevR l (k + 1 + 1)) (l.drop (k + 1 + 1))) := by
                show _ = _
                rw [HA2.out]; simp only [prevR]; rw [HG.out]
              have HR2 : Hid (∀ j, k + 1 + 1 = j + 1 → rung (l.getD j 0) ≤ inf) := by
                intro j h
                obtain rfl : j = k + 1 := by omega
                rw [HG.out]; exact hR.out
              clear hA hxx c1 c2 c3 c4 hP hx0 hxi hf hg HA HP hyy hgy hry hmg c5 hyi hyl hS
              go_wp2_with (first
                | (go_at_call 54; ((with_reducible refine (HW1.out _).mono ?_); rintro e w1 ⟨rfl, rfl⟩))
                | (go_at_call 31; ((with_reducible refine (HAy.out _).mono ?_); rintro e w1 ⟨rfl, rfl⟩))
                | (go_at_call 66; ((with_reducible refine (HLo.out _).mono ?_); rintro e w1 ⟨rfl, rfl⟩)))
              go_roundw
              case rel => exact ⟨k + 1 + 1, m, by omega, by go_num, rfl, HR1, HR2⟩
              case measure => simp [intOf]; omega
            · have ho' : FloatKind.f64.format.order ry s = some .eq ∨ FloatKind.f64.format.order ry s = some .gt := by
                rcases Nat.lt_or_eq_of_le (Nat.le_of_not_lt c5) with h | h
                · exact Or.inr (by rw [ho, Nat.compare_eq_gt.2 h])
                · exact Or.inl (by rw [ho, Nat.compare_eq_eq.2 h.symm])
              rw [decide_eq_false c5, Bool.false_and] at hA
              have e : allB a b l = false := by unfold allB; rw [hA]; simp
              clear ho hA hxx c1 c2 c3 c4 hP hx0 hxi hf hg HA HP hyy hgy hry hmg c5 hyi hyl hS
              rcases ho' with ho | ho
              · go_wp2_with (first
                  | (go_at_call 54; ((with_reducible refine (HW1.out _).mono ?_); rintro e w1 ⟨rfl, rfl⟩))
                  | (go_at_call 31; ((with_reducible refine (HAy.out _).mono ?_); rintro e w1 ⟨rfl, rfl⟩))
                  | (go_at_call 66; ((with_reducible refine (HLo.out _).mono ?_); rintro e w1 ⟨rfl, rfl⟩)))
                go_ret
                exact ⟨by rw [e]; rfl, hbw⟩
              · go_wp2_with (first
                  | (go_at_call 54; ((with_reducible refine (HW1.out _).mono ?_); rintro e w1 ⟨rfl, rfl⟩))
                  | (go_at_call 31; ((with_reducible refine (HAy.out _).mono ?_); rintro e w1 ⟨rfl, rfl⟩))
                  | (go_at_call 66; ((with_reducible refine (HLo.out _).mono ?_); rintro e w1 ⟨rfl, rfl⟩)))
                go_ret
                exact ⟨by rw [e]; rfl, hbw⟩
        · have c1' : inB a b x = false := by simpa using c1
          rw [c1'] at HW1
          have e : allB a b l = false := by
            unfold allB; rw [hA]
            unfold inB at c1'
            rw [c1']; simp
          clear hA hxx c1 c1' hg hP
          go_wp2_with (go_at_call 54; ((with_reducible refine (HW1.out _).mono ?_); rintro e w1 ⟨rfl, rfl⟩))
          go_ret
          exact ⟨by rw [e]; rfl, hbw⟩
      · obtain rfl : k = l.length := by omega
        have e : allB a b l = true := by
          unfold allB; rw [decide_eq_true hlen, HA.out, List.drop_length]; rfl
        go_wp2_with fail
        go_ret
        exact ⟨by rw [e]; rfl, hbw⟩
  · have h1 : decide ((64 : Int) < l.length) = true := decide_eq_true (by omega)
    have e : allB a b l = false := by unfold allB; rw [decide_eq_false hlen]; rfl
    go_enter Tryd.func42, Tryd.ntmps42
    go_wp2_with fail
    go_ret
    exact ⟨by rw [e]; rfl, Below.refl _ _⟩
end Go.Proofs.YtjogclokjonkeaaDoor
