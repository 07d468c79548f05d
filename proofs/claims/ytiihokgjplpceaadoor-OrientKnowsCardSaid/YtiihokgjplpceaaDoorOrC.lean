/- Package orient, walked: coordinate, may. -/
import Derived.Test.YtiihokgjplpceaaDoorMyA
import Derived.Test.YtiihokgjplpceaaDoorMemA
import Derived.Test.YtiihokgjplpceaaDoorLdB
import Derived.Test.YtiihokgjplpceaaDoorEwX
namespace Go.Proofs.YtiihokgjplpceaaDoor
open Go.RowKit TV
set_option linter.unusedVariables false

/-- May points be? -/
def mayL (ps : List (Nat × Nat)) : Bool := ps.all fun p => mayB p.1 && mayB p.2
theorem mayL_take {ps : List (Nat × Nat)} {k : Nat} (h : k < ps.length) : mayL (ps.take (k + 1)) = (mayL (ps.take k) && (mayB ps[k].1 && mayB ps[k].2)) := by
  unfold mayL; rw [List.take_succ_eq_append_getElem h, List.all_append]; simp only [List.all_cons, List.all_nil, Bool.and_true]
theorem mayL_no {ps : List (Nat × Nat)} {k : Nat} (h : k < ps.length) (hk : (mayB ps[k].1 && mayB ps[k].2) = false) : mayL ps = false := by
  unfold mayL
  rw [List.all_eq_false]
  exact ⟨ps[k], List.getElem_mem h, by rw [hk]; decide⟩
/-- Points that lie one behind the other. -/
def Pts (w : World) (b o : Nat) (ps : List (Nat × Nat)) : Prop := ∀ (k : Nat) (h : k < ps.length), w.cell? ⟨b, o + k * 2, none⟩ = some (.float .f64 ps[k].1) ∧ w.cell? ⟨b, o + k * 2 + 1, none⟩ = some (.float .f64 ps[k].2)
theorem Pts.keep {w w1 : World} {b o : Nat} {ps : List (Nat × Nat)} (h : Pts w b o ps) (hb : Below w.heap.size w w1) : Pts w1 b o ps := fun k hk => ⟨keep_cell hb (h k hk).1, keep_cell hb (h k hk).2⟩
theorem up100 {x : Nat} (h : rung x ≤ C100) : rung (ldx x 100) < inf ∧ mag (rung (ldx x 100)) = 2 ^ 100 * mag (rung x) ∧ sgn (ldx x 100) = sgn x ∧ ldx x 100 < 18446744073709551616 := by
  have hi := C200_inf
  have hm : mag (rung x) ≤ 2 ^ 100 * uW := by rw [← mag_C100]; exact mag_le h
  have h5 : Rn ((mag (rung x) : Int) * ((2 ^ 100 : Nat) : Int)) = (mag (rung x) : Int) * ((2 ^ 100 : Nat) : Int) := by
    rw [Rn_pow, Rn_fix ⟨rung x, Int.natAbs_natCast _⟩]
  have h6 := congrArg Int.natAbs h5
  rw [Rn_natAbs, ← Int.natCast_mul, Int.natAbs_natCast] at h6
  have h7 : ldN (rung x) 100 = rndAt 0 (mag (rung x) * 2 ^ 100) := rfl
  rw [← h7] at h6
  have h8 : ldN (rung x) 100 ≤ C200 := by
    apply le_of_mag
    rw [h6, mag_C200, Nat.mul_comm]
    exact Nat.mul_le_mul_left _ hm
  have h9 : ldR (rung x) 100 = ldN (rung x) 100 := by unfold ldR; exact Nat.min_eq_left (by omega)
  rw [rung_ldx, h9]
  exact ⟨by omega, by rw [h6, Nat.mul_comm], sgn_ldx _ _, ldx_lt _ _⟩
theorem down100 {x y : Nat} (hx : x < 18446744073709551616) (hm : mag (rung y) = 2 ^ 100 * mag (rung x)) (hs : sgn y = sgn x) (hf : rung x < inf) : ldx y (-100) = x := by
  have h1 : ldN (rung y) (-100) = rndAt 100 (mag (rung y) * 1) := rfl
  rw [Nat.mul_one, hm, Nat.mul_comm, rnd_exact] at h1
  unfold ldx ldR
  rw [h1, Nat.min_eq_left (by omega), hs, flo_eta hx]
theorem feq_comm {x y : Nat} (hx : rung x < inf) (hy : rung y < inf) : feq x y = feq y x := by
  rw [feq_fin hx hy, feq_fin hy hx]; exact decide_eq_decide.2 ⟨Eq.symm, Eq.symm⟩
theorem ocoord_calls (x : Nat) (hx : x < 18446744073709551616) (w : World) :
    Calls Tryd.prog 34 #[.float .f64 x] w fun e w' => e = .returned (.bool (mayB x)) ∧ w = w' := by
  have hle := le_pos (C := C100) (rung_lt x) (by decide)
  by_cases h : rung x ≤ C100
  · have hi := C100_inf
    have hf : rung x < inf := by omega
    obtain ⟨u1, u2, u3, u4⟩ := up100 h
    have hd := down100 hx u2 u3 hf
    have ht := trF_feq u1
    have htf := trF_val u1
    have hc : feq (trF (ldx x 100)) (ldx x 100) = mayB x := by
      rw [feq_comm htf.2.1 u1, ht, u2]
      unfold mayB
      rw [decide_eq_true h, Bool.true_and]
      rw [uW_uL]
      exact decide_eq_decide.2 (Nat.mul_dvd_mul_iff_left (by decide))
    have hxx : (FloatKind.f64.format.order x x == some .eq) = true := (feq_self x).trans (decide_eq_true (Nat.le_of_lt hf))
    rw [decide_eq_true h] at hle
    obtain ⟨hle1, hle2⟩ := le_nots hle
    simp only [Bool.not_true] at hle2
    have HL1 := Lib.hid (fun w => Ldexp_calls x hx hf 100 ⟨by decide, by decide⟩ w)
    have HL2 := Lib.hid (fun w => Ldexp_calls (ldx x 100) u4 u1 (-100) ⟨by decide, by decide⟩ w)
    have HTr := Lib.hid (fun w => trunc_calls (ldx x 100) u1 w)
    rw [hd] at HL2
    obtain ⟨y, hy⟩ : ∃ y, y = ldx x 100 := ⟨_, rfl⟩
    rw [← hy] at HL1 HL2 HTr hc
    obtain ⟨t, ht'⟩ : ∃ t, t = trF y := ⟨_, rfl⟩
    rw [← ht'] at HTr hc
    change (FloatKind.f64.format.order t y == some .eq) = mayB x at hc
    obtain ⟨m, hm⟩ : ∃ m, m = mayB x := ⟨_, rfl⟩
    rw [← hm] at hc ⊢
    unfold C100 at *
    clear hy ht' hm u1 u2 u3 u4 hd ht htf h hf hi hle
    cases m
    all_goals
      go_enter Tryd.func34, Tryd.ntmps34
      go_wp2_with (first
        | (go_at_call 25; refine (abs_calls _ hx _).mono ?_; rintro e w' ⟨rfl, rfl⟩)
        | (go_at_call 50; ((with_reducible refine (HTr.out _).mono ?_); rintro e w' ⟨rfl, rfl⟩))
        | (go_at_call 49; ((with_reducible refine (HL1.out _).mono ?_); rintro e w' ⟨rfl, rfl⟩))
        | (go_at_call 49; ((with_reducible refine (HL2.out _).mono ?_); rintro e w' ⟨rfl, rfl⟩)))
      go_ret
      exact ⟨rfl, rfl⟩
  · rw [decide_eq_false h] at hle
    obtain ⟨hle1, hle2⟩ := le_nots hle
    obtain ⟨q1, q2⟩ := Bool.or_eq_false_iff.1 hle1
    have h5 : mayB x = false := by unfold mayB; rw [decide_eq_false h, Bool.false_and]
    rw [h5]
    unfold C100 at *
    have q3 : (!(FloatKind.f64.format.order (rung x) 5057542381537067008 == some Ordering.lt)) = true := by rw [q1]; rfl
    have q4 : (!(FloatKind.f64.format.order (rung x) 5057542381537067008 == some Ordering.eq)) = true := by rw [q2]; rfl
    clear h5 h hle hle1 hle2
    go_enter Tryd.func34, Tryd.ntmps34
    go_wp2_with (go_at_call 25; refine (abs_calls _ hx _).mono ?_; rintro e w' ⟨rfl, rfl⟩)
    go_ret
    exact ⟨rfl, rfl⟩
set_option maxRecDepth 100000 in
set_option maxHeartbeats 1000000 in
theorem omay_calls (ps : List (Nat × Nat)) (hwf : ∀ p ∈ ps, p.1 < 18446744073709551616 ∧ p.2 < 18446744073709551616) (hn : ps.length ≤ 1000) (b c : Nat) (w : World) (hp : Pts w b 0 ps) (hbw : b < w.heap.size) :
    Calls Tryd.prog 24 #[.slice (some ⟨b, 0, none⟩) ps.length c] w fun e w' => e = .returned (.bool (mayL ps)) ∧ Below w.heap.size w w' := by
  have HP := Lib.hid hp
  have HWF := Lib.hid hwf
  clear hp hwf
  go_enter Tryd.func24, Tryd.ntmps24
  go_wp2_with fail
  go_loopw [4, 7] (fun _ iv wr => ∃ k : Nat, k ≤ ps.length ∧ iv = .int .i64 k ∧ Hid (mayL (ps.take k) = true) ∧ Below w.heap.size w wr) (fun _ iv _ => ps.length - (intOf iv).toNat)
  case atStart => exact ⟨0, Nat.zero_le _, rfl, by show _ = _; rfl, Below.refl _ _⟩
  case round =>
    obtain ⟨k, hk, rfl, HM, hB⟩ := hrel
    obtain ⟨wz, rfl⟩ : ∃ z : World, z = wr := ⟨_, rfl⟩
    by_cases hlt : k < ps.length
    · obtain ⟨c0, c1⟩ := HP.out.keep hB k hlt
      have hw := HWF.out _ (List.getElem_mem hlt)
      have hst := mayL_take hlt
      have hno := @mayL_no ps k hlt
      have hkz : (0 : Int) ≤ k := by omega
      rw [HM.out, Bool.true_and] at hst
      obtain ⟨x, hx⟩ : ∃ x, x = ps[k].1 := ⟨_, rfl⟩
      obtain ⟨y, hy⟩ : ∃ y, y = ps[k].2 := ⟨_, rfl⟩
      rw [← hx] at c0 hw hst hno
      rw [← hy] at c1 hw hst hno
      obtain ⟨hwx, hwy⟩ := hw
      rw [Nat.zero_add] at c0 c1
      have HX := Lib.hid (fun w => ocoord_calls x hwx w)
      have HY := Lib.hid (fun w => ocoord_calls y hwy w)
      have HBz := Lib.hid hB
      have bz := hB.size
      obtain ⟨mx, hmx⟩ : ∃ m, m = mayB x := ⟨_, rfl⟩
      obtain ⟨my, hmy⟩ : ∃ m, m = mayB y := ⟨_, rfl⟩
      rw [← hmx] at HX hst hno
      rw [← hmy] at HY hst hno
      have HST := Lib.hid hst
      have HNO := Lib.hid hno
      clear hx hy hmx hmy hst hno hwx hwy hB
      cases mx with
      | false =>
        go_wp2_with fail
        refine (HX.out _).mono ?_
        rintro _ w1 ⟨rfl, rfl⟩
        go_wp2_with fail
        go_ret
        exact ⟨ret_bool (HNO.out rfl).symm, HBz.out.alloc bz _⟩
      | true =>
        go_wp2_with fail
        refine (HX.out _).mono ?_
        rintro _ w1 ⟨rfl, rfl⟩
        go_wp2_with fail
        refine (HY.out _).mono ?_
        rintro _ w1 ⟨rfl, rfl⟩
        cases my with
        | false =>
          go_wp2_with fail
          go_ret
          exact ⟨ret_bool (HNO.out rfl).symm, HBz.out.alloc bz _⟩
        | true =>
          go_wp2_with fail
          go_roundw
          case rel => exact ⟨k + 1, by omega, by go_num, by show _ = _; rw [HST.out]; rfl, HBz.out.alloc bz _⟩
          case measure => simp [intOf]; omega
    · obtain rfl : k = ps.length := by omega
      have he : mayL ps = true := by have := HM.out; rwa [List.take_length] at this
      have HE := Lib.hid he
      clear he
      go_wp2_with fail
      go_ret
      exact ⟨ret_bool HE.out.symm, hB⟩
end Go.Proofs.YtiihokgjplpceaaDoor
