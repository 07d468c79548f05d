/- Package whole, walked: Float. -/
import Derived.Test.YtiihokgjplpceaaDoorNwD
import Derived.Test.YtiihokgjplpceaaDoorPuB
import Derived.Test.YtiihokgjplpceaaDoorLdB
namespace TV
theorem W.float_facts {ds : List Int} (hd : W.Dok ds) {e h : Int} (hh : HighOf (W.nv 1 ds e) h) {a c : Nat} (hl : h - 63 = 32 * e + c - a) :
    ∃ m : Nat, 2 ^ (c + 63) ≤ m ∧ m < 2 ^ (c + 64) ∧ W.topU ds a c ds.length = ((m / 2 ^ c : Nat) : Int) ∧ W.topM ds a c ds.length = decide (m % 2 ^ c ≠ 0) ∧ W.nv 1 ds e = (m : Rat) * (2 : Rat) ^ (h - 63 - c) := by
  obtain ⟨t1, t2⟩ := W.top_top hd hh hl
  have h0 := W.dval_nonneg hd
  obtain ⟨n, hn⟩ : ∃ n : Nat, W.dval ds = n := ⟨(W.dval ds).toNat, by omega⟩
  have e1 : W.dval ds * 2 ^ a = ((n * 2 ^ a : Nat) : Int) := by rw [hn]; push_cast; rfl
  rw [e1] at t1 t2
  refine ⟨n * 2 ^ a, by exact_mod_cast t1, by exact_mod_cast t2, ?_, ?_, ?_⟩
  · unfold W.topU
    rw [List.take_length, e1]; push_cast; rfl
  · unfold W.topM
    rw [List.take_length, e1]
    have e2 : ((n * 2 ^ a : Nat) : Int) % 2 ^ c = ((n * 2 ^ a % 2 ^ c : Nat) : Int) := by push_cast; rfl
    rw [e2]
    rw [decide_eq_decide]; omega
  · unfold W.nv
    rw [hn, hl, Rat.natCast_mul, ← two_zpow_nat, Rat.mul_assoc, ← two_zpow_add, Int.one_mul]
    congr 2; omega
end TV
namespace Go.Proofs.YtiihokgjplpceaaDoor
open Go.RowKit TV
set_option linter.unusedVariables false
set_option exponentiation.threshold 3000

theorem rpos {x y : Rat} (h0 : 0 < x) (h : x ≤ -y) (hy : 0 ≤ y) : 0 < y := by grind

theorem high_range {ds : List Int} {e h : Int} (hm : Mg ds e) (hh : HighOf (W.nv 1 ds e) h) : 32 * e ≤ h ∧ h < 32 * (e + ds.length) := by
  have hp : 0 < W.dval ds := W.dval_pos hm.dok (i := 0) (by have := hm.dok 0; have := hm.first; omega)
  have hl := W.dval_lt hm.dok
  rw [W.pB] at hl
  have hv : W.nv 1 ds e = ((W.dval ds : Int) : Rat) * (2 : Rat) ^ (32 * e) := by unfold W.nv; rw [Int.one_mul]
  constructor
  · have h1 : (2 : Rat) ^ (32 * e) ≤ W.nv 1 ds e := by
      rw [hv]
      have h2 : ((1 : Int) : Rat) ≤ ((W.dval ds : Int) : Rat) := by exact_mod_cast hp
      have := Rat.mul_le_mul_of_nonneg_right h2 (Rat.le_of_lt (two_zpow_pos (32 * e)))
      grind
    have hp2 := two_zpow_pos (32 * e)
    have hp3 := two_zpow_pos h
    rcases hh with ⟨-, h3⟩ | ⟨h3, -⟩
    · have := zpow_lt_imp (rle_lt h1 h3); omega
    · exfalso; grind
  · have hb : (W.dval ds).natAbs < 2 ^ (32 * ds.length) := by
      have : ((W.dval ds).natAbs : Int) < ((2 ^ (32 * ds.length) : Nat) : Int) := by
        rw [Int.natAbs_of_nonneg (Int.le_of_lt hp)]; push_cast; exact hl
      exact_mod_cast this
    have := high_unique hh hv hb
    omega

/-- The float that is nearest to a number. -/
def FloOf (q : Rat) (f : Nat) : Prop := f < 18446744073709551616 ∧ (rung f = 0 ∨ sgn f = decide (q < 0)) ∧ RndQ (if q < 0 then -q else q) (rung f)
def RetF (q : Rat) (w : World) (x : Ending) (w' : World) : Prop := ∃ f, x = .returned (.float .f64 f) ∧ FloOf q f ∧ Below w.heap.size w w'

theorem flo_false (x : Nat) : flo false x = x := rfl
theorem FloOf.mk {q : Rat} {r : Nat} (ng : Bool) (hq : 0 < q) (hr : r < 9223372036854775808) (hR : RndQ q r) : FloOf (if ng then -q else q) (flo ng r) := by
  refine ⟨flo_lt hr, Or.inr ?_, ?_⟩
  · rw [sgn_flo hr]
    cases ng
    · simp only [Bool.false_eq_true, if_false]; exact (decide_eq_false (by grind)).symm
    · simp only [if_true]; exact (decide_eq_true (by grind)).symm
  · rw [rung_flo hr]
    cases ng
    · simp only [Bool.false_eq_true, if_false]; rw [if_neg (by grind)]; exact hR
    · simp only [if_true]; rw [if_pos (by grind), Rat.neg_neg]; exact hR
theorem nv_sg (ng : Bool) (ds : List Int) (e : Int) : W.nv (sg ng) ds e = if ng then -W.nv 1 ds e else W.nv 1 ds e := by
  cases ng
  · rfl
  · simp only [if_true]; unfold sg W.nv; rw [if_pos rfl]; push_cast; grind
theorem foi_nat (n : Nat) : floatOfInt .f64 (n : Int) = Ieee.double.write (.number false n 0) := by
  show Ieee.double.write (.number (decide ((n : Int) < 0)) (n : Int).natAbs 0) = _
  rw [decide_eq_false (by omega), Int.natAbs_natCast]
theorem foi_any {n : Nat} (hn : n ≤ 9007199254740992) : ∃ r, floatOfInt .f64 (n : Int) = r ∧ mag r = n * 2 ^ 1074 ∧ r < inf := by
  rw [foi_nat]
  by_cases h : n = 0
  · subst h; exact ⟨0, by decide, by rw [mag_zero, Nat.zero_mul], inf_pos⟩
  · obtain ⟨r, h1, h2, -, h3⟩ := flt_nat (by omega) hn
    exact ⟨r, h1, h2, h3⟩

set_option maxHeartbeats 8000000 in
set_option maxRecDepth 100000 in
theorem float_walk (e : Int) (b o cap : Nat) (ds : List Int) (ng : Bool) (w : World) (hs : Sl w (.slice (some ⟨b, o, none⟩) ds.length cap) (ds.map (Value.int .u32))) (hm : Mg ds e) (ea : -2048 ≤ e ∧ e + ds.length ≤ 2049) :
    Calls Tryd.prog 87 #[.agg #[.slice (some ⟨b, o, none⟩) ds.length cap, .int .i64 e, .bool ng, .bool false]] w (RetF (W.nv (sg ng) ds e) w) := by
  obtain ⟨wn, hwn, hW, hsz, k0⟩ : ∃ wn, wn = w.alloc (.cells #[.slice (some ⟨b, o, none⟩) ds.length cap, .int .i64 e, .bool ng, .bool false] 89) ∧ Below w.heap.size w wn ∧ wn.heap.size = w.heap.size + 1 ∧ wn.heap[w.heap.size]? = some (.cells #[.slice (some ⟨b, o, none⟩) ds.length cap, .int .i64 e, .bool ng, .bool false] 89 (0, 0)) := ⟨_, rfl, kp_alloc _ _, by simp, heap_alloc_new _ _⟩
  have HT := Lib.hid (top_walk e b o cap ds wn (hs.keep hW) hm ea)
  have HW := Lib.hid hW
  have HK := Lib.hid k0
  obtain ⟨q0, q1, q2, q3, f0, f1, f2, f3⟩ := res4_facts k0
  have n1 : ((ds.length : Int) == 0) = false := beq_false_of_ne (by have := hm.len; omega)
  clear hs hW k0
  go_enter Tryd.func87, Tryd.ntmps87
  go_upto_region 1 with (fail)
  rw [← hwn]
  clear hwn
  go_wp2_with fail
  refine HT.out.mono ?_
  rintro x w1 ⟨⟨h, a, c, hac, hl, hh, rfl⟩, hb1⟩
  obtain ⟨m, m1, m2, hU, hM, hv⟩ := W.float_facts hm.dok hh hl
  obtain ⟨low, hlow⟩ : ∃ low, low = h - 63 := ⟨_, rfl⟩
  have hlb : -200000 ≤ low ∧ low ≤ 200000 := by have := high_range hm hh; omega
  rw [hU, hM, ← hlow]
  rw [← hlow] at hv
  obtain ⟨t, ht⟩ : ∃ t : Nat, (t : Int) = max 11 (-1074 - low) := ⟨(max 11 (-1074 - low)).toNat, by omega⟩
  obtain ⟨g, hg⟩ : ∃ g : Nat, (g : Int) = low + t + 1074 := ⟨(low + t + 1074).toNat, by omega⟩
  have hn := W.float_near m1 m2 ht hg
  rw [← hv] at hn
  obtain ⟨n, hnn⟩ : ∃ n, n = cutE m (c + t) := ⟨_, rfl⟩
  have nb : n ≤ 9007199254740992 := by rw [hnn]; exact W.cut_bound m2 (by omega)
  have nl : g = 0 ∨ 4503599627370496 ≤ n := by
    by_cases c11 : t = 11
    · right; rw [hnn, c11]; exact W.cut_low m1
    · left; omega
  rw [← hnn] at hn
  obtain ⟨U, hUU⟩ : ∃ U, U = m / 2 ^ c := ⟨_, rfl⟩
  obtain ⟨mo, hmo⟩ : ∃ mo, mo = decide (m % 2 ^ c ≠ 0) := ⟨_, rfl⟩
  rw [← hUU, ← hmo]
  have hU1 : U < 18446744073709551616 := by
    rw [hUU]; apply Nat.div_lt_of_lt_mul; rw [show 18446744073709551616 = 2 ^ 64 by decide, ← Nat.pow_add]; exact m2
  have hpos : 0 < W.nv 1 ds e := by
    rcases hh with ⟨h1, -⟩ | ⟨h1, -⟩
    · exact rlt_le (two_zpow_pos h) h1
    · exact rpos (two_zpow_pos h) h1 (by rw [hv]; exact Rat.mul_nonneg (by exact_mod_cast Nat.zero_le m) (Rat.le_of_lt (two_zpow_pos _)))
  have hcut := W.float_cut hUU (t := t) (by omega)
  rw [← hnn] at hcut
  have b1 : IntKind.i64.wrap (-1074 - low) = -1074 - low := IntWalk.i64_in _ (by omega)
  have HT' := Lib.hid ht
  have ht2 : max 11 (-1074 - low) = (t : Int) := ht.symm
  have HW := Lib.hid (HW.out.trans (hb1.mono HW.out.size))
  have hk1 := keep_block hb1 HK.out
  obtain ⟨q0, q1, q2, q3, f0, f1, f2, f3⟩ := res4_facts hk1
  obtain ⟨s, hs1⟩ : ∃ s : Nat, t = s + 1 := ⟨t - 1, by omega⟩
  have b2 : IntKind.i64.wrap ((t : Int) - 1) = (s : Int) := by rw [IntWalk.i64_in _ (by omega)]; omega
  by_cases d1 : 64 < t
  · have d2 : decide (64 < (t : Int)) = true := decide_eq_true (by omega)
    have n0 : n = 0 := by rw [hnn]; exact W.float_far m2 d1
    have g0 : g = 0 := by omega
    have HF0 : FloOf (W.nv (sg ng) ds e) 0 := by
      have z0 : min (g * 4503599627370496 + n) inf = 0 := by rw [g0, n0]; exact Nat.min_eq_left (Nat.zero_le _)
      rw [z0] at hn
      have := FloOf.mk ng hpos (by omega) hn
      rw [← nv_sg] at this
      obtain ⟨-, -, r2⟩ := this
      have z : rung (flo ng 0) = 0 := rung_flo (by omega)
      rw [z] at r2
      exact ⟨by omega, Or.inl rfl, r2⟩
    have HF0 := Lib.hid HF0
    clear hlow hl hh m1 m2 hU hM hv hUU hmo ht hac hcut hnn HK hk1 hb1 hg hlb hs1 b2
    go_wp2_with fail
    go_ret
    exact ⟨0, rfl, HF0.out, HW.out⟩
  · have d2 : decide (64 < (t : Int)) = false := decide_eq_false (by omega)
    obtain ⟨E, hE⟩ : ∃ E, E = low + (t : Int) := ⟨_, rfl⟩
    obtain ⟨r, hr1, hr2, hr3⟩ := foi_any nb
    have HR1 := Lib.hid hr1
    have HR2 := Lib.hid hr2
    clear hr1 hr2
    have hi := inf_eq
    have hrr : rung r = r := rung_small (by omega)
    obtain ⟨x, hx⟩ : ∃ x, x = min (g * 4503599627370496 + n) inf := ⟨_, rfl⟩
    have hn : RndQ (W.nv 1 ds e) x := by rw [hx]; exact hn
    have hxl : x < 9223372036854775808 := by rw [hx]; exact min_inf_lt _
    have HX := Lib.hid hx
    clear hx
    have hgE : (g : Int) = E + 1074 := by omega
    have hld : ldx r E = x := by
      unfold ldx
      rw [hrr, sgn_small (by omega), ldR_int HR2.out nb hgE nl, ← HX.out, flo_false]
    have HL := Lib.hid (fun W => Ldexp_calls r (by omega) (by omega) E (by omega) W)
    rw [hld] at HL
    have HF0 : FloOf (W.nv (sg false) ds e) x := by rw [nv_sg]; exact FloOf.mk false hpos hxl hn
    have HF1 : FloOf (W.nv (sg true) ds e) (fneg x) := by
      rw [nv_sg]
      have := FloOf.mk true hpos hxl hn
      have e1 : flo true x = fneg x := by rw [← flo_eta (fneg_lt (x := x) (by omega)), sgn_fneg (by omega), rung_fneg (by omega), sgn_small hxl, rung_small hxl, Bool.not_false]
      rw [e1] at this; exact this
    have HF0 := Lib.hid HF0
    have HF1 := Lib.hid HF1
    have b3 : IntKind.i64.wrap (low + (t : Int)) = E := by rw [hE]; exact IntWalk.i64_in _ (by omega)
    have e64 : (2 : Nat) ^ 64 = 18446744073709551616 := by decide
    have hmo2 : (m % 2 ^ c ≠ 0) ↔ mo = true := by rw [hmo, decide_eq_true_iff]
    simp only [hmo2] at hcut
    rw [show t - 1 = s by omega] at hcut
    by_cases d3 : t = 64
    · have d4 : decide ((t : Int) < 64) = false := decide_eq_false (by omega)
      obtain ⟨G, hG⟩ : ∃ G : Nat, G = U := ⟨_, rfl⟩
      obtain ⟨H, hH⟩ : ∃ H : Nat, H = 2 ^ s := ⟨_, rfl⟩
      rw [d3, e64, Nat.mod_eq_of_lt hU1, Nat.div_eq_of_lt hU1, ← hG, ← hH] at hcut
      have hHv : H = 9223372036854775808 := by rw [hH, show s = 63 by omega]
      have c1 : IntKind.u64.wrap (2 ^ min s 64) = 9223372036854775808 := by rw [show s = 63 by omega]; rfl
      have c1b : IntKind.u64.wrap (2 ^ s) = 9223372036854775808 := by rw [show s = 63 by omega]; rfl
      obtain ⟨Hi, hHi⟩ : ∃ i : Int, (9223372036854775808 : Int) = i := ⟨_, rfl⟩
      obtain ⟨Gi, hGi⟩ : ∃ i : Int, (G : Int) = i := ⟨_, rfl⟩
      obtain ⟨ni, hni⟩ : ∃ i : Int, (n : Int) = i := ⟨_, rfl⟩
      rw [hHi] at c1 c1b
      have hUG : (U : Int) = Gi := by rw [← hGi, hG]
      rw [hUG]
      have c6 : bits .and .u64 0 1 = 0 := by decide
      have HR1 : Hid (floatOfInt .f64 ni = r) := by rw [← hni]; exact HR1
      clear hlow hl hh m1 m2 hU hM hv hUU hmo ht hac hnn HK hk1 hb1 hg hlb hH hE HR2 hr3 hgE hrr HX hn hxl hld hmo2 nl d3
      by_cases u1 : H < G
      · have v1 : decide (Hi < Gi) = true := decide_eq_true (by omega)
        rw [if_pos (Or.inl u1)] at hcut
        have v9 : (1 : Int) = ni := by omega
        clear hHi hGi hni u1 hcut hG hs1
        subst v9
        have hr1 := HR1.out
        go_wp2_with fail
        go_quiet (fail)
        go_wp2_with fail
        refine (HL.out _).mono ?_
        rintro y w2 ⟨rfl, rfl⟩
        cases ng
        · go_wp2_with fail
          go_ret
          exact ⟨_, rfl, HF0.out, below_drewN HW.out _⟩
        · go_wp2_with fail
          go_ret
          exact ⟨_, rfl, HF1.out, below_drewN HW.out _⟩
      · have v1 : decide (Hi < Gi) = false := decide_eq_false (by omega)
        by_cases u2 : G = H
        · have v2 : (Gi == Hi) = true := by have h : Gi = Hi := (by omega); rw [h]; exact beq_self_eq_true Hi
          by_cases u3 : mo = true
          · rw [if_pos (Or.inr ⟨u2, Or.inl u3⟩)] at hcut
            have v9 : (1 : Int) = ni := by omega
            clear hHi hGi hni u1 hcut hG hs1 u2
            subst v9
            have hr1 := HR1.out
            go_wp2_with fail
            go_quiet (fail)
            go_wp2_with fail
            refine (HL.out _).mono ?_
            rintro y w2 ⟨rfl, rfl⟩
            cases ng
            · go_wp2_with fail
              go_ret
              exact ⟨_, rfl, HF0.out, below_drewN HW.out _⟩
            · go_wp2_with fail
              go_ret
              exact ⟨_, rfl, HF1.out, below_drewN HW.out _⟩
          · rw [if_neg (by rintro (h | ⟨-, h | h⟩); exact u1 h; exact u3 h; exact absurd h (by decide))] at hcut
            have v9 : (0 : Int) = ni := by omega
            have v3 : mo = false := by cases mo; rfl; exact absurd rfl u3
            clear hHi hGi hni u1 hcut hG hs1 u2 u3
            subst v9
            have hr1 := HR1.out
            go_wp2_with fail
            go_quiet (fail)
            go_wp2_with fail
            refine (HL.out _).mono ?_
            rintro y w2 ⟨rfl, rfl⟩
            cases ng
            · go_wp2_with fail
              go_ret
              exact ⟨_, rfl, HF0.out, below_drewN HW.out _⟩
            · go_wp2_with fail
              go_ret
              exact ⟨_, rfl, HF1.out, below_drewN HW.out _⟩
        · have v2 : (Gi == Hi) = false := beq_false_of_ne (by omega)
          rw [if_neg (by rintro (h | ⟨h, -⟩); exact u1 h; exact u2 h)] at hcut
          have v9 : (0 : Int) = ni := by omega
          clear hHi hGi hni u1 hcut hG hs1 u2
          subst v9
          have hr1 := HR1.out
          go_wp2_with fail
          go_quiet (fail)
          go_wp2_with fail
          refine (HL.out _).mono ?_
          rintro y w2 ⟨rfl, rfl⟩
          cases ng
          · go_wp2_with fail
            go_ret
            exact ⟨_, rfl, HF0.out, below_drewN HW.out _⟩
          · go_wp2_with fail
            go_ret
            exact ⟨_, rfl, HF1.out, below_drewN HW.out _⟩
    · have d4 : decide ((t : Int) < 64) = true := decide_eq_true (by omega)
      obtain ⟨H, hH⟩ : ∃ H : Nat, H = 2 ^ s := ⟨_, rfl⟩
      obtain ⟨P, hP⟩ : ∃ P : Nat, P = 2 ^ t := ⟨_, rfl⟩
      have hHP : P = H * 2 := by rw [hP, hH, hs1, Nat.pow_succ]
      have hPl : P ≤ 9223372036854775808 := by rw [hP, show 9223372036854775808 = 2 ^ 63 by decide]; exact Nat.pow_le_pow_right (by omega) (by omega)
      have hH0 : 0 < H := by rw [hH]; exact Nat.two_pow_pos _
      have c1 : IntKind.u64.wrap (2 ^ min s 64) = (H : Int) := by
        rw [Nat.min_eq_left (by omega), hH]
        show (2 : Int) ^ s % 18446744073709551616 = _
        rw [show (2 : Int) ^ s = ((2 ^ s : Nat) : Int) by push_cast; rfl, ← hH]; omega
      have c2 : IntKind.u64.wrap (2 ^ min t 64) = (P : Int) := by
        rw [Nat.min_eq_left (by omega), hP]
        show (2 : Int) ^ t % 18446744073709551616 = _
        rw [show (2 : Int) ^ t = ((2 ^ t : Nat) : Int) by push_cast; rfl, ← hP]; omega
      have c2b : IntKind.u64.wrap (2 ^ t) = (P : Int) := by rw [Nat.min_eq_left (show t ≤ 64 by omega)] at c2; exact c2
      have c1b : IntKind.u64.wrap (2 ^ s) = (H : Int) := by rw [Nat.min_eq_left (show s ≤ 64 by omega)] at c1; exact c1
      have c3 : IntKind.u64.wrap ((P : Int) - 1) = (P : Int) - 1 := by
        show ((P : Int) - 1) % 18446744073709551616 = _; omega
      obtain ⟨G, hG⟩ : ∃ G : Nat, G = U % P := ⟨_, rfl⟩
      obtain ⟨K, hK⟩ : ∃ K : Nat, K = U / P := ⟨_, rfl⟩
      have c4 : bits .and .u64 (U : Int) ((P : Int) - 1) = (G : Int) := by
        have := u64_and_nat U (P - 1) (by omega) (by omega)
        rw [show ((P - 1 : Nat) : Int) = (P : Int) - 1 by omega] at this
        rw [this, hG, hP, Nat.and_two_pow_sub_one_eq_mod]
      have c5 : (U : Int) / 2 ^ t = (K : Int) := by
        rw [hK, show (2 : Int) ^ t = ((2 ^ t : Nat) : Int) by push_cast; rfl, ← hP]; rfl
      have hK1 : K ≤ U := by rw [hK]; exact Nat.div_le_self _ _
      have hK2 : K < 9223372036854775808 := by
        rw [hK]; apply Nat.div_lt_of_lt_mul
        have := Nat.mul_le_mul_right 9223372036854775808 (show 2 ≤ P by omega)
        omega
      have c6 : bits .and .u64 (K : Int) 1 = ((K % 2 : Nat) : Int) := by
        have := u64_and_nat K 1 (by omega) (by omega)
        rw [show ((1 : Nat) : Int) = 1 from rfl] at this
        rw [this, show (1 : Nat) = 2 ^ 1 - 1 by decide, Nat.and_two_pow_sub_one_eq_mod]
      rw [← hP, ← hG, ← hK, ← hH] at hcut
      obtain ⟨Hi, hHi⟩ : ∃ i : Int, (H : Int) = i := ⟨_, rfl⟩
      obtain ⟨Gi, hGi⟩ : ∃ i : Int, (G : Int) = i := ⟨_, rfl⟩
      obtain ⟨Ki, hKi⟩ : ∃ i : Int, (K : Int) = i := ⟨_, rfl⟩
      obtain ⟨pi, hpi⟩ : ∃ i : Int, ((K % 2 : Nat) : Int) = i := ⟨_, rfl⟩
      obtain ⟨ni, hni⟩ : ∃ i : Int, (n : Int) = i := ⟨_, rfl⟩
      rw [hHi] at c1 c1b
      rw [hGi] at c4
      rw [hKi] at c5
      rw [hKi, hpi] at c6
      have HR1 : Hid (floatOfInt .f64 ni = r) := by rw [← hni]; exact HR1
      clear hlow hl hh m1 m2 hU hM hv hUU hmo ht hac hnn HK hk1 hb1 hg hlb hP hH hHP hPl hH0 hE HR2 hr3 hgE hrr HX hn hxl hld hmo2 nl hK1
      by_cases u1 : H < G
      · have v1 : decide (Hi < Gi) = true := decide_eq_true (by omega)
        rw [if_pos (Or.inl u1)] at hcut
        have v9 : IntKind.u64.wrap (Ki + 1) = ni := by show (Ki + 1) % 18446744073709551616 = _; omega
        clear hHi hGi hKi hpi hni u1 hcut hG hK hs1
        have hr1 := HR1.out
        go_wp2_with fail
        go_quiet (fail)
        go_wp2_with fail
        go_quiet (fail)
        go_wp2_with fail
        refine (HL.out _).mono ?_
        rintro y w2 ⟨rfl, rfl⟩
        cases ng
        · go_wp2_with fail
          go_ret
          exact ⟨_, rfl, HF0.out, below_drewN HW.out _⟩
        · go_wp2_with fail
          go_ret
          exact ⟨_, rfl, HF1.out, below_drewN HW.out _⟩
      · have v1 : decide (Hi < Gi) = false := decide_eq_false (by omega)
        by_cases u2 : G = H
        · have v2 : (Gi == Hi) = true := by have h : Gi = Hi := (by omega); rw [h]; exact beq_self_eq_true Hi
          by_cases u3 : mo = true
          · rw [if_pos (Or.inr ⟨u2, Or.inl u3⟩)] at hcut
            have v9 : IntKind.u64.wrap (Ki + 1) = ni := by show (Ki + 1) % 18446744073709551616 = _; omega
            clear hHi hGi hKi hpi hni u1 hcut hG hK hs1 u2
            have hr1 := HR1.out
            go_wp2_with fail
            go_quiet (fail)
            go_wp2_with fail
            go_quiet (fail)
            go_wp2_with fail
            refine (HL.out _).mono ?_
            rintro y w2 ⟨rfl, rfl⟩
            cases ng
            · go_wp2_with fail
              go_ret
              exact ⟨_, rfl, HF0.out, below_drewN HW.out _⟩
            · go_wp2_with fail
              go_ret
              exact ⟨_, rfl, HF1.out, below_drewN HW.out _⟩
          · by_cases u4 : K % 2 = 1
            · have v4 : (pi == 1) = true := by rw [← hpi, u4]; rfl
              rw [if_pos (Or.inr ⟨u2, Or.inr u4⟩)] at hcut
              have v9 : IntKind.u64.wrap (Ki + 1) = ni := by show (Ki + 1) % 18446744073709551616 = _; omega
              have v3 : mo = false := by cases mo; rfl; exact absurd rfl u3
              clear hHi hGi hKi hpi hni u1 hcut hG hK hs1 u2 u3 u4
              have hr1 := HR1.out
              go_wp2_with fail
              go_quiet (fail)
              go_wp2_with fail
              go_quiet (fail)
              go_wp2_with fail
              refine (HL.out _).mono ?_
              rintro y w2 ⟨rfl, rfl⟩
              cases ng
              · go_wp2_with fail
                go_ret
                exact ⟨_, rfl, HF0.out, below_drewN HW.out _⟩
              · go_wp2_with fail
                go_ret
                exact ⟨_, rfl, HF1.out, below_drewN HW.out _⟩
            · have v4 : (pi == 1) = false := beq_false_of_ne (by omega)
              rw [if_neg (by rintro (h | ⟨-, h | h⟩); exact u1 h; exact u3 h; exact u4 h)] at hcut
              have v9 : Ki = ni := by omega
              have v3 : mo = false := by cases mo; rfl; exact absurd rfl u3
              clear hHi hGi hKi hpi hni u1 hcut hG hK hs1 u2 u3 u4
              subst v9
              have hr1 := HR1.out
              go_wp2_with fail
              go_quiet (fail)
              go_wp2_with fail
              go_quiet (fail)
              go_wp2_with fail
              refine (HL.out _).mono ?_
              rintro y w2 ⟨rfl, rfl⟩
              cases ng
              · go_wp2_with fail
                go_ret
                exact ⟨_, rfl, HF0.out, below_drewN HW.out _⟩
              · go_wp2_with fail
                go_ret
                exact ⟨_, rfl, HF1.out, below_drewN HW.out _⟩
        · have v2 : (Gi == Hi) = false := beq_false_of_ne (by omega)
          rw [if_neg (by rintro (h | ⟨h, -⟩); exact u1 h; exact u2 h)] at hcut
          have v9 : Ki = ni := by omega
          clear hHi hGi hKi hpi hni u1 hcut hG hK hs1 u2
          subst v9
          have hr1 := HR1.out
          go_wp2_with fail
          go_quiet (fail)
          go_wp2_with fail
          go_quiet (fail)
          go_wp2_with fail
          refine (HL.out _).mono ?_
          rintro y w2 ⟨rfl, rfl⟩
          cases ng
          · go_wp2_with fail
            go_ret
            exact ⟨_, rfl, HF0.out, below_drewN HW.out _⟩
          · go_wp2_with fail
            go_ret
            exact ⟨_, rfl, HF1.out, below_drewN HW.out _⟩

/-- The float of no words. -/
theorem float_none (e : Int) (ng none : Bool) (w : World) :
    Calls Tryd.prog 87 #[.agg #[.slice .none 0 0, .int .i64 e, .bool ng, .bool none]] w fun x w' => x = .returned (.float .f64 0) ∧ Below w.heap.size w w' := by
  go_enter Tryd.func87, Tryd.ntmps87
  go_wp2_with fail
  go_ret
  exact ⟨rfl, (Below.refl w.heap.size w).alloc (Nat.le_refl _) _⟩

theorem rnd0 : RndQ 0 0 := by
  have := ldR_near 0 0
  rw [ldR_zero] at this
  have e : (mag 0 : Rat) * uu * (2 : Rat) ^ (0 : Int) = 0 := by rw [mag_zero]; simp
  rw [e] at this; exact this
theorem FloOf.zero : FloOf 0 0 := ⟨by omega, Or.inl rfl, by rw [if_neg (by grind)]; exact rnd0⟩

/-- Float: of no number nought; of a number the float nearest to it. -/
theorem wFloat_calls {P : Nat → Prop} {w : World} {va : Value} {oa : Option Rat} (ha : WNum P w va oa) :
    Calls Tryd.prog 87 #[va] w (RetF (oa.getD 0) w) := by
  cases oa with
  | none =>
    cases ha
    exact (float_none 0 false true w).mono fun x w' h => ⟨0, h.1, FloOf.zero, h.2⟩
  | some q =>
    obtain ⟨sl, ds, e, ng, rfl, hs, -, hq, -, cc⟩ := ha
    rcases cc with ⟨rfl, rfl, rfl, rfl⟩ | ⟨hm, ea⟩
    · have z : q = 0 := by rw [hq]; simp [W.nv, W.dval]
      subst z
      exact (float_none 0 false false w).mono fun x w' h => ⟨0, h.1, FloOf.zero, h.2⟩
    · have hl := hm.len
      rcases hs with ⟨rfl, hx⟩ | ⟨b, o, cap, rfl, h2, h3, h4⟩
      · have : ds = [] := by simpa using hx
        subst this; simp at hl
      · have hs : Sl w (.slice (some ⟨b, o, Option.none⟩) (ds.map (Value.int .u32)).length cap) (ds.map (Value.int .u32)) := Or.inr ⟨b, o, cap, rfl, h2, h3, h4⟩
        have e1 : (ds.map (Value.int .u32)).length = ds.length := List.length_map ..
        rw [e1] at hs ⊢
        show Calls _ _ _ _ (RetF q w)
        rw [hq]
        exact float_walk e b o cap ds ng w hs hm ea
end Go.Proofs.YtiihokgjplpceaaDoor
