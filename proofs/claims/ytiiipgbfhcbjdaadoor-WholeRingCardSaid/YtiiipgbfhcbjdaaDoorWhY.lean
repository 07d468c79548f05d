/- Package whole, walked: top. -/
import Derived.Test.YtiiipgbfhcbjdaaDoorWhX
import Derived.WalkMore
namespace Go.Proofs.YtiiipgbfhcbjdaaDoor
open Go.RowKit TV
set_option linter.unusedVariables false

theorem _root_.TV.W.top_top {ds : List Int} (hd : W.Dok ds) {e h : Int} (hh : HighOf (W.nv 1 ds e) h) {a c : Nat} (hl : h - 63 = 32 * e + c - a) :
    2 ^ (c + 63) ≤ W.dval ds * 2 ^ a ∧ W.dval ds * 2 ^ a < 2 ^ (c + 64) := by
  have hn : (0 : Rat) ≤ W.nv 1 ds e := by
    unfold W.nv
    refine Rat.mul_nonneg ?_ (Rat.le_of_lt (two_zpow_pos _))
    exact_mod_cast (by have := W.dval_nonneg hd; omega : (0 : Int) ≤ 1 * W.dval ds)
  have hp := two_zpow_pos h
  rcases hh with ⟨h1, h2⟩ | ⟨h1, h2⟩
  · have hx := two_zpow_pos ((a : Int) - 32 * e)
    have g1 := Rat.mul_le_mul_of_nonneg_right h1 (Rat.le_of_lt hx)
    have g2 := Rat.mul_lt_mul_of_pos_right h2 hx
    have e1 : W.nv 1 ds e * (2 : Rat) ^ ((a : Int) - 32 * e) = ((W.dval ds * 2 ^ a : Int) : Rat) := by
      unfold W.nv
      rw [Rat.mul_assoc, ← two_zpow_add, show 32 * e + ((a : Int) - 32 * e) = (a : Int) by omega, two_zpow_nat, Int.one_mul]
      push_cast; rfl
    rw [e1, ← two_zpow_add] at g1 g2
    rw [show h + ((a : Int) - 32 * e) = ((c + 63 : Nat) : Int) by omega, two_zpow_nat] at g1
    rw [show h + 1 + ((a : Int) - 32 * e) = ((c + 64 : Nat) : Int) by omega, two_zpow_nat] at g2
    constructor
    · have : (((2 ^ (c + 63) : Int)) : Rat) ≤ ((W.dval ds * 2 ^ a : Int) : Rat) := by push_cast; push_cast at g1; exact g1
      exact_mod_cast this
    · have : ((W.dval ds * 2 ^ a : Int) : Rat) < (((2 ^ (c + 64) : Int)) : Rat) := by push_cast; push_cast at g2; exact g2
      exact_mod_cast this
  · exfalso; grind

/-- What top answers. -/
def TopPost (ds : List Int) (e : Int) (w : World) (x : Ending) (w' : World) : Prop :=
  (∃ (h : Int) (a c : Nat), (a = 0 ∨ c = 0) ∧ (h - 63 = 32 * e + c - a) ∧ HighOf (W.nv 1 ds e) h ∧ x = .returned (.tuple #[.int .u64 (W.topU ds a c ds.length), .bool (W.topM ds a c ds.length), .int .i64 (h - 63)])) ∧ Below w.heap.size w w'

set_option maxHeartbeats 8000000 in
set_option maxRecDepth 100000 in
theorem top_walk (e : Int) (b o cap : Nat) (ds : List Int) (w : World) (hs : Sl w (.slice (some ⟨b, o, none⟩) ds.length cap) (ds.map (Value.int .u32))) (hm : Mg ds e) (ea : -2048 ≤ e ∧ e + ds.length ≤ 2049) :
    Calls Tryd.prog 43 #[.agg #[.slice (some ⟨b, o, none⟩) ds.length cap, .int .i64 e]] w (TopPost ds e w) := by
  have hsl := hs
  obtain ⟨wn, hwn, hW, hsz, k0⟩ : ∃ wn, wn = w.alloc (.cells #[.slice (some ⟨b, o, none⟩) ds.length cap, .int .i64 e] 27) ∧ Below w.heap.size w wn ∧ wn.heap.size = w.heap.size + 1 ∧ wn.heap[w.heap.size]? = some (.cells #[.slice (some ⟨b, o, none⟩) ds.length cap, .int .i64 e] 27 (0, 0)) := ⟨_, rfl, kp_alloc _ _, by simp, heap_alloc_new _ _⟩
  have HH := Lib.hid (high_calls e _ ds wn (hs.keep hW) hm)
  have HS := Lib.hid (hs.keep hW)
  have HW := Lib.hid hW
  have HK := Lib.hid k0
  obtain ⟨r0, r1, f0, f1⟩ := res2_facts k0
  clear hs hW hsl
  go_enter Tryd.func43, Tryd.ntmps43
  go_upto_region 1 with (fail)
  rw [← hwn]
  clear hwn
  go_wp2_with fail
  refine HH.out.mono ?_
  rintro x w1 ⟨⟨h, rfl, hh, h1, h2⟩, hb1⟩
  have HHI := Lib.hid (hh 1 (Or.inl rfl))
  have hk1 := keep_block hb1 HK.out
  obtain ⟨r0, r1, f0, f1⟩ := res2_facts hk1
  have HS := Lib.hid (HS.out.keep hb1)
  have HW := Lib.hid (HW.out.trans (hb1.mono HW.out.size))
  obtain ⟨ea1, ea2⟩ := ea
  obtain ⟨low, hlow⟩ : ∃ low, low = h - 63 := ⟨_, rfl⟩
  have b1 : IntKind.i64.wrap (h - 63) = low := by rw [← hlow]; exact IntWalk.i64_in _ (by omega)
  obtain ⟨a, c, hac, hlo⟩ : ∃ a c : Nat, (a = 0 ∨ c = 0) ∧ low = 32 * e + c - a := by
    rcases Int.le_total (32 * e) low with hc | hc
    · exact ⟨0, (low - 32 * e).toNat, Or.inl rfl, by omega⟩
    · exact ⟨(32 * e - low).toNat, 0, Or.inr rfl, by omega⟩
  have hN := W.top_top hm.dok HHI.out (show h - 63 = 32 * e + c - a by omega)
  have HN := Lib.hid hN.2
  have HN1 := Lib.hid hN.1
  have HLOW := Lib.hid hlow
  have l1 : -200000 ≤ low := by omega
  have l2 : low ≤ 200000 := by omega
  have HLO := Lib.hid hlo
  have HAC := Lib.hid hac
  clear hh hb1 hk1 HH HK hlow hlo hac hN h1 h2
  go_wp2_with fail
  go_loop [2, 3, 14] (fun u m i => ∃ j : Nat, j ≤ ds.length ∧ i = .int .i64 j ∧ u = .int .u64 (W.topU ds a c j) ∧ m = .bool (W.topM ds a c j)) (fun _ _ i => ds.length - (intOf i).toNat)
  case atStart =>
    obtain ⟨z1, z2⟩ := W.top_zero ds a c
    exact ⟨0, Nat.zero_le _, rfl, by rw [z1], by rw [z2]⟩
  case round =>
    obtain ⟨j, hj, rfl, rfl, rfl⟩ := hrel
    by_cases hlt : j < ds.length
    · obtain ⟨b', o', hbo, hcap, y1⟩ := sl_at HS.out hlt
      simp only [Option.some.injEq, Addr.mk.injEq] at hbo
      obtain ⟨rfl, rfl, -⟩ := hbo
      have hdj := hm.dok j
      obtain ⟨d, hd⟩ : ∃ d, d = ds.getD j 0 := ⟨_, rfl⟩
      rw [← hd] at y1 hdj
      obtain ⟨hd0, hd1⟩ := hdj
      have HD := Lib.hid hd
      clear hd
      by_cases c1 : c ≤ 32 * j + a
      · obtain ⟨t, ht⟩ : ∃ t : Nat, t + c = 32 * j + a := ⟨32 * j + a - c, by omega⟩
        have hat : 32 * (e + (j : Int)) - low = (t : Int) := by have := HLO.out; omega
        obtain ⟨u1, u2, u3, u4, u5⟩ := W.top_up hm.dok hlt ht HN.out
        have HU1 := Lib.hid u1
        have HU2 := Lib.hid u2
        rw [← HD.out] at HU1 u4 u5
        have hor : bits .or .u64 (W.topU ds a c j) (IntKind.u64.wrap (d * 2 ^ min t 64)) = W.topU ds a c (j + 1) := by
          have hb := W.topU_bound (i := j + 1) hm.dok HN.out
          have hw : IntKind.u64.wrap (d * 2 ^ min t 64) = d * 2 ^ t := by
            by_cases ht64 : t ≤ 64
            · rw [Nat.min_eq_left ht64]
              show d * 2 ^ t % 18446744073709551616 = _
              exact Int.emod_eq_of_lt u4 u5
            · have hd2 : d = 0 := by
                apply Classical.byContradiction
                intro hne
                have h1 : 1 * 2 ^ t ≤ d * 2 ^ t := Int.mul_le_mul_of_nonneg_right (by omega) (Int.le_of_lt (W.p2pos t))
                have h2 := W.p2le (show 64 ≤ t by omega)
                have h3 : (2 : Int) ^ 64 = 18446744073709551616 := rfl
                omega
              rw [hd2, Int.zero_mul, Int.zero_mul]; rfl
          rw [hw, HU1.out]
          exact u64_or_sum d rfl hd0 u5 (W.topU_bound hm.dok HN.out).1 u3 (by rw [← HU1.out]; exact hb.2)
        have HOR := Lib.hid hor
        clear u1 u2 u3 u4 u5 hor c1
        go_wp2_with fail
        refine ⟨⟨j + 1, by omega, rfl, by rw [HOR.out], by rw [HU2.out]⟩, by simp [intOf]; omega⟩
      · have ha0 : a = 0 := by
          rcases HAC.out with h0 | h0
          · exact h0
          · omega
        subst ha0
        by_cases c2 : c < 32 * j + 32
        · obtain ⟨s, hs⟩ : ∃ s : Nat, c = 32 * j + s := ⟨c - 32 * j, by omega⟩
          have hs0 : 0 < s := by omega
          have hs1 : s < 32 := by omega
          obtain ⟨t, ht⟩ : ∃ t : Nat, t = 32 - s := ⟨_, rfl⟩
          have hat : 32 * (e + (j : Int)) - low = -(s : Int) := by have := HLO.out; omega
          have h32 : (32 : Int) + -(s : Int) = (t : Int) := by omega
          have ht1 : t < 32 := by omega
          obtain ⟨u1, u2, u3⟩ := W.top_mid hm.dok hlt hs hs0 hs1
          rw [← HD.out] at u2 u3
          have hds : 0 ≤ d / 2 ^ s ∧ d / 2 ^ s < 18446744073709551616 := by rw [← u2]; exact W.topU_bound hm.dok HN.out
          have hor : bits .or .u64 0 (d / 2 ^ s) = d / 2 ^ s := by
            have := u64_or_sum (x := d / 2 ^ s) (y := 0) (r := 0) (d / 2 ^ s) (by simp) hds.1 hds.2 (by omega) (by decide) (by omega)
            rw [this]; omega
          rw [u1]
          have HU2 := Lib.hid u2
          have HU3 := Lib.hid u3
          clear u1 u2 u3 hds c1 c2 hs
          rcases hM : W.topM ds 0 c j with _ | _
          · rw [hM, Bool.false_or] at HU3
            clear hM
            go_wp2_with fail
            exact ⟨⟨j + 1, by omega, rfl, by rw [HU2.out], by rw [HU3.out]⟩, by simp [intOf]; omega⟩
          · rw [hM, Bool.true_or] at HU3
            clear hM
            go_wp2_with fail
            exact ⟨⟨j + 1, by omega, rfl, by rw [HU2.out], by rw [HU3.out]⟩, by simp [intOf]; omega⟩
        · obtain ⟨v, hat⟩ : ∃ v : Int, 32 * (e + (j : Int)) - low = v := ⟨_, rfl⟩
          have hv1 : v ≤ -32 := by have := HLO.out; omega
          have hv2 : decide (0 ≤ v) = false := decide_eq_false (by omega)
          have hv3 : decide (-32 < v) = false := decide_eq_false (by omega)
          obtain ⟨u1, u2, u3⟩ := W.top_down hm.dok hlt (show 32 * (j + 1) ≤ c by omega)
          rw [← HD.out] at u3
          rw [u1]
          have HU2 := Lib.hid u2
          have HU3 := Lib.hid u3
          clear u1 u2 u3 c1 c2 hv1
          rcases hM : W.topM ds 0 c j with _ | _
          · rw [hM, Bool.false_or] at HU3
            clear hM
            go_wp2_with fail
            exact ⟨⟨j + 1, by omega, rfl, by rw [HU2.out], by rw [HU3.out]⟩, by simp [intOf]; omega⟩
          · rw [hM, Bool.true_or] at HU3
            clear hM
            go_wp2_with fail
            exact ⟨⟨j + 1, by omega, rfl, by rw [HU2.out], by rw [HU3.out]⟩, by simp [intOf]; omega⟩
    · obtain rfl : j = ds.length := by omega
      go_wp2_with fail
      go_ret3
      exact ⟨⟨h, a, c, HAC.out, by have := HLO.out; have := HLOW.out; omega, HHI.out, by rw [← HLOW.out]; rfl⟩, HW.out⟩
end Go.Proofs.YtiiipgbfhcbjdaaDoor
