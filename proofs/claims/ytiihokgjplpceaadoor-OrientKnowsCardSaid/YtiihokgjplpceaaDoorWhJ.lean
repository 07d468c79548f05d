/- Package whole, walked: Of. -/
import Derived.Test.YtiihokgjplpceaaDoorNwB
import Derived.Test.YtiihokgjplpceaaDoorGeA
import Derived.Laws.BitsAllLaws
namespace Go.Proofs.YtiihokgjplpceaaDoor
open Go.RowKit TV
set_option linter.unusedVariables false

/-- The number of a finite float. -/
def fr (x : Nat) : Rat := (fv x : Rat) * (2 : Rat) ^ (-1074 : Int)

/-- Its significand and its place. -/
theorem fr_parts {x : Nat} (hx : rung x < inf) {E m f : Nat} (hE : E = x / 4503599627370496 % 2048) (hm : m = x % 4503599627370496) (hf : f = if E = 0 then m else m + 4503599627370496) :
    (((sg (decide (fv x < 0)) * (f : Int) : Int) : Rat) * (2 : Rat) ^ ((if E = 0 then (1 : Int) else E) - 1075)) = fr x := by
  have hr : rung x = E * 4503599627370496 + m := by unfold rung; omega
  have hmag : mag (rung x) = f * 2 ^ (E - 1) := by
    rw [hr, hf]
    by_cases c : E = 0
    · rw [if_pos c]; unfold mag; rw [if_pos (by omega), show E - 1 = 0 by omega, Nat.pow_zero, Nat.mul_one]; omega
    · rw [if_neg c]
      have := mag_at (k := E - 1) (q := m + 4503599627370496) (Or.inr (by omega)) (by omega)
      rw [← this]
      refine congrArg mag ?_
      omega
  have hfv : fv x = sg (decide (fv x < 0)) * (mag (rung x) : Int) := by
    by_cases c : fv x < 0
    · rw [decide_eq_true c]
      unfold fv sm at c ⊢
      cases hs : sgn x
      · rw [hs] at c; simp at c; omega
      · simp [sg]
    · rw [decide_eq_false c]
      unfold fv sm at c ⊢
      cases hs : sgn x
      · simp [sg]
      · rw [hs] at c; simp [sg] at c ⊢; omega
  unfold fr
  rw [hfv, hmag]
  obtain ⟨t, ht⟩ : ∃ t : Nat, t = E - 1 := ⟨_, rfl⟩
  have e1 : (if E = 0 then (1 : Int) else E) - 1075 = (t : Int) + -1074 := by split <;> omega
  rw [e1, two_zpow_add, two_zpow_nat, ← ht]
  generalize (2 : Rat) ^ (-1074 : Int) = z
  push_cast
  grind

theorem wOf_calls (x : Nat) (h1 : x < 18446744073709551616) (w : World) (ht : TabOk w) :
    Calls Tryd.prog 89 #[.float .f64 x] w (RetW (fun b => w.heap.size ≤ b) (if rung x < inf then some (fr x) else none) w) := by
  obtain ⟨E, hE⟩ : ∃ E, E = x / 4503599627370496 % 2048 := ⟨_, rfl⟩
  obtain ⟨m, hm⟩ : ∃ m, m = x % 4503599627370496 := ⟨_, rfl⟩
  have b1 := fun (x : Nat) (w : World) => callBits x w
  have b2 : bits .and .u64 ((x : Int) / 4503599627370496) 2047 = (E : Int) := by
    have := u64_and_nat (x / 4503599627370496) 2047 (by omega) (by omega)
    rw [show ((x / 4503599627370496 : Nat) : Int) = (x : Int) / 4503599627370496 by omega] at this
    rw [show ((2047 : Nat) : Int) = 2047 from rfl] at this
    rw [this, show (2047 : Nat) = 2 ^ 11 - 1 by decide, Nat.and_two_pow_sub_one_eq_mod, hE]
  have b3 : bits .and .u64 (x : Int) 4503599627370495 = (m : Int) := by
    have := u64_and_nat x 4503599627370495 (by omega) (by omega)
    rw [show ((4503599627370495 : Nat) : Int) = 4503599627370495 from rfl] at this
    rw [this, show (4503599627370495 : Nat) = 2 ^ 52 - 1 by decide, Nat.and_two_pow_sub_one_eq_mod, hm]
  have b4 : wrap64 (E : Int) = (E : Int) := by unfold wrap64; omega
  have b5 : bits .or .u64 (m : Int) 4503599627370496 = (m : Int) + 4503599627370496 := by
    have := u64_or_nat m 4503599627370496 (by omega) (by omega)
    rw [show ((4503599627370496 : Nat) : Int) = 4503599627370496 from rfl] at this
    rw [this]
    have h2 : 4503599627370496 ||| m = 4503599627370496 + m := by
      have h := Nat.two_pow_add_eq_or_of_lt (i := 52) (b := m) (by omega) 1
      rw [Nat.mul_one, show (2 : Nat) ^ 52 = 4503599627370496 by decide] at h
      exact h.symm
    rw [Nat.or_comm, h2, Int.natCast_add]; omega
  have hr : rung x = E * 4503599627370496 + m := by unfold rung; omega
  have HR0 : Hid ((w.alloc (.cells #[.slice none 0 0, .int .i64 0, .bool false, .bool false] 89)).heap[w.heap.size]? = some (.cells #[.slice none 0 0, .int .i64 0, .bool false, .bool false] 89 (0, 0))) := heap_alloc_new _ _
  have HW0 : Hid (Below w.heap.size w (w.alloc (.cells #[.slice none 0 0, .int .i64 0, .bool false, .bool false] 89))) := (Below.refl w.heap.size w).alloc (Nat.le_refl _) _
  by_cases c : E = 2047
  · have hi := inf_eq
    rw [if_neg (by omega)]
    have c1 : ((E : Int) == 2047) = true := by simp; omega
    obtain ⟨q0, q1, q2, q3, f0, f1, f2, f3⟩ := res4_facts HR0.out
    obtain ⟨u0, u1, u2, u3⟩ := put4_facts HR0.out (.slice none 0 0) (.int .i64 0) (.bool false) (.bool true)
    clear hE hm hr hi c
    go_enter Tryd.func89, Tryd.ntmps89
    go_wp2_with fail
    refine bodyPost_ret (v := .agg #[.slice none 0 0, .int .i64 0, .bool false, .bool true]) (by simp [results, Tryd.results89, go_sem]) rfl ?_
    exact ⟨_, rfl, rfl, (Below.refl w.heap.size w).alloc (Nat.le_refl _) _⟩
  · have hi := inf_eq
    have hx : rung x < inf := by omega
    rw [if_pos hx]
    obtain ⟨ng, hng⟩ : ∃ b, b = decide (fv x < 0) := ⟨_, rfl⟩
    have hord : (FloatKind.f64.format.order x 0 == some .lt) = ng := by
      have := order_fin (x := x) (y := 0) hx (by decide)
      rw [show FloatKind.f64.format.order x 0 = Ieee.double.order x 0 from rfl, this, hng]
      exact cmp_lt
    have c1 : ((E : Int) == 2047) = false := by simp; omega
    have hp := fun (f : Nat) hf => fr_parts (f := f) hx hE hm hf
    rw [← hng] at hp
    by_cases d : E = 0
    · have c2 : ((E : Int) == 0) = true := by simp; omega
      have hq := hp m (by rw [if_pos d])
      rw [if_pos d] at hq
      have HB := Lib.hid (fun (W : World) => bit_calls (m : Int) (-1074) W (by omega) (by omega) (by omega) (by omega))
      have HM := Lib.hid (fun (W W1 : World) (sl : Value) (ds : List Int) a b c d e f => made_bit (w := W) (w1 := W1) (u := (m : Int)) (k := -1074) (neg := ng) (sl := sl) (ds := ds) (by omega) (by omega) (by omega) (by omega) a b c d e f)
      rw [show ((1 : Int) - 1075) = -1074 by decide] at hq
      rw [hq] at HM
      have HT := Lib.hid ht
      clear hE hm hr hi c hx hng hp hq ht
      go_enter Tryd.func89, Tryd.ntmps89
      go_wp2_with fail
      refine (HB.out _).mono ?_
      rintro y w1 ⟨sl, ds, rfl, hs, hP, hd, hl, hn, hb⟩
      obtain ⟨p1, c1', rfl⟩ := hs.formMap
      have HM1 := Lib.hid (HM.out _ w1 _ ds hs hP hd hl hn ((HT.out.keep HW0.out).keep hb))
      have hr1 := keep_block hb HR0.out
      have HR1 := Lib.hid hr1
      have HW1 := Lib.hid (HW0.out.trans (hb.mono HW0.out.size))
      have HS1 := Lib.hid hb.size
      clear hs hP hd hl hn hb hr1
      go_wp2_with fail
      refine HM1.out.mono ?_
      rintro y w2 ⟨v, rfl, hv, hb2⟩
      obtain ⟨p2, n2, c2', e2, neg2, none2, rfl⟩ := hv.form
      have HV := Lib.hid hv
      have hr2 := keep_block hb2 HR1.out
      have HW2 := Lib.hid (HW1.out.trans (hb2.mono HW1.out.size))
      obtain ⟨q0, q1, q2, q3, f0, f1, f2, f3⟩ := res4_facts hr2
      obtain ⟨u0, u1, u2, u3⟩ := put4_facts hr2 (.slice p2 n2 c2') (.int .i64 e2) (.bool neg2) (.bool none2)
      clear hv hb2 hr2
      go_wp2_with fail
      refine bodyPost_ret (v := .agg #[.slice p2 n2 c2', .int .i64 e2, .bool neg2, .bool none2]) (by simp [results, Tryd.results89, go_sem, u0, u1, u2, u3]) rfl ?_
      have hs1 := HS1.out
      simp only [World.size_alloc] at hs1
      exact ⟨_, rfl, (HV.out.put4 (b := w.heap.size) (by simp only [World.size_alloc]; omega) _ _ _ _).mono (fun b h => by simp only [World.size_alloc] at h; omega), bl_put4 HW2.out (by simp) _ _ _ _⟩
    · have c2 : ((E : Int) == 0) = false := by simp; omega
      have hq := hp (m + 4503599627370496) (by rw [if_neg d])
      rw [if_neg d] at hq
      have d2 : E < 2048 := by omega
      have d3 : m < 4503599627370496 := by omega
      have HB := Lib.hid (fun (W : World) => bit_calls ((m : Int) + 4503599627370496) ((E : Int) - 1075) W (by omega) (by omega) (by omega) (by omega))
      have HM := Lib.hid (fun (W W1 : World) (sl : Value) (ds : List Int) a b c d e f => made_bit (w := W) (w1 := W1) (u := (m : Int) + 4503599627370496) (k := (E : Int) - 1075) (neg := ng) (sl := sl) (ds := ds) (by omega) (by omega) (by omega) (by omega) a b c d e f)
      rw [show (((m + 4503599627370496 : Nat) : Int)) = (m : Int) + 4503599627370496 by rw [Int.natCast_add]; rfl] at hq
      rw [hq] at HM
      have HT := Lib.hid ht
      clear hE hm hr hi c hx hng hp hq ht
      go_enter Tryd.func89, Tryd.ntmps89
      go_wp2_with fail
      refine (HB.out _).mono ?_
      rintro y w1 ⟨sl, ds, rfl, hs, hP, hd, hl, hn, hb⟩
      obtain ⟨p1, c1', rfl⟩ := hs.formMap
      have HM1 := Lib.hid (HM.out _ w1 _ ds hs hP hd hl hn ((HT.out.keep HW0.out).keep hb))
      have hr1 := keep_block hb HR0.out
      have HR1 := Lib.hid hr1
      have HW1 := Lib.hid (HW0.out.trans (hb.mono HW0.out.size))
      have HS1 := Lib.hid hb.size
      clear hs hP hd hl hn hb hr1
      go_wp2_with fail
      refine HM1.out.mono ?_
      rintro y w2 ⟨v, rfl, hv, hb2⟩
      obtain ⟨p2, n2, c2', e2, neg2, none2, rfl⟩ := hv.form
      have HV := Lib.hid hv
      have hr2 := keep_block hb2 HR1.out
      have HW2 := Lib.hid (HW1.out.trans (hb2.mono HW1.out.size))
      obtain ⟨q0, q1, q2, q3, f0, f1, f2, f3⟩ := res4_facts hr2
      obtain ⟨u0, u1, u2, u3⟩ := put4_facts hr2 (.slice p2 n2 c2') (.int .i64 e2) (.bool neg2) (.bool none2)
      clear hv hb2 hr2
      go_wp2_with fail
      refine bodyPost_ret (v := .agg #[.slice p2 n2 c2', .int .i64 e2, .bool neg2, .bool none2]) (by simp [results, Tryd.results89, go_sem, u0, u1, u2, u3]) rfl ?_
      have hs1 := HS1.out
      simp only [World.size_alloc] at hs1
      exact ⟨_, rfl, (HV.out.put4 (b := w.heap.size) (by simp only [World.size_alloc]; omega) _ _ _ _).mono (fun b h => by simp only [World.size_alloc] at h; omega), bl_put4 HW2.out (by simp) _ _ _ _⟩
end Go.Proofs.YtiihokgjplpceaaDoor
