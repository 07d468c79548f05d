/- Package whole, walked: Shift of any number. -/
import Derived.Test.YtiiipgbfhcbjdaaDoorWhV
namespace TV
theorem rle_lt {a b c : Rat} (h1 : a ≤ b) (h2 : b < c) : a < c := by grind
theorem rlt_le {a b c : Rat} (h1 : a < b) (h2 : b ≤ c) : a < c := by grind
theorem two_ne (k : Int) : (2 : Rat) ^ k ≠ 0 := fun h => by have hp := two_zpow_pos k; rw [h] at hp; exact absurd hp (by decide)
theorem HighOf.up {q : Rat} {h : Int} (hh : HighOf q h) (k : Int) : HighOf (q * (2 : Rat) ^ k) (h + k) := by
  have hp := two_zpow_pos k
  rcases hh with ⟨h1, h2⟩ | ⟨h1, h2⟩
  · left
    rw [show h + k + 1 = (h + 1) + k by omega, two_zpow_add, two_zpow_add]
    exact ⟨Rat.mul_le_mul_of_nonneg_right h1 (Rat.le_of_lt hp), Rat.mul_lt_mul_of_pos_right h2 hp⟩
  · right
    rw [show h + k + 1 = (h + 1) + k by omega, two_zpow_add, two_zpow_add, ← Rat.neg_mul]
    exact ⟨Rat.mul_le_mul_of_nonneg_right h1 (Rat.le_of_lt hp), Rat.mul_lt_mul_of_pos_right h2 hp⟩
theorem LowOf.up {q : Rat} {l : Int} (hl : LowOf q l) (k : Int) : LowOf (q * (2 : Rat) ^ k) (l + k) := by
  obtain ⟨m, h1, h2⟩ := hl
  exact ⟨m, h1, by rw [h2, two_zpow_add, Rat.mul_assoc]⟩
theorem zpow_lt_imp {a b : Int} (h : (2 : Rat) ^ a < (2 : Rat) ^ b) : a < b := by
  apply Classical.byContradiction
  intro hn
  exact absurd h (Rat.not_lt.2 (zpow_le (by omega)))
theorem low_le_high {q : Rat} {h l : Int} (hh : HighOf q h) (hl : LowOf q l) : l ≤ h := by
  obtain ⟨m, h1, h2⟩ := hl
  have hp := two_zpow_pos l
  have key : ∀ n : Int, 1 ≤ n → (n : Rat) * (2 : Rat) ^ l < (2 : Rat) ^ (h + 1) → l ≤ h := by
    intro n hn hlt
    have h3 : (1 : Rat) ≤ (n : Rat) := by exact_mod_cast hn
    have h4 := Rat.mul_le_mul_of_nonneg_right h3 (Rat.le_of_lt hp)
    rw [Rat.one_mul] at h4
    have := zpow_lt_imp (rle_lt h4 hlt)
    omega
  have hp2 := two_zpow_pos h
  rcases hh with ⟨h3, h4⟩ | ⟨h3, h4⟩
  · have hq : 0 < q := rlt_le hp2 h3
    have : 1 ≤ m := by
      apply Classical.byContradiction
      intro hn
      have h5 : (m : Rat) ≤ 0 := by exact_mod_cast (show m ≤ 0 by omega)
      have h6 := Rat.mul_le_mul_of_nonneg_right h5 (Rat.le_of_lt hp)
      rw [Rat.zero_mul, ← h2] at h6
      exact absurd hq (Rat.not_lt.2 h6)
    exact key m this (by rw [← h2]; exact h4)
  · have hq : 0 < -q := rlt_le hp2 h3
    have : 1 ≤ -m := by
      apply Classical.byContradiction
      intro hn
      have h5 : (0 : Rat) ≤ (m : Rat) := by exact_mod_cast (show 0 ≤ m by omega)
      have h6 := Rat.mul_nonneg h5 (Rat.le_of_lt hp)
      rw [← h2] at h6
      grind
    exact key (-m) this (by rw [Rat.intCast_neg, Rat.neg_mul, ← h2]; exact h4)
theorem wv_far {q : Rat} {k : Int} (hq : OkR q) (h0 : q ≠ 0) (hk : 196608 < k ∨ k < -196608) : WvOf (q * (2 : Rat) ^ k) none := by
  rcases hq with h | ⟨h, l, hh, hl, h1, h2⟩
  · exact absurd h h0
  · have := low_le_high hh hl
    rcases hk with hk | hk
    · exact wv_high (hh.up k) (by omega)
    · exact wv_low (hh.up k) (hl.up k) (by omega)
end TV
namespace Go.Proofs.YtiiipgbfhcbjdaaDoor
open Go.RowKit TV
set_option linter.unusedVariables false

/-- What a shift answers. -/
def shiftO (oa : Option Rat) (k : Int) (o : Option Rat) : Prop := match oa with
  | some q => WvOf (q * (2 : Rat) ^ k) o
  | none => o = none

set_option maxHeartbeats 4000000 in
set_option maxRecDepth 100000 in
theorem shift_same {P : Nat → Prop} {w : World} {o : Option Rat} (p1 : Option Addr) (n1 c1 : Nat) (e1 k : Int) (neg1 none1 : Bool) (hn : WNum P w (.agg #[.slice p1 n1 c1, .int .i64 e1, .bool neg1, .bool none1]) o) (h : none1 = true ∨ none1 = false ∧ n1 = 0) :
    Calls Tryd.prog 16 #[.agg #[.slice p1 n1 c1, .int .i64 e1, .bool neg1, .bool none1], .int .i64 k] w (RetW P o w) := by
  obtain ⟨wn, hwn, hW, hsz, k0, k1⟩ := box_num w (.cells #[.slice p1 n1 c1, .int .i64 e1, .bool neg1, .bool none1] 29) (.cells #[.slice none 0 0, .int .i64 0, .bool false, .bool false] 29)
  obtain ⟨q0, q1, q2, q3, f0, f1, f2, f3⟩ := res4_facts k1
  obtain ⟨u0, u1, u2, u3⟩ := put4_facts k1 (.slice p1 n1 c1) (.int .i64 e1) (.bool neg1) (.bool none1)
  obtain ⟨a0, a1, a2, a3, -, -, -, -⟩ := res4_facts k0
  have HN := Lib.hid (hn.lt.keep hW)
  have HW := Lib.hid hW
  clear hn hW hsz k0 k1
  rcases h with rfl | ⟨rfl, rfl⟩
  · go_enter Tryd.func16, Tryd.ntmps16
    go_upto_region 1 with (fail)
    rw [← hwn]
    clear hwn
    go_wp2_with fail
    refine bodyPost_ret (v := .agg #[.slice p1 n1 c1, .int .i64 e1, .bool neg1, .bool true]) (by simp [results, Tryd.results16, go_sem, u0, u1, u2, u3]) rfl ?_
    exact ⟨_, rfl, (HN.out.put4 (b := w.heap.size + 1) (fun h => by have := h.2; omega) _ _ _ _).mono (fun b h => h.1), bl_put4 HW.out (by omega) _ _ _ _⟩
  · go_enter Tryd.func16, Tryd.ntmps16
    go_upto_region 1 with (fail)
    rw [← hwn]
    clear hwn
    go_wp2_with fail
    refine bodyPost_ret (v := .agg #[.slice p1 0 c1, .int .i64 e1, .bool neg1, .bool false]) (by simp [results, Tryd.results16, go_sem, u0, u1, u2, u3]) rfl ?_
    exact ⟨_, rfl, (HN.out.put4 (b := w.heap.size + 1) (fun h => by have := h.2; omega) _ _ _ _).mono (fun b h => h.1), bl_put4 HW.out (by omega) _ _ _ _⟩

set_option maxHeartbeats 4000000 in
set_option maxRecDepth 100000 in
theorem shift_far {P : Nat → Prop} {w : World} (p1 : Option Addr) (n1 c1 : Nat) (e1 k : Int) (neg1 : Bool) (hn : 0 < n1) (h : 196608 < k ∨ k < -196608) :
    Calls Tryd.prog 16 #[.agg #[.slice p1 n1 c1, .int .i64 e1, .bool neg1, .bool false], .int .i64 k] w (RetW P none w) := by
  obtain ⟨wn, hwn, hW, hsz, k0, k1⟩ := box_num w (.cells #[.slice p1 n1 c1, .int .i64 e1, .bool neg1, .bool false] 29) (.cells #[.slice none 0 0, .int .i64 0, .bool false, .bool false] 29)
  obtain ⟨q0, q1, q2, q3, f0, f1, f2, f3⟩ := res4_facts k1
  obtain ⟨u0, u1, u2, u3⟩ := put4_facts k1 (.slice none 0 0) (.int .i64 0) (.bool false) (.bool true)
  obtain ⟨a0, a1, a2, a3, -, -, -, -⟩ := res4_facts k0
  have HW := Lib.hid hW
  have n1 : ((n1 : Int) == 0) = false := beq_false_of_ne (by omega)
  clear hW hsz k0 k1
  by_cases hk : 196608 < k
  · have n2 : decide ((196608 : Int) < k) = true := decide_eq_true hk
    clear h hk
    go_enter Tryd.func16, Tryd.ntmps16
    go_upto_region 1 with (fail)
    rw [← hwn]
    clear hwn
    go_wp2_with fail
    refine bodyPost_ret (v := .agg #[.slice none 0 0, .int .i64 0, .bool false, .bool true]) (by simp [results, Tryd.results16, go_sem, u0, u1, u2, u3]) rfl ?_
    exact ⟨_, rfl, rfl, bl_put4 HW.out (by omega) _ _ _ _⟩
  · have n2 : decide ((196608 : Int) < k) = false := decide_eq_false hk
    have n3 : decide (k < (-196608 : Int)) = true := decide_eq_true (by omega)
    clear h hk
    go_enter Tryd.func16, Tryd.ntmps16
    go_upto_region 1 with (fail)
    rw [← hwn]
    clear hwn
    go_wp2_with fail
    refine bodyPost_ret (v := .agg #[.slice none 0 0, .int .i64 0, .bool false, .bool true]) (by simp [results, Tryd.results16, go_sem, u0, u1, u2, u3]) rfl ?_
    exact ⟨_, rfl, rfl, bl_put4 HW.out (by omega) _ _ _ _⟩

theorem wShift_calls {P : Nat → Prop} {w : World} {va : Value} {oa : Option Rat} (k : Int) (ha : WNum P w va oa) (ht : TabOk w) :
    Calls Tryd.prog 16 #[va, .int .i64 k] w fun x w' => ∃ o, shiftO oa k o ∧ RetW (fun b => P b ∨ w.heap.size ≤ b) o w x w' := by
  have up : ∀ {Q : Nat → Prop} {o : Option Rat} {x : Ending} {w' : World}, (∀ b, Q b → P b ∨ w.heap.size ≤ b) → RetW Q o w x w' → RetW (fun b => P b ∨ w.heap.size ≤ b) o w x w' := fun h ⟨v, h1, h2, h3⟩ => ⟨v, h1, h2.mono h, h3⟩
  cases oa with
  | none =>
    have ha0 := ha
    cases ha
    exact (shift_same none 0 0 0 k false true ha0 (Or.inl rfl)).mono fun x w' h => ⟨none, rfl, up (fun b h => Or.inl h) h⟩
  | some q =>
    have ha0 := ha
    obtain ⟨sl, a, e, ng, rfl, hs, hPa, hp, hokp, ca⟩ := ha
    rcases ca with ⟨rfl, rfl, rfl, rfl⟩ | ⟨ma, ea⟩
    · have hp0 : q = 0 := by rw [hp]; simp [W.nv, W.dval]
      exact (shift_same none 0 0 0 k false false ha0 (Or.inr ⟨rfl, rfl⟩)).mono fun x w' h => ⟨some q, by show WvOf (q * (2 : Rat) ^ k) (some q); rw [hp0, Rat.zero_mul]; exact wv_zero, up (fun b h => Or.inl h) h⟩
    · have hne : q ≠ 0 := by
        rcases hokp with h0 | ⟨h, l, hh, -⟩
        · exfalso
          have hpos := W.dval_pos ma.dok (i := a.length - 1) (by have := ma.dok (a.length - 1); have := ma.last; omega)
          rw [hp] at h0
          unfold W.nv at h0
          rcases Rat.mul_eq_zero.1 h0 with h1 | h1
          · have h2 : sg ng * W.dval a = 0 := by exact_mod_cast h1
            rcases sg_cases ng with h3 | h3 <;> rw [h3] at h2 <;> omega
          · exact two_ne _ h1
        · exact hh.ne
      by_cases hk : 196608 < k ∨ k < -196608
      · obtain ⟨p1, c1, rfl⟩ := hs.formMap
        exact (shift_far (P := P) p1 a.length c1 e k ng ma.len hk).mono fun x w' h => ⟨none, wv_far hokp hne hk, up (fun b h => Or.inl h) h⟩
      · have hs0 := hs
        rcases hs with ⟨-, h2⟩ | ⟨b, o, cap, h1, -⟩
        · have := ma.len; simp at h2; subst h2; simp at this
        · subst h1
          rw [List.length_map] at hs0 ⊢
          exact (shift_walk a e k b o cap ng hs0 ma.dok ma.len ea (by omega) (by omega) ht).mono fun x w' ⟨o, h1, h2⟩ => ⟨o, by show WvOf (q * (2 : Rat) ^ k) o; rw [hp]; exact h1, up (fun b h => Or.inr h) h2⟩
end Go.Proofs.YtiiipgbfhcbjdaaDoor
