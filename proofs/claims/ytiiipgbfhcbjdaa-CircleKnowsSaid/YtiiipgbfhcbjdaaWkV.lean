/- The reference's product by what it tells; the highest and the lowest bit. -/
import Derived.Test.YtiiipgbfhcbjdaaWkU
import Derived.Test.YtiiipgbfhcbjdaaNmC
namespace Go.Proofs.Ytiiipgbfhcbjdaa
open Go.RowKit TV
set_option linter.unusedVariables false

theorem mul_zero (s e : Int) (p : Option Addr) (n cap : Nat) (t g : Int) (p2 : Option Addr) (n2 cap2 : Nat) (w : World) (h : s = 0 ∨ t = 0) :
    Calls Try.prog 14 #[.agg #[.int .i64 s, .slice p n cap, .int .i64 e], .agg #[.int .i64 t, .slice p2 n2 cap2, .int .i64 g]] w fun x w' => x = .returned (.agg #[.int .i64 0, .slice none 0 0, .int .i64 0]) ∧ Below w.heap.size w w' := by
  by_cases hs : s = 0
  · subst hs
    go_enter Try.func14, Try.ntmps14
    go_wp2_with fail
    refine bodyPost_ret (v := .agg #[.int .i64 0, .slice none 0 0, .int .i64 0]) (by simp [results, Try.results14, go_sem]) rfl ?_
    exact ⟨rfl, (((Below.refl _ _).alloc (Nat.le_refl _) _).alloc (by simp) _).alloc (by simp; omega) _⟩
  · obtain rfl : t = 0 := by omega
    have h1 : (s == 0) = false := by simpa using hs
    clear h
    go_enter Try.func14, Try.ntmps14
    go_wp2_with fail
    refine bodyPost_ret (v := .agg #[.int .i64 0, .slice none 0 0, .int .i64 0]) (by simp [results, Try.results14, go_sem]) rfl ?_
    exact ⟨rfl, (((Below.refl _ _).alloc (Nat.le_refl _) _).alloc (by simp) _).alloc (by simp; omega) _⟩

theorem mulN {P : Nat → Prop} {w : World} {x y : Value} {k j : Nat} {p q : Rat} (hx : NumV P w x k p) (hy : NumV P w y j q) (hk : k ≤ 900000000) (hj : j ≤ 900000000) :
    Calls Try.prog 14 #[x, y] w (RetN P (k + j) (p * q) w) := by
  obtain ⟨s, sl, a, e, rfl, hs, na, rfl, ia⟩ := hx
  obtain ⟨t, sm, b, g, rfl, ht, nb, rfl, ib⟩ := hy
  obtain ⟨a1, a2, a3, a4⟩ := id na
  obtain ⟨b1, b2, b3, b4⟩ := id nb
  by_cases h0 : s = 0 ∨ t = 0
  · obtain ⟨p1, c1, rfl⟩ := hs.formMap
    obtain ⟨p2, c2, rfl⟩ := ht.formMap
    refine (mul_zero _ _ _ _ _ _ _ _ _ _ w h0).mono fun x w' ⟨hx, hb⟩ => ?_
    refine ⟨_, hx, ?_, hb⟩
    have : nv s a e * nv t b g = 0 := by
      rcases h0 with rfl | rfl
      · rw [zero_nv, Rat.zero_mul]
      · rw [zero_nv (ds := b), Rat.mul_zero]
    rw [this]
    exact NumV.zero _ _ _
  · refine (mul_main s t e g sl sm a b w hs ht a1 b1 (by omega) (by omega) (by omega) (by omega) (by omega) (by omega)).mono fun x w' ⟨s', sl', ds', e', os, hx, hsl, hb, htr, hd, hl, hv, hin⟩ => ?_
    obtain ⟨n1, n2⟩ := mul_nv na nb (by omega) (by omega) hl hd hv htr
    exact ⟨_, hx, ⟨s', sl', ds', e', rfl, hsl, n1, n2.symm, hin.mono fun _ h => Or.inr h⟩, hb⟩

end Go.Proofs.Ytiiipgbfhcbjdaa
