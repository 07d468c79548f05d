/- The reference's numbers, walked: size, Neg, Sign. -/
import Derived.Test.YtiihokgjplpceaaDoorWkM
namespace Go.Proofs.YtiihokgjplpceaaDoor
open Go.RowKit TV

theorem ikey {a b : Int} (h : a = b) : Value.int .i64 a = Value.int .i64 b := by rw [h]

def SizePost (a b : List Int) (e g : Int) (w : World) (x : Ending) (w' : World) : Prop :=
  x = .returned (.int .i64 (sg (V a e (min e g) (max (e + a.length) (g + b.length) - min e g).toNat - V b g (min e g) (max (e + a.length) (g + b.length) - min e g).toNat))) ∧ Below w.heap.size w w'

theorem size_calls (s t e g : Int) (sl sm : Value) (a b : List Int) (w : World) (hs : Sl w sl (a.map (Value.int .i64))) (ht : Sl w sm (b.map (Value.int .i64)))
    (ha : Dok a) (hb : Dok b) (he : -1000000000 ≤ e) (he2 : e + a.length ≤ 1000000000) (hg : -1000000000 ≤ g) (hg2 : g + b.length ≤ 1000000000) :
    Calls Tryd.prog 59 #[.agg #[.int .i64 s, sl, .int .i64 e], .agg #[.int .i64 t, sm, .int .i64 g]] w (SizePost a b e g w) := by
  unfold SizePost
  obtain ⟨f, hf⟩ : ∃ f, f = min e g := ⟨_, rfl⟩
  obtain ⟨u, hu⟩ : ∃ u, u = max (e + (a.length : Int)) (g + (b.length : Int)) := ⟨_, rfl⟩
  rw [← hf, ← hu]
  obtain ⟨n, hn⟩ : ∃ n : Nat, u = f + n := ⟨(u - f).toNat, by omega⟩
  rw [show (u - f).toNat = n by omega]
  obtain ⟨p1, c1, rfl⟩ := hs.formMap
  obtain ⟨p2, c2, rfl⟩ := ht.formMap
  have hs0 := hs.keep ((((Below.refl w.heap.size w).alloc (Nat.le_refl _) (.cells #[.int .i64 s, .slice p1 a.length c1, .int .i64 e] 42)).alloc (by simp) (.cells #[.int .i64 t, .slice p2 b.length c2, .int .i64 g] 42)))
  have ht0 := ht.keep ((((Below.refl w.heap.size w).alloc (Nat.le_refl _) (.cells #[.int .i64 s, .slice p1 a.length c1, .int .i64 e] 42)).alloc (by simp) (.cells #[.int .i64 t, .slice p2 b.length c2, .int .i64 g] 42)))
  have hW : Below w.heap.size w (((w.alloc (.cells #[.int .i64 s, .slice p1 a.length c1, .int .i64 e] 42)).alloc (.cells #[.int .i64 t, .slice p2 b.length c2, .int .i64 g] 42))) := (((Below.refl w.heap.size w).alloc (Nat.le_refl _) _).alloc (by simp) _)
  have hmin : (if g < e then g else e) = f := by rw [hf]; split <;> omega
  have hmax : (if e + (a.length : Int) < g + (b.length : Int) then g + (b.length : Int) else e + (a.length : Int)) = u := by rw [hu]; split <;> omega
  have f1 : -1000000000 ≤ f := by omega
  have f2 : f ≤ 1000000000 := by omega
  have u1 : -1000000000 ≤ u := by omega
  have u2 : u ≤ 1000000000 := by omega
  have hn0 : n ≤ 2000000000 := by omega
  have HN := Lib.hid hn
  clear hf hu hn
  go_enter Tryd.func59, Tryd.ntmps59
  go_wp2
  go_loopw [7, 8, 9] (fun i _ _ wr => ∃ k : Nat, k ≤ n ∧ i = .int .i64 (f + (k : Int) - 1) ∧ V a e f n - V a e f k = V b g f n - V b g f k ∧ Below (w.heap.size + 2) ((w.alloc (.cells #[.int .i64 s, .slice p1 a.length c1, .int .i64 e] 42)).alloc (.cells #[.int .i64 t, .slice p2 b.length c2, .int .i64 g] 42)) wr)
    (fun i _ _ _ => (intOf i + 1 - f).toNat)
  case atStart => exact ⟨n, Nat.le_refl _, by have := HN.out; rw [← this], by omega, Below.refl _ _⟩
  case round =>
    obtain ⟨k, hk, rfl, heq, hbl⟩ := hrel
    have HE := Lib.hid heq
    clear heq
    clear hmin hmax
    have hsz : w.heap.size + 2 ≤ wr.heap.size := by have := hbl.size; simpa using this
    have hbw : Below w.heap.size w wr := hW.trans (hbl.mono (by omega))
    have hs1 := hs.keep hbw
    have ht1 := ht.keep hbw
    obtain ⟨hcl, hfl⟩ := bcellB hbl
    by_cases h0 : 0 < k
    · have g1 : f ≤ f + (k : Int) - 1 := by omega
      go_wp2_with fail
      refine (digit_calls _ _ _ _ _ _ hs1 (by omega) (by omega) (by omega) (by omega)).mono ?_
      rintro x w1 ⟨rfl, hb1⟩
      have hbl1 := hbl.trans (hb1.mono hsz)
      obtain ⟨hcl1, hfl1⟩ := bcellB hbl1
      have ht2 := ht1.keep hb1
      go_wp2_with fail
      refine (digit_calls _ _ _ _ _ _ ht2 (by omega) (by omega) (by omega) (by omega)).mono ?_
      rintro x w2 ⟨rfl, hb2⟩
      have hbl2 := hbl1.trans (hb2.mono (Nat.le_trans hsz hb1.size))
      have hbw2 : Below w.heap.size w w2 := hW.trans (hbl2.mono (by omega))
      have ej : f + (k : Int) - 1 = f + ((k - 1 : Nat) : Int) := by omega
      have hva : V a e f k = V a e f (k - 1) + dg a e (f + k - 1) * 16777216 ^ (k - 1) := by
        obtain ⟨j, rfl⟩ : ∃ j, k = j + 1 := ⟨k - 1, by omega⟩
        rw [V, ej]; rfl
      have hvb : V b g f k = V b g f (k - 1) + dg b g (f + k - 1) * 16777216 ^ (k - 1) := by
        obtain ⟨j, rfl⟩ : ∃ j, k = j + 1 := ⟨k - 1, by omega⟩
        rw [V, ej]; rfl
      have d1 : Hid (dg b g (f + k - 1) < dg a e (f + k - 1) → sg (V a e f n - V b g f n) = 1) := by
        intro hlt
        have := V_decides (n := n) (k := k - 1) (f := f) ha hb (by rw [show k - 1 + 1 = k by omega]; exact HE.out) (by rw [← ej]; exact hlt)
        unfold sg; rw [if_neg (by omega), if_neg (by omega)]
      have d2 : Hid (dg a e (f + k - 1) < dg b g (f + k - 1) → sg (V a e f n - V b g f n) = -1) := by
        intro hlt
        have := V_decides (n := n) (k := k - 1) (f := f) hb ha (by rw [show k - 1 + 1 = k by omega]; exact HE.out.symm) (by rw [← ej]; exact hlt)
        unfold sg; rw [if_pos (by omega)]
      have d3 : Hid (dg a e (f + k - 1) = dg b g (f + k - 1) → V a e f n - V a e f (k - 1) = V b g f n - V b g f (k - 1)) := by
        intro heq
        have := HE.out
        rw [heq] at hva; omega
      clear hva hvb ej
      go_wp2
      · have hlt : dg b g (f + k - 1) < dg a e (f + k - 1) := by assumption
        go_ret
        exact ⟨ret_i64 (d1.out hlt).symm, hbw2⟩
      · have hlt : dg a e (f + k - 1) < dg b g (f + k - 1) := by assumption
        go_ret
        exact ⟨ret_i64 (d2.out hlt).symm, hbw2⟩
      · have h8 : dg a e (f + k - 1) ≤ dg b g (f + k - 1) := by assumption
        have h9 : dg b g (f + k - 1) ≤ dg a e (f + k - 1) := by assumption
        go_roundw
        case rel => exact ⟨k - 1, by omega, ikey (by omega), d3.out (by omega), hbl2⟩
        case measure => simp [intOf]; omega
    · obtain rfl : k = 0 := by omega
      have hz : Hid (sg (V a e f n - V b g f n) = 0) := by
        have := HE.out; simp only [V, Int.sub_zero] at this
        show _ = _
        rw [this, Int.sub_self]; rfl
      go_wp2
      go_ret
      exact ⟨ret_i64 hz.out.symm, hbw⟩
end Go.Proofs.YtiihokgjplpceaaDoor
