/- Package whole, walked: cmp. -/
import Derived.Test.YtiiipgbfhcbjdaaDoorWhI
import Derived.Test.YtiiipgbfhcbjdaaDoorWkN
namespace Go.Proofs.YtiiipgbfhcbjdaaDoor
open Go.RowKit TV
set_option linter.unusedVariables false

def WCmpPost (a b : List Int) (e g : Int) (w : World) (x : Ending) (w' : World) : Prop :=
  x = .returned (.int .i64 (TV.sg (W.V a e (min e g) (max (e + a.length) (g + b.length) - min e g).toNat - W.V b g (min e g) (max (e + a.length) (g + b.length) - min e g).toNat))) ∧ Below w.heap.size w w'

theorem wcmp_calls (e g : Int) (sl sm : Value) (a b : List Int) (w : World) (hs : Sl w sl (a.map (Value.int .u32))) (ht : Sl w sm (b.map (Value.int .u32)))
    (ha : W.Dok a) (hb : W.Dok b) (he : -1000000000 ≤ e) (he2 : e + a.length ≤ 1000000000) (hg : -1000000000 ≤ g) (hg2 : g + b.length ≤ 1000000000) :
    Calls Tryd.prog 39 #[.agg #[sl, .int .i64 e], .agg #[sm, .int .i64 g]] w (WCmpPost a b e g w) := by
  unfold WCmpPost
  obtain ⟨f, hf⟩ : ∃ f, f = min e g := ⟨_, rfl⟩
  obtain ⟨u, hu⟩ : ∃ u, u = max (e + (a.length : Int)) (g + (b.length : Int)) := ⟨_, rfl⟩
  rw [← hf, ← hu]
  obtain ⟨n, hn⟩ : ∃ n : Nat, u = f + n := ⟨(u - f).toNat, by omega⟩
  rw [show (u - f).toNat = n by omega]
  obtain ⟨p1, c1, rfl⟩ := hs.formMap
  obtain ⟨p2, c2, rfl⟩ := ht.formMap
  obtain ⟨wn, hwn, hW, hsz, k0, k1⟩ := box_num w (.cells #[.slice p1 a.length c1, .int .i64 e] 27) (.cells #[.slice p2 b.length c2, .int .i64 g] 27)
  have hmin : (if g < e then g else e) = f := by rw [hf]; split <;> omega
  have hmax : (if e + (a.length : Int) < g + (b.length : Int) then g + (b.length : Int) else e + (a.length : Int)) = u := by rw [hu]; split <;> omega
  have f1 : -1000000000 ≤ f := by omega
  have f2 : f ≤ 1000000000 := by omega
  have u1 : -1000000000 ≤ u := by omega
  have u2 : u ≤ 1000000000 := by omega
  have hn0 : n ≤ 2000000000 := by omega
  have HN := Lib.hid hn
  clear hf hu hn
  have HE0 := Lib.hid (ends_calls e g f u (.slice p1 a.length c1) (.slice p2 b.length c2) a.length b.length hmin hmax wn ⟨_, _, rfl⟩ ⟨_, _, rfl⟩ (by omega) (by omega) (by omega) (by omega))
  clear hmin hmax
  have HS := Lib.hid (hs.keep hW)
  have HT := Lib.hid (ht.keep hW)
  have HW := Lib.hid hW
  clear hs ht hW hsz
  go_enter Tryd.func39, Tryd.ntmps39
  go_wp2_with fail
  rw [← hwn]
  clear hwn
  refine HE0.out.mono ?_
  rintro x w0 ⟨rfl, hb0⟩
  obtain ⟨r0, r1, -, -⟩ := res2_facts (keep_block hb0 k0)
  obtain ⟨t0, t1, -, -⟩ := res2_facts (keep_block hb0 k1)
  have HS := Lib.hid (HS.out.keep hb0)
  have HT := Lib.hid (HT.out.keep hb0)
  have HW := Lib.hid (HW.out.trans (hb0.mono HW.out.size))
  have R0 := Lib.hid r0
  have R1 := Lib.hid r1
  have T0 := Lib.hid t0
  have T1 := Lib.hid t1
  clear k0 k1 hb0 HE0
  go_wp2_with fail
  go_loopw [7, 8, 9] (fun i _ _ wr => ∃ k : Nat, k ≤ n ∧ i = .int .i64 (f + (k : Int) - 1) ∧ W.V a e f n - W.V a e f k = W.V b g f n - W.V b g f k ∧ Kp w0 wr)
    (fun i _ _ _ => (intOf i + 1 - f).toNat)
  case atStart => exact ⟨n, Nat.le_refl _, by have := HN.out; rw [← this], by omega, Kp.refl _⟩
  case round =>
    obtain ⟨k, hk, rfl, heq, hbl⟩ := hrel
    have HE := Lib.hid heq
    have r0 := keep_cell hbl.out R0.out
    have r1 := keep_cell hbl.out R1.out
    have t0 := keep_cell hbl.out T0.out
    have t1 := keep_cell hbl.out T1.out
    have hs1 := HS.out.keep hbl.out
    have ht1 := HT.out.keep hbl.out
    have HB := Lib.hid hbl
    clear heq hbl
    by_cases h0 : 0 < k
    · have g1 : f ≤ f + (k : Int) - 1 := by omega
      have HA := Lib.hid (fun (W : World) (h : Kp w0 W) => word_calls e (f + (k : Int) - 1) _ a W (HS.out.keep h.out) (by omega) (by omega) (by omega) (by omega))
      have HC := Lib.hid (fun (W : World) (h : Kp w0 W) => word_calls g (f + (k : Int) - 1) _ b W (HT.out.keep h.out) (by omega) (by omega) (by omega) (by omega))
      have K0 := HB.out
      go_wp2_with fail
      go_region_held3 (fun w' => w'.cell? ⟨w.heap.size, 0, none⟩ = some (.slice p1 a.length c1) ∧ w'.cell? ⟨w.heap.size, 1, none⟩ = some (.int .i64 e) ∧ w'.cell? ⟨w.heap.size + 1, 0, none⟩ = some (.slice p2 b.length c2) ∧ w'.cell? ⟨w.heap.size + 1, 1, none⟩ = some (.int .i64 g) ∧ Kp w0 w')
        (first | exact ⟨keep_cell ((K0.drew.step hbA).step hbB).out R0.out, keep_cell ((K0.drew.step hbA).step hbB).out R1.out, keep_cell ((K0.drew.step hbA).step hbB).out T0.out, keep_cell ((K0.drew.step hbA).step hbB).out T1.out, (K0.drew.step hbA).step hbB⟩ | exact ⟨keep_cell (K0.drew.step hbA).out R0.out, keep_cell (K0.drew.step hbA).out R1.out, keep_cell (K0.drew.step hbA).out T0.out, keep_cell (K0.drew.step hbA).out T1.out, K0.drew.step hbA⟩ | exact ⟨keep_cell K0.drew.out R0.out, keep_cell K0.drew.out R1.out, keep_cell K0.drew.out T0.out, keep_cell K0.drew.out T1.out, K0.drew⟩)
        (first
          | (go_at_call 59; ((with_reducible refine (HC.out _ ?hq).mono ?_); (case hq => exact (K0.drew.step hbA)); rintro x2 w3 ⟨rfl, hbB⟩))
          | (go_at_call 59; ((with_reducible refine (HA.out _ ?hq).mono ?_); (case hq => exact K0.drew); rintro x1 w2 ⟨rfl, hbA⟩)))
      have hK2 := (K0.drew.step hbA).step hbB
      have HK2 := Lib.hid hK2
      have ej : f + (k : Int) - 1 = f + ((k - 1 : Nat) : Int) := by omega
      have hva : W.V a e f k = W.V a e f (k - 1) + W.dg a e (f + k - 1) * 4294967296 ^ (k - 1) := by
        obtain ⟨j, rfl⟩ : ∃ j, k = j + 1 := ⟨k - 1, by omega⟩
        rw [W.V, ej]; rfl
      have hvb : W.V b g f k = W.V b g f (k - 1) + W.dg b g (f + k - 1) * 4294967296 ^ (k - 1) := by
        obtain ⟨j, rfl⟩ : ∃ j, k = j + 1 := ⟨k - 1, by omega⟩
        rw [W.V, ej]; rfl
      have d1 : Hid (W.dg b g (f + k - 1) < W.dg a e (f + k - 1) → TV.sg (W.V a e f n - W.V b g f n) = 1) := by
        intro hlt
        have := W.V_decides (n := n) (k := k - 1) (f := f) ha hb (by rw [show k - 1 + 1 = k by omega]; exact HE.out) (by rw [← ej]; exact hlt)
        unfold TV.sg; rw [if_neg (by omega), if_neg (by omega)]
      have d2 : Hid (W.dg a e (f + k - 1) < W.dg b g (f + k - 1) → TV.sg (W.V a e f n - W.V b g f n) = -1) := by
        intro hlt
        have := W.V_decides (n := n) (k := k - 1) (f := f) hb ha (by rw [show k - 1 + 1 = k by omega]; exact HE.out.symm) (by rw [← ej]; exact hlt)
        unfold TV.sg; rw [if_pos (by omega)]
      have d3 : Hid (W.dg a e (f + k - 1) = W.dg b g (f + k - 1) → W.V a e f n - W.V a e f (k - 1) = W.V b g f n - W.V b g f (k - 1)) := by
        intro heq
        have := HE.out
        rw [heq] at hva; omega
      obtain ⟨x, hx⟩ : ∃ x, x = W.dg a e (f + k - 1) := ⟨_, rfl⟩
      obtain ⟨y, hy⟩ : ∃ y, y = W.dg b g (f + k - 1) := ⟨_, rfl⟩
      rw [← hx, ← hy] at d1 d2 d3
      rw [← hx, ← hy]
      clear hva hvb ej hx hy hK2 HA HC
      rcases Int.lt_trichotomy x y with hlt | hlt | hlt
      · have hng : ¬ y < x := by omega
        have hz := Lib.hid (d2.out hlt)
        go_wp2_with fail
        go_ret
        exact ⟨ret_i64 hz.out.symm, HW.out.trans (HK2.out.out.mono HW.out.size)⟩
      · subst hlt
        have hng : ¬ x < x := by omega
        have hz := Lib.hid (d3.out rfl)
        go_wp2_with fail
        go_roundw
        case rel => exact ⟨k - 1, by omega, ikey (by omega), hz.out, HK2.out⟩
        case measure => simp [intOf]; omega
      · have hz := Lib.hid (d1.out hlt)
        go_wp2_with fail
        go_ret
        exact ⟨ret_i64 hz.out.symm, HW.out.trans (HK2.out.out.mono HW.out.size)⟩
    · obtain rfl : k = 0 := by omega
      have hz : Hid (TV.sg (W.V a e f n - W.V b g f n) = 0) := by
        have := HE.out; simp only [W.V, Int.sub_zero] at this
        show _ = _
        rw [this, Int.sub_self]; rfl
      go_wp2_with fail
      go_ret
      exact ⟨ret_i64 hz.out.symm, HW.out.trans (HB.out.out.mono HW.out.size)⟩

end Go.Proofs.YtiiipgbfhcbjdaaDoor
