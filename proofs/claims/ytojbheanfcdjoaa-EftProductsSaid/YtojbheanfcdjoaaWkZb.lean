/- Exact of trivetref02, walked. -/
import Derived.Test.YtojbheanfcdjoaaWkZ
namespace Go.Proofs.Ytojbheanfcdjoaa
open Go.RowKit TV
set_option linter.unusedVariables false

theorem subT {w : World} {x y : Value} {k : Nat} {p q : Rat} (hx : NumT w x k p) (hy : NumT w y k q) (hk : k ≤ 900000000) : Calls Try.prog 30 #[x, y] w (RetT (k + 1) (p - q) w) := (subN hx hy hk).mono fun _ _ h => RetN.t h

theorem cmp0 {w : World} {x y : Value} {k : Nat} {p q : Rat} (h0 : rs (p - q) = 0) (hx : NumT w x k p) (hy : NumT w y k q) (hk : k ≤ 900000000) :
    Calls Try.prog 18 #[x, y] w fun r w' => r = .returned (.int .i64 0) ∧ Below w.heap.size w w' := by have := cmpT hx hy hk; rw [h0] at this; exact this

theorem exact_calls (x y : Nat) (hx : x < 18446744073709551616) (hy : y < 18446744073709551616) (hyf : rung y < inf) {v : Value} {k : Nat} {q : Rat} (w : World) (hv : NumT w v k q) (hk : k ≤ 100000)
    (hs : rung x = 0 ∨ sgn x = decide (q < 0)) (hR : RndQ (if q < 0 then -q else q) (rung x)) (hrest : rs (q - ov x - ov y) = 0) :
    Calls Try.prog 39 #[v, .float .f64 x, .float .f64 y] w fun e w' => e = .returned (.bool true) ∧ Below w.heap.size w w' := by
  obtain ⟨s, p, n, c, e, rfl, -⟩ := hv.form
  have A0 : Below w.heap.size w (w.alloc (.cells #[.int .i64 s, .slice p n c, .int .i64 e] 32)) := (Below.refl _ _).alloc (Nat.le_refl _) _
  obtain ⟨Z, hZ⟩ : ∃ Z, Z = w.alloc (.cells #[.int .i64 s, .slice p n c, .int .i64 e] 32) := ⟨_, rfl⟩
  have B0 : Z.heap[w.heap.size]? = some (.cells #[.int .i64 s, .slice p n c, .int .i64 e] 32 (0, 0)) := by rw [hZ]; exact heap_alloc_new w _
  rw [← hZ] at A0
  have N0 := hv.keep A0
  obtain ⟨g0, g1, g2, -, -, -⟩ := res_facts B0
  have o1 := order_self (x := y) (Nat.le_of_lt hyf)
  have o2 := some_of (fsub_self hyf)
  have o3 : fsub y y = 0 := by unfold fsub; rw [fsub_self hyf]; rfl
  have o4 : FloatKind.f64.format.order 0 0 = some .eq := rfl
  have h1 : 100000 ≤ 900000000 := by omega
  have h2 : 100000 + 1 ≤ 900000000 := by omega
  have N1 := N0.more hk
  have HR := Lib.hid (fun (Y : World) (h : Kp Z Y) => roundsT x hx Y (N0.keep h.out) hk hs hR)
  have HO1 := Lib.hid (fun (Y : World) => (ofT x hx Y).mono fun _ _ (h : RetT 2000 (ov x) Y _ _) => h.to (show 2000 ≤ 100000 by omega) rfl)
  have HO2 := Lib.hid (fun (Y : World) => (ofT y hy Y).mono fun _ _ (h : RetT 2000 (ov y) Y _ _) => h.to (show 2000 ≤ 100000 + 1 by omega) rfl)
  have HS := Lib.hid (fun (Y : World) (h : Kp Z Y) (u : Value) (hn : NumT Y u 100000 (ov x)) => subT (N1.keep h.out) hn h1)
  have HC := Lib.hid (fun (Y : World) (v u : Value) (hn : NumT Y v (100000 + 1) (q - ov x)) (hm : NumT Y u (100000 + 1) (ov y)) => cmp0 hrest hn hm h2)
  have HRR := Lib.hid hrest
  clear hv hs hR hrest N0 N1 B0
  go_enter Try.func39, Try.ntmps39
  go_upto_region 1 with (fail)
  rw [← hZ]
  clear hZ
  go_region_held3 (fun w' => w'.cell? ⟨w.heap.size, 0, none⟩ = some (.int .i64 s) ∧ w'.cell? ⟨w.heap.size, 1, none⟩ = some (.slice p n c) ∧ w'.cell? ⟨w.heap.size, 2, none⟩ = some (.int .i64 e) ∧ Kp Z w')
    (refine ⟨?_, ?_, ?_, ?_⟩ <;> first | exact keep_cell hbE (keep_cell hbD (keep_cell hbC (keep_cell hbB (keep_cell hbA g0)))) | exact keep_cell hbE (keep_cell hbD (keep_cell hbC (keep_cell hbB (keep_cell hbA g1)))) | exact keep_cell hbE (keep_cell hbD (keep_cell hbC (keep_cell hbB (keep_cell hbA g2)))) | exact ((((((Kp.refl _).drew).step hbA).step hbB).step hbC).step hbD).step hbE | exact keep_cell hbD (keep_cell hbC (keep_cell hbB (keep_cell hbA g0))) | exact keep_cell hbD (keep_cell hbC (keep_cell hbB (keep_cell hbA g1))) | exact keep_cell hbD (keep_cell hbC (keep_cell hbB (keep_cell hbA g2))) | exact (((((Kp.refl _).drew).step hbA).step hbB).step hbC).step hbD | exact keep_cell hbC (keep_cell hbB (keep_cell hbA g0)) | exact keep_cell hbC (keep_cell hbB (keep_cell hbA g1)) | exact keep_cell hbC (keep_cell hbB (keep_cell hbA g2)) | exact ((((Kp.refl _).drew).step hbA).step hbB).step hbC | exact keep_cell hbB (keep_cell hbA g0) | exact keep_cell hbB (keep_cell hbA g1) | exact keep_cell hbB (keep_cell hbA g2) | exact (((Kp.refl _).drew).step hbA).step hbB | exact keep_cell hbA g0 | exact keep_cell hbA g1 | exact keep_cell hbA g2 | exact ((Kp.refl _).drew).step hbA | exact g0 | exact g1 | exact g2 | exact (Kp.refl _).drew)
    (first
      | (go_at_call 46; ((with_reducible refine (HR.out _ ?hq1).mono ?_); (case hq1 => exact (Kp.refl _).drew); rintro t wa ⟨rfl, hbA⟩))
      | (go_at_call 30; ((with_reducible refine (HS.out _ ?hq3 _ hNB).mono ?_); (case hq3 => exact ((Kp.refl _).drew.step hbA).step hbB); rintro t wc ⟨vc, rfl, hNC, hbC⟩))
      | (go_at_call 18; ((with_reducible refine (HC.out _ _ _ (hNC.keep hbD) hND).mono ?_); rintro t we ⟨rfl, hbE⟩))
      | (go_at_call 20; first
          | ((with_reducible refine (HO1.out _).mono ?_); rintro t wb ⟨vb, rfl, hNB, hbB⟩)
          | ((with_reducible refine (HO2.out _).mono ?_); rintro t wd ⟨vd, rfl, hND, hbD⟩)))
  go_wp2_with fail
  go_ret
  exact ⟨rfl, A0.trans ((((((Kp.refl _).drew.step hbA).step hbB).step hbC).step hbD).step hbE |>.out.mono A0.size)⟩

/-- What was rounded to h, and what was rounded off: l. -/
theorem rest_facts {h l : Nat} {t : Int} (rh : rung h < inf) (rl : rung l < inf) (vh : fv h = Rn t) (vl : fv l = t - Rn t) {q : Rat} (hq : q = (t : Rat) * uu) :
    (rung h = 0 ∨ sgn h = decide (q < 0)) ∧ RndQ (if q < 0 then -q else q) (rung h) ∧ rs (q - ov h - ov l) = 0 := by
  have hu := uu_pos
  have hlt : q < 0 ↔ t < 0 := by
    constructor
    · intro hc
      apply Classical.byContradiction
      intro hn
      have h0 : (0 : Rat) ≤ (t : Rat) := by rw [← Rat.intCast_zero]; exact Rat.intCast_le_intCast.2 (by omega)
      have := Rat.mul_nonneg h0 (Rat.le_of_lt hu)
      grind
    · intro hc
      have h0 : (t : Rat) < 0 := by rw [← Rat.intCast_zero]; exact Rat.intCast_lt_intCast.2 hc
      have := Rat.mul_lt_mul_of_pos_right h0 hu
      grind
  have hr : rung h = rndAt 0 t.natAbs := by
    apply mag_inj
    rw [← fv_natAbs, vh, Rn_natAbs]
  refine ⟨?_, ?_, ?_⟩
  · by_cases hz : rung h = 0
    · exact Or.inl hz
    · right
      have hm : 0 < mag (rung h) := by have := mag_lt (r := 0) (s := rung h) (by omega); rw [mag_zero] at this; exact this
      by_cases ht : t < 0
      · rw [decide_eq_true (hlt.2 ht)]
        have h1 : fv h ≤ 0 := by rw [vh]; exact Rn_nonpos_of (by omega)
        cases hc : sgn h
        · unfold fv sm at h1; rw [hc] at h1; simp at h1; omega
        · rfl
      · rw [decide_eq_false (fun hc => ht (hlt.1 hc))]
        have h1 : 0 ≤ fv h := by rw [vh]; exact Rn_nonneg_of (by omega)
        cases hc : sgn h
        · rfl
        · unfold fv sm at h1; rw [hc] at h1; simp at h1; omega
  · have e : (if q < 0 then -q else q) = (t.natAbs : Rat) * (2 : Rat) ^ (-1074 - ((0 : Nat) : Int)) := by
      have e1 : (2 : Rat) ^ (-1074 - ((0 : Nat) : Int)) = uu := rfl
      rw [e1]
      by_cases ht : t < 0
      · rw [if_pos (hlt.2 ht), hq, ← Rat.neg_mul, ← Rat.intCast_neg, ← Rat.intCast_natCast]; congr 2; omega
      · rw [if_neg (fun hc => ht (hlt.1 hc)), hq, ← Rat.intCast_natCast]; congr 2; omega
    rw [e]
    have := near_q (near_rnd 0 t.natAbs)
    rwa [← hr, Nat.min_eq_left (by omega)] at this
  · have e : q - ov h - ov l = 0 := by
      unfold ov
      rw [if_pos rh, if_pos rl, vh, vl, hq, Rat.intCast_sub]
      change (t : Rat) * uu - (Rn t : Rat) * uu - ((t : Rat) - (Rn t : Rat)) * uu = 0
      grind
    rw [e]; rfl
end Go.Proofs.Ytojbheanfcdjoaa
