/- Texts of one kind, joined. -/
import Derived.Test.YtiihokgjplpceaaDoorWkN
import Derived.Deep.RegionHeld3
import Derived.Deep.DeepCutAuto
import Derived.OwnWalk
import Derived.Laws.AppendOwn

section
/- The reference's sum, walked. -/
namespace Go.Proofs.YtiihokgjplpceaaDoor
open Go.RowKit TV
set_option linter.unusedVariables false

theorem neg_calls (s e : Int) (sl : Value) (hs : s = 0 ∨ s = 1 ∨ s = -1) (w : World) (hsl : ∃ p n cap, sl = .slice p n cap) :
    Calls Tryd.prog 47 #[.agg #[.int .i64 s, sl, .int .i64 e]] w fun x w' => x = .returned (.agg #[.int .i64 (-s), sl, .int .i64 e]) ∧ Below w.heap.size w w' := by
  obtain ⟨p, n, cap, rfl⟩ := hsl
  have h1 : -1 ≤ s := by omega
  have h2 : s ≤ 1 := by omega
  clear hs
  go_enter Tryd.func47, Tryd.ntmps47
  go_wp2
  refine bodyPost_ret (v := .agg #[.int .i64 (-s), .slice p n cap, .int .i64 e]) (by simp [results, Tryd.results47, go_sem]) rfl ?_
  exact ⟨rfl, ((Below.refl _ _).alloc (Nat.le_refl _) _).alloc (by simp) _⟩

def AddPost (s : Int) (a b : List Int) (e g σ : Int) (w : World) (x : Ending) (w' : World) : Prop :=
  ∃ s' sl' ds' e' os, x = .returned (.agg #[.int .i64 s', sl', .int .i64 e']) ∧ Sl w' sl' (ds'.map (Value.int .i64)) ∧ Below w.heap.size w w' ∧ TrimOf s os (min e g) s' ds' e' ∧ Dok os ∧
    (os.length : Int) = max (e + a.length) (g + b.length) - min e g + 1 ∧ dval os = V a e (min e g) os.length + σ * V b g (min e g) os.length ∧ In (fun b => w.heap.size ≤ b) sl'

set_option maxRecDepth 100000 in
set_option maxHeartbeats 1000000 in
theorem add_like (s t e g σ : Int) (sl sm : Value) (a b : List Int) (w : World) (hs : Sl w sl (a.map (Value.int .i64))) (ht : Sl w sm (b.map (Value.int .i64)))
    (ha : Dok a) (hb : Dok b) (he : -1000000000 ≤ e) (he2 : e + a.length ≤ 1000000000) (hg : -1000000000 ≤ g) (hg2 : g + b.length ≤ 1000000000) (hs1 : s = 1 ∨ s = -1) (ht1 : t = 1 ∨ t = -1)
    (hσ : s = t ∧ σ = 1) :
    Calls Tryd.prog 46 #[.agg #[.int .i64 s, sl, .int .i64 e], .agg #[.int .i64 t, sm, .int .i64 g]] w (AddPost s a b e g σ w) := by
  obtain ⟨f, hf⟩ : ∃ f, f = min e g := ⟨_, rfl⟩
  obtain ⟨u, hu⟩ : ∃ u, u = max (e + (a.length : Int)) (g + (b.length : Int)) := ⟨_, rfl⟩
  have hz := fun w0 (k1 : Sl w0 sl (a.map (Value.int .i64))) (k2 : Sl w0 sm (b.map (Value.int .i64))) => size_calls s t e g sl sm a b w0 k1 k2 ha hb he he2 hg hg2
  unfold SizePost at hz
  unfold AddPost
  simp only [← hf, ← hu] at hσ ⊢
  simp only [← hf, ← hu] at hz
  obtain ⟨n, hn⟩ : ∃ n : Nat, u = f + n := ⟨(u - f).toNat, by omega⟩
  simp only [show (u - f).toNat = n by omega] at hσ hz
  obtain ⟨p1, c1, rfl⟩ := hs.formMap
  obtain ⟨p2, c2, rfl⟩ := ht.formMap
  have hW : Below w.heap.size w (((w.alloc (.cells #[.int .i64 s, .slice p1 a.length c1, .int .i64 e] 42)).alloc (.cells #[.int .i64 t, .slice p2 b.length c2, .int .i64 g] 42)).alloc (.cells #[.int .i64 0, .slice none 0 0, .int .i64 0] 42)) := (((Below.refl w.heap.size w).alloc (Nat.le_refl _) _).alloc (by simp) _).alloc (by simp; omega) _
  have hmin : (if g < e then g else e) = f := by rw [hf]; split <;> omega
  have hmax : (if e + (a.length : Int) < g + (b.length : Int) then g + (b.length : Int) else e + (a.length : Int)) = u := by rw [hu]; split <;> omega
  have f1 : -1000000000 ≤ f := by omega
  have f2 : f ≤ 1000000000 := by omega
  have u1 : -1000000000 ≤ u := by omega
  have u2 : u ≤ 1000000000 := by omega
  have hn0 : n ≤ 2000000000 := by omega
  have HN := Lib.hid hn
  clear hf hu hn
  have q1 : (s == 0) = false := by simp; omega
  have q2 : ¬ s = 0 := by omega
  have q3 : (t == 0) = false := by simp; omega
  have q4 : ¬ t = 0 := by omega
  clear hs1 ht1
  have HZ := Lib.hid hz
  clear hz
  obtain ⟨rfl, hσ⟩ := hσ
  have HS := Lib.hid hσ
  clear hσ
  go_enter Tryd.func46, Tryd.ntmps46
  go_upto_region 7 with (fail)
  go_cut [5] (fun v wx => v = .int .i64 1 ∧ Below (w.heap.size + 3) (((w.alloc (.cells #[.int .i64 s, .slice p1 a.length c1, .int .i64 e] 42)).alloc (.cells #[.int .i64 s, .slice p2 b.length c2, .int .i64 g] 42)).alloc (.cells #[.int .i64 0, .slice none 0 0, .int .i64 0] 42)) wx)
  case first =>
    go_wp2_with fail
    go_meet
    exact ⟨rfl, Below.refl _ _⟩
  case rest =>
    obtain ⟨rfl, hbl⟩ := hcut
    obtain ⟨wz, rfl⟩ : ∃ wz : World, wz = wc := ⟨_, rfl⟩
    obtain ⟨hcl, hfl⟩ := bcellB hbl
    have hsz : w.heap.size + 3 ≤ wz.heap.size := by have := hbl.size; simpa using this
    have hbw : Below w.heap.size w wz := hW.trans (hbl.mono (by omega))
    go_wp2_with fail
    go_loopw [9, 10, 11] (fun c i _ wr => ∃ (k : Nat) (cr : Int) (os : List Int) (ov : Value), k ≤ n + 1 ∧ i = .int .i64 (f + (k : Int)) ∧ c = .int .i64 cr ∧ -1 ≤ cr ∧ cr ≤ 1 ∧ os.length = k ∧ Dok os ∧
        dval os + cr * 16777216 ^ k = V a e f k + 1 * V b g f k ∧
        wr.ownsRow (wz.heap.size + 1) 2 1 ov k (os.map (Value.int .i64)) ∧ wr.heap[wz.heap.size]? = some (.cells #[.int .i64 s, ov, .int .i64 f] 42 (0, 0)) ∧ Below wz.heap.size wz wr)
      (fun _ i _ _ => (u + 1 - intOf i).toNat)
    case atStart => exact ⟨0, 0, [], _, Nat.zero_le _, by simp, rfl, by omega, by omega, rfl, fun i => by simp, by simp [V, dval], ⟨rfl, Or.inl ⟨rfl, rfl⟩⟩, heap_alloc_new _ _, (Below.refl _ _).alloc (Nat.le_refl _) _⟩
    case round =>
      obtain ⟨wq, rfl⟩ : ∃ wq : World, wq = wr := ⟨_, rfl⟩
      obtain ⟨k, cr, os, ov, hk, rfl, rfl, hc1, hc2, hol, hod, hval, hown, hblk, hbr⟩ := hrel
      have HV := Lib.hid hval
      have HD := Lib.hid hod
      clear hval hod
      have hbr3 : Below (w.heap.size + 3) (((w.alloc (.cells #[.int .i64 s, .slice p1 a.length c1, .int .i64 e] 42)).alloc (.cells #[.int .i64 s, .slice p2 b.length c2, .int .i64 g] 42)).alloc (.cells #[.int .i64 0, .slice none 0 0, .int .i64 0] 42)) wq := hbl.trans (hbr.mono hsz)
      obtain ⟨hcl3, hfl3⟩ := bcellB hbr3
      have g0 : wq.cell? ⟨w.heap.size, 0, none⟩ = some (.int .i64 s) := by rw [hcl3 _ _ (by omega)]; simp [go_sem]
      have g1 : wq.cell? ⟨w.heap.size, 1, none⟩ = some (.slice p1 a.length c1) := by rw [hcl3 _ _ (by omega)]; simp [go_sem]
      have g2 : wq.cell? ⟨w.heap.size, 2, none⟩ = some (.int .i64 e) := by rw [hcl3 _ _ (by omega)]; simp [go_sem]
      have g3 : wq.cell? ⟨w.heap.size + 1, 0, none⟩ = some (.int .i64 s) := by rw [hcl3 _ _ (by omega)]; simp [go_sem]
      have g4 : wq.cell? ⟨w.heap.size + 1, 1, none⟩ = some (.slice p2 b.length c2) := by rw [hcl3 _ _ (by omega)]; simp [go_sem]
      have g5 : wq.cell? ⟨w.heap.size + 1, 2, none⟩ = some (.int .i64 g) := by rw [hcl3 _ _ (by omega)]; simp [go_sem]
      have hwr : wz.heap.size ≤ wq.heap.size := hbr.size
      have hbwr : Below w.heap.size w wq := hbw.trans (hbr.mono (by have := hbw.size; omega))
      have hs1 := hs.keep hbwr
      have ht1 := ht.keep hbwr
      have hb0 := block_lt hblk
      clear hcl hfl hcl3 hfl3
      obtain ⟨q, cap, rfl⟩ := own_form hown
      by_cases hlt : k ≤ n
      · have l1 := dg_bound ha e (f + k)
        have l2 := dg_bound hb g (f + k)
        obtain ⟨l11, l12⟩ := l1
        obtain ⟨l21, l22⟩ := l2
        have HU : (f + (k : Int) ≤ u) = True := by simp; have := HN.out; omega
        have HD1 := Lib.hid (fun (W : World) (hW1 : Kp wq W) => digit_calls s e (f + (k : Int)) (.slice p1 a.length c1) a W (hs1.keep hW1.out) (by omega) (by omega) (by omega) (by omega))
        have HD2 := Lib.hid (fun (W : World) (hW1 : Kp wq W) => digit_calls s g (f + (k : Int)) (.slice p2 b.length c2) b W (ht1.keep hW1.out) (by omega) (by omega) (by omega) (by omega))
        go_upto_region 17 with (fail)
        go_cut [11] (fun v wx => v = .int .i64 (dg a e (f + k) + 1 * dg b g (f + k) + cr) ∧ Below wq.heap.size wq wx)
        case first =>
          go_region_held3 (fun w' => w'.cell? ⟨w.heap.size, 0, none⟩ = some (.int .i64 s) ∧ w'.cell? ⟨w.heap.size, 1, none⟩ = some (.slice p1 a.length c1) ∧ w'.cell? ⟨w.heap.size, 2, none⟩ = some (.int .i64 e) ∧
              w'.cell? ⟨w.heap.size + 1, 0, none⟩ = some (.int .i64 s) ∧ w'.cell? ⟨w.heap.size + 1, 1, none⟩ = some (.slice p2 b.length c2) ∧ w'.cell? ⟨w.heap.size + 1, 2, none⟩ = some (.int .i64 g) ∧ Kp wq w')
            (refine ⟨?_, ?_, ?_, ?_, ?_, ?_, ?_⟩ <;> first | exact keep_cell hbB (keep_cell hbA g0) | exact keep_cell hbB (keep_cell hbA g1) | exact keep_cell hbB (keep_cell hbA g2) | exact keep_cell hbB (keep_cell hbA g3) | exact keep_cell hbB (keep_cell hbA g4) | exact keep_cell hbB (keep_cell hbA g5) | exact ((Kp.refl _).drew.step hbA).step hbB | exact keep_cell hbA g0 | exact keep_cell hbA g1 | exact keep_cell hbA g2 | exact keep_cell hbA g3 | exact keep_cell hbA g4 | exact keep_cell hbA g5 | exact (Kp.refl _).drew.step hbA | exact g0 | exact g1 | exact g2 | exact g3 | exact g4 | exact g5 | exact (Kp.refl _).drew)
            (first
              | (go_at_call 60; ((with_reducible refine (HD1.out _ ?hq1).mono ?_); (case hq1 => exact (Kp.refl _).drew); rintro x w' ⟨rfl, hbA⟩))
              | (go_at_call 60; ((with_reducible refine (HD2.out _ ?hq2).mono ?_); (case hq2 => exact (Kp.refl _).drew.step hbA); rintro x w' ⟨rfl, hbB⟩)))
          all_goals (go_wp2_with fail; go_meet; refine ⟨ikey ?_, (((Kp.refl _).drew.step hbA).step hbB).out⟩)
          all_goals first | omega | (simp only [IntKind.wrap_i64]; omega) | (unfold IntKind.wrap; simp [IntKind.signed, IntKind.bits]; omega) | (trace_state; fail)
        case rest =>
          obtain ⟨rfl, hbx⟩ := hcut
          obtain ⟨wx, rfl⟩ : ∃ wx : World, wx = wc := ⟨_, rfl⟩
          obtain ⟨v0, hv0⟩ : ∃ v0, v0 = dg a e (f + k) + 1 * dg b g (f + k) + cr := ⟨_, rfl⟩
          have r1 : -16777216 ≤ v0 := by omega
          have r2 : v0 ≤ 33554431 := by omega
          have HV0 := Lib.hid hv0
          have HX : Hid (Value.int .i64 (dg a e (f + k) + 1 * dg b g (f + k) + cr) = Value.int .i64 v0) := ikey hv0.symm
          clear hv0 l11 l12 l21 l22 g0 g1 g2 g3 g4 g5
          rw [HX.out]
          go_wp2_with fail
          go_loop [9, 11] (fun c v => ∃ cc vv : Int, c = .int .i64 cc ∧ v = .int .i64 vv ∧ vv + 16777216 * cc = v0 ∧ -1 ≤ cc ∧ cc ≤ 0 ∧ (cc = 0 ∨ 0 ≤ vv) ∧ -16777216 ≤ vv ∧ vv ≤ 33554431) (fun _ v => (-intOf v).toNat)
          case atStart => exact ⟨0, v0, rfl, rfl, by omega, by omega, by omega, Or.inl rfl, r1, r2⟩
          case round =>
            obtain ⟨cc, vv, rfl, rfl, e1, e2, e3, e4, e5, e6⟩ := hrel
            have E1 := Lib.hid e1
            have E4 := Lib.hid e4
            clear e1 e4
            by_cases hneg : vv < 0
            · go_wp2_with fail
              go_round
              case rel => exact ⟨cc - 1, vv + 16777216, rfl, rfl, by have := E1.out; omega, by have := E4.out; omega, by omega, Or.inr (by omega), by omega, by omega⟩
              case measure => simp [intOf]; omega
            · go_wp2_with fail
              go_loop [9, 11] (fun c v => ∃ cc vv : Int, c = .int .i64 cc ∧ v = .int .i64 vv ∧ vv + 16777216 * cc = v0 ∧ -1 ≤ cc ∧ cc ≤ 1 ∧ (cc ≤ 0 ∨ vv < 16777216) ∧ 0 ≤ vv ∧ vv ≤ 33554431) (fun _ v => (intOf v).toNat)
              case atStart => exact ⟨cc, vv, rfl, rfl, E1.out, by omega, by omega, Or.inl (by omega), by omega, by omega⟩
              case round =>
                clear E1 E4 e2 e3 e5 e6 hneg
                obtain ⟨c9, v9, rfl, rfl, e1, e2, e3, e4, e5, e6⟩ := hrel
                have E1 := Lib.hid e1
                have E4 := Lib.hid e4
                clear e1 e4
                by_cases hbig : 16777216 ≤ v9
                · go_wp2_with fail
                  go_round
                  case rel => exact ⟨c9 + 1, v9 - 16777216, rfl, rfl, by have := E1.out; omega, by omega, by have := E4.out; omega, Or.inr (by omega), by omega, by omega⟩
                  case measure => simp [intOf]; omega
                · have hblkx : wx.heap[wz.heap.size]? = some (.cells #[.int .i64 s, .slice q k cap, .int .i64 f] 42 (0, 0)) := (hbx.block _ hb0).trans hblk
                  have x1 : wx.cell? ⟨wz.heap.size, 1, none⟩ = some (.slice q k cap) := cell_of_block hblkx 1
                  have hownx := own_keep hown hbx
                  have hszx := hbx.size
                  obtain ⟨i0, hi, hz0, hz1, hz2⟩ := info_parts info_i64
                  have hlast : Hid ((v9 : Int) + 16777216 * c9 = v0) := E1.out
                  go_wp2_with (at_builtin; refine wpList_append_own _ rfl _ _ 40 rfl (wz.heap.size + 1) 2 i0 (.int .i64 0) 1 8 Tryd.underlying40 hi hz0 hz1 hz2 rfl (by decide) _ _ _ rfl (hownx.alloc _) ⟨wx.heap.size, 0, none⟩ 1 1 [.int .i64 v9] rfl rfl ?k1 ?k2 ?k3 ?k4 ?k5 ?_)
                  case k2 => simp [Value.oneCell']
                  case k3 => unfold maxLen; omega
                  case k4 => omega
                  case k5 => first | omega | (simp; omega)
                  intro ov' w2 hown2 hgrow _
                  obtain ⟨q', cap', rfl⟩ := own_form hown2
                  have hblk2 : w2.heap[wz.heap.size]? = some (.cells #[.int .i64 s, .slice q k cap, .int .i64 f] 42 (0, 0)) := by
                    rw [hgrow.block _ (by simp; omega) (fun he => by have := own_block hownx _ he.symm; omega), Below.heap_alloc _ _ _ (by omega)]; exact hblkx
                  have x2 : w2.cell? ⟨wz.heap.size, 1, none⟩ = some (.slice q k cap) := cell_of_block hblk2 1
                  have x3 : w2.frozen? ⟨wz.heap.size, 1, none⟩ = false := frozen_of_block hblk2 1
                  have hB : Below wz.heap.size wz w2 := ((hbr.trans (hbx.mono (by omega))).alloc (by omega) _).grown hgrow (by simp; omega) (fun j hj => by have := own_block hownx _ hj; omega)
                  have HV2 : Hid (dval (os ++ [v9]) + c9 * 16777216 ^ (k + 1) = V a e f (k + 1) + 1 * V b g f (k + 1)) := by
                    have h1 := HV.out
                    have h2 := HV0.out
                    have h3 := hlast.out
                    show _ = _
                    rw [dval_append, hol, V, V, Int.pow_succ]
                    have h4 : v9 = dg a e (f + k) + 1 * dg b g (f + k) + cr - 16777216 * c9 := by omega
                    simp only [dval]
                    rw [h4]
                    grind
                  have HD2 : Hid (Dok (os ++ [v9])) := by
                    intro i
                    have := HD.out i
                    by_cases hi1 : i < os.length
                    · rw [List.getD_eq_getElem?_getD, List.getElem?_append_left hi1, ← List.getD_eq_getElem?_getD]; exact this
                    · rw [List.getD_eq_getElem?_getD, List.getElem?_append_right (by omega)]
                      by_cases hi2 : i = os.length
                      · subst hi2; simp; omega
                      · rw [List.getElem?_eq_none (by simp; omega)]; simp
                  clear hlast
                  go_wp2_with fail
                  go_roundw
                  case rel => exact ⟨k + 1, c9, os ++ [v9], _, by omega, ikey (by omega), rfl, by omega, by omega, by simp [hol], HD2.out, HV2.out, by
                      rw [List.map_append]; exact ownsRow_setCell_below hown2 (by simp) _, by
                      have := setCell_block hblk2 1 (.slice q' (k + 1) cap'); simpa using this, hB.setCell (by simp) _⟩
                  case measure => simp [intOf]; have := HN.out; omega
      · have HU : (f + (k : Int) ≤ u) = False := by simp; have := HN.out; omega
        have c00 : wq.cell? ⟨wz.heap.size, 0, none⟩ = some (.int .i64 s) := cell_of_block hblk 0
        have c01 : wq.cell? ⟨wz.heap.size, 1, none⟩ = some (.slice q k cap) := cell_of_block hblk 1
        have c02 : wq.cell? ⟨wz.heap.size, 2, none⟩ = some (.int .i64 f) := cell_of_block hblk 2
        have hres : wq.heap[w.heap.size + 2]? = some (.cells #[.int .i64 0, .slice none 0 0, .int .i64 0] 42 (0, 0)) := by
          rw [hbr3.block _ (by omega)]
          have := heap_alloc_new ((w.alloc (.cells #[.int .i64 s, .slice p1 a.length c1, .int .i64 e] 42)).alloc (.cells #[.int .i64 s, .slice p2 b.length c2, .int .i64 g] 42)) (.cells #[.int .i64 0, .slice none 0 0, .int .i64 0] 42)
          simpa using this
        have hsl := own_sl hown
        have hkn : Hid (k = n + 1) := by show k = n + 1; omega
        go_wp2_with fail
        rw [← hol]
        refine (trim_calls s f (.slice q os.length cap) os wq (by rw [hol]; exact hsl) (by omega) (by omega)).mono ?_
        rintro x w1 ⟨s', sl', ds', e', rfl, hsl', hb1, htr, htk⟩
        obtain ⟨p', cap', rfl⟩ := hsl'.formMap
        have hres1 : w1.heap[w.heap.size + 2]? = some (.cells #[.int .i64 0, .slice none 0 0, .int .i64 0] 42 (0, 0)) := (hb1.block _ (block_lt hres)).trans hres
        have y0 : w1.cell? ⟨w.heap.size + 1 + 1, 0, none⟩ = some (.int .i64 0) := cell_of_block hres1 0
        have y1 : w1.cell? ⟨w.heap.size + 1 + 1, 1, none⟩ = some (.slice none 0 0) := cell_of_block hres1 1
        have y2 : w1.cell? ⟨w.heap.size + 1 + 1, 2, none⟩ = some (.int .i64 0) := cell_of_block hres1 2
        have z0 : w1.frozen? ⟨w.heap.size + 1 + 1, 0, none⟩ = false := frozen_of_block hres1 0
        have z1 : w1.frozen? ⟨w.heap.size + 1 + 1, 1, none⟩ = false := frozen_of_block hres1 1
        have z2 : w1.frozen? ⟨w.heap.size + 1 + 1, 2, none⟩ = false := frozen_of_block hres1 2
        go_wp2_with fail
        have hF := setCell_block (setCell_block (setCell_block hres1 0 (.int .i64 s')) 1 (.slice p' ds'.length cap')) 2 (.int .i64 e')
        have r0 := (cell_of_block hF 0).trans (by simp : _ = some (Value.int .i64 s'))
        have r1 := (cell_of_block hF 1).trans (by simp : _ = some (Value.slice p' ds'.length cap'))
        have r2 := (cell_of_block hF 2).trans (by simp : _ = some (Value.int .i64 e'))
        refine bodyPost_ret (v := .agg #[.int .i64 s', .slice p' ds'.length cap', .int .i64 e']) (by simp [results, Tryd.results46, go_sem, r0, r1, r2]) rfl ?_
        have hin : In (fun b => wz.heap.size + 1 ≤ b) (.slice p' ds'.length cap') := htk _ (fun ad _ _ he => by cases he; exact own_block hown _ rfl)
        refine ⟨s', _, ds', e', os, rfl, ?_, ?_, htr, HD.out, ?_, ?_, hin.mono (fun _ h => by have := hbw.size; omega)⟩
        · exact ((hsl'.put hin (by simp; omega) _).put hin (by simp; omega) _).put hin (by simp; omega) _
        · exact (((hbwr.trans (hb1.mono (by have := hbwr.size; omega))).setCell (by simp; omega) _).setCell (by simp; omega) _).setCell (by simp; omega) _
        · have := HN.out; have := hkn.out; rw [hol]; omega
        · have h1 := HV.out
          have h2 := hkn.out
          have h3 := HS.out
          rw [hol, h3]
          have hda := dval_nonneg HD.out
          have hdb := dval_lt HD.out
          rw [hol] at hdb
          have a1 := V_bound ha e f k
          have b1 := V_bound hb g f k
          have hu1 : e + (a.length : Int) ≤ u := by rw [← hmax]; split <;> omega
          have hu2 : g + (b.length : Int) ≤ u := by rw [← hmax]; split <;> omega
          have hnn := HN.out
          have t1 : V a e f k = V a e f n := by
            have : dg a e (f + n) = 0 := by unfold dg; rw [if_pos (Or.inr (by omega))]
            rw [h2, V, this]; omega
          have t2 : V b g f k = V b g f n := by
            have : dg b g (f + n) = 0 := by unfold dg; rw [if_pos (Or.inr (by omega))]
            rw [h2, V, this]; omega
          have a2 := V_bound ha e f n
          have b2 := V_bound hb g f n
          have hp : (16777216 : Int) ^ k = 16777216 ^ n * 16777216 := by rw [h2, Int.pow_succ]
          have hpn := B_pos n
          rw [t1, t2, hp] at h1
          rw [t1, t2]
          rw [hp] at hdb
          clear a1 b1 t1 t2 hp
          generalize (16777216 : Int) ^ n = P at *
          have hcr : cr = -1 ∨ cr = 0 ∨ cr = 1 := by omega
          rcases hcr with rfl | rfl | rfl <;> omega

set_option maxRecDepth 100000 in
set_option maxHeartbeats 1000000 in
theorem add_unlike (s t e g σ : Int) (sl sm : Value) (a b : List Int) (w : World) (hs : Sl w sl (a.map (Value.int .i64))) (ht : Sl w sm (b.map (Value.int .i64)))
    (ha : Dok a) (hb : Dok b) (he : -1000000000 ≤ e) (he2 : e + a.length ≤ 1000000000) (hg : -1000000000 ≤ g) (hg2 : g + b.length ≤ 1000000000) (hs1 : s = 1 ∨ s = -1) (ht1 : t = 1 ∨ t = -1)
    (hσ : s ≠ t ∧ σ = -1 ∧ 0 ≤ sg (V a e (min e g) (max (e + a.length) (g + b.length) - min e g).toNat - V b g (min e g) (max (e + a.length) (g + b.length) - min e g).toNat)) :
    Calls Tryd.prog 46 #[.agg #[.int .i64 s, sl, .int .i64 e], .agg #[.int .i64 t, sm, .int .i64 g]] w (AddPost s a b e g σ w) := by
  obtain ⟨f, hf⟩ : ∃ f, f = min e g := ⟨_, rfl⟩
  obtain ⟨u, hu⟩ : ∃ u, u = max (e + (a.length : Int)) (g + (b.length : Int)) := ⟨_, rfl⟩
  have hz := fun w0 (k1 : Sl w0 sl (a.map (Value.int .i64))) (k2 : Sl w0 sm (b.map (Value.int .i64))) => size_calls s t e g sl sm a b w0 k1 k2 ha hb he he2 hg hg2
  unfold SizePost at hz
  unfold AddPost
  simp only [← hf, ← hu] at hσ ⊢
  simp only [← hf, ← hu] at hz
  obtain ⟨n, hn⟩ : ∃ n : Nat, u = f + n := ⟨(u - f).toNat, by omega⟩
  simp only [show (u - f).toNat = n by omega] at hσ hz
  obtain ⟨p1, c1, rfl⟩ := hs.formMap
  obtain ⟨p2, c2, rfl⟩ := ht.formMap
  have hW : Below w.heap.size w (((w.alloc (.cells #[.int .i64 s, .slice p1 a.length c1, .int .i64 e] 42)).alloc (.cells #[.int .i64 t, .slice p2 b.length c2, .int .i64 g] 42)).alloc (.cells #[.int .i64 0, .slice none 0 0, .int .i64 0] 42)) := (((Below.refl w.heap.size w).alloc (Nat.le_refl _) _).alloc (by simp) _).alloc (by simp; omega) _
  have hmin : (if g < e then g else e) = f := by rw [hf]; split <;> omega
  have hmax : (if e + (a.length : Int) < g + (b.length : Int) then g + (b.length : Int) else e + (a.length : Int)) = u := by rw [hu]; split <;> omega
  have f1 : -1000000000 ≤ f := by omega
  have f2 : f ≤ 1000000000 := by omega
  have u1 : -1000000000 ≤ u := by omega
  have u2 : u ≤ 1000000000 := by omega
  have hn0 : n ≤ 2000000000 := by omega
  have HN := Lib.hid hn
  clear hf hu hn
  have q1 : (s == 0) = false := by simp; omega
  have q2 : ¬ s = 0 := by omega
  have q3 : (t == 0) = false := by simp; omega
  have q4 : ¬ t = 0 := by omega
  clear hs1 ht1
  have HZ := Lib.hid hz
  clear hz
  obtain ⟨hst, hσ, hsg⟩ := hσ
  have q5 : (s == t) = false := by simpa using hst
  have q7 : (s != t) = true := by simpa using hst
  have q6 : (sg (V a e f n - V b g f n) < 0) = False := by simp; omega
  have HS := Lib.hid hσ
  have HT := Lib.hid hst
  have HG := Lib.hid hsg
  clear hσ hst hsg
  go_enter Tryd.func46, Tryd.ntmps46
  go_upto_region 7 with (go_at_call 59; refine (HZ.out _ (hs.keep hW) (ht.keep hW)).mono ?_; rintro x w1 ⟨rfl, hb1⟩)
  go_cut [5] (fun v wx => v = .int .i64 1 ∧ Below (w.heap.size + 3) (((w.alloc (.cells #[.int .i64 s, .slice p1 a.length c1, .int .i64 e] 42)).alloc (.cells #[.int .i64 t, .slice p2 b.length c2, .int .i64 g] 42)).alloc (.cells #[.int .i64 0, .slice none 0 0, .int .i64 0] 42)) wx)
  case first =>
    go_wp2_with fail
    go_meet
    exact ⟨rfl, hb1.mono (by simp)⟩
  case rest =>
    obtain ⟨rfl, hbl⟩ := hcut
    obtain ⟨wz, rfl⟩ : ∃ wz : World, wz = wc := ⟨_, rfl⟩
    obtain ⟨hcl, hfl⟩ := bcellB hbl
    have hsz : w.heap.size + 3 ≤ wz.heap.size := by have := hbl.size; simpa using this
    have hbw : Below w.heap.size w wz := hW.trans (hbl.mono (by omega))
    go_wp2_with fail
    go_loopw [9, 10, 11] (fun c i _ wr => ∃ (k : Nat) (cr : Int) (os : List Int) (ov : Value), k ≤ n + 1 ∧ i = .int .i64 (f + (k : Int)) ∧ c = .int .i64 cr ∧ -1 ≤ cr ∧ cr ≤ 1 ∧ os.length = k ∧ Dok os ∧
        dval os + cr * 16777216 ^ k = V a e f k + -1 * V b g f k ∧
        wr.ownsRow (wz.heap.size + 1) 2 1 ov k (os.map (Value.int .i64)) ∧ wr.heap[wz.heap.size]? = some (.cells #[.int .i64 s, ov, .int .i64 f] 42 (0, 0)) ∧ Below wz.heap.size wz wr)
      (fun _ i _ _ => (u + 1 - intOf i).toNat)
    case atStart => exact ⟨0, 0, [], _, Nat.zero_le _, by simp, rfl, by omega, by omega, rfl, fun i => by simp, by simp [V, dval], ⟨rfl, Or.inl ⟨rfl, rfl⟩⟩, heap_alloc_new _ _, (Below.refl _ _).alloc (Nat.le_refl _) _⟩
    case round =>
      obtain ⟨wq, rfl⟩ : ∃ wq : World, wq = wr := ⟨_, rfl⟩
      obtain ⟨k, cr, os, ov, hk, rfl, rfl, hc1, hc2, hol, hod, hval, hown, hblk, hbr⟩ := hrel
      have HV := Lib.hid hval
      have HD := Lib.hid hod
      clear hval hod
      have hbr3 : Below (w.heap.size + 3) (((w.alloc (.cells #[.int .i64 s, .slice p1 a.length c1, .int .i64 e] 42)).alloc (.cells #[.int .i64 t, .slice p2 b.length c2, .int .i64 g] 42)).alloc (.cells #[.int .i64 0, .slice none 0 0, .int .i64 0] 42)) wq := hbl.trans (hbr.mono hsz)
      obtain ⟨hcl3, hfl3⟩ := bcellB hbr3
      have g0 : wq.cell? ⟨w.heap.size, 0, none⟩ = some (.int .i64 s) := by rw [hcl3 _ _ (by omega)]; simp [go_sem]
      have g1 : wq.cell? ⟨w.heap.size, 1, none⟩ = some (.slice p1 a.length c1) := by rw [hcl3 _ _ (by omega)]; simp [go_sem]
      have g2 : wq.cell? ⟨w.heap.size, 2, none⟩ = some (.int .i64 e) := by rw [hcl3 _ _ (by omega)]; simp [go_sem]
      have g3 : wq.cell? ⟨w.heap.size + 1, 0, none⟩ = some (.int .i64 t) := by rw [hcl3 _ _ (by omega)]; simp [go_sem]
      have g4 : wq.cell? ⟨w.heap.size + 1, 1, none⟩ = some (.slice p2 b.length c2) := by rw [hcl3 _ _ (by omega)]; simp [go_sem]
      have g5 : wq.cell? ⟨w.heap.size + 1, 2, none⟩ = some (.int .i64 g) := by rw [hcl3 _ _ (by omega)]; simp [go_sem]
      have hwr : wz.heap.size ≤ wq.heap.size := hbr.size
      have hbwr : Below w.heap.size w wq := hbw.trans (hbr.mono (by have := hbw.size; omega))
      have hs1 := hs.keep hbwr
      have ht1 := ht.keep hbwr
      have hb0 := block_lt hblk
      clear hcl hfl hcl3 hfl3
      obtain ⟨q, cap, rfl⟩ := own_form hown
      by_cases hlt : k ≤ n
      · have l1 := dg_bound ha e (f + k)
        have l2 := dg_bound hb g (f + k)
        obtain ⟨l11, l12⟩ := l1
        obtain ⟨l21, l22⟩ := l2
        have HU : (f + (k : Int) ≤ u) = True := by simp; have := HN.out; omega
        have HD1 := Lib.hid (fun (W : World) (hW1 : Kp wq W) => digit_calls s e (f + (k : Int)) (.slice p1 a.length c1) a W (hs1.keep hW1.out) (by omega) (by omega) (by omega) (by omega))
        have HD2 := Lib.hid (fun (W : World) (hW1 : Kp wq W) => digit_calls t g (f + (k : Int)) (.slice p2 b.length c2) b W (ht1.keep hW1.out) (by omega) (by omega) (by omega) (by omega))
        go_upto_region 17 with (fail)
        go_cut [11] (fun v wx => v = .int .i64 (dg a e (f + k) + -1 * dg b g (f + k) + cr) ∧ Below wq.heap.size wq wx)
        case first =>
          go_region_held3 (fun w' => w'.cell? ⟨w.heap.size, 0, none⟩ = some (.int .i64 s) ∧ w'.cell? ⟨w.heap.size, 1, none⟩ = some (.slice p1 a.length c1) ∧ w'.cell? ⟨w.heap.size, 2, none⟩ = some (.int .i64 e) ∧
              w'.cell? ⟨w.heap.size + 1, 0, none⟩ = some (.int .i64 t) ∧ w'.cell? ⟨w.heap.size + 1, 1, none⟩ = some (.slice p2 b.length c2) ∧ w'.cell? ⟨w.heap.size + 1, 2, none⟩ = some (.int .i64 g) ∧ Kp wq w')
            (refine ⟨?_, ?_, ?_, ?_, ?_, ?_, ?_⟩ <;> first | exact keep_cell hbB (keep_cell hbA g0) | exact keep_cell hbB (keep_cell hbA g1) | exact keep_cell hbB (keep_cell hbA g2) | exact keep_cell hbB (keep_cell hbA g3) | exact keep_cell hbB (keep_cell hbA g4) | exact keep_cell hbB (keep_cell hbA g5) | exact ((Kp.refl _).drew.step hbA).step hbB | exact keep_cell hbA g0 | exact keep_cell hbA g1 | exact keep_cell hbA g2 | exact keep_cell hbA g3 | exact keep_cell hbA g4 | exact keep_cell hbA g5 | exact (Kp.refl _).drew.step hbA | exact g0 | exact g1 | exact g2 | exact g3 | exact g4 | exact g5 | exact (Kp.refl _).drew)
            (first
              | (go_at_call 60; ((with_reducible refine (HD1.out _ ?hq1).mono ?_); (case hq1 => exact (Kp.refl _).drew); rintro x w' ⟨rfl, hbA⟩))
              | (go_at_call 60; ((with_reducible refine (HD2.out _ ?hq2).mono ?_); (case hq2 => exact (Kp.refl _).drew.step hbA); rintro x w' ⟨rfl, hbB⟩)))
          all_goals (go_wp2_with fail; go_meet; refine ⟨ikey ?_, (((Kp.refl _).drew.step hbA).step hbB).out⟩)
          all_goals first | omega | (simp only [IntKind.wrap_i64]; omega) | (unfold IntKind.wrap; simp [IntKind.signed, IntKind.bits]; omega) | (trace_state; fail)
        case rest =>
          obtain ⟨rfl, hbx⟩ := hcut
          obtain ⟨wx, rfl⟩ : ∃ wx : World, wx = wc := ⟨_, rfl⟩
          obtain ⟨v0, hv0⟩ : ∃ v0, v0 = dg a e (f + k) + -1 * dg b g (f + k) + cr := ⟨_, rfl⟩
          have r1 : -16777216 ≤ v0 := by omega
          have r2 : v0 ≤ 33554431 := by omega
          have HV0 := Lib.hid hv0
          have HX : Hid (Value.int .i64 (dg a e (f + k) + -1 * dg b g (f + k) + cr) = Value.int .i64 v0) := ikey hv0.symm
          clear hv0 l11 l12 l21 l22 g0 g1 g2 g3 g4 g5
          rw [HX.out]
          go_wp2_with fail
          go_loop [9, 11] (fun c v => ∃ cc vv : Int, c = .int .i64 cc ∧ v = .int .i64 vv ∧ vv + 16777216 * cc = v0 ∧ -1 ≤ cc ∧ cc ≤ 0 ∧ (cc = 0 ∨ 0 ≤ vv) ∧ -16777216 ≤ vv ∧ vv ≤ 33554431) (fun _ v => (-intOf v).toNat)
          case atStart => exact ⟨0, v0, rfl, rfl, by omega, by omega, by omega, Or.inl rfl, r1, r2⟩
          case round =>
            obtain ⟨cc, vv, rfl, rfl, e1, e2, e3, e4, e5, e6⟩ := hrel
            have E1 := Lib.hid e1
            have E4 := Lib.hid e4
            clear e1 e4
            by_cases hneg : vv < 0
            · go_wp2_with fail
              go_round
              case rel => exact ⟨cc - 1, vv + 16777216, rfl, rfl, by have := E1.out; omega, by have := E4.out; omega, by omega, Or.inr (by omega), by omega, by omega⟩
              case measure => simp [intOf]; omega
            · go_wp2_with fail
              go_loop [9, 11] (fun c v => ∃ cc vv : Int, c = .int .i64 cc ∧ v = .int .i64 vv ∧ vv + 16777216 * cc = v0 ∧ -1 ≤ cc ∧ cc ≤ 1 ∧ (cc ≤ 0 ∨ vv < 16777216) ∧ 0 ≤ vv ∧ vv ≤ 33554431) (fun _ v => (intOf v).toNat)
              case atStart => exact ⟨cc, vv, rfl, rfl, E1.out, by omega, by omega, Or.inl (by omega), by omega, by omega⟩
              case round =>
                clear E1 E4 e2 e3 e5 e6 hneg
                obtain ⟨c9, v9, rfl, rfl, e1, e2, e3, e4, e5, e6⟩ := hrel
                have E1 := Lib.hid e1
                have E4 := Lib.hid e4
                clear e1 e4
                by_cases hbig : 16777216 ≤ v9
                · go_wp2_with fail
                  go_round
                  case rel => exact ⟨c9 + 1, v9 - 16777216, rfl, rfl, by have := E1.out; omega, by omega, by have := E4.out; omega, Or.inr (by omega), by omega, by omega⟩
                  case measure => simp [intOf]; omega
                · have hblkx : wx.heap[wz.heap.size]? = some (.cells #[.int .i64 s, .slice q k cap, .int .i64 f] 42 (0, 0)) := (hbx.block _ hb0).trans hblk
                  have x1 : wx.cell? ⟨wz.heap.size, 1, none⟩ = some (.slice q k cap) := cell_of_block hblkx 1
                  have hownx := own_keep hown hbx
                  have hszx := hbx.size
                  obtain ⟨i0, hi, hz0, hz1, hz2⟩ := info_parts info_i64
                  have hlast : Hid ((v9 : Int) + 16777216 * c9 = v0) := E1.out
                  go_wp2_with (at_builtin; refine wpList_append_own _ rfl _ _ 40 rfl (wz.heap.size + 1) 2 i0 (.int .i64 0) 1 8 Tryd.underlying40 hi hz0 hz1 hz2 rfl (by decide) _ _ _ rfl (hownx.alloc _) ⟨wx.heap.size, 0, none⟩ 1 1 [.int .i64 v9] rfl rfl ?k1 ?k2 ?k3 ?k4 ?k5 ?_)
                  case k2 => simp [Value.oneCell']
                  case k3 => unfold maxLen; omega
                  case k4 => omega
                  case k5 => first | omega | (simp; omega)
                  intro ov' w2 hown2 hgrow _
                  obtain ⟨q', cap', rfl⟩ := own_form hown2
                  have hblk2 : w2.heap[wz.heap.size]? = some (.cells #[.int .i64 s, .slice q k cap, .int .i64 f] 42 (0, 0)) := by
                    rw [hgrow.block _ (by simp; omega) (fun he => by have := own_block hownx _ he.symm; omega), Below.heap_alloc _ _ _ (by omega)]; exact hblkx
                  have x2 : w2.cell? ⟨wz.heap.size, 1, none⟩ = some (.slice q k cap) := cell_of_block hblk2 1
                  have x3 : w2.frozen? ⟨wz.heap.size, 1, none⟩ = false := frozen_of_block hblk2 1
                  have hB : Below wz.heap.size wz w2 := ((hbr.trans (hbx.mono (by omega))).alloc (by omega) _).grown hgrow (by simp; omega) (fun j hj => by have := own_block hownx _ hj; omega)
                  have HV2 : Hid (dval (os ++ [v9]) + c9 * 16777216 ^ (k + 1) = V a e f (k + 1) + -1 * V b g f (k + 1)) := by
                    have h1 := HV.out
                    have h2 := HV0.out
                    have h3 := hlast.out
                    show _ = _
                    rw [dval_append, hol, V, V, Int.pow_succ]
                    have h4 : v9 = dg a e (f + k) + -1 * dg b g (f + k) + cr - 16777216 * c9 := by omega
                    simp only [dval]
                    rw [h4]
                    grind
                  have HD2 : Hid (Dok (os ++ [v9])) := by
                    intro i
                    have := HD.out i
                    by_cases hi1 : i < os.length
                    · rw [List.getD_eq_getElem?_getD, List.getElem?_append_left hi1, ← List.getD_eq_getElem?_getD]; exact this
                    · rw [List.getD_eq_getElem?_getD, List.getElem?_append_right (by omega)]
                      by_cases hi2 : i = os.length
                      · subst hi2; simp; omega
                      · rw [List.getElem?_eq_none (by simp; omega)]; simp
                  clear hlast
                  go_wp2_with fail
                  go_roundw
                  case rel => exact ⟨k + 1, c9, os ++ [v9], _, by omega, ikey (by omega), rfl, by omega, by omega, by simp [hol], HD2.out, HV2.out, by
                      rw [List.map_append]; exact ownsRow_setCell_below hown2 (by simp) _, by
                      have := setCell_block hblk2 1 (.slice q' (k + 1) cap'); simpa using this, hB.setCell (by simp) _⟩
                  case measure => simp [intOf]; have := HN.out; omega
      · have HU : (f + (k : Int) ≤ u) = False := by simp; have := HN.out; omega
        have c00 : wq.cell? ⟨wz.heap.size, 0, none⟩ = some (.int .i64 s) := cell_of_block hblk 0
        have c01 : wq.cell? ⟨wz.heap.size, 1, none⟩ = some (.slice q k cap) := cell_of_block hblk 1
        have c02 : wq.cell? ⟨wz.heap.size, 2, none⟩ = some (.int .i64 f) := cell_of_block hblk 2
        have hres : wq.heap[w.heap.size + 2]? = some (.cells #[.int .i64 0, .slice none 0 0, .int .i64 0] 42 (0, 0)) := by
          rw [hbr3.block _ (by omega)]
          have := heap_alloc_new ((w.alloc (.cells #[.int .i64 s, .slice p1 a.length c1, .int .i64 e] 42)).alloc (.cells #[.int .i64 t, .slice p2 b.length c2, .int .i64 g] 42)) (.cells #[.int .i64 0, .slice none 0 0, .int .i64 0] 42)
          simpa using this
        have hsl := own_sl hown
        have hkn : Hid (k = n + 1) := by show k = n + 1; omega
        go_wp2_with fail
        rw [← hol]
        refine (trim_calls s f (.slice q os.length cap) os wq (by rw [hol]; exact hsl) (by omega) (by omega)).mono ?_
        rintro x w1 ⟨s', sl', ds', e', rfl, hsl', hb1, htr, htk⟩
        obtain ⟨p', cap', rfl⟩ := hsl'.formMap
        have hres1 : w1.heap[w.heap.size + 2]? = some (.cells #[.int .i64 0, .slice none 0 0, .int .i64 0] 42 (0, 0)) := (hb1.block _ (block_lt hres)).trans hres
        have y0 : w1.cell? ⟨w.heap.size + 1 + 1, 0, none⟩ = some (.int .i64 0) := cell_of_block hres1 0
        have y1 : w1.cell? ⟨w.heap.size + 1 + 1, 1, none⟩ = some (.slice none 0 0) := cell_of_block hres1 1
        have y2 : w1.cell? ⟨w.heap.size + 1 + 1, 2, none⟩ = some (.int .i64 0) := cell_of_block hres1 2
        have z0 : w1.frozen? ⟨w.heap.size + 1 + 1, 0, none⟩ = false := frozen_of_block hres1 0
        have z1 : w1.frozen? ⟨w.heap.size + 1 + 1, 1, none⟩ = false := frozen_of_block hres1 1
        have z2 : w1.frozen? ⟨w.heap.size + 1 + 1, 2, none⟩ = false := frozen_of_block hres1 2
        go_wp2_with fail
        have hF := setCell_block (setCell_block (setCell_block hres1 0 (.int .i64 s')) 1 (.slice p' ds'.length cap')) 2 (.int .i64 e')
        have r0 := (cell_of_block hF 0).trans (by simp : _ = some (Value.int .i64 s'))
        have r1 := (cell_of_block hF 1).trans (by simp : _ = some (Value.slice p' ds'.length cap'))
        have r2 := (cell_of_block hF 2).trans (by simp : _ = some (Value.int .i64 e'))
        refine bodyPost_ret (v := .agg #[.int .i64 s', .slice p' ds'.length cap', .int .i64 e']) (by simp [results, Tryd.results46, go_sem, r0, r1, r2]) rfl ?_
        have hin : In (fun b => wz.heap.size + 1 ≤ b) (.slice p' ds'.length cap') := htk _ (fun ad _ _ he => by cases he; exact own_block hown _ rfl)
        refine ⟨s', _, ds', e', os, rfl, ?_, ?_, htr, HD.out, ?_, ?_, hin.mono (fun _ h => by have := hbw.size; omega)⟩
        · exact ((hsl'.put hin (by simp; omega) _).put hin (by simp; omega) _).put hin (by simp; omega) _
        · exact (((hbwr.trans (hb1.mono (by have := hbwr.size; omega))).setCell (by simp; omega) _).setCell (by simp; omega) _).setCell (by simp; omega) _
        · have := HN.out; have := hkn.out; rw [hol]; omega
        · have h1 := HV.out
          have h2 := hkn.out
          have h3 := HS.out
          rw [hol, h3]
          have hda := dval_nonneg HD.out
          have hdb := dval_lt HD.out
          rw [hol] at hdb
          have a1 := V_bound ha e f k
          have b1 := V_bound hb g f k
          have hu1 : e + (a.length : Int) ≤ u := by rw [← hmax]; split <;> omega
          have hu2 : g + (b.length : Int) ≤ u := by rw [← hmax]; split <;> omega
          have hnn := HN.out
          have t1 : V a e f k = V a e f n := by
            have : dg a e (f + n) = 0 := by unfold dg; rw [if_pos (Or.inr (by omega))]
            rw [h2, V, this]; omega
          have t2 : V b g f k = V b g f n := by
            have : dg b g (f + n) = 0 := by unfold dg; rw [if_pos (Or.inr (by omega))]
            rw [h2, V, this]; omega
          have a2 := V_bound ha e f n
          have b2 := V_bound hb g f n
          have hp : (16777216 : Int) ^ k = 16777216 ^ n * 16777216 := by rw [h2, Int.pow_succ]
          have hpn := B_pos n
          have hsgn : 0 ≤ V a e f n - V b g f n := by
            have := HG.out; unfold sg at this; split at this <;> omega
          rw [t1, t2, hp] at h1
          rw [t1, t2]
          rw [hp] at hdb
          clear a1 b1 t1 t2 hp
          generalize (16777216 : Int) ^ n = P at *
          have hcr : cr = -1 ∨ cr = 0 ∨ cr = 1 := by omega
          rcases hcr with rfl | rfl | rfl <;> omega
end Go.Proofs.YtiihokgjplpceaaDoor
end

section
/- The reference's numbers by what they tell: sums, differences, which is greater. -/
namespace Go.Proofs.YtiihokgjplpceaaDoor
open Go.RowKit TV
set_option linter.unusedVariables false

/-- A value of the reference's numbers, all its digits among the places -k to k, that tells q. -/
def NumV (P : Nat → Prop) (w : World) (v : Value) (k : Nat) (q : Rat) : Prop :=
  ∃ s sl ds e, v = .agg #[.int .i64 s, sl, .int .i64 e] ∧ Sl w sl (ds.map (Value.int .i64)) ∧ Nm s ds e k ∧ q = nv s ds e ∧ In P sl

def RetN (P : Nat → Prop) (k : Nat) (q : Rat) (w : World) (x : Ending) (w' : World) : Prop := ∃ v, x = .returned v ∧ NumV (fun b => P b ∨ w.heap.size ≤ b) w' v k q ∧ Below w.heap.size w w'

theorem NumV.keep {P : Nat → Prop} {w w1 : World} {v : Value} {k : Nat} {q : Rat} (h : NumV P w v k q) (hb : Below w.heap.size w w1) : NumV P w1 v k q := by
  obtain ⟨s, sl, ds, e, h1, h2, h3, h4⟩ := h; exact ⟨s, sl, ds, e, h1, h2.keep hb, h3, h4⟩
theorem NumV.more {P : Nat → Prop} {w : World} {v : Value} {k k' : Nat} {q : Rat} (h : NumV P w v k q) (hk : k ≤ k') : NumV P w v k' q := by
  obtain ⟨s, sl, ds, e, h1, h2, ⟨a1, a2, a3, a4⟩, h4⟩ := h; exact ⟨s, sl, ds, e, h1, h2, ⟨a1, a2, by omega, by omega⟩, h4⟩
theorem NumV.mono {P Q : Nat → Prop} {w : World} {v : Value} {k : Nat} {q : Rat} (h : NumV P w v k q) (hPQ : ∀ b, P b → Q b) : NumV Q w v k q := by
  obtain ⟨s, sl, ds, e, h1, h2, h3, h4, h5⟩ := h; exact ⟨s, sl, ds, e, h1, h2, h3, h4, h5.mono hPQ⟩

theorem zero_nv {ds : List Int} {e : Int} : nv 0 ds e = 0 := by unfold nv; simp

theorem add_zero_left (e : Int) (p : Option Addr) (n cap : Nat) (t g : Int) (p2 : Option Addr) (n2 cap2 : Nat) (w : World) :
    Calls Tryd.prog 46 #[.agg #[.int .i64 0, .slice p n cap, .int .i64 e], .agg #[.int .i64 t, .slice p2 n2 cap2, .int .i64 g]] w fun x w' => x = .returned (.agg #[.int .i64 t, .slice p2 n2 cap2, .int .i64 g]) ∧ Below w.heap.size w w' := by
  go_enter Tryd.func46, Tryd.ntmps46
  go_wp2
  refine bodyPost_ret (v := .agg #[.int .i64 t, .slice p2 n2 cap2, .int .i64 g]) (by simp [results, Tryd.results46, go_sem]) rfl ?_
  exact ⟨rfl, (((Below.refl _ _).alloc (Nat.le_refl _) _).alloc (by simp) _).alloc (by simp; omega) _⟩

theorem add_zero_right (s e : Int) (hs : ¬ s = 0) (p : Option Addr) (n cap : Nat) (g : Int) (p2 : Option Addr) (n2 cap2 : Nat) (w : World) :
    Calls Tryd.prog 46 #[.agg #[.int .i64 s, .slice p n cap, .int .i64 e], .agg #[.int .i64 0, .slice p2 n2 cap2, .int .i64 g]] w fun x w' => x = .returned (.agg #[.int .i64 s, .slice p n cap, .int .i64 e]) ∧ Below w.heap.size w w' := by
  have h1 : (s == 0) = false := by simpa using hs
  go_enter Tryd.func46, Tryd.ntmps46
  go_wp2
  refine bodyPost_ret (v := .agg #[.int .i64 s, .slice p n cap, .int .i64 e]) (by simp [results, Tryd.results46, go_sem]) rfl ?_
  exact ⟨rfl, (((Below.refl _ _).alloc (Nat.le_refl _) _).alloc (by simp) _).alloc (by simp; omega) _⟩

theorem sg_neg {n : Int} : sg (-n) = - sg n := by unfold sg; split <;> split <;> (try split) <;> (try split) <;> omega

set_option maxRecDepth 100000 in
theorem add_swap (s t e g : Int) (sl sm : Value) (a b : List Int) (w : World) (hs : Sl w sl (a.map (Value.int .i64))) (ht : Sl w sm (b.map (Value.int .i64)))
    (ha : Dok a) (hb : Dok b) (he : -1000000000 ≤ e) (he2 : e + a.length ≤ 1000000000) (hg : -1000000000 ≤ g) (hg2 : g + b.length ≤ 1000000000) (hs1 : s = 1 ∨ s = -1) (ht1 : t = 1 ∨ t = -1)
    (hst : s ≠ t) (hsg : sg (V a e (min e g) (max (e + a.length) (g + b.length) - min e g).toNat - V b g (min e g) (max (e + a.length) (g + b.length) - min e g).toNat) < 0) :
    Calls Tryd.prog 46 #[.agg #[.int .i64 s, sl, .int .i64 e], .agg #[.int .i64 t, sm, .int .i64 g]] w (AddPost t b a g e (-1) w) := by
  have hz := fun w0 (k1 : Sl w0 sl (a.map (Value.int .i64))) (k2 : Sl w0 sm (b.map (Value.int .i64))) => size_calls s t e g sl sm a b w0 k1 k2 ha hb he he2 hg hg2
  unfold SizePost at hz
  have hadd := fun w0 (k1 : Sl w0 sm (b.map (Value.int .i64))) (k2 : Sl w0 sl (a.map (Value.int .i64))) => add_unlike t s g e (-1) sm sl b a w0 k1 k2 hb ha hg hg2 he he2 ht1 hs1
    ⟨Ne.symm hst, rfl, by
      rw [Int.min_comm, Int.max_comm]
      have := sg_neg (n := V a e (min e g) (max (e + a.length) (g + b.length) - min e g).toNat - V b g (min e g) (max (e + a.length) (g + b.length) - min e g).toNat)
      rw [Int.neg_sub] at this
      omega⟩
  generalize sg _ = r at hz hsg
  obtain ⟨p1, c1, rfl⟩ := hs.formMap
  obtain ⟨p2, c2, rfl⟩ := ht.formMap
  have hW : Below w.heap.size w (((w.alloc (.cells #[.int .i64 s, .slice p1 a.length c1, .int .i64 e] 42)).alloc (.cells #[.int .i64 t, .slice p2 b.length c2, .int .i64 g] 42)).alloc (.cells #[.int .i64 0, .slice none 0 0, .int .i64 0] 42)) := (((Below.refl w.heap.size w).alloc (Nat.le_refl _) _).alloc (by simp) _).alloc (by simp; omega) _
  have q1 : (s == 0) = false := by simp; omega
  have q2 : ¬ s = 0 := by omega
  have q3 : (t == 0) = false := by simp; omega
  have q4 : ¬ t = 0 := by omega
  have q5 : (s == t) = false := by simpa using hst
  have q7 : (s != t) = true := by simpa using hst
  clear hs1 ht1
  have HZ := Lib.hid hz
  have HA := Lib.hid hadd
  have HT := Lib.hid hst
  clear hz hadd hst
  go_enter Tryd.func46, Tryd.ntmps46
  go_wp2_with fail
  refine (HZ.out _ (hs.keep hW) (ht.keep hW)).mono ?_
  rintro x w1 ⟨rfl, hb1⟩
  have g0 := keep_cell hb1 (show _ = some (Value.int .i64 s) by simp [go_sem] : (((w.alloc (.cells #[.int .i64 s, .slice p1 a.length c1, .int .i64 e] 42)).alloc (.cells #[.int .i64 t, .slice p2 b.length c2, .int .i64 g] 42)).alloc (.cells #[.int .i64 0, .slice none 0 0, .int .i64 0] 42)).cell? ⟨w.heap.size, 0, none⟩ = some (Value.int .i64 s))
  have g1 := keep_cell hb1 (show _ = some (Value.slice p1 a.length c1) by simp [go_sem] : (((w.alloc (.cells #[.int .i64 s, .slice p1 a.length c1, .int .i64 e] 42)).alloc (.cells #[.int .i64 t, .slice p2 b.length c2, .int .i64 g] 42)).alloc (.cells #[.int .i64 0, .slice none 0 0, .int .i64 0] 42)).cell? ⟨w.heap.size, 1, none⟩ = some (Value.slice p1 a.length c1))
  have g2 := keep_cell hb1 (show _ = some (Value.int .i64 e) by simp [go_sem] : (((w.alloc (.cells #[.int .i64 s, .slice p1 a.length c1, .int .i64 e] 42)).alloc (.cells #[.int .i64 t, .slice p2 b.length c2, .int .i64 g] 42)).alloc (.cells #[.int .i64 0, .slice none 0 0, .int .i64 0] 42)).cell? ⟨w.heap.size, 2, none⟩ = some (Value.int .i64 e))
  have g3 := keep_cell hb1 (show _ = some (Value.int .i64 t) by simp [go_sem] : (((w.alloc (.cells #[.int .i64 s, .slice p1 a.length c1, .int .i64 e] 42)).alloc (.cells #[.int .i64 t, .slice p2 b.length c2, .int .i64 g] 42)).alloc (.cells #[.int .i64 0, .slice none 0 0, .int .i64 0] 42)).cell? ⟨w.heap.size + 1, 0, none⟩ = some (Value.int .i64 t))
  have g4 := keep_cell hb1 (show _ = some (Value.slice p2 b.length c2) by simp [go_sem] : (((w.alloc (.cells #[.int .i64 s, .slice p1 a.length c1, .int .i64 e] 42)).alloc (.cells #[.int .i64 t, .slice p2 b.length c2, .int .i64 g] 42)).alloc (.cells #[.int .i64 0, .slice none 0 0, .int .i64 0] 42)).cell? ⟨w.heap.size + 1, 1, none⟩ = some (Value.slice p2 b.length c2))
  have g5 := keep_cell hb1 (show _ = some (Value.int .i64 g) by simp [go_sem] : (((w.alloc (.cells #[.int .i64 s, .slice p1 a.length c1, .int .i64 e] 42)).alloc (.cells #[.int .i64 t, .slice p2 b.length c2, .int .i64 g] 42)).alloc (.cells #[.int .i64 0, .slice none 0 0, .int .i64 0] 42)).cell? ⟨w.heap.size + 1, 2, none⟩ = some (Value.int .i64 g))
  have hres : w1.heap[w.heap.size + 2]? = some (.cells #[.int .i64 0, .slice none 0 0, .int .i64 0] 42 (0, 0)) := by
    rw [hb1.block _ (by simp)]
    have := heap_alloc_new ((w.alloc (.cells #[.int .i64 s, .slice p1 a.length c1, .int .i64 e] 42)).alloc (.cells #[.int .i64 t, .slice p2 b.length c2, .int .i64 g] 42)) (.cells #[.int .i64 0, .slice none 0 0, .int .i64 0] 42)
    simpa using this
  have hw1 : Below w.heap.size w w1 := hW.trans (hb1.mono (by simp; omega))
  have hsz : w.heap.size + 2 < w1.heap.size := block_lt hres
  go_wp2_with fail
  refine (HA.out _ (ht.keep hw1) (hs.keep hw1)).mono ?_
  rintro x w2 ⟨s', sl', ds', e', os, rfl, hsl', hb2, h1, h2, h3, h4, hin⟩
  obtain ⟨p', cap', rfl⟩ := hsl'.formMap
  have H1 := Lib.hid h1
  have H2 := Lib.hid h2
  have H3 := Lib.hid h3
  have H4 := Lib.hid h4
  clear h1 h2 h3 h4
  have hres2 : w2.heap[w.heap.size + 2]? = some (.cells #[.int .i64 0, .slice none 0 0, .int .i64 0] 42 (0, 0)) := (hb2.block _ hsz).trans hres
  have y0 : w2.cell? ⟨w.heap.size + 1 + 1, 0, none⟩ = some (.int .i64 0) := cell_of_block hres2 0
  have y1 : w2.cell? ⟨w.heap.size + 1 + 1, 1, none⟩ = some (.slice none 0 0) := cell_of_block hres2 1
  have y2 : w2.cell? ⟨w.heap.size + 1 + 1, 2, none⟩ = some (.int .i64 0) := cell_of_block hres2 2
  have z0 : w2.frozen? ⟨w.heap.size + 1 + 1, 0, none⟩ = false := frozen_of_block hres2 0
  have z1 : w2.frozen? ⟨w.heap.size + 1 + 1, 1, none⟩ = false := frozen_of_block hres2 1
  have z2 : w2.frozen? ⟨w.heap.size + 1 + 1, 2, none⟩ = false := frozen_of_block hres2 2
  go_wp2_with fail
  have hF := setCell_block (setCell_block (setCell_block hres2 0 (.int .i64 s')) 1 (.slice p' ds'.length cap')) 2 (.int .i64 e')
  have r0 := (cell_of_block hF 0).trans (by simp : _ = some (Value.int .i64 s'))
  have r1 := (cell_of_block hF 1).trans (by simp : _ = some (Value.slice p' ds'.length cap'))
  have r2 := (cell_of_block hF 2).trans (by simp : _ = some (Value.int .i64 e'))
  refine bodyPost_ret (v := .agg #[.int .i64 s', .slice p' ds'.length cap', .int .i64 e']) (by simp [results, Tryd.results46, go_sem, r0, r1, r2]) rfl ?_
  refine ⟨s', _, ds', e', os, rfl, ?_, ?_, H1.out, H2.out, H3.out, H4.out, hin.mono (fun _ h => Nat.le_trans hw1.size h)⟩
  · exact ((hsl'.put hin (by simp; omega) _).put hin (by simp; omega) _).put hin (by simp; omega) _
  · exact (((hw1.trans (hb2.mono hw1.size)).setCell (by simp; omega) _).setCell (by simp; omega) _).setCell (by simp; omega) _

theorem addN {P : Nat → Prop} {w : World} {x y : Value} {k : Nat} {p q : Rat} (hx : NumV P w x k p) (hy : NumV P w y k q) (hk : k ≤ 900000000) :
    Calls Tryd.prog 46 #[x, y] w (RetN P (k + 1) (p + q) w) := by
  obtain ⟨s, sl, a, e, rfl, hs, na, rfl, ia⟩ := hx
  obtain ⟨t, sm, b, g, rfl, ht, nb, rfl, ib⟩ := hy
  obtain ⟨a1, a2, a3, a4⟩ := id na
  obtain ⟨b1, b2, b3, b4⟩ := id nb
  rcases a2 with ⟨rfl, a2⟩ | ⟨a2, a5⟩
  · obtain ⟨p1, c1, rfl⟩ := hs.formMap
    obtain ⟨p2, c2, rfl⟩ := ht.formMap
    refine (add_zero_left _ _ _ _ _ _ _ _ _ w).mono fun x w' ⟨hx, hb⟩ => ?_
    exact ⟨_, hx, ⟨t, _, b, g, rfl, ht.keep hb, ⟨b1, b2, by omega, by omega⟩, by rw [zero_nv, Rat.zero_add], ib.mono fun _ h => Or.inl h⟩, hb⟩
  · rcases b2 with ⟨rfl, b2⟩ | ⟨b2, b5⟩
    · obtain ⟨p1, c1, rfl⟩ := hs.formMap
      obtain ⟨p2, c2, rfl⟩ := ht.formMap
      refine (add_zero_right _ _ (by omega) _ _ _ _ _ _ _ w).mono fun x w' ⟨hx, hb⟩ => ?_
      exact ⟨_, hx, ⟨s, _, a, e, rfl, hs.keep hb, ⟨a1, Or.inr ⟨a2, a5⟩, by omega, by omega⟩, by rw [zero_nv, Rat.add_zero], ia.mono fun _ h => Or.inl h⟩, hb⟩
    · by_cases hst : s = t
      · refine (add_like s t e g 1 sl sm a b w hs ht a1 b1 (by omega) (by omega) (by omega) (by omega) a2 b2 ⟨hst, rfl⟩).mono fun x w' ⟨s', sl', ds', e', os, hx, hsl, hb, htr, hd, hl, hv, hin⟩ => ?_
        obtain ⟨n1, n2⟩ := add_nv na nb a2 (σ := 1) (by omega) rfl hl hd hv htr
        exact ⟨_, hx, ⟨s', sl', ds', e', rfl, hsl, n1, n2.symm, hin.mono fun _ h => Or.inr h⟩, hb⟩
      · by_cases hsg : 0 ≤ sg (V a e (min e g) (max (e + a.length) (g + b.length) - min e g).toNat - V b g (min e g) (max (e + a.length) (g + b.length) - min e g).toNat)
        · refine (add_unlike s t e g (-1) sl sm a b w hs ht a1 b1 (by omega) (by omega) (by omega) (by omega) a2 b2 ⟨hst, rfl, hsg⟩).mono fun x w' ⟨s', sl', ds', e', os, hx, hsl, hb, htr, hd, hl, hv, hin⟩ => ?_
          obtain ⟨n1, n2⟩ := add_nv na nb a2 (σ := -1) (by omega) rfl hl hd hv htr
          exact ⟨_, hx, ⟨s', sl', ds', e', rfl, hsl, n1, n2.symm, hin.mono fun _ h => Or.inr h⟩, hb⟩
        · refine (add_swap s t e g sl sm a b w hs ht a1 b1 (by omega) (by omega) (by omega) (by omega) a2 b2 hst (by omega)).mono fun x w' ⟨s', sl', ds', e', os, hx, hsl, hb, htr, hd, hl, hv, hin⟩ => ?_
          obtain ⟨n1, n2⟩ := add_nv nb na b2 (σ := -1) (by omega) rfl hl hd hv htr
          exact ⟨_, hx, ⟨s', sl', ds', e', rfl, hsl, n1, by rw [n2, Rat.add_comm], hin.mono fun _ h => Or.inr h⟩, hb⟩
end Go.Proofs.YtiihokgjplpceaaDoor
end
