/- Package whole, walked: less. -/
import Derived.Test.YtiiipgbfhcbjdaaDoorWhL
namespace Go.Proofs.YtiiipgbfhcbjdaaDoor
open Go.RowKit TV
set_option linter.unusedVariables false

theorem wless_calls (e g : Int) (sl sm : Value) (a b : List Int) (w : World) (hs : Sl w sl (a.map (Value.int .u32))) (ht : Sl w sm (b.map (Value.int .u32)))
    (ha : W.Dok a) (hb : W.Dok b) (he : -100000000 ≤ e) (he2 : e + a.length ≤ 100000000) (hg : -100000000 ≤ g) (hg2 : g + b.length ≤ 100000000) (hle : W.nv 1 b g ≤ W.nv 1 a e) :
    Calls Tryd.prog 40 #[.agg #[sl, .int .i64 e], .agg #[sm, .int .i64 g]] w (FreshMag (fun os f => f = min e g ∧ f + os.length = max (e + a.length) (g + b.length) ∧ ∀ s : Int, W.nv s os f = W.nv s a e - W.nv s b g) w) := by
  obtain ⟨f, hf⟩ : ∃ f, f = min e g := ⟨_, rfl⟩
  obtain ⟨u, hu⟩ : ∃ u, u = max (e + (a.length : Int)) (g + (b.length : Int)) := ⟨_, rfl⟩
  obtain ⟨n, hn⟩ : ∃ n : Nat, u = f + n := ⟨(u - f).toNat, by omega⟩
  obtain ⟨p1, c1, rfl⟩ := hs.formMap
  obtain ⟨p2, c2, rfl⟩ := ht.formMap
  obtain ⟨wn, hwn, hW, hsz, k0, k1, k2⟩ := boxes_res w (.cells #[.slice p1 a.length c1, .int .i64 e] 27) (.cells #[.slice p2 b.length c2, .int .i64 g] 27) (.cells #[.slice none 0 0, .int .i64 0] 27)
  have hmin : (if g < e then g else e) = f := by rw [hf]; split <;> omega
  have hmax : (if e + (a.length : Int) < g + (b.length : Int) then g + (b.length : Int) else e + (a.length : Int)) = u := by rw [hu]; split <;> omega
  have f1 : -100000000 ≤ f := by omega
  have f2 : f ≤ 100000000 := by omega
  have u1 : -100000000 ≤ u := by omega
  have u2 : u ≤ 100000000 := by omega
  have hn0 : n ≤ 200000000 := by omega
  have HF : Hid (f ≤ e ∧ f ≤ g ∧ e + a.length ≤ f + n ∧ g + b.length ≤ f + n ∧ f = min e g ∧ f + n = max (e + (a.length : Int)) (g + (b.length : Int))) := by refine ⟨?_, ?_, ?_, ?_, ?_, ?_⟩ <;> omega
  obtain ⟨i0, hi, hz0, hz1, hz2⟩ := info_parts info_u32
  have hmk : ∀ W, (Instr.makeSlice 25 (.int .i64 0) (.int .i64 (u - f))).run Tryd.prog W = .ok (.slice (some ⟨W.heap.size, 0, none⟩) 0 n) (W.alloc (.cells (madeCells #[.int .u32 0] n) 67)) := fun W => by
    have := run_make (P := Tryd.prog) W 25 67 i0 (.int .u32 0) Tryd.underlying25 hi hz0 .i64 .i64 0 (u - f) (by omega) (by omega) (by rw [hz2]; omega) (by omega)
    rw [this, hz1, show (u - f).toNat = n by omega, Nat.mul_one]; rfl
  have HN := Lib.hid hn
  clear hf hu hn
  have HE0 := Lib.hid (ends_calls e g f u (.slice p1 a.length c1) (.slice p2 b.length c2) a.length b.length hmin hmax wn ⟨_, _, rfl⟩ ⟨_, _, rfl⟩ (by omega) (by omega) (by omega) (by omega))
  clear hmin hmax
  have HS := Lib.hid (hs.keep hW)
  have HT := Lib.hid (ht.keep hW)
  have HW := Lib.hid hW
  have HSZ := Lib.hid hsz
  clear hs ht hW hsz
  go_enter Tryd.func40, Tryd.ntmps40
  go_wp2_with fail
  rw [← hwn]
  clear hwn
  refine HE0.out.mono ?_
  rintro x w0 ⟨rfl, hb0⟩
  obtain ⟨r0, r1, -, -⟩ := res2_facts (keep_block hb0 k0)
  obtain ⟨t0, t1, -, -⟩ := res2_facts (keep_block hb0 k1)
  have HS := Lib.hid (HS.out.keep hb0)
  have HT := Lib.hid (HT.out.keep hb0)
  have HW := Lib.hid (HW.out.trans (hb0.mono HW.out.size))
  have HSZ := Lib.hid (show w.heap.size + 3 ≤ w0.heap.size by have := hb0.size; have := HSZ.out; omega)
  have HK2 := Lib.hid (keep_block hb0 k2)
  have R0 := Lib.hid r0
  have R1 := Lib.hid r1
  have T0 := Lib.hid t0
  have T1 := Lib.hid t1
  clear k0 k1 k2 hb0 HE0
  go_wp2_with fail
  go_loopw [7, 8, 9, 10] (fun v c i _ wr => ∃ (k : Nat) (os : List Int) (cr : Int), k ≤ n ∧ i = .int .i64 (f + (k : Int)) ∧ c = .int .i64 cr ∧ 0 ≤ cr ∧ cr ≤ 1 ∧ wr.ownsRow w0.heap.size 67 1 v k (os.map (Value.int .u32)) ∧ os.length = k ∧ W.Dok os ∧
      W.dval os - cr * 4294967296 ^ k = W.V a e f k - W.V b g f k ∧ Kp w0 wr)
    (fun _ _ i _ _ => (f + n - intOf i).toNat)
  case atStart => exact ⟨0, [], 0, Nat.zero_le _, by simp, rfl, by omega, by omega, World.ownsRow_made _ _ _ (Nat.le_refl _) (by unfold maxLen; omega) (by simp [madeCells]), rfl, fun i => by simp, by simp [W.dval, W.V], kp_alloc2 _ _⟩
  case round =>
    obtain ⟨k, os, cr, hk, rfl, rfl, hc0, hc1, hown, hol, hod, hv, hbl⟩ := hrel
    have HV := Lib.hid hv
    have HD := Lib.hid hod
    have HOL := Lib.hid hol
    have r0 := keep_cell hbl.out R0.out
    have r1 := keep_cell hbl.out R1.out
    have t0 := keep_cell hbl.out T0.out
    have t1 := keep_cell hbl.out T1.out
    have HB := Lib.hid hbl
    clear hv hod hol hbl hmk
    by_cases hlt : k < n
    · have hlt2 : f + (k : Int) < u := by have := HN.out; omega
      have HA := Lib.hid (fun (W : World) (h : Kp w0 W) => word_calls e (f + (k : Int)) _ a W (HS.out.keep h.out) (by omega) (by omega) (by omega) (by omega))
      have HC := Lib.hid (fun (W : World) (h : Kp w0 W) => word_calls g (f + (k : Int)) _ b W (HT.out.keep h.out) (by omega) (by omega) (by omega) (by omega))
      have hx1 := W.dg_bound ha e (f + k)
      have hy1 := W.dg_bound hb g (f + k)
      have hva : W.V a e f (k + 1) = W.V a e f k + W.dg a e (f + k) * 4294967296 ^ k := rfl
      have hvb : W.V b g f (k + 1) = W.V b g f k + W.dg b g (f + k) * 4294967296 ^ k := rfl
      obtain ⟨x, hx⟩ : ∃ x, x = W.dg a e (f + k) := ⟨_, rfl⟩
      obtain ⟨y, hy⟩ : ∃ y, y = W.dg b g (f + k) := ⟨_, rfl⟩
      rw [← hx] at HA hx1 hva
      rw [← hy] at HC hy1 hvb
      have HVA := Lib.hid hva
      have HVB := Lib.hid hvb
      obtain ⟨x0, x1⟩ := hx1
      obtain ⟨y0, y1⟩ := hy1
      obtain ⟨d, hd⟩ : ∃ d, d = x - y - cr := ⟨_, rfl⟩
      have e0 : IntKind.i64.wrap (IntKind.i64.wrap (IntKind.i64.wrap x - IntKind.i64.wrap y) - cr) = d := by
        rw [IntWalk.i64_in x (by omega), IntWalk.i64_in y (by omega), IntWalk.i64_in (x - y) (by omega), IntWalk.i64_in _ (by omega), hd]
      have HDD := Lib.hid hd
      have d0 : -4294967296 ≤ d ∧ d < 4294967296 := by omega
      obtain ⟨d1, d2⟩ := d0
      clear hd
      have K0 := HB.out
      clear hx hy hva hvb
      go_wp2_with fail
      go_region_held3 (fun w' => w'.cell? ⟨w.heap.size, 0, none⟩ = some (.slice p1 a.length c1) ∧ w'.cell? ⟨w.heap.size, 1, none⟩ = some (.int .i64 e) ∧ w'.cell? ⟨w.heap.size + 1, 0, none⟩ = some (.slice p2 b.length c2) ∧ w'.cell? ⟨w.heap.size + 1, 1, none⟩ = some (.int .i64 g) ∧ Kp w0 w')
        (first | exact ⟨keep_cell ((K0.drew.step hbA).step hbB).out R0.out, keep_cell ((K0.drew.step hbA).step hbB).out R1.out, keep_cell ((K0.drew.step hbA).step hbB).out T0.out, keep_cell ((K0.drew.step hbA).step hbB).out T1.out, (K0.drew.step hbA).step hbB⟩ | exact ⟨keep_cell (K0.drew.step hbA).out R0.out, keep_cell (K0.drew.step hbA).out R1.out, keep_cell (K0.drew.step hbA).out T0.out, keep_cell (K0.drew.step hbA).out T1.out, K0.drew.step hbA⟩ | exact ⟨keep_cell K0.drew.out R0.out, keep_cell K0.drew.out R1.out, keep_cell K0.drew.out T0.out, keep_cell K0.drew.out T1.out, K0.drew⟩)
        (first
          | (go_at_call 59; ((with_reducible refine (HC.out _ ?hq).mono ?_); (case hq => exact (K0.drew.step hbA)); rintro x2 w3 ⟨rfl, hbB⟩))
          | (go_at_call 59; ((with_reducible refine (HA.out _ ?hq).mono ?_); (case hq => exact K0.drew); rintro x1 w2 ⟨rfl, hbA⟩)))
      have HK3 := Lib.hid ((K0.drew.step hbA).step hbB)
      have hown := own_keep hown (((Kp.refl wr).drew.step hbA).step hbB).out
      clear hbA hbB HA HC K0 r0 r1 t0 t1
      have hbs := HK3.out.out.size
      have hob := own_block hown
      clear e0 x0 x1 y0 y1 hc0 hc1
      by_cases hneg : d < 0
      · have h2 : 0 ≤ d + 4294967296 := by omega
        have h3 : d + 4294967296 < 4294967296 := by omega
        go_wp2_with (at_builtin; refine wpList_append_own _ rfl _ _ 25 rfl w0.heap.size 67 i0 (.int .u32 0) 1 4 Tryd.underlying25 hi hz0 hz1 hz2 rfl (by decide) _ _ _ rfl (hown.alloc _) ⟨w3.heap.size, 0, none⟩ 1 1 [.int .u32 _] rfl rfl (news_one _ _ _) (by simp [Value.oneCell']) (by unfold maxLen; omega) (by omega) (by simp; omega) ?_; intro ov' w4 hown4 hgrow hnil; clear hnil; obtain ⟨q4, cap4, rfl⟩ := own_form hown4)
        go_roundw
        case rel =>
          refine ⟨k + 1, os ++ [d + 4294967296], 1, by omega, by congr 1; omega, rfl, by omega, by omega, by rw [List.map_append]; exact hown4, by rw [List.length_append, HOL.out]; rfl, W.dok_append HD.out _ (by omega) (by omega), ?_, ?_⟩
          · rw [W.dval_append, HOL.out, HVA.out, HVB.out]
            have hv := HV.out
            have hd := HDD.out
            simp only [W.dval, Int.mul_zero, Int.add_zero]
            rw [Int.pow_succ]
            generalize (4294967296 : Int) ^ k = B at *
            subst hd
            grind
          · exact (HK3.out.step (kp_alloc2 _ _)).out.grown hgrow (by simp; omega) hob
        case measure => simp [intOf]; omega
      · have h2 : 0 ≤ d := by omega
        go_wp2_with (at_builtin; refine wpList_append_own _ rfl _ _ 25 rfl w0.heap.size 67 i0 (.int .u32 0) 1 4 Tryd.underlying25 hi hz0 hz1 hz2 rfl (by decide) _ _ _ rfl (hown.alloc _) ⟨w3.heap.size, 0, none⟩ 1 1 [.int .u32 _] rfl rfl (news_one _ _ _) (by simp [Value.oneCell']) (by unfold maxLen; omega) (by omega) (by simp; omega) ?_; intro ov' w4 hown4 hgrow hnil; clear hnil; obtain ⟨q4, cap4, rfl⟩ := own_form hown4)
        go_roundw
        case rel =>
          refine ⟨k + 1, os ++ [d], 0, by omega, by congr 1; omega, rfl, by omega, by omega, by rw [List.map_append]; exact hown4, by rw [List.length_append, HOL.out]; rfl, W.dok_append HD.out _ (by omega) (by omega), ?_, ?_⟩
          · rw [W.dval_append, HOL.out, HVA.out, HVB.out]
            have hv := HV.out
            have hd := HDD.out
            simp only [W.dval, Int.mul_zero, Int.add_zero]
            rw [Int.pow_succ]
            generalize (4294967296 : Int) ^ k = B at *
            subst hd
            grind
          · exact (HK3.out.step (kp_alloc2 _ _)).out.grown hgrow (by simp; omega) hob
        case measure => simp [intOf]; omega
    · obtain rfl : k = n := by omega
      have hlt2 : ¬ f + (k : Int) < u := by have := HN.out; omega
      have hbs := HB.out.out.size
      have hob := own_block hown
      have hsz := HSZ.out
      clear r0 r1 t0 t1
      obtain ⟨q4, cap4, rfl⟩ := own_form hown
      obtain ⟨z0, z1, z2, z3⟩ := res2_facts (keep_block HB.out.out HK2.out)
      go_wp2_with fail
      obtain ⟨g0, g1⟩ := put2_facts (keep_block HB.out.out HK2.out) (.slice q4 k cap4) (.int .i64 f)
      refine bodyPost_ret (v := .agg #[.slice q4 k cap4, .int .i64 f]) (by simp [results, Tryd.results40, go_sem, g0, g1]) rfl ?_
      have hsl := own_sl hown
      have hin : In (fun b => w0.heap.size ≤ b) (.slice q4 k cap4) := fun a n c he => by
        cases he
        exact own_block hown _ rfl
      obtain ⟨F1, F2, F3, F4, F5, F6⟩ := HF.out
      have hBw : Below w.heap.size w wr := HW.out.trans (HB.out.out.mono HW.out.size)
      have hv := HV.out
      have hle2 : W.V b g f k ≤ W.V a e f k := by
        rw [W.nv_V (s := 1) F1 F3, W.nv_V (s := 1) F2 F4, Int.one_mul, Int.one_mul] at hle
        apply Classical.byContradiction
        intro hc
        have h1 : ((W.V a e f k : Int) : Rat) < ((W.V b g f k : Int) : Rat) := Rat.intCast_lt_intCast.2 (by omega)
        exact absurd hle (Rat.not_le.2 (Rat.mul_lt_mul_of_pos_right h1 (two_zpow_pos _)))
      have hlt3 := W.dval_lt HD.out
      rw [HOL.out] at hlt3
      have hcr : cr = 0 := by
        apply Classical.byContradiction
        intro hc
        obtain rfl : cr = 1 := by omega
        omega
      subst hcr
      rw [Int.zero_mul, Int.sub_zero] at hv
      have hol := HOL.out
      refine ⟨_, os, f, rfl, (hsl.put hin (by simp; omega) _).put hin (by simp; omega) _, hin.mono (fun b h => by omega), HD.out, ⟨F5, by rw [hol]; omega, ?_⟩, (hBw.setCell (by simp; omega) _).setCell (by simp; omega) _⟩
      intro s
      rw [W.nv_V (s := s) F1 F3, W.nv_V (s := s) F2 F4]
      unfold W.nv
      rw [hv, Int.mul_sub, Rat.intCast_sub]
      generalize (2 : Rat) ^ (32 * f) = z
      grind

end Go.Proofs.YtiiipgbfhcbjdaaDoor
