/- Texts of one kind, joined. -/
import Derived.Test.YtiihokgjplpceaaDoorRfD
import Derived.RegionTactic
import Derived.RegionCalls
import Derived.ChangeAlike

section
/- The reference's numbers by what they tell: differences, which is greater, magnitudes. -/
namespace Go.Proofs.YtiihokgjplpceaaDoor
open Go.RowKit TV
set_option linter.unusedVariables false

theorem NumV.lt {P : Nat → Prop} {w : World} {v : Value} {k : Nat} {q : Rat} (h : NumV P w v k q) : NumV (fun b => P b ∧ b < w.heap.size) w v k q := by
  obtain ⟨s, sl, ds, e, h1, h2, h3, h4, h5⟩ := h; exact ⟨s, sl, ds, e, h1, h2, h3, h4, fun a n c he => ⟨h5 a n c he, h2.lt a n c he⟩⟩

theorem negN {P : Nat → Prop} {w : World} {y : Value} {k : Nat} {q : Rat} (hy : NumV P w y k q) :
    Calls Tryd.prog 47 #[y] w (RetN P k (-q) w) := by
  obtain ⟨t, sm, b, g, rfl, ht, nb, rfl, ib⟩ := hy
  have h0 : t = 0 ∨ t = 1 ∨ t = -1 := by have := nb.sgn; omega
  refine (neg_calls t g sm h0 w (by obtain ⟨p, c, h⟩ := ht.formMap; exact ⟨p, _, c, h⟩)).mono fun x w' ⟨hx, hb⟩ => ?_
  refine ⟨_, hx, ⟨-t, sm, b, g, rfl, ht.keep hb, ⟨nb.dok, by have := nb.sgn; omega, nb.lo, nb.hi⟩, ?_, ib.mono fun _ h => Or.inl h⟩, hb⟩
  unfold nv; rw [Int.neg_mul, Rat.intCast_neg, Rat.neg_mul]

set_option maxRecDepth 100000 in
theorem subN {P : Nat → Prop} {w : World} {x y : Value} {k : Nat} {p q : Rat} (hx : NumV P w x k p) (hy : NumV P w y k q) (hk : k ≤ 900000000) :
    Calls Tryd.prog 31 #[x, y] w (RetN P (k + 1) (p - q) w) := by
  have hx0 := hx
  have hy0 := hy
  obtain ⟨s, sl, a, e, rfl, hs, na, hp, ia⟩ := hx
  obtain ⟨t, sm, b, g, rfl, ht, nb, hq, ib⟩ := hy
  obtain ⟨p1, c1, rfl⟩ := hs.formMap
  obtain ⟨p2, c2, rfl⟩ := ht.formMap
  have hW : Below w.heap.size w (((w.alloc (.cells #[.int .i64 s, .slice p1 a.length c1, .int .i64 e] 42)).alloc (.cells #[.int .i64 t, .slice p2 b.length c2, .int .i64 g] 42)).alloc (.cells #[.int .i64 0, .slice none 0 0, .int .i64 0] 42)) := (((Below.refl w.heap.size w).alloc (Nat.le_refl _) _).alloc (by simp) _).alloc (by simp; omega) _
  have h0 : t = 0 ∨ t = 1 ∨ t = -1 := by have := nb.sgn; omega
  have HX := Lib.hid hx0
  have HY := Lib.hid hy0
  have HT := Lib.hid h0
  clear hx0 hy0 h0
  have hneg : NumV P w (.agg #[.int .i64 (-t), .slice p2 b.length c2, .int .i64 g]) k (-q) := by
    refine ⟨-t, _, b, g, rfl, ht, ⟨nb.dok, by have := nb.sgn; omega, nb.lo, nb.hi⟩, ?_, ib⟩
    rw [hq]; unfold nv; rw [Int.neg_mul, Rat.intCast_neg, Rat.neg_mul]
  have HA := Lib.hid (fun (W : World) (hw : Below w.heap.size w W) => addN (HX.out.lt.keep hw) (hneg.lt.keep hw) hk)
  clear hneg hp hq
  have HR : Hid ((((w.alloc (.cells #[.int .i64 s, .slice p1 a.length c1, .int .i64 e] 42)).alloc (.cells #[.int .i64 t, .slice p2 b.length c2, .int .i64 g] 42)).alloc (.cells #[.int .i64 0, .slice none 0 0, .int .i64 0] 42)).heap[w.heap.size + 1 + 1]? = some (.cells #[.int .i64 0, .slice none 0 0, .int .i64 0] 42 (0, 0))) := by
    have := heap_alloc_new ((w.alloc (.cells #[.int .i64 s, .slice p1 a.length c1, .int .i64 e] 42)).alloc (.cells #[.int .i64 t, .slice p2 b.length c2, .int .i64 g] 42)) (.cells #[.int .i64 0, .slice none 0 0, .int .i64 0] 42)
    show _ = _
    simpa using this
  go_enter Tryd.func31, Tryd.ntmps31
  go_wp2_with fail
  go_region_with (first
    | (go_at_call 47; refine (neg_calls t g (.slice p2 b.length c2) HT.out _ ⟨_, _, _, rfl⟩).mono ?_; rintro x w1 ⟨rfl, hb1⟩; obtain ⟨hcl, hfl⟩ := bcell hb1)
    | (go_at_call 46; have hw1 : Below w.heap.size w w1 := (hW.drew).trans (hb1.mono (by simp; omega)); refine (HA.out w1 hw1).mono ?_; rintro x w2 ⟨v, rfl, ⟨s', sl', ds', e', rfl, hsl', hn', hq', hin'⟩, hb2⟩
       have HQ := Lib.hid hq'; have HN := Lib.hid hn'; clear hq' hn'; obtain ⟨p', cap', rfl⟩ := hsl'.formMap; have hres2 := keep_block hb2 (keep_block hb1 HR.out); obtain ⟨y0, y1, y2, z0, z1, z2⟩ := res_facts hres2))
  all_goals (
    obtain ⟨r0, r1, r2⟩ := put_facts hres2 (.int .i64 s') (.slice p' ds'.length cap') (.int .i64 e')
    go_wp2
    refine bodyPost_ret (v := .agg #[.int .i64 s', .slice p' ds'.length cap', .int .i64 e']) (by simp [results, Tryd.results31, go_sem, r0, r1, r2]) rfl ?_
    have hlt : w.heap.size + 2 < w1.heap.size := by have := block_lt (keep_block hb1 HR.out); omega
    refine ⟨_, rfl, ⟨s', _, ds', e', rfl, ?_, HN.out, by rw [← HQ.out, Rat.sub_eq_add_neg], hin'.mono ?_⟩, ?_⟩
    · exact ((hsl'.put hin' (by simp; omega) _).put hin' (by simp; omega) _).put hin' (by simp; omega) _
    · intro j hj; rcases hj with hj | hj
      · exact Or.inl hj.1
      · right; have := hw1.size; omega
    · exact (((hw1.trans (hb2.mono hw1.size)).setCell (by simp; omega) _).setCell (by simp; omega) _).setCell (by simp; omega) _)

theorem rs_nv {s : Int} {ds : List Int} {e : Int} {k : Nat} (h : Nm s ds e k) : rs (nv s ds e) = s := by
  have hp := two_zpow_pos (24 * e)
  unfold rs nv
  rcases h.sgn with ⟨rfl, h0⟩ | ⟨h1 | h1, h0⟩
  · simp
  · subst h1
    have : (0 : Rat) < ((1 * dval ds : Int) : Rat) := by exact_mod_cast (by omega)
    have := Rat.mul_pos this hp
    rw [if_neg (by grind), if_neg (by grind)]
  · subst h1
    have : (0 : Rat) < ((dval ds : Int) : Rat) := by exact_mod_cast h0
    have := Rat.mul_pos this hp
    rw [if_pos (by rw [show (-1 * dval ds : Int) = -(dval ds) by omega, Rat.intCast_neg]; grind)]

theorem cmpN {P : Nat → Prop} {w : World} {x y : Value} {k : Nat} {p q : Rat} (hx : NumV P w x k p) (hy : NumV P w y k q) (hk : k ≤ 900000000) :
    Calls Tryd.prog 42 #[x, y] w fun r w' => r = .returned (.int .i64 (rs (p - q))) ∧ Below w.heap.size w w' := by
  have HX := Lib.hid hx
  have HY := Lib.hid hy
  obtain ⟨s, sl, a, e, rfl, hs, -⟩ := hx
  obtain ⟨t, sm, b, g, rfl, ht, -⟩ := hy
  obtain ⟨p1, c1, rfl⟩ := hs.formMap
  obtain ⟨p2, c2, rfl⟩ := ht.formMap
  have hW : Below w.heap.size w ((w.alloc (.cells #[.int .i64 s, .slice p1 a.length c1, .int .i64 e] 42)).alloc (.cells #[.int .i64 t, .slice p2 b.length c2, .int .i64 g] 42)) := (((Below.refl w.heap.size w).alloc (Nat.le_refl _) _).alloc (by simp) _)
  have HA := Lib.hid (fun (W : World) (hw : Below w.heap.size w W) => subN (HX.out.keep hw) (HY.out.keep hw) hk)
  go_enter Tryd.func42, Tryd.ntmps42
  go_wp2_with fail
  refine (HA.out _ hW).mono ?_
  rintro x w2 ⟨v, rfl, ⟨s', sl', ds', e', rfl, hsl', hn', hq', hin'⟩, hb2⟩
  obtain ⟨p', cap', rfl⟩ := hsl'.formMap
  have HQ := Lib.hid hq'
  have HN := Lib.hid hn'
  clear hq' hn'
  have hfld : ∀ W, (Instr.field 42 (.agg #[.int .i64 s', .slice p' ds'.length cap', .int .i64 e']) 0).run Tryd.prog W = .ok (.int .i64 s') W := fun _ => by kernel_rfl
  go_wp2
  go_ret
  exact ⟨ret_i64 (by rw [HQ.out, rs_nv HN.out]), hW.trans (hb2.mono (by simp; omega))⟩
end Go.Proofs.YtiihokgjplpceaaDoor
end

section
/- The reference's powers of two, walked. -/
namespace Go.Proofs.YtiihokgjplpceaaDoor
open Go.RowKit TV
set_option linter.unusedVariables false

theorem last_row {D c P N t : Int} (h : D + c * P = N + (t - 1) * N) : D + P * c = t * N := by grind

set_option maxRecDepth 100000 in
set_option maxHeartbeats 1000000 in
theorem power_calls (n : Nat) (k : Int) (hn : n < 18446744073709551616) (hk : -1000000 ≤ k) (hk2 : k ≤ 1000000) (w : World) :
    Calls Tryd.prog 44 #[.int .u64 n, .int .i64 k] w (RetN (fun _ => False) (k.natAbs + 8) ((n : Rat) * (2 : Rat) ^ k) w) := by
  go_enter Tryd.func44, Tryd.ntmps44
  go_wp2
  go_loop [1, 5] (fun x y => ∃ kk ee : Int, x = .int .i64 kk ∧ y = .int .i64 ee ∧ kk + 24 * ee = k ∧ ee ≤ 0 ∧ (ee = 0 ∨ kk < 24) ∧ -1000000 ≤ kk ∧ kk ≤ 1000000 ∧ -1000000 ≤ ee) (fun x _ => (-intOf x).toNat)
  case atStart => exact ⟨k, 0, rfl, rfl, by omega, by omega, Or.inl rfl, by omega, by omega, by omega⟩
  case round =>
    obtain ⟨kk, ee, rfl, rfl, e1, e2, e3, e4, e5, e6⟩ := hrel
    have E1 := Lib.hid e1
    have E3 := Lib.hid e3
    clear e1 e3
    by_cases hneg : kk < 0
    · go_wp2
      go_round
      case rel => exact ⟨kk + 24, ee - 1, rfl, rfl, by have := E1.out; omega, by omega, Or.inr (by omega), by omega, by omega, by have := E1.out; omega⟩
      case measure => simp [intOf]; omega
    · go_wp2
      go_loop [1, 5] (fun x y => ∃ kk ee : Int, x = .int .i64 kk ∧ y = .int .i64 ee ∧ kk + 24 * ee = k ∧ 0 ≤ kk ∧ kk ≤ 1000000 ∧ -1000000 ≤ ee ∧ ee ≤ 1000000) (fun x _ => (intOf x).toNat)
      case atStart => exact ⟨kk, ee, rfl, rfl, E1.out, by omega, by omega, by omega, by omega⟩
      case round =>
        clear E1 E3 e2 e4 e5 e6 hneg
        obtain ⟨k9, e9, rfl, rfl, e1, e2, e3, e4, e5⟩ := hrel
        have E1 := Lib.hid e1
        clear e1
        by_cases hbig : 24 ≤ k9
        · go_wp2
          go_round
          case rel => exact ⟨k9 - 24, e9 + 1, rfl, rfl, by have := E1.out; omega, by omega, by omega, by omega, by have := E1.out; omega⟩
          case measure => simp [intOf]; omega
        · go_wp2
          go_loopw [0] (fun x wr => ∃ (nn : Nat) (os : List Int) (ov : Value), x = .int .u64 nn ∧ Dok os ∧ dval os + nn * 16777216 ^ os.length = n ∧
              ((os.length = 0 ∧ nn < 18446744073709551616) ∨ (os.length = 1 ∧ nn < 1099511627776) ∨ (os.length = 2 ∧ nn < 65536) ∨ (os.length = 3 ∧ nn = 0)) ∧
              wr.ownsRow (w.heap.size + 2) 2 1 ov os.length (os.map (Value.int .i64)) ∧ wr.heap[w.heap.size + 1]? = some (.cells #[.int .i64 1, ov, .int .i64 e9] 42 (0, 0)) ∧
              Below (w.heap.size + 1) (w.alloc (.cells #[.int .i64 0, .slice none 0 0, .int .i64 0] 42)) wr)
            (fun x _ => (intOf x).toNat)
          case atStart => exact ⟨n, [], _, rfl, fun i => by simp, by simp [dval], Or.inl ⟨rfl, hn⟩, ⟨rfl, Or.inl ⟨rfl, rfl⟩⟩, by
            have := heap_alloc_new (w.alloc (.cells #[.int .i64 0, .slice none 0 0, .int .i64 0] 42)) (.cells #[.int .i64 1, .slice none 0 0, .int .i64 e9] 42); simpa using this, (Below.refl _ _).alloc (by simp) _⟩
          case round =>
            obtain ⟨nn, os, ov, rfl, hd, hv, hcase, hown, hblk, hbl⟩ := hrel
            have HD := Lib.hid hd
            have HV := Lib.hid hv
            have HC := Lib.hid hcase
            clear hd hv
            have hlen : os.length ≤ 3 := by omega
            have hnn : nn < 18446744073709551616 := by omega
            clear hcase
            obtain ⟨q, cap, rfl⟩ := own_form hown
            have x1 : wr.cell? ⟨w.heap.size + 1, 1, none⟩ = some (.slice q os.length cap) := cell_of_block hblk 1
            have hb0 := block_lt hblk
            by_cases hpos : 0 < nn
            · obtain ⟨i0, hi, hz0, hz1, hz2⟩ := info_parts info_i64
              go_wp2_with (at_builtin; refine wpList_append_own _ rfl _ _ 40 rfl (w.heap.size + 2) 2 i0 (.int .i64 0) 1 8 Tryd.underlying40 hi hz0 hz1 hz2 rfl (by decide) _ _ _ rfl (hown.alloc _) ⟨wr.heap.size, 0, none⟩ 1 1 [.int .i64 ((nn : Int) % 16777216)] rfl rfl ?k1 ?k2 ?k3 ?k4 ?k5 ?_)
              case k1 => exact news_one _ _ _
              case k2 => simp [Value.oneCell']
              case k3 => unfold maxLen; omega
              case k4 => omega
              case k5 => first | omega | (simp; omega)
              intro ov' w2 hown2 hgrow _
              obtain ⟨q', cap', rfl⟩ := own_form hown2
              have hblk2 : w2.heap[w.heap.size + 1]? = some (.cells #[.int .i64 1, .slice q os.length cap, .int .i64 e9] 42 (0, 0)) := by
                rw [hgrow.block _ (by simp; omega) (fun he => by have := own_block hown _ he.symm; omega), Below.heap_alloc _ _ _ (by omega)]; exact hblk
              have x2 : w2.cell? ⟨w.heap.size + 1, 1, none⟩ = some (.slice q os.length cap) := cell_of_block hblk2 1
              have x3 : w2.frozen? ⟨w.heap.size + 1, 1, none⟩ = false := frozen_of_block hblk2 1
              have hB : Below (w.heap.size + 1) (w.alloc (.cells #[.int .i64 0, .slice none 0 0, .int .i64 0] 42)) w2 := (hbl.alloc (by omega) _).grown hgrow (by simp; omega) (fun j hj => by have := own_block hown _ hj; omega)
              go_wp2_with fail
              go_roundw
              case rel => exact ⟨nn / 16777216, os ++ [(nn : Int) % 16777216], _, by congr 1, dok_append HD.out _ (by omega) (by omega), by
                  have := HV.out
                  rw [dval_append, List.length_append, ← this]
                  simp only [dval, List.length_cons, List.length_nil]
                  rw [Int.pow_succ]
                  have hdm := Int.mul_ediv_add_emod (nn : Int) 16777216
                  rw [show ((nn / 16777216 : Nat) : Int) = (nn : Int) / 16777216 by omega]
                  generalize (nn : Int) / 16777216 = d at *
                  generalize (nn : Int) % 16777216 = r at *
                  rw [← hdm]; grind, by
                  have := HC.out; simp only [List.length_append, List.length_cons, List.length_nil]; omega, by
                  rw [List.map_append, List.length_append]; exact ownsRow_setCell_below hown2 (by simp) _, by
                  have := setCell_block hblk2 1 (.slice q' (os.length + 1) cap'); simpa using this, hB.setCell (by simp) _⟩
              case measure => simp [intOf]; omega
            · obtain rfl : nn = 0 := by omega
              go_wp2_with fail
              go_loop [7, 8] (fun t i => ∃ (j : Nat) (tw : Int), (j : Int) ≤ k9 ∧ i = .int .i64 j ∧ t = .int .i64 tw ∧ tw = 2 ^ j) (fun _ i => (k9 - intOf i).toNat)
              case atStart => exact ⟨0, 1, by omega, rfl, rfl, rfl⟩
              case round =>
                obtain ⟨j, tw, hj, rfl, rfl, htw⟩ := hrel
                have htw1 : 1 ≤ tw := by rw [htw]; have := Int.pow_pos (n := 2) (m := j) (by decide); omega
                have htw2 : tw ≤ 8388608 := by
                  have : (2 : Nat) ^ j ≤ 2 ^ 23 := Nat.pow_le_pow_right (by omega) (by omega)
                  have e : (2 : Int) ^ j = ((2 ^ j : Nat) : Int) := by simp
                  rw [htw, e]; omega
                have HT := Lib.hid htw
                clear htw
                by_cases hlt : (j : Int) < k9
                · go_wp2_with fail
                  go_round
                  case rel => exact ⟨j + 1, tw * 2, by omega, by go_num, rfl, by rw [HT.out, Int.pow_succ]⟩
                  case measure => simp [intOf]; omega
                · have HJ : Hid ((j : Int) = k9) := by show _ = _; omega
                  go_wp2_with fail
                  obtain ⟨wq, rfl⟩ : ∃ wq : World, wq = wr := ⟨_, rfl⟩
                  have hv0 : Hid (dval os = n) := by have := HV.out; rw [show ((0 : Nat) : Int) = 0 from rfl, Int.zero_mul, Int.add_zero] at this; exact this
                  clear HV HC
                  go_loopw [9, 10, 11] (fun c i _ wr => ∃ (i' : Nat) (cr : Int) (cur : List Int), i' ≤ os.length ∧ i = .int .i64 i' ∧ c = .int .i64 cr ∧ 0 ≤ cr ∧ cr < tw ∧ cur.length = os.length ∧ Dok cur ∧
                      dval cur + cr * 16777216 ^ i' = dval os + (tw - 1) * dval (os.take i') ∧ (∀ j, i' ≤ j → cur.getD j 0 = os.getD j 0) ∧
                      wr.ownsRow (w.heap.size + 2) 2 1 (.slice q os.length cap) os.length (cur.map (Value.int .i64)) ∧ wr.heap[w.heap.size + 1]? = some (.cells #[.int .i64 1, .slice q os.length cap, .int .i64 e9] 42 (0, 0)) ∧
                      Below (w.heap.size + 1) (w.alloc (.cells #[.int .i64 0, .slice none 0 0, .int .i64 0] 42)) wr)
                    (fun _ i _ _ => os.length - (intOf i).toNat)
                  case atStart => exact ⟨0, 0, os, Nat.zero_le _, rfl, rfl, by omega, by omega, rfl, HD.out, by simp [dval], fun _ _ => rfl, hown, hblk, hbl⟩
                  case round =>
                    clear x1 hb0 hown hblk hbl
                    obtain ⟨i', cr, cur, hi', rfl, rfl, hc1, hc2, hcl, hcd, hcv, hcs, hown, hblk, hbl⟩ := hrel
                    have HCD := Lib.hid hcd
                    have HCV := Lib.hid hcv
                    have HCS := Lib.hid hcs
                    have HCL := Lib.hid hcl
                    clear hcd hcv hcs hcl
                    have x1 : wr.cell? ⟨w.heap.size + 1, 1, none⟩ = some (.slice q os.length cap) := cell_of_block hblk 1
                    have hb0 := block_lt hblk
                    by_cases hlt : i' < os.length
                    · obtain ⟨g, cap', hg, hg1, hg2⟩ := own_some hown (by omega)
                      simp only [Value.slice.injEq] at hg
                      obtain ⟨rfl, -, rfl⟩ := hg
                      have hcell := own_cell hown (i := i') (by rw [List.length_map, HCL.out]; exact hlt)
                      obtain ⟨y1, y2⟩ := hcell
                      rw [List.getElem_map] at y1
                      have hd := HCD.out i'
                      have hgd : cur.getD i' 0 = cur[i']'(by rw [HCL.out]; exact hlt) := getD_of_lt _
                      obtain ⟨c, hc⟩ : ∃ c, c = cur.getD i' 0 := ⟨_, rfl⟩
                      rw [← hgd, ← hc] at y1
                      rw [← hc] at hd
                      obtain ⟨d1, d2⟩ := hd
                      have m1 : 0 ≤ c * tw := Int.mul_nonneg d1 (by omega)
                      have m2 : c * tw ≤ 16777215 * tw := Int.mul_le_mul_of_nonneg_right (by omega) (by omega)
                      have HC := Lib.hid hc
                      clear hgd hc
                      go_wp2_with fail
                      go_roundw
                      case rel =>
                        refine ⟨i' + 1, (c * tw + cr) / 16777216, cur.set i' ((c * tw + cr) % 16777216), by omega, by go_num, rfl, by omega, ?_, by rw [List.length_set]; exact HCL.out, dok_set HCD.out _ _ (by rw [HCL.out]; exact hlt) (by omega) (by omega), ?_, ?_, ?_, ?_, ?_⟩
                        · apply Int.ediv_lt_of_lt_mul (by decide); omega
                        · rw [HC.out]; exact step_small HCL.out hlt (HCS.out _ (Nat.le_refl _)) HCV.out
                        · intro j hj
                          rw [getD_set _ _ _ _ (by rw [HCL.out]; exact hlt), if_neg (by omega)]; exact HCS.out j (by omega)
                        · rw [List.map_set]; exact own_set hown _ _
                        · rw [Below.heap_setCell _ _ _ _ (by simp; omega)]; exact hblk
                        · exact hbl.setCell (by simp; omega) _
                      case measure => simp [intOf]; omega
                    · obtain rfl : i' = os.length := by omega
                      obtain ⟨i0, hi, hz0, hz1, hz2⟩ := info_parts info_i64
                      have htb : tw ≤ 16777215 := by omega
                      go_wp2_with (at_builtin; refine wpList_append_own _ rfl _ _ 40 rfl (w.heap.size + 2) 2 i0 (.int .i64 0) 1 8 Tryd.underlying40 hi hz0 hz1 hz2 rfl (by decide) _ _ _ rfl (hown.alloc _) ⟨wr.heap.size, 0, none⟩ 1 1 [.int .i64 cr] rfl rfl ?k1 ?k2 ?k3 ?k4 ?k5 ?_)
                      case k1 => exact news_one _ _ _
                      case k2 => simp [Value.oneCell']
                      case k3 => unfold maxLen; omega
                      case k4 => omega
                      case k5 => first | omega | (simp; omega)
                      intro ov' w2 hown2 hgrow _
                      obtain ⟨q', cap', rfl⟩ := own_form hown2
                      have hblk2 : w2.heap[w.heap.size + 1]? = some (.cells #[.int .i64 1, .slice q os.length cap, .int .i64 e9] 42 (0, 0)) := by
                        rw [hgrow.block _ (by simp; omega) (fun he => by have := own_block hown _ he.symm; omega), Below.heap_alloc _ _ _ (by omega)]; exact hblk
                      obtain ⟨c0, c1, c2, f0, f1, f2⟩ := res_facts hblk2
                      have hB : Below (w.heap.size + 1) (w.alloc (.cells #[.int .i64 0, .slice none 0 0, .int .i64 0] 42)) w2 := (hbl.alloc (by omega) _).grown hgrow (by simp; omega) (fun j hj => by have := own_block hown _ hj; omega)
                      have hown3 := ownsRow_setCell_below hown2 (a := ⟨w.heap.size + 1, 1, none⟩) (by simp) (.slice q' (os.length + 1) cap')
                      have hblk3 := setCell_block hblk2 1 (.slice q' (os.length + 1) cap')
                      have hB3 := hB.setCell (p := ⟨w.heap.size + 1, 1, none⟩) (by simp) (.slice q' (os.length + 1) cap')
                      have g0 : (w2.setCell ⟨w.heap.size + 1, 1, none⟩ (.slice q' (os.length + 1) cap')).cell? ⟨w.heap.size + 1, 0, none⟩ = some (.int .i64 1) := (cell_of_block hblk3 0).trans (by simp)
                      have g1 : (w2.setCell ⟨w.heap.size + 1, 1, none⟩ (.slice q' (os.length + 1) cap')).cell? ⟨w.heap.size + 1, 1, none⟩ = some (.slice q' (os.length + 1) cap') := (cell_of_block hblk3 1).trans (by simp)
                      have g2 : (w2.setCell ⟨w.heap.size + 1, 1, none⟩ (.slice q' (os.length + 1) cap')).cell? ⟨w.heap.size + 1, 2, none⟩ = some (.int .i64 e9) := (cell_of_block hblk3 2).trans (by simp)
                      obtain ⟨wy, hwy⟩ : ∃ wy, wy = w2.setCell ⟨w.heap.size + 1, 1, none⟩ (.slice q' (os.length + 1) cap') := ⟨_, rfl⟩
                      have hsl : Sl wy (.slice q' (os.length + 1) cap') ((cur ++ [cr]).map (Value.int .i64)) := by rw [hwy, List.map_append]; exact own_sl hown3
                      have hres : wy.heap[w.heap.size]? = some (.cells #[.int .i64 0, .slice none 0 0, .int .i64 0] 42 (0, 0)) := by
                        rw [hwy, hB3.block _ (by omega)]
                        have := heap_alloc_new w (.cells #[.int .i64 0, .slice none 0 0, .int .i64 0] 42)
                        exact this
                      have hlen2 : (cur ++ [cr]).length = os.length + 1 := by rw [List.length_append, HCL.out]; rfl
                      go_wp2_with fail
                      rw [← hwy]
                      rw [← hlen2] at hsl ⊢
                      refine (trim_calls 1 e9 _ (cur ++ [cr]) wy hsl (by omega) (by rw [hlen2]; omega)).mono ?_
                      rintro x w5 ⟨s', sl', ds', e', rfl, hsl', hb5, htr, htk⟩
                      obtain ⟨p', cap9, rfl⟩ := hsl'.formMap
                      have hin : In (fun b => w.heap.size + 2 ≤ b) (.slice p' ds'.length cap9) := htk _ (fun ad _ _ he => by cases he; exact own_block hown3 _ rfl)
                      have hres5 := keep_block hb5 hres
                      obtain ⟨y0, y1, y2, z0, z1, z2⟩ := res_facts hres5
                      have hwy0 : Below w.heap.size w wy := by
                        rw [hwy]; exact ((Below.refl w.heap.size w).alloc (Nat.le_refl _) _).trans (hB3.mono (by omega))
                      have HTR := Lib.hid htr
                      clear htr hwy g0 g1 g2 c0 c1 c2 f0 f1 f2
                      go_wp2_with fail
                      obtain ⟨r0, r1, r2⟩ := put_facts hres5 (.int .i64 s') (.slice p' ds'.length cap9) (.int .i64 e')
                      refine bodyPost_ret (v := .agg #[.int .i64 s', .slice p' ds'.length cap9, .int .i64 e']) (by simp [results, Tryd.results44, go_sem, r0, r1, r2]) rfl ?_
                      have hdo : Dok (cur ++ [cr]) := dok_append HCD.out _ hc1 (by omega)
                      refine ⟨_, rfl, ⟨s', _, ds', e', rfl, ((hsl'.put hin (by simp) _).put hin (by simp) _).put hin (by simp) _, trim_nm hdo HTR.out (Or.inl rfl) (by have := E1.out; omega) (by rw [hlen2]; have := E1.out; omega), ?_, hin.mono fun _ h => Or.inr (by omega)⟩,
                        (((hwy0.trans (hb5.mono hwy0.size)).setCell (by simp) _).setCell (by simp) _).setCell (by simp) _⟩
                      rw [trim_nv HTR.out]
                      have h1 := HCV.out
                      rw [List.take_length] at h1
                      have h2 : dval (cur ++ [cr]) = tw * n := by
                        rw [dval_append, HCL.out, dval, dval]
                        have := hv0.out
                        rw [this] at h1
                        rw [Int.mul_zero, Int.add_zero]
                        exact last_row h1
                      rw [nv_power h2 HT.out]
                      congr 2
                      have := HJ.out; have := E1.out; omega
end Go.Proofs.YtiihokgjplpceaaDoor
end
