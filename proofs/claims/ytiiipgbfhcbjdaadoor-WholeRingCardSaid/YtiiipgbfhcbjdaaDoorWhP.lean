/- Package whole, walked: Add of two of unlike signs. (Printed by gen_WhP.py.) -/
import Derived.Test.YtiiipgbfhcbjdaaDoorWhO
namespace Go.Proofs.YtiiipgbfhcbjdaaDoor
open Go.RowKit TV
set_option linter.unusedVariables false

theorem nv_sgn (s t : Int) (h : t = -s) (ds : List Int) (e : Int) : W.nv t ds e = -W.nv s ds e := by
  unfold W.nv; rw [h, Int.neg_mul, Rat.intCast_neg, Rat.neg_mul]

theorem cmp_nv (a b : List Int) (e g : Int) : (TV.sg (W.V a e (min e g) (max (e + a.length) (g + b.length) - min e g).toNat - W.V b g (min e g) (max (e + a.length) (g + b.length) - min e g).toNat) < 0) ↔ W.nv 1 a e < W.nv 1 b g := by
  have h1 : min e g ≤ e := by omega
  have h2 : min e g ≤ g := by omega
  obtain ⟨n, hn⟩ : ∃ n : Nat, n = (max (e + (a.length : Int)) (g + (b.length : Int)) - min e g).toNat := ⟨_, rfl⟩
  rw [← hn, W.nv_V (s := 1) (n := n) h1 (by omega), W.nv_V (s := 1) (n := n) h2 (by omega), Int.one_mul, Int.one_mul]
  generalize W.V a e (min e g) n = x
  generalize W.V b g (min e g) n = y
  have hp := two_zpow_pos (32 * min e g)
  have hs : (TV.sg (x - y) < 0) ↔ x < y := by unfold TV.sg; split <;> (try split) <;> omega
  rw [hs]
  constructor
  · intro h; exact Rat.mul_lt_mul_of_pos_right (Rat.intCast_lt_intCast.2 h) hp
  · intro h
    apply Classical.byContradiction
    intro hc
    exact absurd h (Rat.not_lt.2 (Rat.mul_le_mul_of_nonneg_right (Rat.intCast_le_intCast.2 (by omega)) (Rat.le_of_lt hp)))
theorem cmp_lt_nv {a b : List Int} {e g cc : Int} (h : cc = TV.sg (W.V a e (min e g) (max (e + a.length) (g + b.length) - min e g).toNat - W.V b g (min e g) (max (e + a.length) (g + b.length) - min e g).toNat)) (hc : cc < 0) : W.nv 1 a e ≤ W.nv 1 b g := by
  rw [h] at hc; exact Rat.le_of_lt ((cmp_nv a b e g).1 hc)
theorem cmp_ge_nv {a b : List Int} {e g cc : Int} (h : cc = TV.sg (W.V a e (min e g) (max (e + a.length) (g + b.length) - min e g).toNat - W.V b g (min e g) (max (e + a.length) (g + b.length) - min e g).toNat)) (hc : ¬ cc < 0) : W.nv 1 b g ≤ W.nv 1 a e := by
  rw [h] at hc; exact Rat.not_lt.1 fun h2 => hc ((cmp_nv a b e g).2 h2)

set_option maxHeartbeats 8000000 in
theorem add_diff {w : World} (a b : List Int) (e g : Int) (p1 p2 : Option Addr) (c1 c2 : Nat) (ng mg : Bool) (hdf : mg = !ng) (hs : Sl w (.slice p1 a.length c1) (a.map (Value.int .u32))) (hv : Sl w (.slice p2 b.length c2) (b.map (Value.int .u32)))
    (ha : Mg a e) (hb : Mg b g) (ea : -2048 ≤ e ∧ e + a.length ≤ 2049) (eb : -2048 ≤ g ∧ g + b.length ≤ 2049) (ht : TabOk w) :
    Calls Tryd.prog 10 #[.agg #[.slice p1 a.length c1, .int .i64 e, .bool ng, .bool false], .agg #[.slice p2 b.length c2, .int .i64 g, .bool mg, .bool false]] w fun x w' => ∃ o, WvOf (W.nv (sg ng) a e + W.nv (sg mg) b g) o ∧ RetW (fun b => w.heap.size ≤ b) o w x w' := by
  obtain ⟨wn, hwn, hW, hsz, k0, k1, k2⟩ := boxes_res w (.cells #[.slice p1 a.length c1, .int .i64 e, .bool ng, .bool false] 29) (.cells #[.slice p2 b.length c2, .int .i64 g, .bool mg, .bool false] 29) (.cells #[.slice none 0 0, .int .i64 0, .bool false, .bool false] 29)
  obtain ⟨a0, a1, a2, a3, -, -, -, -⟩ := res4_facts k0
  obtain ⟨b0, b1, b2, b3, -, -, -, -⟩ := res4_facts k1
  have HA := Lib.hid (hs.keep hW)
  have HB := Lib.hid (hv.keep hW)
  have HT := Lib.hid (ht.keep hW)
  have HW := Lib.hid hW
  have HSZ := Lib.hid hsz
  have HK := Lib.hid k2
  have la : ¬ (a.length : Int) = 0 := by have := ha.len; omega
  have lb : ¬ (b.length : Int) = 0 := by have := hb.len; omega
  have MA := Lib.hid ha
  have MB := Lib.hid hb
  have EA := Lib.hid ea
  have EB := Lib.hid eb
  have hleb : w.heap.size ≤ w.heap.size + 1 + 1 := by omega
  have hnea : w.heap.size ≠ w.heap.size + 1 + 1 := by omega
  have hneb : w.heap.size + 1 ≠ w.heap.size + 1 + 1 := by omega
  have hsg : sg mg = -sg ng := by rw [hdf]; cases ng <;> rfl
  have HSG := Lib.hid hsg
  have hbeq : (ng == mg) = false := by rw [hdf]; cases ng <;> rfl
  have HY := Lib.hid (fun (Y : World) (h : Kp wn Y) => wcmp_calls e g _ _ a b Y (HA.out.keep h.out) (HB.out.keep h.out) MA.out.dok MB.out.dok (by have := EA.out; omega) (by have := EA.out; omega) (by have := EB.out; omega) (by have := EB.out; omega))
  clear hdf hsg
  clear hW hsz k0 k1 k2 hs hv ht ha hb ea eb
  go_enter Tryd.func10, Tryd.ntmps10
  go_upto_region 1 with (fail)
  rw [← hwn]
  clear hwn
  have KW : Kp w wn := HW.out
  go_wp2_with fail
  refine (HY.out wn (Kp.refl _)).mono ?_
  rintro x wy ⟨rfl, hby⟩
  obtain ⟨cc, hcc⟩ : ∃ z, z = TV.sg (W.V a e (min e g) (max (e + a.length) (g + b.length) - min e g).toNat - W.V b g (min e g) (max (e + a.length) (g + b.length) - min e g).toNat) := ⟨_, rfl⟩
  rw [← hcc]
  have hc1 := Lib.hid (cmp_lt_nv hcc)
  have hc2 := Lib.hid (cmp_ge_nv hcc)
  have a0 := keep_cell hby a0
  have a1 := keep_cell hby a1
  have a2 := keep_cell hby a2
  have b0 := keep_cell hby b0
  have b1 := keep_cell hby b1
  have b2 := keep_cell hby b2
  have KY : Kp w wy := KW.step hby
  have HA := Lib.hid (HA.out.keep hby)
  have HB := Lib.hid (HB.out.keep hby)
  have HT := Lib.hid (HT.out.keep hby)
  have HK := Lib.hid (keep_block hby HK.out)
  have HBS := Lib.hid hby.size
  clear hcc HY KW hby a3 b3
  by_cases hneg : cc < 0
  · have hle := Lib.hid (hc1.out hneg)
    have HX := Lib.hid (fun (Y : World) (h : Kp wy Y) => wless_calls g e _ _ b a Y (HB.out.keep h.out) (HA.out.keep h.out) MB.out.dok MA.out.dok (by have := EB.out; omega) (by have := EB.out; omega) (by have := EA.out; omega) (by have := EA.out; omega) hle.out)
    have HM := Lib.hid (fun (Y : World) (h : Kp wy Y) (sl : Value) (os : List Int) (f : Int) {P : Nat → Prop} (hs : Sl Y sl (os.map (Value.int .u32))) (hin : In P sl) (hd : W.Dok os) (h1 : f = min g e) (h2 : f + os.length = max (g + b.length) (e + a.length)) => made_calls f sl os mg Y hs hin hd (by have := EA.out; have := EB.out; omega) (by have := EA.out; have := EB.out; omega) (HT.out.keep h.out))
    clear hc1 hc2
    go_wp2_with fail
    go_region_held3 (fun w' => w'.cell? ⟨w.heap.size + 1, 0, none⟩ = some (.slice p2 b.length c2) ∧ w'.cell? ⟨w.heap.size + 1, 1, none⟩ = some (.int .i64 g) ∧ w'.cell? ⟨w.heap.size + 1, 2, none⟩ = some (.bool mg) ∧ w'.cell? ⟨w.heap.size, 0, none⟩ = some (.slice p1 a.length c1) ∧ w'.cell? ⟨w.heap.size, 1, none⟩ = some (.int .i64 e) ∧ Kp w w')
      (first | with_reducible exact ⟨put4_cell (keep_cell (((Kp.refl wy).drew.step hbA).step hbB).out b0) hneb _ _ _ _, put4_cell (keep_cell (((Kp.refl wy).drew.step hbA).step hbB).out b1) hneb _ _ _ _, put4_cell (keep_cell (((Kp.refl wy).drew.step hbA).step hbB).out b2) hneb _ _ _ _, put4_cell (keep_cell (((Kp.refl wy).drew.step hbA).step hbB).out a0) hnea _ _ _ _, put4_cell (keep_cell (((Kp.refl wy).drew.step hbA).step hbB).out a1) hnea _ _ _ _, ((KY.drew.step hbA).step hbB).put4 hleb _ _ _ _⟩ | with_reducible exact ⟨keep_cell (((Kp.refl wy).drew.step hbA).step hbB).out b0, keep_cell (((Kp.refl wy).drew.step hbA).step hbB).out b1, keep_cell (((Kp.refl wy).drew.step hbA).step hbB).out b2, keep_cell (((Kp.refl wy).drew.step hbA).step hbB).out a0, keep_cell (((Kp.refl wy).drew.step hbA).step hbB).out a1, ((KY.drew.step hbA).step hbB)⟩ | with_reducible exact ⟨keep_cell ((Kp.refl wy).drew.step hbA).out b0, keep_cell ((Kp.refl wy).drew.step hbA).out b1, keep_cell ((Kp.refl wy).drew.step hbA).out b2, keep_cell ((Kp.refl wy).drew.step hbA).out a0, keep_cell ((Kp.refl wy).drew.step hbA).out a1, (KY.drew.step hbA)⟩ | with_reducible exact ⟨keep_cell (Kp.refl wy).drew.out b0, keep_cell (Kp.refl wy).drew.out b1, keep_cell (Kp.refl wy).drew.out b2, keep_cell (Kp.refl wy).drew.out a0, keep_cell (Kp.refl wy).drew.out a1, KY.drew⟩)
      (first
        | (go_at_call 40; ((with_reducible refine (HX.out _ ?hq).mono ?_); (case hq => exact (Kp.refl wy).drew); rintro x w2 ⟨sl2, os, f, rfl, hs2, hin2, hd2, ⟨hf1, hf2, hn2⟩, hbA⟩; obtain ⟨pp2, cc2, rfl⟩ := hs2.formMap; have HF1 := Lib.hid hf1; have HF2 := Lib.hid hf2; have HN2 := Lib.hid hn2; clear hf1 hf2 hn2))
        | (go_at_call 37; ((with_reducible refine (HM.out _ ?hq _ _ _ hs2 hin2 hd2 ?h1 ?h2).mono ?_); (case hq => exact ((Kp.refl wy).drew.step hbA)); (case h1 => exact HF1.out); (case h2 => exact HF2.out); rintro x w3 ⟨o3, hwv, v3, rfl, hv3, hbB⟩; obtain ⟨p3, n3, c3, e3, neg3, none3, rfl⟩ := hv3.form; have hres := keep_block hbB (keep_block hbA HK.out); obtain ⟨q0, q1, q2, q3, f0, f1, f2, f3⟩ := res4_facts hres)))
    go_wp2_with fail
    obtain ⟨u0, u1, u2, u3⟩ := put4_facts hres (.slice p3 n3 c3) (.int .i64 e3) (.bool neg3) (.bool none3)
    refine bodyPost_ret (v := .agg #[.slice p3 n3 c3, .int .i64 e3, .bool neg3, .bool none3]) (by simp [results, Tryd.results10, go_sem, u0, u1, u2, u3]) rfl ?_
    have hss := HSZ.out
    have hs9 : wn.heap.size ≤ wy.drew.heap.size := HBS.out
    exact ⟨o3, by have h := HN2.out (sg mg); rw [h, nv_sgn (sg ng) (sg mg) HSG.out a e, Rat.sub_eq_add_neg, Rat.neg_neg, Rat.add_comm] at hwv; exact hwv, _, rfl, (WNum.fresh (w := w) hv3 (by omega) _ _ _ _).mono (fun b h => by omega), (((KY.drew.step hbA).step hbB).put4 hleb _ _ _ _)⟩
  · have hle := Lib.hid (hc2.out hneg)
    have HX := Lib.hid (fun (Y : World) (h : Kp wy Y) => wless_calls e g _ _ a b Y (HA.out.keep h.out) (HB.out.keep h.out) MA.out.dok MB.out.dok (by have := EA.out; omega) (by have := EA.out; omega) (by have := EB.out; omega) (by have := EB.out; omega) hle.out)
    have HM := Lib.hid (fun (Y : World) (h : Kp wy Y) (sl : Value) (os : List Int) (f : Int) {P : Nat → Prop} (hs : Sl Y sl (os.map (Value.int .u32))) (hin : In P sl) (hd : W.Dok os) (h1 : f = min e g) (h2 : f + os.length = max (e + a.length) (g + b.length)) => made_calls f sl os ng Y hs hin hd (by have := EA.out; have := EB.out; omega) (by have := EA.out; have := EB.out; omega) (HT.out.keep h.out))
    clear hc1 hc2
    go_wp2_with fail
    go_region_held3 (fun w' => w'.cell? ⟨w.heap.size, 0, none⟩ = some (.slice p1 a.length c1) ∧ w'.cell? ⟨w.heap.size, 1, none⟩ = some (.int .i64 e) ∧ w'.cell? ⟨w.heap.size, 2, none⟩ = some (.bool ng) ∧ w'.cell? ⟨w.heap.size + 1, 0, none⟩ = some (.slice p2 b.length c2) ∧ w'.cell? ⟨w.heap.size + 1, 1, none⟩ = some (.int .i64 g) ∧ Kp w w')
      (first | with_reducible exact ⟨put4_cell (keep_cell (((Kp.refl wy).drew.step hbA).step hbB).out a0) hnea _ _ _ _, put4_cell (keep_cell (((Kp.refl wy).drew.step hbA).step hbB).out a1) hnea _ _ _ _, put4_cell (keep_cell (((Kp.refl wy).drew.step hbA).step hbB).out a2) hnea _ _ _ _, put4_cell (keep_cell (((Kp.refl wy).drew.step hbA).step hbB).out b0) hneb _ _ _ _, put4_cell (keep_cell (((Kp.refl wy).drew.step hbA).step hbB).out b1) hneb _ _ _ _, ((KY.drew.step hbA).step hbB).put4 hleb _ _ _ _⟩ | with_reducible exact ⟨keep_cell (((Kp.refl wy).drew.step hbA).step hbB).out a0, keep_cell (((Kp.refl wy).drew.step hbA).step hbB).out a1, keep_cell (((Kp.refl wy).drew.step hbA).step hbB).out a2, keep_cell (((Kp.refl wy).drew.step hbA).step hbB).out b0, keep_cell (((Kp.refl wy).drew.step hbA).step hbB).out b1, ((KY.drew.step hbA).step hbB)⟩ | with_reducible exact ⟨keep_cell ((Kp.refl wy).drew.step hbA).out a0, keep_cell ((Kp.refl wy).drew.step hbA).out a1, keep_cell ((Kp.refl wy).drew.step hbA).out a2, keep_cell ((Kp.refl wy).drew.step hbA).out b0, keep_cell ((Kp.refl wy).drew.step hbA).out b1, (KY.drew.step hbA)⟩ | with_reducible exact ⟨keep_cell (Kp.refl wy).drew.out a0, keep_cell (Kp.refl wy).drew.out a1, keep_cell (Kp.refl wy).drew.out a2, keep_cell (Kp.refl wy).drew.out b0, keep_cell (Kp.refl wy).drew.out b1, KY.drew⟩)
      (first
        | (go_at_call 40; ((with_reducible refine (HX.out _ ?hq).mono ?_); (case hq => exact (Kp.refl wy).drew); rintro x w2 ⟨sl2, os, f, rfl, hs2, hin2, hd2, ⟨hf1, hf2, hn2⟩, hbA⟩; obtain ⟨pp2, cc2, rfl⟩ := hs2.formMap; have HF1 := Lib.hid hf1; have HF2 := Lib.hid hf2; have HN2 := Lib.hid hn2; clear hf1 hf2 hn2))
        | (go_at_call 37; ((with_reducible refine (HM.out _ ?hq _ _ _ hs2 hin2 hd2 ?h1 ?h2).mono ?_); (case hq => exact ((Kp.refl wy).drew.step hbA)); (case h1 => exact HF1.out); (case h2 => exact HF2.out); rintro x w3 ⟨o3, hwv, v3, rfl, hv3, hbB⟩; obtain ⟨p3, n3, c3, e3, neg3, none3, rfl⟩ := hv3.form; have hres := keep_block hbB (keep_block hbA HK.out); obtain ⟨q0, q1, q2, q3, f0, f1, f2, f3⟩ := res4_facts hres)))
    go_wp2_with fail
    obtain ⟨u0, u1, u2, u3⟩ := put4_facts hres (.slice p3 n3 c3) (.int .i64 e3) (.bool neg3) (.bool none3)
    refine bodyPost_ret (v := .agg #[.slice p3 n3 c3, .int .i64 e3, .bool neg3, .bool none3]) (by simp [results, Tryd.results10, go_sem, u0, u1, u2, u3]) rfl ?_
    have hss := HSZ.out
    have hs9 : wn.heap.size ≤ wy.drew.heap.size := HBS.out
    exact ⟨o3, by rw [nv_sgn (sg ng) (sg mg) HSG.out b g, ← Rat.sub_eq_add_neg, ← HN2.out]; exact hwv, _, rfl, (WNum.fresh (w := w) hv3 (by omega) _ _ _ _).mono (fun b h => by omega), (((KY.drew.step hbA).step hbB).put4 hleb _ _ _ _)⟩

end Go.Proofs.YtiiipgbfhcbjdaaDoor
