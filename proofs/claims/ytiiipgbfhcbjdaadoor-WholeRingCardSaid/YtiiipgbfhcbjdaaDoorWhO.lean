/- Package whole, walked: Add of two numbers that are not nought. (Printed by gen_WhO.py.) -/
import Derived.Test.YtiiipgbfhcbjdaaDoorWhN
namespace Go.Proofs.YtiiipgbfhcbjdaaDoor
open Go.RowKit TV
set_option linter.unusedVariables false

theorem put4_cell {w : World} {b : Nat} {p : Addr} {v : Value} (h : w.cell? p = some v) (hne : p.block ≠ b) (u0 u1 u2 u3 : Value) :
    ((((w.setCell ⟨b, 0, none⟩ u0).setCell ⟨b, 1, none⟩ u1).setCell ⟨b, 2, none⟩ u2).setCell ⟨b, 3, none⟩ u3).cell? p = some v := by
  rw [World.cell?_setCell_other _ _ _ _ (fun e => hne (by rw [← e])), World.cell?_setCell_other _ _ _ _ (fun e => hne (by rw [← e])), World.cell?_setCell_other _ _ _ _ (fun e => hne (by rw [← e])), World.cell?_setCell_other _ _ _ _ (fun e => hne (by rw [← e]))]; exact h
theorem Kp.put4 {b : Nat} {w w1 : World} (h : Kp w w1) (hb : w.heap.size ≤ b) (u0 u1 u2 u3 : Value) : Kp w ((((w1.setCell ⟨b, 0, none⟩ u0).setCell ⟨b, 1, none⟩ u1).setCell ⟨b, 2, none⟩ u2).setCell ⟨b, 3, none⟩ u3) :=
  bl_put4 h hb _ _ _ _
theorem WNum.fresh {w W : World} {v : Value} {o : Option Rat} {s b : Nat} (h : WNum (fun j => s ≤ j) W v o) (hb : b < s) (u0 u1 u2 u3 : Value) :
    WNum (fun j => s ≤ j) ((((W.setCell ⟨b, 0, none⟩ u0).setCell ⟨b, 1, none⟩ u1).setCell ⟨b, 2, none⟩ u2).setCell ⟨b, 3, none⟩ u3) v o := h.put4 (b := b) (fun h => by omega) _ _ _ _

set_option maxHeartbeats 8000000 in
theorem add_same {w : World} (a b : List Int) (e g : Int) (p1 p2 : Option Addr) (c1 c2 : Nat) (ng : Bool) (hs : Sl w (.slice p1 a.length c1) (a.map (Value.int .u32))) (hv : Sl w (.slice p2 b.length c2) (b.map (Value.int .u32)))
    (ha : Mg a e) (hb : Mg b g) (ea : -2048 ≤ e ∧ e + a.length ≤ 2049) (eb : -2048 ≤ g ∧ g + b.length ≤ 2049) (ht : TabOk w) :
    Calls Tryd.prog 10 #[.agg #[.slice p1 a.length c1, .int .i64 e, .bool ng, .bool false], .agg #[.slice p2 b.length c2, .int .i64 g, .bool ng, .bool false]] w fun x w' => ∃ o, WvOf (W.nv (sg ng) a e + W.nv (sg ng) b g) o ∧ RetW (fun b => w.heap.size ≤ b) o w x w' := by
  obtain ⟨wn, hwn, hW, hsz, k0, k1, k2⟩ := boxes_res w (.cells #[.slice p1 a.length c1, .int .i64 e, .bool ng, .bool false] 29) (.cells #[.slice p2 b.length c2, .int .i64 g, .bool ng, .bool false] 29) (.cells #[.slice none 0 0, .int .i64 0, .bool false, .bool false] 29)
  obtain ⟨a0, a1, a2, a3, -, -, -, -⟩ := res4_facts k0
  obtain ⟨b0, b1, b2, b3, -, -, -, -⟩ := res4_facts k1
  have HA := Lib.hid (hs.keep hW)
  have HB := Lib.hid (hv.keep hW)
  have HT := Lib.hid (ht.keep hW)
  have HW := Lib.hid hW
  have HSZ := Lib.hid hsz
  have HK := Lib.hid k2
  have la : ¬ (a.length : Int) = 0 := by have := ha.len; omega
  have lb : ¬ (b.length : Int) = 0 := by have := hb.len; omega
  have MA := Lib.hid ha
  have MB := Lib.hid hb
  have EA := Lib.hid ea
  have EB := Lib.hid eb
  have hleb : w.heap.size ≤ w.heap.size + 1 + 1 := by omega
  have hnea : w.heap.size ≠ w.heap.size + 1 + 1 := by omega
  have hneb : w.heap.size + 1 ≠ w.heap.size + 1 + 1 := by omega
  have HX := Lib.hid (fun (Y : World) (h : Kp wn Y) => wsum_calls e g _ _ a b Y (HA.out.keep h.out) (HB.out.keep h.out) MA.out.dok MB.out.dok (by have := EA.out; omega) (by have := EA.out; omega) (by have := EB.out; omega) (by have := EB.out; omega))
  have HM := Lib.hid (fun (Y : World) (h : Kp wn Y) (sl : Value) (os : List Int) (f : Int) {P : Nat → Prop} (hs : Sl Y sl (os.map (Value.int .u32))) (hin : In P sl) (hd : W.Dok os) (h1 : f = min e g) (h2 : f + os.length = max (e + a.length) (g + b.length) + 1) => made_calls f sl os ng Y hs hin hd (by have := EA.out; have := EB.out; omega) (by have := EA.out; have := EB.out; omega) (HT.out.keep h.out))
  clear hW hsz k0 k1 k2 hs hv ht ha hb ea eb
  go_enter Tryd.func10, Tryd.ntmps10
  go_upto_region 1 with (fail)
  rw [← hwn]
  clear hwn
  have KW : Kp w wn := HW.out
  go_wp2_with fail
  go_region_held3 (fun w' => w'.cell? ⟨w.heap.size, 0, none⟩ = some (.slice p1 a.length c1) ∧ w'.cell? ⟨w.heap.size, 1, none⟩ = some (.int .i64 e) ∧ w'.cell? ⟨w.heap.size, 2, none⟩ = some (.bool ng) ∧ w'.cell? ⟨w.heap.size + 1, 0, none⟩ = some (.slice p2 b.length c2) ∧ w'.cell? ⟨w.heap.size + 1, 1, none⟩ = some (.int .i64 g) ∧ Kp w w')
    (first | with_reducible exact ⟨put4_cell (keep_cell (((Kp.refl wn).drew.step hbA).step hbB).out a0) hnea _ _ _ _, put4_cell (keep_cell (((Kp.refl wn).drew.step hbA).step hbB).out a1) hnea _ _ _ _, put4_cell (keep_cell (((Kp.refl wn).drew.step hbA).step hbB).out a2) hnea _ _ _ _, put4_cell (keep_cell (((Kp.refl wn).drew.step hbA).step hbB).out b0) hneb _ _ _ _, put4_cell (keep_cell (((Kp.refl wn).drew.step hbA).step hbB).out b1) hneb _ _ _ _, ((KW.drew.step hbA).step hbB).put4 hleb _ _ _ _⟩ | with_reducible exact ⟨keep_cell (((Kp.refl wn).drew.step hbA).step hbB).out a0, keep_cell (((Kp.refl wn).drew.step hbA).step hbB).out a1, keep_cell (((Kp.refl wn).drew.step hbA).step hbB).out a2, keep_cell (((Kp.refl wn).drew.step hbA).step hbB).out b0, keep_cell (((Kp.refl wn).drew.step hbA).step hbB).out b1, ((KW.drew.step hbA).step hbB)⟩ | with_reducible exact ⟨keep_cell ((Kp.refl wn).drew.step hbA).out a0, keep_cell ((Kp.refl wn).drew.step hbA).out a1, keep_cell ((Kp.refl wn).drew.step hbA).out a2, keep_cell ((Kp.refl wn).drew.step hbA).out b0, keep_cell ((Kp.refl wn).drew.step hbA).out b1, (KW.drew.step hbA)⟩ | with_reducible exact ⟨keep_cell (Kp.refl wn).drew.out a0, keep_cell (Kp.refl wn).drew.out a1, keep_cell (Kp.refl wn).drew.out a2, keep_cell (Kp.refl wn).drew.out b0, keep_cell (Kp.refl wn).drew.out b1, KW.drew⟩)
    (first
      | (go_at_call 38; ((with_reducible refine (HX.out _ ?hq).mono ?_); (case hq => exact (Kp.refl wn).drew); rintro x w2 ⟨sl2, os, f, rfl, hs2, hin2, hd2, ⟨hf1, hf2, hn2⟩, hbA⟩; obtain ⟨pp2, cc2, rfl⟩ := hs2.formMap; have HF1 := Lib.hid hf1; have HF2 := Lib.hid hf2; have HN2 := Lib.hid hn2; clear hf1 hf2 hn2))
      | (go_at_call 37; ((with_reducible refine (HM.out _ ?hq _ _ _ hs2 hin2 hd2 ?h1 ?h2).mono ?_); (case hq => exact ((Kp.refl wn).drew.step hbA)); (case h1 => exact HF1.out); (case h2 => exact HF2.out); rintro x w3 ⟨o3, hwv, v3, rfl, hv3, hbB⟩; obtain ⟨p3, n3, c3, e3, neg3, none3, rfl⟩ := hv3.form; have hres := keep_block hbB (keep_block hbA HK.out); obtain ⟨q0, q1, q2, q3, f0, f1, f2, f3⟩ := res4_facts hres)))
  go_wp2_with fail
  obtain ⟨u0, u1, u2, u3⟩ := put4_facts hres (.slice p3 n3 c3) (.int .i64 e3) (.bool neg3) (.bool none3)
  refine bodyPost_ret (v := .agg #[.slice p3 n3 c3, .int .i64 e3, .bool neg3, .bool none3]) (by simp [results, Tryd.results10, go_sem, u0, u1, u2, u3]) rfl ?_
  have hss := HSZ.out
  have hs9 : wn.heap.size ≤ wn.drew.heap.size := Nat.le_refl _
  exact ⟨o3, by rw [← HN2.out]; exact hwv, _, rfl, (WNum.fresh (w := w) hv3 (by omega) _ _ _ _).mono (fun b h => by omega), (((KW.drew.step hbA).step hbB).put4 hleb _ _ _ _)⟩

end Go.Proofs.YtiiipgbfhcbjdaaDoor
