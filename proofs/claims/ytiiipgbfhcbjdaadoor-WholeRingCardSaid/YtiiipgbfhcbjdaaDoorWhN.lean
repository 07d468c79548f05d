/- Package whole, walked: Add. -/
import Derived.Test.YtiiipgbfhcbjdaaDoorWhM
namespace Go.Proofs.YtiiipgbfhcbjdaaDoor
open Go.RowKit TV
set_option linter.unusedVariables false

/-- What an addition answers. -/
def addO (oa ob : Option Rat) (o : Option Rat) : Prop := match oa, ob with
  | some p, some q => WvOf (p + q) o
  | _, _ => o = none

theorem add_none_a {P : Nat → Prop} {w : World} (vb : Value) (ob : Option Rat) (hb : WNum P w vb ob) :
    Calls Tryd.prog 10 #[.agg #[.slice none 0 0, .int .i64 0, .bool false, .bool true], vb] w (RetW P none w) := by
  obtain ⟨p2, n2, c2, e2, neg2, none2, rfl⟩ := hb.form
  obtain ⟨wn, hwn, hW, hsz, k0, k1, k2⟩ := boxes_res w (.cells #[.slice none 0 0, .int .i64 0, .bool false, .bool true] 29) (.cells #[.slice p2 n2 c2, .int .i64 e2, .bool neg2, .bool none2] 29) (.cells #[.slice none 0 0, .int .i64 0, .bool false, .bool false] 29)
  obtain ⟨q0, q1, q2, q3, f0, f1, f2, f3⟩ := res4_facts k2
  obtain ⟨u0, u1, u2, u3⟩ := put4_facts k2 (.slice none 0 0) (.int .i64 0) (.bool false) (.bool true)
  obtain ⟨a0, a1, a2, a3, -, -, -, -⟩ := res4_facts k0
  have HW := Lib.hid hW
  clear hW hsz k0 k1 k2 hb
  go_enter Tryd.func10, Tryd.ntmps10
  go_upto_region 1 with (fail)
  rw [← hwn]
  clear hwn
  go_wp2_with fail
  refine bodyPost_ret (v := .agg #[.slice none 0 0, .int .i64 0, .bool false, .bool true]) (by simp [results, Tryd.results10, go_sem, u0, u1, u2, u3]) rfl ?_
  exact ⟨_, rfl, rfl, bl_put4 HW.out (by omega) _ _ _ _⟩

theorem add_none_b {P : Nat → Prop} {w : World} (va : Value) (q : Rat) (ha : WNum P w va (some q)) :
    Calls Tryd.prog 10 #[va, .agg #[.slice none 0 0, .int .i64 0, .bool false, .bool true]] w (RetW P none w) := by
  obtain ⟨sl, ds, e1, neg1, rfl, hs, -⟩ := ha
  obtain ⟨p1, c1, rfl⟩ := hs.formMap
  obtain ⟨wn, hwn, hW, hsz, k0, k1, k2⟩ := boxes_res w (.cells #[.slice p1 ds.length c1, .int .i64 e1, .bool neg1, .bool false] 29) (.cells #[.slice none 0 0, .int .i64 0, .bool false, .bool true] 29) (.cells #[.slice none 0 0, .int .i64 0, .bool false, .bool false] 29)
  obtain ⟨q0, q1, q2, q3, f0, f1, f2, f3⟩ := res4_facts k2
  obtain ⟨u0, u1, u2, u3⟩ := put4_facts k2 (.slice none 0 0) (.int .i64 0) (.bool false) (.bool true)
  obtain ⟨a0, a1, a2, a3, -, -, -, -⟩ := res4_facts k0
  obtain ⟨b0, b1, b2, b3, -, -, -, -⟩ := res4_facts k1
  have HW := Lib.hid hW
  clear hW hsz k0 k1 k2 hs
  go_enter Tryd.func10, Tryd.ntmps10
  go_upto_region 1 with (fail)
  rw [← hwn]
  clear hwn
  go_wp2_with fail
  refine bodyPost_ret (v := .agg #[.slice none 0 0, .int .i64 0, .bool false, .bool true]) (by simp [results, Tryd.results10, go_sem, u0, u1, u2, u3]) rfl ?_
  exact ⟨_, rfl, rfl, bl_put4 HW.out (by omega) _ _ _ _⟩

set_option maxHeartbeats 4000000 in
/-- Nought and a number: the number. -/
theorem add_zero_a {P : Nat → Prop} {w : World} (q : Rat) (vb : Value) (hb : WNum P w vb (some q)) :
    Calls Tryd.prog 10 #[.agg #[.slice none 0 0, .int .i64 0, .bool false, .bool false], vb] w (RetW P (some q) w) := by
  have HV := Lib.hid hb.lt
  obtain ⟨sl, ds, e2, neg2, rfl, hs, -⟩ := hb
  obtain ⟨p2, c2, rfl⟩ := hs.formMap
  obtain ⟨wn, hwn, hW, hsz, k0, k1, k2⟩ := boxes_res w (.cells #[.slice none 0 0, .int .i64 0, .bool false, .bool false] 29) (.cells #[.slice p2 ds.length c2, .int .i64 e2, .bool neg2, .bool false] 29) (.cells #[.slice none 0 0, .int .i64 0, .bool false, .bool false] 29)
  obtain ⟨q0, q1, q2, q3, f0, f1, f2, f3⟩ := res4_facts k2
  obtain ⟨u0, u1, u2, u3⟩ := put4_facts k2 (.slice p2 ds.length c2) (.int .i64 e2) (.bool neg2) (.bool false)
  obtain ⟨a0, a1, a2, a3, -, -, -, -⟩ := res4_facts k0
  obtain ⟨b0, b1, b2, b3, -, -, -, -⟩ := res4_facts k1
  have HW := Lib.hid hW
  clear hW hsz k0 k1 k2 hs
  go_enter Tryd.func10, Tryd.ntmps10
  go_upto_region 1 with (fail)
  rw [← hwn]
  clear hwn
  go_wp2_with fail
  refine bodyPost_ret (v := .agg #[.slice p2 ds.length c2, .int .i64 e2, .bool neg2, .bool false]) (by simp [results, Tryd.results10, go_sem, u0, u1, u2, u3]) rfl ?_
  exact ⟨_, rfl, ((HV.out.keep HW.out).put4 (b := w.heap.size + 1 + 1) (fun h => by have := h.2; omega) _ _ _ _).mono (fun b h => h.1), bl_put4 HW.out (by omega) _ _ _ _⟩
set_option maxHeartbeats 4000000 in
theorem add_zero_b {P : Nat → Prop} {w : World} (q : Rat) (sl : Value) (ds : List Int) (e1 : Int) (neg1 : Bool) (hs : Sl w sl (ds.map (Value.int .u32))) (ha : WNum P w (.agg #[sl, .int .i64 e1, .bool neg1, .bool false]) (some q)) (hl : 0 < ds.length) :
    Calls Tryd.prog 10 #[.agg #[sl, .int .i64 e1, .bool neg1, .bool false], .agg #[.slice none 0 0, .int .i64 0, .bool false, .bool false]] w (RetW P (some q) w) := by
  have HV := Lib.hid ha.lt
  obtain ⟨p1, c1, rfl⟩ := hs.formMap
  obtain ⟨wn, hwn, hW, hsz, k0, k1, k2⟩ := boxes_res w (.cells #[.slice p1 ds.length c1, .int .i64 e1, .bool neg1, .bool false] 29) (.cells #[.slice none 0 0, .int .i64 0, .bool false, .bool false] 29) (.cells #[.slice none 0 0, .int .i64 0, .bool false, .bool false] 29)
  obtain ⟨q0, q1, q2, q3, f0, f1, f2, f3⟩ := res4_facts k2
  obtain ⟨u0, u1, u2, u3⟩ := put4_facts k2 (.slice p1 ds.length c1) (.int .i64 e1) (.bool neg1) (.bool false)
  obtain ⟨a0, a1, a2, a3, -, -, -, -⟩ := res4_facts k0
  obtain ⟨b0, b1, b2, b3, -, -, -, -⟩ := res4_facts k1
  have HW := Lib.hid hW
  have hl2 : ¬ (ds.length : Int) = 0 := by omega
  clear hW hsz k0 k1 k2 hs hl ha
  go_enter Tryd.func10, Tryd.ntmps10
  go_upto_region 1 with (fail)
  rw [← hwn]
  clear hwn
  go_wp2_with fail
  refine bodyPost_ret (v := .agg #[.slice p1 ds.length c1, .int .i64 e1, .bool neg1, .bool false]) (by simp [results, Tryd.results10, go_sem, u0, u1, u2, u3]) rfl ?_
  exact ⟨_, rfl, ((HV.out.keep HW.out).put4 (b := w.heap.size + 1 + 1) (fun h => by have := h.2; omega) _ _ _ _).mono (fun b h => h.1), bl_put4 HW.out (by omega) _ _ _ _⟩

end Go.Proofs.YtiiipgbfhcbjdaaDoor
