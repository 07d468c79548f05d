/- Package whole, walked: Cmp. -/
import Derived.Test.YtiiipgbfhcbjdaaDoorWhQ
namespace Go.Proofs.YtiiipgbfhcbjdaaDoor
open Go.RowKit TV
set_option linter.unusedVariables false

set_option maxHeartbeats 8000000 in
theorem wCmp_calls {P : Nat → Prop} {w : World} {va vb : Value} {oa ob : Option Rat} (ha : WNum P w va oa) (hb : WNum P w vb ob) (ht : TabOk w) :
    Calls Tryd.prog 11 #[va, vb] w fun x w' => ∃ o, addO oa (ob.map fun q => -q) o ∧ x = .returned (.int .i64 (cmpO o)) ∧ Below w.heap.size w w' := by
  obtain ⟨p1, n1, c1, e1, neg1, none1, rfl⟩ := ha.form
  obtain ⟨p2, n2, c2, e2, neg2, none2, rfl⟩ := hb.form
  have hW : Below w.heap.size w ((w.alloc (.cells #[.slice p1 n1 c1, .int .i64 e1, .bool neg1, .bool none1] 29)).alloc (.cells #[.slice p2 n2 c2, .int .i64 e2, .bool neg2, .bool none2] 29)) := ((Below.refl w.heap.size w).alloc (Nat.le_refl _) _).alloc (by simp) _
  have HD := Lib.hid (wSub_calls (ha.keep hW) (hb.keep hW) (ht.keep hW))
  have HW := Lib.hid hW
  clear ha hb ht hW
  go_enter Tryd.func11, Tryd.ntmps11
  go_wp2_with fail
  refine HD.out.mono ?_
  rintro x w2 ⟨o, ho, v, rfl, hv, hb2⟩
  obtain ⟨p3, n3, c3, e3, neg3, none3, rfl⟩ := hv.form
  have HS := Lib.hid (wSign_num hv)
  have HO := Lib.hid ho
  have HB := Lib.hid (HW.out.trans (hb2.mono HW.out.size))
  clear hv ho hb2
  go_wp2_with fail
  refine HS.out.mono ?_
  rintro x w3 ⟨rfl, hb3⟩
  go_wp2_with fail
  go_ret
  exact ⟨o, HO.out, rfl, HB.out.trans (hb3.mono HB.out.size)⟩

end Go.Proofs.YtiiipgbfhcbjdaaDoor
