/- ExpandLeads walked: the number of a list (the statement's own loop), and the statement. (Printed by gen_EwQ.py.) -/
import Derived.Test.YtjogclokjonkeaaDoorEwP
import Derived.Test.YtjogclokjonkeaaDoorEwL
import Derived.Test.YtjogclokjonkeaaDoorBxA
namespace Go.Proofs.YtjogclokjonkeaaDoor
open Go.RowKit TV
set_option linter.unusedVariables false

set_option maxRecDepth 100000 in
set_option maxHeartbeats 1000000 in
theorem number2_calls {w : World} (ht : TabOk w) {v : Value} {l : List Nat} (hs : Sl w v (fvs l)) (hl : ∀ x ∈ l, Fl x) (hn : l.length ≤ 60000) :
    Calls Tryd.prog 36 #[v] w fun x w' => ∃ u, x = .returned u ∧ N1 w.heap.size w' u (numL l) (1100 + l.length) ∧ Below w.heap.size w w' := by
  obtain ⟨p, cap, rfl⟩ := hs.form
  have hll : (fvs l).length = l.length := by simp [fvs]
  rw [hll] at hs ⊢
  obtain ⟨W1, h1, B1, S1, J0, J1⟩ := box_num w (.cells #[.slice none 0 0, .int .i64 0, .bool false, .bool false] 53) (.cells #[.slice none 0 0, .int .i64 0, .bool false, .bool false] 53)
  have N0 : N1 w.heap.size W1 (.agg #[.slice none 0 0, .int .i64 0, .bool false, .bool false]) 0 (1100 + 0) := ⟨zero_num1 W1, Bx.zero _⟩
  have HL := Lib.hid hl
  have HN := Lib.hid hn
  clear hl
  go_enter Tryd.func36, Tryd.ntmps36
  go_wp2_with fail
  rw [← h1]
  clear h1
  go_loopw [4] (fun iv wr => ∃ (k : Nat) (p1 : Option Addr) (n1 c1 : Nat) (e1 : Int) (g1 : Bool), k ≤ l.length ∧ iv = .int .i64 k ∧ N1 w.heap.size wr (.agg #[.slice p1 n1 c1, .int .i64 e1, .bool g1, .bool false]) (numL (l.take k)) (1100 + k) ∧
      wr.heap[w.heap.size]? = some (.cells #[.slice none 0 0, .int .i64 0, .bool false, .bool false] 53 (0, 0)) ∧
      wr.heap[w.heap.size + 1]? = some (.cells #[.slice p1 n1 c1, .int .i64 e1, .bool g1, .bool false] 53 (0, 0)) ∧ Below w.heap.size w wr) (fun iv _ => l.length - (intOf iv).toNat)
  case atStart => exact ⟨0, _, _, _, _, _, Nat.zero_le _, rfl, N0, J0, J1, B1⟩
  case round =>
    obtain ⟨k, p1, n1, c1, e1, g1, hk, rfl, hN, hR, hJ, hB⟩ := hrel
    obtain ⟨wz, rfl⟩ : ∃ z : World, z = wr := ⟨_, rfl⟩
    clear N0 J0 J1 B1 S1
    by_cases hlt : k < l.length
    · obtain ⟨bb, oo, rfl, hcell⟩ := sl_atf (hs.keep hB) hlt
      have hx := HL.out l[k] (List.getElem_mem hlt)
      have hsum : numL (l.take (k + 1)) = numL (l.take k) + fr l[k] := by rw [List.take_succ_eq_append_getElem hlt, numL_snoc]
      obtain ⟨x, hxx⟩ : ∃ x, x = l[k] := ⟨_, rfl⟩
      rw [← hxx] at hcell hx hsum
      have HSUM := Lib.hid hsum
      have D : Below wz.heap.size wz wz.drew := (Below.refl _ _).drew
      have hs7 : w.heap.size + 2 ≤ wz.drew.heap.size := by have := block_lt (keep_block D hJ); omega
      have HO := Lib.hid (of1 (b := w.heap.size) x hx.1 hx.2 ((ht.keep hB).keep D) hs7)
      have HNd := Lib.hid (hN.keep D)
      have HS2 := Lib.hid (fun (Y : World) (u : Value) (b : Below wz.drew.heap.size wz.drew Y) (hu : N1 w.heap.size Y u (fr x) 1074) => add1 (1100 + (k + 1)) (HNd.out.keep b) hu (((ht.keep hB).keep D).keep b) (Nat.le_trans hs7 b.size) (by omega) (by omega) (by have := HN.out; omega))
      have HJd := Lib.hid (keep_block D hJ)
      have HRd := Lib.hid (keep_block D hR)
      have HBd := Lib.hid (bl_pack hB hB.size D)
      obtain ⟨q0, q1, q2, q3, -, -, -, -⟩ := res4_facts HJd.out
      obtain ⟨q0', q1', q2', q3', -, -, -, -⟩ := res4_facts hJ
      have hcelld := keep_cell D hcell
      have a1 : (0 : Int) ≤ k := by omega
      have a2 : (k : Int) < l.length := by omega
      clear hxx hsum hx hN hR hJ hB
      go_upto_region 5 with (fail)
      go_region_with (first
        | (go_at_call 32; refine HO.out.mono ?_; rintro _ w8 ⟨v8, rfl, M8, b8⟩; obtain ⟨p8, n8, c8, e8, g8, rfl⟩ := M8.num.form; have hJ8 := Lib.hid (keep_block b8 HJd.out); obtain ⟨t0, t1, t2, t3, -, -, -, -⟩ := res4_facts hJ8.out)
        | (go_at_call 63; refine (HS2.out _ _ b8 M8).mono ?_; rintro _ w9 ⟨v9, rfl, M9, b9⟩; obtain ⟨p9, n9, c9, e9, g9, rfl⟩ := M9.num.form; have hJ9 := Lib.hid (keep_block b9 hJ8.out); obtain ⟨k0, k1, k2, k3, f0, f1, f2, f3⟩ := res4_facts hJ9.out))
      all_goals (
        go_wp2_with fail
        go_roundw
        case rel => exact ⟨k + 1, p9, n9, c9, e9, g9, by omega, by go_num, by rw [HSUM.out]; exact M9.put4s _ _ _ _, (put4_off _ _ _ _ (by omega)).trans (keep_block b9 (keep_block b8 HRd.out)), put4_own hJ9.out _ _ _ _, bl_put4 (bl_pack (bl_pack HBd.out HBd.out.size b8) (Nat.le_trans HBd.out.size b8.size) b9) (Nat.le_succ _) _ _ _ _⟩
        case measure => simp [intOf]; omega)
    · obtain rfl : k = l.length := by omega
      obtain ⟨q0, q1, q2, q3, -, -, -, -⟩ := res4_facts hJ
      obtain ⟨r0, r1, r2, r3, f0, f1, f2, f3⟩ := res4_facts hR
      go_wp2_with fail
      obtain ⟨s0, s1, s2, s3⟩ := put4_facts hR (.slice p1 n1 c1) (.int .i64 e1) (.bool g1) (.bool false)
      refine bodyPost_ret (v := .agg #[.slice p1 n1 c1, .int .i64 e1, .bool g1, .bool false]) (by simp [results, Tryd.results36, go_sem, s0, s1, s2, s3]) rfl ?_
      rw [List.take_length] at hN
      exact ⟨_, rfl, hN.put4 _ _ _ _, bl_put4 hB (Nat.le_refl _) _ _ _ _⟩

theorem number2B {w : World} (ht : TabOk w) {v : Value} {l : List Nat} (hs : Sl w v (fvs l)) (hl : ∀ x ∈ l, Fl x) (hn : l.length ≤ 100) :
    Calls Tryd.prog 36 #[v] w (RetB 0 (numL l) 1200 w) := by
  refine (number2_calls ht hs hl (by omega)).mono ?_
  rintro x w' ⟨u, rfl, h1, h2⟩
  exact ⟨u, rfl, ⟨h1.num.1, h1.2.mono (by omega)⟩, h2⟩
theorem negN0 {b : Nat} {w : World} {v : Value} {q : Rat} {m : Nat} (h : N0 b w v q m) :
    Calls Tryd.prog 38 #[v] w fun x w' => ∃ u, x = .returned u ∧ N0 b w' u (-q) m ∧ Below w.heap.size w w' :=
  (wNeg_num h.1).mono fun x w' ⟨v, a, b, c⟩ => ⟨v, a, ⟨b, h.2.neg⟩, c⟩
theorem N0.afterPut {b : Nat} {w W : World} {v : Value} {q : Rat} {m : Nat} {u0 u1 u2 u3 : Value} (h : N0 b w v q m) (hW : W = ((((w.setCell ⟨b, 0, none⟩ u0).setCell ⟨b, 1, none⟩ u1).setCell ⟨b, 2, none⟩ u2).setCell ⟨b, 3, none⟩ u3)) : NumB 0 W v q m := by
  rw [hW]; exact (h.put4 _ _ _ _).num
theorem far_put {b c : Nat} {w W : World} {o : Option Obj} {u0 u1 u2 u3 : Value} (h : w.heap[c]? = o) (hW : W = ((((w.setCell ⟨b, 0, none⟩ u0).setCell ⟨b, 1, none⟩ u1).setCell ⟨b, 2, none⟩ u2).setCell ⟨b, 3, none⟩ u3)) (hne : c < b) : W.heap[c]? = o := by
  rw [hW]; exact (put4_off _ _ _ _ (Nat.ne_of_lt hne)).trans h
theorem own_putw {b : Nat} {w W : World} {T : TypeId} {c0 c1 c2 c3 u0 u1 u2 u3 : Value} (h : w.heap[b]? = some (.cells #[c0, c1, c2, c3] T (0, 0))) (hW : W = ((((w.setCell ⟨b, 0, none⟩ u0).setCell ⟨b, 1, none⟩ u1).setCell ⟨b, 2, none⟩ u2).setCell ⟨b, 3, none⟩ u3)) : W.heap[b]? = some (.cells #[u0, u1, u2, u3] T (0, 0)) := by
  rw [hW]; exact put4_own h _ _ _ _
/-- The words of a number that was there ahead of the block b. -/
theorem N0.ahead {w w1 : World} {v : Value} {q : Rat} {m b : Nat} (h : NumB 0 w v q m) (hb : w.heap.size ≤ b) (k : Below w.heap.size w w1) : N0 b w1 v q m := ⟨(h.1.lt.mono fun _ h => by omega).keep k, h.2⟩

set_option maxRecDepth 100000 in
set_option maxHeartbeats 4000000 in
theorem leads_pos {w : World} (ht : TabOk w) {p : Option Addr} {cap n x : Nat} {l : List Nat} (hs : Sl w (.slice p l.length cap) (fvs l)) (hl : ∀ x ∈ l, Fl x) (hlen : l.length ≤ 64) (hc : allB 1 9065746049896808448 l = true) (hn : l.length = n + 1)
    (b o : Nat) (hp : p = some ⟨b, o, none⟩) (hcell : w.cell? ⟨b, o + n, none⟩ = some (.float .f64 x)) (hx : Fl x) (SG : Int) (h1 : rs (fr x) = SG) (h2 : rs (numL l) = SG) (h3 : sgnL l = SG)
    (lw : Int) (hlw : LowOf (fr x) lw) (hlr : lw.natAbs ≤ 2000) (SD : Int) (hsd : rs (numL l - fr x) = SD) (hsd0 : decide (SD < 0) = false) (hcm : rs (numL l - fr x - ((1 : Int) : Rat) * (2 : Rat) ^ lw) = -1) :
    Calls Tryd.prog 7 #[.slice p l.length cap] w fun x w' => x = .returned (.bool true) ∧ Below w.heap.size w w' := by
  subst hp
  have HS := Lib.hid hs
  have HL := Lib.hid hl
  have HX := Lib.hid hcell
  have HXF := Lib.hid hx
  have H1 := Lib.hid h1
  have H2 := Lib.hid h2
  have HLW := Lib.hid hlw
  have HCM := Lib.hid hcm
  have HLEN := Lib.hid hlen
  have HLR := Lib.hid hlr
  have HCK := Lib.hid (fun (W : World) (h : Sl W (.slice (some ⟨b, o, none⟩) l.length cap) (fvs l)) => (by
    have h4 := check_calls h (fun x hx => (hl x hx).1) (by omega)
    rw [hc] at h4
    exact h4 : Calls Tryd.prog 18 #[.slice (some ⟨b, o, none⟩) l.length cap] W fun x w' => x = .returned (.bool true) ∧ Below W.heap.size W w'))
  have HSG := Lib.hid (fun (W : World) (h : Sl W (.slice (some ⟨b, o, none⟩) l.length cap) (fvs l)) => (by
    have h4 := esign_calls h (fun x hx => (hl x hx).1) (by omega)
    rw [h3] at h4
    exact h4 : Calls Tryd.prog 21 #[.slice (some ⟨b, o, none⟩) l.length cap] W fun x w' => x = .returned (.int .i64 SG) ∧ Below W.heap.size W w'))
  have HT0 := Lib.hid ht
  have hl100 : decide ((100 : Int) < (l.length : Int)) = false := decide_eq_false (by omega)
  have hl0 : ((l.length : Int) == 0) = false := by rw [beq_eq_false_iff_ne]; omega
  have i1 : (l.length : Int) - 1 = n := by omega
  have i2 : (0 : Int) ≤ n := by omega
  have i3 : (n : Int) < l.length := by omega
  have i4 : (n : Int) ≤ 100 := by omega
  have HSD := Lib.hid hsd
  clear hsd
  clear hs hl hcell hx h1 h2 h3 hlw hcm hlen hlr hc hn
  have HT := Lib.hid (show Tb 0 w from ⟨ht, Nat.zero_le _⟩)
  have HW := Lib.hid (Below.refl w.heap.size w)
  clear ht
  go_enter Tryd.func7, Tryd.ntmps7
  go_wp2_with fail
  refine (eworks_calls HT.out.tab).mono ?_
  rintro _ w1 ⟨rfl, b1⟩
  have HT := Lib.hid (HT.out.keep b1)
  have HW := Lib.hid (bl_pack HW.out HW.out.size b1)
  clear b1
  go_wp2_with fail
  refine (HCK.out _ (HS.out.keep HW.out)).mono ?_
  rintro _ w2 ⟨rfl, b2⟩
  have HT := Lib.hid (HT.out.keep b2)
  have HW := Lib.hid (bl_pack HW.out HW.out.size b2)
  clear b2
  go_wp2_with fail
  refine (number2B HT.out.tab (HS.out.keep HW.out) HL.out (by have := HLEN.out; omega)).mono ?_
  rintro _ w3 ⟨vn, rfl, Mn, b3⟩
  have HT := Lib.hid (HT.out.keep b3)
  have HW := Lib.hid (bl_pack HW.out HW.out.size b3)
  have Nn := Lib.hid Mn
  clear b3 Mn
  obtain ⟨pn, nn, cn, en, gn, rfl⟩ := Nn.out.form
  obtain ⟨Wn, hWn, Bn, -, Jn⟩ := box_res w3 (.cells #[.slice pn nn cn, .int .i64 en, .bool gn, .bool false] 53)
  go_upto_region 4 with (fail)
  rw [← hWn]
  clear hWn
  have HT := Lib.hid (HT.out.keep Bn)
  have HW := Lib.hid (bl_pack HW.out HW.out.size Bn)
  have Nn := Lib.hid (Nn.out.keep Bn)
  have Kn := Lib.hid Jn
  clear Bn Jn
  have xc := keep_cell HW.out HX.out
  go_wp2_with fail
  refine (ofB x HXF.out.1 HXF.out.2 HT.out).mono ?_
  rintro _ w4 ⟨vl, rfl, Ml, b4⟩
  have HT := Lib.hid (HT.out.keep b4)
  have HW := Lib.hid (bl_pack HW.out HW.out.size b4)
  have Nn := Lib.hid (Nn.out.keep b4)
  have Kn := Lib.hid (keep_block b4 Kn.out)
  have Nl := Lib.hid Ml
  clear b4 Ml
  clear xc
  obtain ⟨pl, nl, cl, el, gl, rfl⟩ := Nl.out.form
  obtain ⟨Wl, hWl, Bl, -, Jl⟩ := box_res w4 (.cells #[.slice pl nl cl, .int .i64 el, .bool gl, .bool false] 53)
  go_upto_region 7 with (fail)
  rw [← hWl]
  clear hWl
  have HT := Lib.hid (HT.out.keep Bl)
  have HW := Lib.hid (bl_pack HW.out HW.out.size Bl)
  have Nn := Lib.hid (Nn.out.keep Bl)
  have Nl := Lib.hid (Nl.out.keep Bl)
  have Kn := Lib.hid (keep_block Bl Kn.out)
  have Kl := Lib.hid Jl
  clear Bl Jl
  obtain ⟨qn0, qn1, qn2, qn3, -, -, -, -⟩ := res4_facts Kn.out
  obtain ⟨ql0, ql1, ql2, ql3, -, -, -, -⟩ := res4_facts Kl.out
  go_wp2_with fail
  refine (subB 1201 Nn.out Nl.out HT.out (by decide) (by decide) (by decide)).mono ?_
  rintro _ w5 ⟨vd, rfl, Md, b5⟩
  have HT := Lib.hid (HT.out.keep b5)
  have HW := Lib.hid (bl_pack HW.out HW.out.size b5)
  have Nn := Lib.hid (Nn.out.keep b5)
  have Nl := Lib.hid (Nl.out.keep b5)
  have Kn := Lib.hid (keep_block b5 Kn.out)
  have Kl := Lib.hid (keep_block b5 Kl.out)
  have Nd := Lib.hid Md
  clear b5 Md
  clear qn0 qn1 qn2 qn3 ql0 ql1 ql2 ql3
  have HWd := HW
  have Zn := Nn
  have Zl := Nl
  have Zd := Nd
  have hnd := block_lt Kn.out
  have hld := block_lt Kl.out
  have HM := Lib.hid (Below.refl w5.heap.size w5)
  obtain ⟨pd, nd, cd, ed, gd, rfl⟩ := Nd.out.form
  obtain ⟨Wd, hWd, Bd, -, Jd⟩ := box_res w5 (.cells #[.slice pd nd cd, .int .i64 ed, .bool gd, .bool false] 53)
  go_upto_region 8 with (fail)
  rw [← hWd]
  clear hWd
  have HT := Lib.hid (HT.out.keep Bd)
  have HW := Lib.hid (bl_pack HW.out HW.out.size Bd)
  have HM := Lib.hid (bl_pack HM.out HM.out.size Bd)
  have Nn := Lib.hid (Nn.out.keep Bd)
  have Nl := Lib.hid (Nl.out.keep Bd)
  have Nd := Lib.hid (Nd.out.keep Bd)
  have Kn := Lib.hid (keep_block Bd Kn.out)
  have Kl := Lib.hid (keep_block Bd Kl.out)
  have Kd := Lib.hid Jd
  clear Bd Jd
  obtain ⟨qn0, qn1, qn2, qn3, -, -, -, -⟩ := res4_facts Kn.out
  obtain ⟨ql0, ql1, ql2, ql3, -, -, -, -⟩ := res4_facts Kl.out
  obtain ⟨qd0, qd1, qd2, qd3, -, -, -, -⟩ := res4_facts Kd.out
  go_wp2_with fail
  refine (signBn SD Nd.out HSD.out).mono ?_
  rintro _ w6 ⟨rfl, b6⟩
  have HT := Lib.hid (HT.out.keep b6)
  have HW := Lib.hid (bl_pack HW.out HW.out.size b6)
  have HM := Lib.hid (bl_pack HM.out HM.out.size b6)
  have Nn := Lib.hid (Nn.out.keep b6)
  have Nl := Lib.hid (Nl.out.keep b6)
  have Nd := Lib.hid (Nd.out.keep b6)
  have Kn := Lib.hid (keep_block b6 Kn.out)
  have Kl := Lib.hid (keep_block b6 Kl.out)
  have Kd := Lib.hid (keep_block b6 Kd.out)
  clear b6
  clear qn0 qn1 qn2 qn3 ql0 ql1 ql2 ql3 qd0 qd1 qd2 qd3
  obtain ⟨qn0, qn1, qn2, qn3, -, -, -, -⟩ := res4_facts Kn.out
  obtain ⟨ql0, ql1, ql2, ql3, -, -, -, -⟩ := res4_facts Kl.out
  obtain ⟨qd0, qd1, qd2, qd3, -, -, -, -⟩ := res4_facts Kd.out
  clear Zn Zl Zd HM
  go_upto_region 10 with (fail)
  clear qn0 qn1 qn2 qn3 ql0 ql1 ql2 ql3 qd0 qd1 qd2 qd3
  obtain ⟨qn0, qn1, qn2, qn3, -, -, -, -⟩ := res4_facts Kn.out
  obtain ⟨ql0, ql1, ql2, ql3, -, -, -, -⟩ := res4_facts Kl.out
  obtain ⟨qd0, qd1, qd2, qd3, -, -, -, -⟩ := res4_facts Kd.out
  have HC0 := Lib.hid (fun (Y : World) (h' : Kp w6 Y) => signBn SG (Nl.out.keep h'.out) H1.out)
  have HC1 := Lib.hid (fun (Y : World) (h' : Kp w6 Y) => signBn SG (Nn.out.keep h'.out) H2.out)
  have HC2 := Lib.hid (fun (Y : World) (h' : Kp w6 Y) => HSG.out Y ((HS.out.keep HW.out).keep h'.out))
  have HC3 := Lib.hid (fun (Y : World) (h' : Kp w6 Y) => signBn SG (Nn.out.keep h'.out) H2.out)
  have HC4 := Lib.hid (fun (Y : World) (h' : Kp w6 Y) => intB 1 (by decide) (by decide) (HT.out.keep h'.out))
  have HC5 := Lib.hid (fun (Y : World) (h' : Kp w6 Y) => lowB lw (Nl.out.keep h'.out) (HT.out.keep h'.out) (Or.inl HLW.out))
  have HC6 := Lib.hid (fun (Y : World) (h' : Kp w6 Y) (v : Value) (hv : NumB 0 Y v ((1 : Int) : Rat) 64) => shiftB 2100 lw hv (HT.out.keep h'.out) (by have := HLR.out; omega) (by decide))
  have HC7 := Lib.hid (fun (Y : World) (h' : Kp w6 Y) (v : Value) (hv : NumB 0 Y v (((1 : Int) : Rat) * (2 : Rat) ^ lw) 2100) => cmpBn (-1) (Nd.out.keep h'.out) hv (HT.out.keep h'.out) (by decide) (by decide) HCM.out)
  go_region_held3 (fun w' => w'.cell? ⟨w3.heap.size, 0, none⟩ = some (.slice pn nn cn) ∧ w'.cell? ⟨w3.heap.size, 1, none⟩ = some (.int .i64 en) ∧ w'.cell? ⟨w3.heap.size, 2, none⟩ = some (.bool gn) ∧ w'.cell? ⟨w3.heap.size, 3, none⟩ = some (.bool false) ∧ w'.cell? ⟨w4.heap.size, 0, none⟩ = some (.slice pl nl cl) ∧ w'.cell? ⟨w4.heap.size, 1, none⟩ = some (.int .i64 el) ∧ w'.cell? ⟨w4.heap.size, 2, none⟩ = some (.bool gl) ∧ w'.cell? ⟨w4.heap.size, 3, none⟩ = some (.bool false) ∧ w'.cell? ⟨w5.heap.size, 0, none⟩ = some (.slice pd nd cd) ∧ w'.cell? ⟨w5.heap.size, 1, none⟩ = some (.int .i64 ed) ∧ w'.cell? ⟨w5.heap.size, 2, none⟩ = some (.bool gd) ∧ w'.cell? ⟨w5.heap.size, 3, none⟩ = some (.bool false) ∧ Kp w6 w')
    (first | with_reducible exact sv3 (((((((((Kp.refl w6).drew.step hbR_0).step hbR_1).step hbR_2).step hbR_3).step hbR_4).step hbR_5).step hbR_6).step hbR_7) qn0 qn1 qn2 qn3 ql0 ql1 ql2 ql3 qd0 qd1 qd2 qd3 | with_reducible exact sv3 ((((((((Kp.refl w6).drew.step hbR_0).step hbR_1).step hbR_2).step hbR_3).step hbR_4).step hbR_5).step hbR_6) qn0 qn1 qn2 qn3 ql0 ql1 ql2 ql3 qd0 qd1 qd2 qd3 | with_reducible exact sv3 (((((((Kp.refl w6).drew.step hbR_0).step hbR_1).step hbR_2).step hbR_3).step hbR_4).step hbR_5) qn0 qn1 qn2 qn3 ql0 ql1 ql2 ql3 qd0 qd1 qd2 qd3 | with_reducible exact sv3 ((((((Kp.refl w6).drew.step hbR_0).step hbR_1).step hbR_2).step hbR_3).step hbR_4) qn0 qn1 qn2 qn3 ql0 ql1 ql2 ql3 qd0 qd1 qd2 qd3 | with_reducible exact sv3 (((((Kp.refl w6).drew.step hbR_0).step hbR_1).step hbR_2).step hbR_3) qn0 qn1 qn2 qn3 ql0 ql1 ql2 ql3 qd0 qd1 qd2 qd3 | with_reducible exact sv3 ((((Kp.refl w6).drew.step hbR_0).step hbR_1).step hbR_2) qn0 qn1 qn2 qn3 ql0 ql1 ql2 ql3 qd0 qd1 qd2 qd3 | with_reducible exact sv3 (((Kp.refl w6).drew.step hbR_0).step hbR_1) qn0 qn1 qn2 qn3 ql0 ql1 ql2 ql3 qd0 qd1 qd2 qd3 | with_reducible exact sv3 ((Kp.refl w6).drew.step hbR_0) qn0 qn1 qn2 qn3 ql0 ql1 ql2 ql3 qd0 qd1 qd2 qd3 | with_reducible exact sv3 (Kp.refl w6).drew qn0 qn1 qn2 qn3 ql0 ql1 ql2 ql3 qd0 qd1 qd2 qd3)
    (first
      | (go_at_call 37; ((with_reducible refine (HC7.out _ ?hq _ ?ha0).mono ?_); (case hq => exact ((((((((Kp.refl w6).drew.step hbR_0).step hbR_1).step hbR_2).step hbR_3).step hbR_4).step hbR_5).step hbR_6)); (case ha0 => exact MR_6); rintro x wR_7 ⟨rfl, hbR_7⟩))
      | (go_at_call 40; ((with_reducible refine (HC6.out _ ?hq _ ?ha0).mono ?_); (case hq => exact (((((((Kp.refl w6).drew.step hbR_0).step hbR_1).step hbR_2).step hbR_3).step hbR_4).step hbR_5)); (case ha0 => exact (MR_4.keep hbR_5)); rintro x wR_6 ⟨vR_6, rfl, MR_6, hbR_6⟩; obtain ⟨pR_6, nR_6, cR_6, eR_6, gR_6, rfl⟩ := NumB.form MR_6))
      | (go_at_call 41; ((with_reducible refine (HC5.out _ ?hq).mono ?_); (case hq => exact ((((((Kp.refl w6).drew.step hbR_0).step hbR_1).step hbR_2).step hbR_3).step hbR_4)); rintro x wR_5 ⟨rfl, hbR_5⟩))
      | (go_at_call 39; ((with_reducible refine (HC4.out _ ?hq).mono ?_); (case hq => exact (((((Kp.refl w6).drew.step hbR_0).step hbR_1).step hbR_2).step hbR_3)); rintro x wR_4 ⟨vR_4, rfl, MR_4, hbR_4⟩; obtain ⟨pR_4, nR_4, cR_4, eR_4, gR_4, rfl⟩ := NumB.form MR_4))
      | (go_at_call 35; ((with_reducible refine (HC3.out _ ?hq).mono ?_); (case hq => exact ((((Kp.refl w6).drew.step hbR_0).step hbR_1).step hbR_2)); rintro x wR_3 ⟨rfl, hbR_3⟩))
      | (go_at_call 21; ((with_reducible refine (HC2.out _ ?hq).mono ?_); (case hq => exact (((Kp.refl w6).drew.step hbR_0).step hbR_1)); rintro x wR_2 ⟨rfl, hbR_2⟩))
      | (go_at_call 35; ((with_reducible refine (HC1.out _ ?hq).mono ?_); (case hq => exact ((Kp.refl w6).drew.step hbR_0)); rintro x wR_1 ⟨rfl, hbR_1⟩))
      | (go_at_call 35; ((with_reducible refine (HC0.out _ ?hq).mono ?_); (case hq => exact (Kp.refl w6).drew); rintro x wR_0 ⟨rfl, hbR_0⟩)))
  go_wp2_with fail
  go_ret
  exact ⟨rfl, bl_pack HW.out HW.out.size (((((((((Kp.refl w6).drew.step hbR_0).step hbR_1).step hbR_2).step hbR_3).step hbR_4).step hbR_5).step hbR_6).step hbR_7).out⟩

set_option maxRecDepth 100000 in
set_option maxHeartbeats 4000000 in
theorem leads_neg {w : World} (ht : TabOk w) {p : Option Addr} {cap n x : Nat} {l : List Nat} (hs : Sl w (.slice p l.length cap) (fvs l)) (hl : ∀ x ∈ l, Fl x) (hlen : l.length ≤ 64) (hc : allB 1 9065746049896808448 l = true) (hn : l.length = n + 1)
    (b o : Nat) (hp : p = some ⟨b, o, none⟩) (hcell : w.cell? ⟨b, o + n, none⟩ = some (.float .f64 x)) (hx : Fl x) (SG : Int) (h1 : rs (fr x) = SG) (h2 : rs (numL l) = SG) (h3 : sgnL l = SG)
    (lw : Int) (hlw : LowOf (fr x) lw) (hlr : lw.natAbs ≤ 2000) (hsd : rs (numL l - fr x) = -1) (hcm : rs (-(numL l - fr x) - ((1 : Int) : Rat) * (2 : Rat) ^ lw) = -1) :
    Calls Tryd.prog 7 #[.slice p l.length cap] w fun x w' => x = .returned (.bool true) ∧ Below w.heap.size w w' := by
  subst hp
  have HS := Lib.hid hs
  have HL := Lib.hid hl
  have HX := Lib.hid hcell
  have HXF := Lib.hid hx
  have H1 := Lib.hid h1
  have H2 := Lib.hid h2
  have HLW := Lib.hid hlw
  have HCM := Lib.hid hcm
  have HLEN := Lib.hid hlen
  have HLR := Lib.hid hlr
  have HCK := Lib.hid (fun (W : World) (h : Sl W (.slice (some ⟨b, o, none⟩) l.length cap) (fvs l)) => (by
    have h4 := check_calls h (fun x hx => (hl x hx).1) (by omega)
    rw [hc] at h4
    exact h4 : Calls Tryd.prog 18 #[.slice (some ⟨b, o, none⟩) l.length cap] W fun x w' => x = .returned (.bool true) ∧ Below W.heap.size W w'))
  have HSG := Lib.hid (fun (W : World) (h : Sl W (.slice (some ⟨b, o, none⟩) l.length cap) (fvs l)) => (by
    have h4 := esign_calls h (fun x hx => (hl x hx).1) (by omega)
    rw [h3] at h4
    exact h4 : Calls Tryd.prog 21 #[.slice (some ⟨b, o, none⟩) l.length cap] W fun x w' => x = .returned (.int .i64 SG) ∧ Below W.heap.size W w'))
  have HT0 := Lib.hid ht
  have hl100 : decide ((100 : Int) < (l.length : Int)) = false := decide_eq_false (by omega)
  have hl0 : ((l.length : Int) == 0) = false := by rw [beq_eq_false_iff_ne]; omega
  have i1 : (l.length : Int) - 1 = n := by omega
  have i2 : (0 : Int) ≤ n := by omega
  have i3 : (n : Int) < l.length := by omega
  have i4 : (n : Int) ≤ 100 := by omega
  have HSD := Lib.hid hsd
  clear hsd
  clear hs hl hcell hx h1 h2 h3 hlw hcm hlen hlr hc hn
  have HT := Lib.hid (show Tb 0 w from ⟨ht, Nat.zero_le _⟩)
  have HW := Lib.hid (Below.refl w.heap.size w)
  clear ht
  go_enter Tryd.func7, Tryd.ntmps7
  go_wp2_with fail
  refine (eworks_calls HT.out.tab).mono ?_
  rintro _ w1 ⟨rfl, b1⟩
  have HT := Lib.hid (HT.out.keep b1)
  have HW := Lib.hid (bl_pack HW.out HW.out.size b1)
  clear b1
  go_wp2_with fail
  refine (HCK.out _ (HS.out.keep HW.out)).mono ?_
  rintro _ w2 ⟨rfl, b2⟩
  have HT := Lib.hid (HT.out.keep b2)
  have HW := Lib.hid (bl_pack HW.out HW.out.size b2)
  clear b2
  go_wp2_with fail
  refine (number2B HT.out.tab (HS.out.keep HW.out) HL.out (by have := HLEN.out; omega)).mono ?_
  rintro _ w3 ⟨vn, rfl, Mn, b3⟩
  have HT := Lib.hid (HT.out.keep b3)
  have HW := Lib.hid (bl_pack HW.out HW.out.size b3)
  have Nn := Lib.hid Mn
  clear b3 Mn
  obtain ⟨pn, nn, cn, en, gn, rfl⟩ := Nn.out.form
  obtain ⟨Wn, hWn, Bn, -, Jn⟩ := box_res w3 (.cells #[.slice pn nn cn, .int .i64 en, .bool gn, .bool false] 53)
  go_upto_region 4 with (fail)
  rw [← hWn]
  clear hWn
  have HT := Lib.hid (HT.out.keep Bn)
  have HW := Lib.hid (bl_pack HW.out HW.out.size Bn)
  have Nn := Lib.hid (Nn.out.keep Bn)
  have Kn := Lib.hid Jn
  clear Bn Jn
  have xc := keep_cell HW.out HX.out
  go_wp2_with fail
  refine (ofB x HXF.out.1 HXF.out.2 HT.out).mono ?_
  rintro _ w4 ⟨vl, rfl, Ml, b4⟩
  have HT := Lib.hid (HT.out.keep b4)
  have HW := Lib.hid (bl_pack HW.out HW.out.size b4)
  have Nn := Lib.hid (Nn.out.keep b4)
  have Kn := Lib.hid (keep_block b4 Kn.out)
  have Nl := Lib.hid Ml
  clear b4 Ml
  clear xc
  obtain ⟨pl, nl, cl, el, gl, rfl⟩ := Nl.out.form
  obtain ⟨Wl, hWl, Bl, -, Jl⟩ := box_res w4 (.cells #[.slice pl nl cl, .int .i64 el, .bool gl, .bool false] 53)
  go_upto_region 7 with (fail)
  rw [← hWl]
  clear hWl
  have HT := Lib.hid (HT.out.keep Bl)
  have HW := Lib.hid (bl_pack HW.out HW.out.size Bl)
  have Nn := Lib.hid (Nn.out.keep Bl)
  have Nl := Lib.hid (Nl.out.keep Bl)
  have Kn := Lib.hid (keep_block Bl Kn.out)
  have Kl := Lib.hid Jl
  clear Bl Jl
  obtain ⟨qn0, qn1, qn2, qn3, -, -, -, -⟩ := res4_facts Kn.out
  obtain ⟨ql0, ql1, ql2, ql3, -, -, -, -⟩ := res4_facts Kl.out
  go_wp2_with fail
  refine (subB 1201 Nn.out Nl.out HT.out (by decide) (by decide) (by decide)).mono ?_
  rintro _ w5 ⟨vd, rfl, Md, b5⟩
  have HT := Lib.hid (HT.out.keep b5)
  have HW := Lib.hid (bl_pack HW.out HW.out.size b5)
  have Nn := Lib.hid (Nn.out.keep b5)
  have Nl := Lib.hid (Nl.out.keep b5)
  have Kn := Lib.hid (keep_block b5 Kn.out)
  have Kl := Lib.hid (keep_block b5 Kl.out)
  have Nd := Lib.hid Md
  clear b5 Md
  clear qn0 qn1 qn2 qn3 ql0 ql1 ql2 ql3
  have HWd := HW
  have Zn := Nn
  have Zl := Nl
  have Zd := Nd
  have hnd := block_lt Kn.out
  have hld := block_lt Kl.out
  have HM := Lib.hid (Below.refl w5.heap.size w5)
  obtain ⟨pd, nd, cd, ed, gd, rfl⟩ := Nd.out.form
  obtain ⟨Wd, hWd, Bd, -, Jd⟩ := box_res w5 (.cells #[.slice pd nd cd, .int .i64 ed, .bool gd, .bool false] 53)
  go_upto_region 8 with (fail)
  rw [← hWd]
  clear hWd
  have HT := Lib.hid (HT.out.keep Bd)
  have HW := Lib.hid (bl_pack HW.out HW.out.size Bd)
  have HM := Lib.hid (bl_pack HM.out HM.out.size Bd)
  have Nn := Lib.hid (Nn.out.keep Bd)
  have Nl := Lib.hid (Nl.out.keep Bd)
  have Nd := Lib.hid (Nd.out.keep Bd)
  have Kn := Lib.hid (keep_block Bd Kn.out)
  have Kl := Lib.hid (keep_block Bd Kl.out)
  have Kd := Lib.hid Jd
  clear Bd Jd
  obtain ⟨qn0, qn1, qn2, qn3, -, -, -, -⟩ := res4_facts Kn.out
  obtain ⟨ql0, ql1, ql2, ql3, -, -, -, -⟩ := res4_facts Kl.out
  obtain ⟨qd0, qd1, qd2, qd3, -, -, -, -⟩ := res4_facts Kd.out
  go_wp2_with fail
  refine (signBn (-1) Nd.out HSD.out).mono ?_
  rintro _ w6 ⟨rfl, b6⟩
  have HT := Lib.hid (HT.out.keep b6)
  have HW := Lib.hid (bl_pack HW.out HW.out.size b6)
  have HM := Lib.hid (bl_pack HM.out HM.out.size b6)
  have Nn := Lib.hid (Nn.out.keep b6)
  have Nl := Lib.hid (Nl.out.keep b6)
  have Nd := Lib.hid (Nd.out.keep b6)
  have Kn := Lib.hid (keep_block b6 Kn.out)
  have Kl := Lib.hid (keep_block b6 Kl.out)
  have Kd := Lib.hid (keep_block b6 Kd.out)
  clear b6
  clear qn0 qn1 qn2 qn3 ql0 ql1 ql2 ql3 qd0 qd1 qd2 qd3
  obtain ⟨qn0, qn1, qn2, qn3, -, -, -, -⟩ := res4_facts Kn.out
  obtain ⟨ql0, ql1, ql2, ql3, -, -, -, -⟩ := res4_facts Kl.out
  obtain ⟨qd0, qd1, qd2, qd3, -, -, -, -⟩ := res4_facts Kd.out
  go_wp2_with fail
  refine (negN0 (N0.ahead Zd.out (Nat.le_refl _) HM.out)).mono ?_
  rintro _ w9 ⟨ve, rfl, Me, be⟩
  obtain ⟨pe, ne, ce, ee, ge, rfl⟩ := Me.num.form
  have HT := Lib.hid (HT.out.keep be)
  have HW := Lib.hid (bl_pack HW.out HW.out.size be)
  have HM := Lib.hid (bl_pack HM.out HM.out.size be)
  have Nn := Lib.hid (Nn.out.keep be)
  have Nl := Lib.hid (Nl.out.keep be)
  have Nd := Lib.hid (Nd.out.keep be)
  have Kn := Lib.hid (keep_block be Kn.out)
  have Kl := Lib.hid (keep_block be Kl.out)
  have Kd := Lib.hid (keep_block be Kd.out)
  clear qn0 qn1 qn2 qn3 ql0 ql1 ql2 ql3 qd0 qd1 qd2 qd3
  have ZZn := N0.ahead Zn.out (Nat.le_refl _) HM.out
  have ZZl := N0.ahead Zl.out (Nat.le_refl _) HM.out
  obtain ⟨x0, x1, x2, x3, y0, y1, y2, y3⟩ := res4_facts Kd.out
  go_upto_region 10 with (fail)
  obtain ⟨WS, hWS⟩ : ∃ W : World, W = ((((w9.setCell ⟨w5.heap.size, 0, none⟩ (.slice pe ne ce)).setCell ⟨w5.heap.size, 1, none⟩ (.int .i64 ee)).setCell ⟨w5.heap.size, 2, none⟩ (.bool ge)).setCell ⟨w5.heap.size, 3, none⟩ (.bool false)) := ⟨_, rfl⟩
  rw [← hWS]
  have Nn := Lib.hid (ZZn.afterPut hWS)
  have Nl := Lib.hid (ZZl.afterPut hWS)
  have Ne := Lib.hid (Me.afterPut hWS)
  have Kn := Lib.hid (far_put Kn.out hWS hnd)
  have Kl := Lib.hid (far_put Kl.out hWS hld)
  have Ke := Lib.hid (own_putw Kd.out hWS)
  have hwd : w.heap.size ≤ w5.heap.size := Nat.le_trans HWd.out.size (Nat.le_refl _)
  have HW := Lib.hid (show Below w.heap.size w WS by rw [hWS]; exact bl_put4 HW.out hwd _ _ _ _)
  have HT := Lib.hid (show Tb 0 WS from ⟨HT0.out.keep HW.out, Nat.zero_le _⟩)
  clear hWS x0 x1 x2 x3 y0 y1 y2 y3 Zn Zl Zd ZZn ZZl Me be Nd Kd HM
  obtain ⟨qn0, qn1, qn2, qn3, -, -, -, -⟩ := res4_facts Kn.out
  obtain ⟨ql0, ql1, ql2, ql3, -, -, -, -⟩ := res4_facts Kl.out
  obtain ⟨qe0, qe1, qe2, qe3, -, -, -, -⟩ := res4_facts Ke.out
  have HC0 := Lib.hid (fun (Y : World) (h' : Kp WS Y) => signBn SG (Nl.out.keep h'.out) H1.out)
  have HC1 := Lib.hid (fun (Y : World) (h' : Kp WS Y) => signBn SG (Nn.out.keep h'.out) H2.out)
  have HC2 := Lib.hid (fun (Y : World) (h' : Kp WS Y) => HSG.out Y ((HS.out.keep HW.out).keep h'.out))
  have HC3 := Lib.hid (fun (Y : World) (h' : Kp WS Y) => signBn SG (Nn.out.keep h'.out) H2.out)
  have HC4 := Lib.hid (fun (Y : World) (h' : Kp WS Y) => intB 1 (by decide) (by decide) (HT.out.keep h'.out))
  have HC5 := Lib.hid (fun (Y : World) (h' : Kp WS Y) => lowB lw (Nl.out.keep h'.out) (HT.out.keep h'.out) (Or.inl HLW.out))
  have HC6 := Lib.hid (fun (Y : World) (h' : Kp WS Y) (v : Value) (hv : NumB 0 Y v ((1 : Int) : Rat) 64) => shiftB 2100 lw hv (HT.out.keep h'.out) (by have := HLR.out; omega) (by decide))
  have HC7 := Lib.hid (fun (Y : World) (h' : Kp WS Y) (v : Value) (hv : NumB 0 Y v (((1 : Int) : Rat) * (2 : Rat) ^ lw) 2100) => cmpBn (-1) (Ne.out.keep h'.out) hv (HT.out.keep h'.out) (by decide) (by decide) HCM.out)
  go_region_held3 (fun w' => w'.cell? ⟨w3.heap.size, 0, none⟩ = some (.slice pn nn cn) ∧ w'.cell? ⟨w3.heap.size, 1, none⟩ = some (.int .i64 en) ∧ w'.cell? ⟨w3.heap.size, 2, none⟩ = some (.bool gn) ∧ w'.cell? ⟨w3.heap.size, 3, none⟩ = some (.bool false) ∧ w'.cell? ⟨w4.heap.size, 0, none⟩ = some (.slice pl nl cl) ∧ w'.cell? ⟨w4.heap.size, 1, none⟩ = some (.int .i64 el) ∧ w'.cell? ⟨w4.heap.size, 2, none⟩ = some (.bool gl) ∧ w'.cell? ⟨w4.heap.size, 3, none⟩ = some (.bool false) ∧ w'.cell? ⟨w5.heap.size, 0, none⟩ = some (.slice pe ne ce) ∧ w'.cell? ⟨w5.heap.size, 1, none⟩ = some (.int .i64 ee) ∧ w'.cell? ⟨w5.heap.size, 2, none⟩ = some (.bool ge) ∧ w'.cell? ⟨w5.heap.size, 3, none⟩ = some (.bool false) ∧ Kp WS w')
    (first | with_reducible exact sv3 (((((((((Kp.refl WS).drew.step hbR_0).step hbR_1).step hbR_2).step hbR_3).step hbR_4).step hbR_5).step hbR_6).step hbR_7) qn0 qn1 qn2 qn3 ql0 ql1 ql2 ql3 qe0 qe1 qe2 qe3 | with_reducible exact sv3 ((((((((Kp.refl WS).drew.step hbR_0).step hbR_1).step hbR_2).step hbR_3).step hbR_4).step hbR_5).step hbR_6) qn0 qn1 qn2 qn3 ql0 ql1 ql2 ql3 qe0 qe1 qe2 qe3 | with_reducible exact sv3 (((((((Kp.refl WS).drew.step hbR_0).step hbR_1).step hbR_2).step hbR_3).step hbR_4).step hbR_5) qn0 qn1 qn2 qn3 ql0 ql1 ql2 ql3 qe0 qe1 qe2 qe3 | with_reducible exact sv3 ((((((Kp.refl WS).drew.step hbR_0).step hbR_1).step hbR_2).step hbR_3).step hbR_4) qn0 qn1 qn2 qn3 ql0 ql1 ql2 ql3 qe0 qe1 qe2 qe3 | with_reducible exact sv3 (((((Kp.refl WS).drew.step hbR_0).step hbR_1).step hbR_2).step hbR_3) qn0 qn1 qn2 qn3 ql0 ql1 ql2 ql3 qe0 qe1 qe2 qe3 | with_reducible exact sv3 ((((Kp.refl WS).drew.step hbR_0).step hbR_1).step hbR_2) qn0 qn1 qn2 qn3 ql0 ql1 ql2 ql3 qe0 qe1 qe2 qe3 | with_reducible exact sv3 (((Kp.refl WS).drew.step hbR_0).step hbR_1) qn0 qn1 qn2 qn3 ql0 ql1 ql2 ql3 qe0 qe1 qe2 qe3 | with_reducible exact sv3 ((Kp.refl WS).drew.step hbR_0) qn0 qn1 qn2 qn3 ql0 ql1 ql2 ql3 qe0 qe1 qe2 qe3 | with_reducible exact sv3 (Kp.refl WS).drew qn0 qn1 qn2 qn3 ql0 ql1 ql2 ql3 qe0 qe1 qe2 qe3)
    (first
      | (go_at_call 37; ((with_reducible refine (HC7.out _ ?hq _ ?ha0).mono ?_); (case hq => exact ((((((((Kp.refl WS).drew.step hbR_0).step hbR_1).step hbR_2).step hbR_3).step hbR_4).step hbR_5).step hbR_6)); (case ha0 => exact MR_6); rintro x wR_7 ⟨rfl, hbR_7⟩))
      | (go_at_call 40; ((with_reducible refine (HC6.out _ ?hq _ ?ha0).mono ?_); (case hq => exact (((((((Kp.refl WS).drew.step hbR_0).step hbR_1).step hbR_2).step hbR_3).step hbR_4).step hbR_5)); (case ha0 => exact (MR_4.keep hbR_5)); rintro x wR_6 ⟨vR_6, rfl, MR_6, hbR_6⟩; obtain ⟨pR_6, nR_6, cR_6, eR_6, gR_6, rfl⟩ := NumB.form MR_6))
      | (go_at_call 41; ((with_reducible refine (HC5.out _ ?hq).mono ?_); (case hq => exact ((((((Kp.refl WS).drew.step hbR_0).step hbR_1).step hbR_2).step hbR_3).step hbR_4)); rintro x wR_5 ⟨rfl, hbR_5⟩))
      | (go_at_call 39; ((with_reducible refine (HC4.out _ ?hq).mono ?_); (case hq => exact (((((Kp.refl WS).drew.step hbR_0).step hbR_1).step hbR_2).step hbR_3)); rintro x wR_4 ⟨vR_4, rfl, MR_4, hbR_4⟩; obtain ⟨pR_4, nR_4, cR_4, eR_4, gR_4, rfl⟩ := NumB.form MR_4))
      | (go_at_call 35; ((with_reducible refine (HC3.out _ ?hq).mono ?_); (case hq => exact ((((Kp.refl WS).drew.step hbR_0).step hbR_1).step hbR_2)); rintro x wR_3 ⟨rfl, hbR_3⟩))
      | (go_at_call 21; ((with_reducible refine (HC2.out _ ?hq).mono ?_); (case hq => exact (((Kp.refl WS).drew.step hbR_0).step hbR_1)); rintro x wR_2 ⟨rfl, hbR_2⟩))
      | (go_at_call 35; ((with_reducible refine (HC1.out _ ?hq).mono ?_); (case hq => exact ((Kp.refl WS).drew.step hbR_0)); rintro x wR_1 ⟨rfl, hbR_1⟩))
      | (go_at_call 35; ((with_reducible refine (HC0.out _ ?hq).mono ?_); (case hq => exact (Kp.refl WS).drew); rintro x wR_0 ⟨rfl, hbR_0⟩)))
  go_wp2_with fail
  go_ret
  exact ⟨rfl, bl_pack HW.out HW.out.size (((((((((Kp.refl WS).drew.step hbR_0).step hbR_1).step hbR_2).step hbR_3).step hbR_4).step hbR_5).step hbR_6).step hbR_7).out⟩
end Go.Proofs.YtjogclokjonkeaaDoor
