/- Package expand, walked: Mul, Sum, Cmp. -/
import Derived.Test.YtjogclokjonkeaaDoorEwN
import Derived.Test.YtjogclokjonkeaaDoorEwG
namespace Go.Proofs.YtjogclokjonkeaaDoor
open Go.RowKit TV
set_option linter.unusedVariables false

def xmOk (e f : List Nat) : Bool := allB 2580562586483294208 6633802251116740608 e && allB 2580562586483294208 6633802251116740608 f
def xmL (e f : List Nat) : List Nat := if xmOk e f = true then mulX e f else []
theorem scale_safe {e : List Nat} {b : Nat} (he : allB 2580562586483294208 6633802251116740608 e = true) (hb : safeB b = true) (hz : rung b ≠ 0) : scaleOk e b = true ∧ scaleL e b = scaleB e b := by
  have h1 : inB 2580562586483294208 6633802251116740608 b = true := by
    have := of_decide_eq_true hb
    exact decide_eq_true (by omega)
  have eo : scaleOk e b = true := by unfold scaleOk; rw [he, h1]; simp
  exact ⟨eo, by unfold scaleL; rw [if_pos ⟨eo, hz⟩]⟩
theorem mulFrom_step {e f : List Nat} {k : Nat} (h : k < f.length) (out : List Nat) : mulFrom e out (f.drop k) = mulFrom e (plusB out (scaleB e f[k])) (f.drop (k + 1)) := by
  rw [List.drop_eq_getElem_cons h]; rfl
/-- What holds of the sum on the way. -/
def MulAt (e f : List Nat) (k : Nat) (os : List Nat) : Prop := mulFrom e [] f = mulFrom e os (f.drop k) ∧ ∃ n, Ex (k * (164001 * T0)) n os
theorem MulAt.start (e f : List Nat) : MulAt e f 0 [] := ⟨rfl, 0, by simpa using Ex.nil 0⟩
theorem MulAt.step {e f : List Nat} {k : Nat} {os : List Nat} (h : MulAt e f k os) (he : ∀ x ∈ e, safeB x = true) (hle : e.length ≤ 64) (hk : k < f.length) (hlf : f.length ≤ 64) (hb : safeB f[k] = true) :
    MulAt e f (k + 1) (plusB os (scaleB e f[k])) ∧ ((neatB (growsB [] (mergeB os (scaleB e f[k])))).map fv).sum.natAbs ≤ tameM ∧ (∀ x ∈ os, Fl x) ∧ os.length ≤ 64 ∧ (∀ x ∈ scaleB e f[k], Fl x) ∧ (scaleB e f[k]).length ≤ 64 := by
  obtain ⟨h1, n, h2⟩ := h
  have h3 := (scaleB_ex he hb hle).1
  have hk2 : k * (164001 * T0) ≤ 64 * (164001 * T0) := Nat.mul_le_mul_right _ (by omega)
  have h4 := plusB_ex h2 h3 (by omega)
  refine ⟨⟨by rw [h1, mulFrom_step hk], _, h4.mono ?_⟩, plus_tame h2 h3 (by omega), h2.fl, h2.len, h3.fl, h3.len⟩
  rw [Nat.add_mul, Nat.one_mul]; omega
set_option maxRecDepth 100000 in
set_option maxHeartbeats 1000000 in
theorem mul_calls2 {w : World} (ht : TabOk w) {ve vf : Value} {le lf : List Nat} (hse : Sl w ve (fvs le)) (hsf : Sl w vf (fvs lf)) (hle : ∀ x ∈ le, x < 18446744073709551616) (hlf : ∀ x ∈ lf, x < 18446744073709551616) (hn1 : le.length ≤ 1000) (hn2 : lf.length ≤ 1000) :
    Calls Tryd.prog 27 #[ve, vf] w (TwoP (xmL le lf) (xmOk le lf) w) := by
  have HA := Lib.hid (safe_calls2 hse hle (by omega))
  have HB := Lib.hid (fun (W : World) (h : Sl W vf (fvs lf)) => safe_calls2 h hlf (by omega))
  have HSE := Lib.hid hse
  have HSF := Lib.hid hsf
  have HT := Lib.hid ht
  by_cases c1 : allB 2580562586483294208 6633802251116740608 le = true
  · rw [c1] at HA
    by_cases c2 : allB 2580562586483294208 6633802251116740608 lf = true
    · rw [c2] at HB
      have eo : xmOk le lf = true := by unfold xmOk; rw [c1, c2]; rfl
      have el : xmL le lf = mulX le lf := by unfold xmL; rw [if_pos eo]
      rw [eo, el]
      obtain ⟨hl64, hsafe, -⟩ := allB_safe c1
      obtain ⟨hl64f, hsafef, hokf⟩ := allB_safe c2
      have hnz : ∀ x ∈ lf, rung x ≠ 0 := fun x hx c => (okI_mem hokf (fv x) (List.mem_map_of_mem hx)).1 ((fv_zero_iff x).2 c)
      have HSc := Lib.hid (fun (k : Nat) (h : k < lf.length) (W : World) (hT : TabOk W) (hS : Sl W ve (fvs le)) => (by
        have h1 := scale_calls hT hS hle hn1 lf[k] (hlf _ (List.getElem_mem h))
        obtain ⟨h2, h3⟩ := scale_safe c1 (hsafef _ (List.getElem_mem h)) (hnz _ (List.getElem_mem h))
        rw [h2, h3] at h1
        exact h1 : Calls Tryd.prog 28 #[ve, .float .f64 lf[k]] W (TwoP (scaleB le lf[k]) true W)))
      have HSt := Lib.hid (fun (k : Nat) (os : List Nat) (h : MulAt le lf k os) (hk : k < lf.length) => h.step hsafe hl64 hk hl64f (hsafef _ (List.getElem_mem hk)))
      obtain ⟨p, ce, rfl⟩ := hse.form
      obtain ⟨q, cf, rfl⟩ := hsf.form
      have hll : (fvs lf).length = lf.length := by simp [fvs]
      rw [hll] at HB HSF ⊢
      clear hse hsf hle hlf eo el c1 c2 ht hsafe hsafef hokf hnz hll
      go_enter Tryd.func27, Tryd.ntmps27
      go_wp2_with fail
      refine HA.out.mono ?_
      rintro _ w1 ⟨rfl, b1⟩
      have h2 := Lib.hid (HB.out w1 (HSF.out.keep b1))
      go_wp2_with fail
      refine h2.out.mono ?_
      rintro _ w2 ⟨rfl, b2⟩
      have b12 := below2 b1 b2
      go_wp2_with fail
      go_loopw [6, 8, 9, 10, 21, 25] (fun ov _ _ _ iv _ wr => ∃ (k : Nat) (os : List Nat), iv = .int .i64 k ∧ k ≤ lf.length ∧ Hid (MulAt le lf k os) ∧
          wr.ownsRow w.heap.size 34 1 ov os.length (fvs os) ∧ Below w.heap.size w wr) (fun _ _ _ _ iv _ _ => lf.length - (intOf iv).toNat)
      case atStart => exact ⟨0, [], rfl, Nat.zero_le _, MulAt.start _ _, ⟨rfl, Or.inl ⟨rfl, rfl⟩⟩, b12⟩
      case round =>
        obtain ⟨k, os, rfl, hk, HM, hown, hB⟩ := hrel
        obtain ⟨wz, rfl⟩ : ∃ z : World, z = wr := ⟨_, rfl⟩
        obtain ⟨pr, cr, rfl⟩ := own_form hown
        by_cases hlt : k < lf.length
        · obtain ⟨bb, oo, rfl, hcell⟩ := sl_atf (HSF.out.keep hB) hlt
          obtain ⟨hstep, hM, hfo, hlo, hfs, hls⟩ := HSt.out k os HM.out hlt
          have HSk := Lib.hid (HSc.out k hlt wz (HT.out.keep hB) (HSE.out.keep hB))
          obtain ⟨x, hx⟩ : ∃ x, x = lf[k] := ⟨_, rfl⟩
          rw [← hx] at hcell HSk hstep hM hfs hls
          have HP := Lib.hid (fun (W : World) (u t : Value) (hT : TabOk W) (h1 : Sl W u (fvs os)) (h2 : Sl W t (fvs (scaleB le x))) => plus_calls hT h1 h2 hfo hfs (by omega) (by omega) hM)
          have HStp := Lib.hid hstep
          have HOw := Lib.hid hown
          have HBz := Lib.hid hB
          clear hx hstep hM hfo hfs hown hB
          go_wp2_with fail
          refine HSk.out.mono ?_
          rintro _ w3 ⟨v3, rfl, hown3, b3⟩
          have bz3 := bl_pack HBz.out HBz.out.size b3
          have h4 := Lib.hid (HP.out w3 _ _ (HT.out.keep bz3) (own_sl (own_keep HOw.out b3)) (own_sl hown3))
          obtain ⟨p3, c3, rfl⟩ := own_form hown3
          clear hown3
          go_wp2_with fail
          refine h4.out.mono ?_
          rintro _ w5 ⟨v5, rfl, hown5, b5⟩
          obtain ⟨p5, c5, rfl⟩ := own_form hown5
          have HO5 := Lib.hid (own_less hown5 bz3.size)
          clear hown5
          go_wp2_with fail
          go_roundw
          case rel => exact ⟨k + 1, plusB os (scaleB le x), by go_num, by omega, HStp.out, HO5.out, bl_pack bz3 bz3.size b5⟩
          case measure => simp [intOf]; omega
        · obtain rfl : k = lf.length := by omega
          have he : mulX le lf = os := by
            have := HM.out.1
            rw [List.drop_length] at this
            exact this
          have HE := Lib.hid he
          clear he
          go_wp2_with fail
          go_ret2
          refine ⟨_, rfl, ?_, hB⟩
          rw [HE.out]; exact hown
    · have c2' : allB 2580562586483294208 6633802251116740608 lf = false := by simpa using c2
      have eo : xmOk le lf = false := by unfold xmOk; rw [c2']; simp
      have el : xmL le lf = [] := by unfold xmL; rw [eo]; rfl
      rw [eo, el]
      rw [c2'] at HB
      obtain ⟨p, ce, rfl⟩ := hse.form
      obtain ⟨q, cf, rfl⟩ := hsf.form
      clear hse hsf hle hlf eo el c1 c2 c2' ht
      go_enter Tryd.func27, Tryd.ntmps27
      go_wp2_with fail
      refine HA.out.mono ?_
      rintro _ w1 ⟨rfl, b1⟩
      have h2 := Lib.hid (HB.out w1 (HSF.out.keep b1))
      go_wp2_with fail
      refine h2.out.mono ?_
      rintro _ w2 ⟨rfl, b2⟩
      go_wp2_with fail
      go_ret2
      exact TwoP.nil (below2 b1 b2)
  · have c1' : allB 2580562586483294208 6633802251116740608 le = false := by simpa using c1
    have eo : xmOk le lf = false := by unfold xmOk; rw [c1']; simp
    have el : xmL le lf = [] := by unfold xmL; rw [eo]; rfl
    rw [eo, el]
    rw [c1'] at HA
    obtain ⟨p, ce, rfl⟩ := hse.form
    obtain ⟨q, cf, rfl⟩ := hsf.form
    clear hse hsf hle hlf eo el c1 c1' ht HB
    go_enter Tryd.func27, Tryd.ntmps27
    go_wp2_with fail
    refine HA.out.mono ?_
    rintro _ w1 ⟨rfl, b1⟩
    go_wp2_with fail
    go_ret2
    exact TwoP.nil b1

/-! ### Sum -/
/-- Lists that lie in memory one behind the other. -/
def Lsl (w : World) (vs : List Value) (ls : List (List Nat)) : Prop := vs.length = ls.length ∧ ∀ (i : Nat) (v : Value) (l : List Nat), vs[i]? = some v → ls[i]? = some l → Sl w v (fvs l)
theorem Lsl.keep {w w1 : World} {vs : List Value} {ls : List (List Nat)} (h : Lsl w vs ls) (hb : Below w.heap.size w w1) : Lsl w1 vs ls := ⟨h.1, fun i v l h1 h2 => (h.2 i v l h1 h2).keep hb⟩
def sumOk (ls : List (List Nat)) : Bool := decide (ls.length ≤ 64) && ls.all (allB 1 8660422083433463808)
def sumL (ls : List (List Nat)) : List Nat := if sumOk ls = true then sumFrom [] ls else []
theorem sl_atl {w : World} {p : Option Addr} {n c : Nat} {vs : List Value} (h : Sl w (.slice p n c) vs) (hn : vs.length = n) {k : Nat} (hk : k < n) : ∃ b o, p = some ⟨b, o, none⟩ ∧ ∃ hk' : k < vs.length, w.cell? ⟨b, o + k, none⟩ = some vs[k] := by
  rcases h with ⟨h1, h2⟩ | ⟨b, o, cap, h1, h2, h3, h4⟩
  · subst h2; simp at hn; omega
  · simp only [Value.slice.injEq] at h1
    have hk' : k < vs.length := by omega
    exact ⟨b, o, h1.1, hk', (h4 k hk').trans (by simp)⟩
def SumAt (ls : List (List Nat)) (k : Nat) (os : List Nat) : Prop := sumFrom [] ls = sumFrom os (ls.drop k) ∧ ∃ n, Ex (k * (82001 * T0)) n os
theorem SumAt.start (ls : List (List Nat)) : SumAt ls 0 [] := ⟨rfl, 0, by simpa using Ex.nil 0⟩
theorem SumAt.step {ls : List (List Nat)} {k : Nat} {os : List Nat} (h : SumAt ls k os) (hk : k < ls.length) (hl : ls.length ≤ 64) (he : ∃ n, Ex T0 n ls[k]) :
    SumAt ls (k + 1) (plusB os ls[k]) ∧ ((neatB (growsB [] (mergeB os ls[k]))).map fv).sum.natAbs ≤ tameM ∧ (∀ x ∈ os, Fl x) ∧ os.length ≤ 64 ∧ (∀ x ∈ ls[k], Fl x) ∧ ls[k].length ≤ 64 := by
  obtain ⟨h1, n, h2⟩ := h
  obtain ⟨m, h3⟩ := he
  have hk2 : k * (82001 * T0) ≤ 64 * (82001 * T0) := Nat.mul_le_mul_right _ (by omega)
  have h4 := plusB_ex h2 h3 (by omega)
  refine ⟨⟨?_, _, h4.mono ?_⟩, plus_tame h2 h3 (by omega), h2.fl, h2.len, h3.fl, h3.len⟩
  · rw [h1, List.drop_eq_getElem_cons hk]; rfl
  · rw [Nat.add_mul, Nat.one_mul]; omega
theorem allAdd_ex {l : List Nat} (hl : ∀ x ∈ l, x < 18446744073709551616) (h : allB 1 8660422083433463808 l = true) : ∃ n, Ex T0 n l := ⟨_, (allB_ex (by decide) l hl h).mono add_T0⟩
set_option maxRecDepth 100000 in
set_option maxHeartbeats 1000000 in
/-- Sum of lists that may be added. -/
theorem sum_calls2 {w : World} (ht : TabOk w) {v : Value} {vs : List Value} {ls : List (List Nat)} (hs : Sl w v vs) (hL : Lsl w vs ls) (hlt : ∀ l ∈ ls, ∀ x ∈ l, x < 18446744073709551616) (hln : ∀ l ∈ ls, l.length ≤ 1000) (hn : ls.length ≤ 64) (hok : sumOk ls = true) :
    Calls Tryd.prog 10 #[v] w (TwoP (sumL ls) (sumOk ls) w) := by
  have el : sumL ls = sumFrom [] ls := by unfold sumL; rw [if_pos hok]
  rw [hok, el]
  have hall : ∀ (k : Nat) (h : k < ls.length), allB 1 8660422083433463808 ls[k] = true := by
    intro k h
    unfold sumOk at hok
    rw [Bool.and_eq_true, List.all_eq_true] at hok
    exact hok.2 _ (List.getElem_mem h)
  obtain ⟨p, c, rfl⟩ := hs.form
  have hvl := hL.1
  rw [hvl] at hs ⊢
  have HS := Lib.hid hs
  have HL := Lib.hid hL
  have HT := Lib.hid ht
  have HVL := Lib.hid hvl
  have HA := Lib.hid (fun (k : Nat) (h : k < ls.length) (W : World) (u : Value) (hS : Sl W u (fvs ls[k])) => (by
    have h1 := allAdd hS (hlt _ (List.getElem_mem h)) (hln _ (List.getElem_mem h))
    rw [hall k h] at h1
    exact h1 : Calls Tryd.prog 42 #[u, .float .f64 1, .float .f64 8660422083433463808] W fun x w' => x = .returned (.bool true) ∧ Below W.heap.size W w'))
  have HSt := Lib.hid (fun (k : Nat) (os : List Nat) (h : SumAt ls k os) (hk : k < ls.length) => h.step hk hn (allAdd_ex (hlt _ (List.getElem_mem hk)) (hall k hk)))
  have HN := Lib.hid hn
  have h64 : decide ((64 : Int) < (ls.length : Int)) = false := decide_eq_false (by omega)
  clear hs hL hlt hln hok el hall hvl ht hn
  go_enter Tryd.func10, Tryd.ntmps10
  go_wp2_with fail
  go_loopw [5, 14] (fun _ iv wr => ∃ (k : Nat), iv = .int .i64 k ∧ k ≤ ls.length ∧ Below w.heap.size w wr) (fun _ iv _ => ls.length - (intOf iv).toNat)
  case atStart => exact ⟨0, rfl, Nat.zero_le _, Below.refl _ _⟩
  case round =>
    obtain ⟨k, rfl, hk, hB⟩ := hrel
    obtain ⟨wz, rfl⟩ : ∃ z : World, z = wr := ⟨_, rfl⟩
    have hs1 := HN.out
    by_cases hlt : k < ls.length
    · obtain ⟨bb, oo, rfl, hk', hcell⟩ := sl_atl (HS.out.keep hB) HVL.out hlt
      have hsl := (HL.out.keep hB).2 k vs[k] ls[k] (List.getElem?_eq_getElem hk') (List.getElem?_eq_getElem hlt)
      have HAk := Lib.hid (HA.out k hlt wz _ hsl)
      obtain ⟨x, hx⟩ : ∃ x, x = vs[k] := ⟨_, rfl⟩
      rw [← hx] at hcell hsl HAk
      obtain ⟨px, cx, rfl⟩ := hsl.form
      have HBz := Lib.hid hB
      clear hx hsl hB
      go_wp2_with fail
      refine HAk.out.mono ?_
      rintro _ w3 ⟨rfl, b3⟩
      go_wp2_with fail
      go_roundw
      case rel => exact ⟨k + 1, by go_num, by omega, bl_pack HBz.out HBz.out.size b3⟩
      case measure => simp [intOf]; omega
    · obtain rfl : k = ls.length := by omega
      clear hlt hk
      go_wp2_with fail
      go_loopw [6, 8, 24] (fun ov _ iv wr => ∃ (k : Nat) (os : List Nat), iv = .int .i64 k ∧ k ≤ ls.length ∧ Hid (SumAt ls k os) ∧ wr.ownsRow w.heap.size 34 1 ov os.length (fvs os) ∧ Below w.heap.size w wr) (fun _ _ iv _ => ls.length - (intOf iv).toNat)
      case atStart => exact ⟨0, [], rfl, Nat.zero_le _, SumAt.start _, ⟨rfl, Or.inl ⟨rfl, rfl⟩⟩, hB⟩
      case round =>
        clear hB
        obtain ⟨k, os, rfl, hk, HM, hown, hB⟩ := hrel
        obtain ⟨wy, rfl⟩ : ∃ z : World, z = wr := ⟨_, rfl⟩
        obtain ⟨pr, cr, rfl⟩ := own_form hown
        by_cases hlt : k < ls.length
        · obtain ⟨bb, oo, rfl, hk', hcell⟩ := sl_atl (HS.out.keep hB) HVL.out hlt
          have hsl := (HL.out.keep hB).2 k vs[k] ls[k] (List.getElem?_eq_getElem hk') (List.getElem?_eq_getElem hlt)
          obtain ⟨hstep, hM, hfo, hlo, hfs, hls⟩ := HSt.out k os HM.out hlt
          have HP := Lib.hid (plus_calls (HT.out.keep hB) (own_sl hown) hsl hfo hfs (by omega) (by omega) hM)
          obtain ⟨x, hx⟩ : ∃ x, x = vs[k] := ⟨_, rfl⟩
          obtain ⟨y, hy⟩ : ∃ y, y = plusB os ls[k] := ⟨_, rfl⟩
          rw [← hx] at hcell hsl HP
          rw [← hy] at hstep HP
          obtain ⟨px, cx, rfl⟩ := hsl.form
          have HStp := Lib.hid hstep
          have HBz := Lib.hid hB
          clear hx hy hstep hM hfo hfs hown hB hsl hls
          go_wp2_with fail
          refine HP.out.mono ?_
          rintro _ w5 ⟨v5, rfl, hown5, b5⟩
          obtain ⟨p5, c5, rfl⟩ := own_form hown5
          have HO5 := Lib.hid (own_less hown5 HBz.out.size)
          clear hown5
          go_wp2_with fail
          go_roundw
          case rel => exact ⟨k + 1, y, by go_num, by omega, HStp.out, HO5.out, bl_pack HBz.out HBz.out.size b5⟩
          case measure => simp [intOf]; omega
        · obtain rfl : k = ls.length := by omega
          have he : sumFrom [] ls = os := by
            have := HM.out.1
            rw [List.drop_length] at this
            exact this
          have HE := Lib.hid he
          clear he hlt hk
          go_wp2_with fail
          go_ret2
          refine ⟨_, rfl, ?_, hB⟩
          rw [HE.out]; exact hown
/-- Sum of lists of which one may not be added. -/
theorem sum_not {w : World} {v : Value} {vs : List Value} {ls : List (List Nat)} (hs : Sl w v vs) (hL : Lsl w vs ls) (hlt : ∀ l ∈ ls, ∀ x ∈ l, x < 18446744073709551616) (hln : ∀ l ∈ ls, l.length ≤ 1000) (hn : ls.length ≤ 64) (hok : sumOk ls = false) :
    Calls Tryd.prog 10 #[v] w (TwoP (sumL ls) (sumOk ls) w) := by
  have el : sumL ls = [] := by unfold sumL; rw [hok]; rfl
  rw [hok, el]
  have hno : ¬ ∀ (k : Nat) (h : k < ls.length), allB 1 8660422083433463808 ls[k] = true := by
    intro hall
    unfold sumOk at hok
    rw [decide_eq_true hn, Bool.true_and, List.all_eq_false] at hok
    obtain ⟨x, hx, h⟩ := hok
    obtain ⟨k, hk, rfl⟩ := List.mem_iff_getElem.1 hx
    exact h (hall k hk)
  obtain ⟨p, c, rfl⟩ := hs.form
  have hvl := hL.1
  rw [hvl] at hs ⊢
  have HS := Lib.hid hs
  have HL := Lib.hid hL
  have HVL := Lib.hid hvl
  have HNO := Lib.hid hno
  have HA := Lib.hid (fun (k : Nat) (h : k < ls.length) (W : World) (u : Value) (hS : Sl W u (fvs ls[k])) => allAdd hS (hlt _ (List.getElem_mem h)) (hln _ (List.getElem_mem h)))
  have HN := Lib.hid hn
  have h64 : decide ((64 : Int) < (ls.length : Int)) = false := decide_eq_false (by omega)
  clear hs hL hlt hln hok el hvl hn hno
  go_enter Tryd.func10, Tryd.ntmps10
  go_wp2_with fail
  go_loopw [5, 14] (fun _ iv wr => ∃ (k : Nat), iv = .int .i64 k ∧ k ≤ ls.length ∧ Hid (∀ (j : Nat) (h : j < k) (h2 : j < ls.length), allB 1 8660422083433463808 ls[j] = true) ∧ Below w.heap.size w wr) (fun _ iv _ => ls.length - (intOf iv).toNat)
  case atStart => exact ⟨0, rfl, Nat.zero_le _, (fun j h => by omega), Below.refl _ _⟩
  case round =>
    obtain ⟨k, rfl, hk, HJ, hB⟩ := hrel
    obtain ⟨wz, rfl⟩ : ∃ z : World, z = wr := ⟨_, rfl⟩
    have hs1 := HN.out
    by_cases hlt : k < ls.length
    · obtain ⟨bb, oo, rfl, hk', hcell⟩ := sl_atl (HS.out.keep hB) HVL.out hlt
      have hsl := (HL.out.keep hB).2 k vs[k] ls[k] (List.getElem?_eq_getElem hk') (List.getElem?_eq_getElem hlt)
      have HAk := Lib.hid (HA.out k hlt wz _ hsl)
      obtain ⟨x, hx⟩ : ∃ x, x = vs[k] := ⟨_, rfl⟩
      rw [← hx] at hcell hsl HAk
      obtain ⟨px, cx, rfl⟩ := hsl.form
      have HBz := Lib.hid hB
      clear hx hsl hB
      by_cases c : allB 1 8660422083433463808 ls[k] = true
      · rw [c] at HAk
        have HJ2 : Hid (∀ (j : Nat) (h : j < k + 1) (h2 : j < ls.length), allB 1 8660422083433463808 ls[j] = true) := by
          intro j h h2
          by_cases e : j = k
          · subst e; exact c
          · exact HJ.out j (by omega) h2
        clear c
        go_wp2_with fail
        refine HAk.out.mono ?_
        rintro _ w3 ⟨rfl, b3⟩
        go_wp2_with fail
        go_roundw
        case rel => exact ⟨k + 1, by go_num, by omega, HJ2, bl_pack HBz.out HBz.out.size b3⟩
        case measure => simp [intOf]; omega
      · have c' : allB 1 8660422083433463808 ls[k] = false := by simpa using c
        rw [c'] at HAk
        clear c c'
        go_wp2_with fail
        refine HAk.out.mono ?_
        rintro _ w3 ⟨rfl, b3⟩
        go_wp2_with fail
        go_ret2
        exact TwoP.nil (bl_pack HBz.out HBz.out.size b3)
    · obtain rfl : k = ls.length := by omega
      exact absurd (fun j h => HJ.out j h h) HNO.out
end Go.Proofs.YtjogclokjonkeaaDoor
