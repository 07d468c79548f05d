/- The law LinesBack, walked. -/
import Derived.Test.YtooimjokbkbleaaLnM
import Derived.Test.YtooimjokbkbleaaLnP
import Derived.Deep.DeepCutAuto
import Derived.Deep.CutBlock
import Derived.IntWalk
namespace Go.Proofs.Ytooimjokbkbleaa
open Go.RowKit Go.Shelf TV
set_option linter.unusedVariables false

def WritePost2 (L : List (List ByteArray)) (w : World) (e : Ending) (w' : World) : Prop :=
  ∃ (tb : ByteArray) (t2 : Nat), writeT (LL L) = (toL tb, t2) ∧ e = .returned (.tuple #[.string tb, .int .i64 (t2 : Int)]) ∧ Below w.heap.size w w'
theorem write2_calls (L : List (List ByteArray)) (v : Value) (w : World) (hL : Sss w v L) (hs : Bnd L) :
    Calls Try.prog 9 #[v] w (WritePost2 L w) :=
  (write_calls L v w hL hs).mono fun _ _ ⟨h1, h2⟩ => ⟨⟨(writeT (LL L)).1.toArray⟩, (writeT (LL L)).2, rfl, h1, h2⟩

theorem quiet_more {P : Program} {f : FuncId} {args : Array Value} {w : World} {a n : Nat} {v : Value} (h : Calls P f args (w.drewN (a + n)) fun e w' => e = .returned v ∧ ∃ m, w' = (w.drewN (a + n)).drewN m) :
    Calls P f args (w.drewN (a + n)) fun e w'' => e = .returned v ∧ ∃ m, w'' = w.drewN (a + m) :=
  h.mono fun _ _ ⟨he, m, hm⟩ => ⟨he, n + m, by rw [hm, World.drewN_drewN, Nat.add_assoc]⟩
def lX (X : List LnX) : List (List ByteArray) := X.map (·.2.2)
theorem lx_rx (X : List LnX) : LL (lX X) = (rX X).map (·.2) := by simp [LL, lX, rX]
theorem info_strs : (Try.prog.info? 23).map (fun i => (i.zero, i.size, i.bytes)) = some (some (.slice none 0 0), 1, 24) := by kernel_rfl
/-- The words of lines, collected. -/
theorem sss_own {T : TypeId} {w : World} {base B : Nat} {v : Value} {X : List LnX} {q : Option Addr} {cap : Nat} (h : w.ownsRow B 23 1 (.slice q X.length cap) X.length (X.map (·.2.1))) (hX : LnO T base w v X) :
    Sss w (.slice q X.length cap) (lX X) := by
  refine ⟨X.map (·.2.1), (own_sl h).toSa, by simp [lX], fun i hi => ?_⟩
  have hi' : i < X.length := by simpa [lX] using hi
  have h1 := (own_sl (hX.2.1 X[i] (List.getElem_mem hi')).2).toSa
  have e1 : (X.map (·.2.1)).getD i (.slice none 0 0) = X[i].2.1 := by rw [List.getD_eq_getElem?_getD, List.getElem?_map, List.getElem?_eq_getElem hi']; rfl
  have e2 : (lX X)[i] = X[i].2.2 := by simp [lX]
  rw [e1, e2]; exact h1
theorem both_true {a b : Bool} (h : true = (a && b)) : a = true ∧ b = true := by cases a <;> cases b <;> simp_all

theorem xlines_eq {X : List LnX} {L : List (List ByteArray)} {n : Nat} (h : rX X = numb n (LL L)) : X.length = L.length ∧ ∀ i (h1 : i < X.length) (h2 : i < L.length), X[i].1 = n + i ∧ X[i].2.2 = L[i] := by
  have hl : X.length = L.length := by rw [← rX_len, h, numb_len]; simp
  refine ⟨hl, fun i h1 h2 => ?_⟩
  have e1 : (rX X)[i]? = some (X[i].1, X[i].2.2.map toL) := by rw [rX, List.getElem?_map, List.getElem?_eq_getElem h1]; rfl
  rw [h, numb_at (by simpa using h2)] at e1
  simp only [Option.some.injEq, Prod.mk.injEq, List.getElem_map] at e1
  exact ⟨e1.1.symm, (List.map_inj_right (fun _ _ h => toL_inj h)).1 e1.2.symm⟩

set_option maxRecDepth 2000000 in
set_option maxHeartbeats 8000000 in
theorem LinesBack_walk (L : List (List ByteArray)) (v : Value) (s : ByteArray) (w : World) (hL : Sss w v L) (hb1 : L.length ≤ 140737488351232) (hb2 : ∀ l ∈ L, l.length ≤ 140737488351232 ∧ ∀ x ∈ l, x.size ≤ 140737488351232)
    (hs : s.size ≤ 140737488351232) (hmx : ∃ m, w.cell? ⟨0, 0, none⟩ = some (.int .i64 m)) :
    Calls Try.prog 6 #[v, .string s] w fun e w' => e = .returned (.bool true) ∧ Below w.heap.size w w' := by
  obtain ⟨m, hm⟩ := hmx
  have hmb : 0 < w.heap.size := World.block_lt_of_cell? w _ hm
  have HM := Lib.hid (fun (W : World) (h : Below w.heap.size w W) => (h.cell (p := ⟨0, 0, none⟩) hmb).trans hm)
  obtain ⟨p, cap, rfl⟩ := hL.form
  have HB := Lib.hid hb2
  clear hb2 hm
  go_enter Try.func6, Try.ntmps6
  go_wp2
  go_loop [5, 6] (fun nv iv => ∃ (i n : Nat), i ≤ L.length ∧ iv = .int .i64 i ∧ nv = .int .i64 n ∧ n ≤ 562949953421312 ∧ Hid (n < 100000 → L.length + s.size ≤ n ∧ ∀ j (h : j < L.length), j < i → L[j].length ≤ n)) (fun _ iv => L.length - (intOf iv).toNat)
  case atStart => exact ⟨0, L.length + s.size, Nat.zero_le _, rfl, by go_num, by omega, fun _ => ⟨Nat.le_refl _, fun j h h2 => absurd h2 (Nat.not_lt_zero _)⟩⟩
  case round =>
    obtain ⟨i, n, hi, rfl, rfl, hn, hsum⟩ := hrel
    by_cases hc : i < L.length ∧ n < 100000
    · obtain ⟨hlt, hn2⟩ := hc
      obtain ⟨b, o, q, c, rfl, hb, hc, hrow⟩ := hL.row hlt
      have hl1 := (HB.out L[i] (List.getElem_mem hlt)).1
      have hs0 := Lib.hid (hsum.out hn2)
      have hd : decide ((n : Int) < 100000) = true := decide_eq_true (by omega)
      have hn3 : n ≤ 100001 := by omega
      clear hsum hn2 hn
      go_wp2
      go_round
      case rel =>
        refine ⟨i + 1, n + L[i].length, by omega, by go_num, by go_num, by omega, fun _ => ?_⟩
        obtain ⟨h1, h2⟩ := hs0.out
        refine ⟨by omega, fun j h hj => ?_⟩
        by_cases hji : j = i
        · subst hji; omega
        · have := h2 j h (by omega); omega
      case measure => simp [intOf]; omega
    · by_cases hbig : 100000 ≤ n
      · have hd : decide ((n : Int) < 100000) = false := decide_eq_false (by omega)
        have hd2 : decide ((100000 : Int) ≤ (n : Int)) = true := decide_eq_true (by omega)
        have HW := Lib.hid (works_calls m)
        by_cases hlt : i < L.length
        all_goals
          clear hc hbig hn
          go_wp2_with fail
          refine (HW.out _ (HM.out _ (Below.refl _ _))).mono ?_
          rintro e w1 ⟨rfl, hB1⟩
          go_wp2_with fail
          refine (HW.out _ (HM.out _ hB1)).mono ?_
          rintro e w2 ⟨rfl, hB2⟩
          go_wp2_with fail
          go_ret
          exact ⟨rfl, below2 hB1 hB2⟩
      · have hil : i = L.length := by omega
        obtain ⟨hn1, hn2⟩ := hsum.out (by omega)
        have hs5 : s.size < 100000 := by omega
        have hBnd : Hid (Bnd L) := by
          refine ⟨by omega, fun l hl => ?_⟩
          obtain ⟨j, hj, rfl⟩ := List.mem_iff_getElem.1 hl
          exact ⟨by have := hn2 j hj (by omega); omega, (HB.out _ hl).2⟩
        have HS5 := Lib.hid hs5
        have hlt : L.length ≤ i := by omega
        have hL5 : L.length ≤ 100001 := by omega
        have hd : decide ((n : Int) < 100000) = true := decide_eq_true (by omega)
        have hd2 : decide ((100000 : Int) ≤ (n : Int)) = false := decide_eq_false (by omega)
        have HW := Lib.hid (works_calls m)
        clear hc hbig hn hil hsum hn1 hn2 hs5 hs hb1
        go_wp2_with fail
        refine (HW.out _ (HM.out _ (Below.refl _ _))).mono ?_
        rintro e w1 ⟨rfl, hB1⟩
        go_wp2_with fail
        refine (write2_calls L _ _ (hL.keep hB1) hBnd.out).mono ?_
        rintro e w2 ⟨tb, t2, htt, rfl, hB2'⟩
        have hB2 : Below w.heap.size w w2 := below2 hB1 hB2'
        have HT := Lib.hid htt
        clear htt hB2' hB1 hlt hd hd2 HW
        obtain ⟨bb, hbb⟩ : ∃ bb : Bool, bb = ((t2 : Int) == 0 && decide ((tb.size : Int) ≤ 200000)) := ⟨_, rfl⟩
        have HBB := Lib.hid hbb
        clear hbb
        go_upto_region 9 with (fail)
        go_cut [64] (fun x wx => x = .bool bb ∧ w2 = wx)
        case first =>
          by_cases h1 : ((t2 : Int) == 0) = true
          · have h2 : Hid (bb = decide ((tb.size : Int) ≤ 200000)) := by show _ = _; rw [HBB.out, h1]; rfl
            go_wp2_with fail
            go_meet
            exact ⟨by rw [h2.out], rfl⟩
          · have h1 : ((t2 : Int) == 0) = false := by simpa using h1
            have h2 : Hid (bb = false) := by show _ = _; rw [HBB.out, h1]; rfl
            go_wp2_with fail
            go_meet
            exact ⟨by rw [h2.out], rfl⟩
        case rest =>
          obtain ⟨rfl, rfl⟩ := hcut
          go_upto_if 64 with (fail)
          go_cut [] (fun wx => Below w.heap.size w wx)
          case first =>
            cases bb with
            | false =>
              go_wp2_with fail
              go_meet
              exact hB2
            | true =>
              obtain ⟨hbt1, hbt2⟩ := both_true HBB.out
              have ht2 : t2 = 0 := by rw [beq_iff_eq] at hbt1; omega
              have htz : tb.size ≤ 200000 := by have := of_decide_eq_true hbt2; omega
              have hread := write_read (L := LL L) (s := toL tb) (by rw [HT.out, ht2])
              have HRD := Lib.hid (read_calls tb m w2 (by omega) (HM.out _ hB2))
              clear hbt1 hbt2 ht2 htz
              go_wp2_with fail
              refine HRD.out.mono ?_
              rintro e w3 ⟨v3, X, no, err, rfl, hB3, hr3, hX⟩
              rw [hread] at hr3
              simp only [Prod.mk.injEq] at hr3
              obtain ⟨hXX, rfl, rfl⟩ := hr3
              obtain ⟨hlen, hat⟩ := xlines_eq hXX.symm
              obtain ⟨q3, cap3, rfl⟩ := own_form hX.1
              have HLEN := Lib.hid hlen
              have HAT := Lib.hid hat
              rw [hlen]
              clear hread hXX hlen hat HRD
              have hB4 : Below w.heap.size w w3 := below2 hB2 hB3
              have hLX := hL.keep hB4
              go_wp2_with fail
              go_loopw [12] (fun iv wr => ∃ (i n : Nat), i ≤ L.length ∧ iv = .int .i64 i ∧ wr = w3.drewN n) (fun iv _ => L.length - (intOf iv).toNat)
              case atStart => exact ⟨0, 0, Nat.zero_le _, rfl, rfl⟩
              case round =>
                obtain ⟨j, n2, hj, rfl, rfl⟩ := hrel
                by_cases hjl : j < L.length
                · have hjx : j < X.length := by rw [HLEN.out]; exact hjl
                  obtain ⟨g1, c1, hg1, -, hg1b, a1, a2⟩ := line_cells hX.1 hjx
                  simp only [Value.slice.injEq] at hg1
                  obtain ⟨rfl, -, rfl⟩ := hg1
                  obtain ⟨e1, e2⟩ := HAT.out j hjx hjl
                  rw [e1] at a1
                  have hxw := (hX.2.1 X[j] (List.getElem_mem hjx)).2
                  obtain ⟨p1, k1, hp1⟩ := own_form hxw
                  rw [hp1] at a2
                  have hSa1 := (own_sl hxw).toSa
                  rw [e2, hp1] at hSa1
                  have hxle := own_le hxw
                  rw [e2] at hxle
                  obtain ⟨b, o, q, c, hp, hb, hc, hrow⟩ := hLX.row hjl
                  subst hp
                  have HTX := Lib.hid (fun (n : Nat) => texts_same L[j] _ _ (w3.drewN n) hSa1 hrow hxle)
                  have a1' : w3.cell? ⟨g1, j * 2, none⟩ = some (.int .i64 ((j : Int) + 1)) := by rw [a1]; congr 2; omega
                  have E2 := Lib.hid e2
                  clear a1 e1 e2 hp1 hxw hSa1 hxle hrow
                  have hjl2 : j + 1 ≤ L.length := by omega
                  have hwr : IntKind.i64.wrap ((j : Int) + 1) = (j : Int) + 1 := IntWalk.i64_in _ (by omega)
                  go_wp2_with fail
                  go_quiet ((go_at_call 12; exact quiet_more (HTX.out _)))
                  clear hwr
                  go_wp2
                  go_roundw
                  case rel => exact ⟨j + 1, n2 + nq, hjl2, by go_num, rfl⟩
                  case measure => simp [intOf]; omega
                · go_wp2
                  go_meet
                  exact below_drewN hB4 _
          case rest =>
            clear hB2 HT HBB hBnd HB
            obtain ⟨wz, rfl⟩ : ∃ wz : World, wz = wc := ⟨_, rfl⟩
            have HRD := Lib.hid (read_calls s m wz (by have := HS5.out; omega) (HM.out _ hcut))
            go_wp2_with fail
            refine HRD.out.mono ?_
            rintro e w3 ⟨v3, X, no, err, rfl, hB3, hr3, hX⟩
            obtain ⟨q3, cap3, rfl⟩ := own_form hX.1
            have hB4 : Below w.heap.size w w3 := hcut.trans (hB3.mono hcut.size)
            have HR3 := Lib.hid hr3
            clear hr3 HRD hB3
            by_cases he : err = 0
            · subst he
              have hsl : (toL s).length = s.size := by simp
              obtain ⟨hb1, hb2⟩ := read_bnd HR3.out
              rw [rX_len, hsl] at hb1
              rw [hsl] at hb2
              obtain ⟨t, ht1, ht2⟩ := read_write (by rw [hsl]; exact HS5.out) HR3.out
              rw [← lx_rx] at ht1 ht2
              have hBd : Hid (Bnd (lX X)) := by
                refine ⟨by have := HS5.out; simp [lX]; omega, fun l hl => ?_⟩
                obtain ⟨x, hx, rfl⟩ := List.mem_map.1 hl
                obtain ⟨h1, h2⟩ := hb2 (x.1, x.2.2.map toL) (List.mem_map.2 ⟨x, hx, rfl⟩)
                refine ⟨by have := HS5.out; simp at h1; omega, fun y hy => ?_⟩
                have := h2 (toL y) (List.mem_map.2 ⟨y, hy, rfl⟩)
                simp at this; omega
              have hXl : X.length ≤ 100001 := by have := HS5.out; omega
              have HT1 := Lib.hid ht1
              have HT2 := Lib.hid ht2
              clear hsl hb1 hb2 ht1 ht2 HR3
              go_wp2_with fail
              go_loopw [16, 17] (fun wv kv wr => ∃ k : Nat, k ≤ X.length ∧ kv = .int .i64 k ∧ wr.ownsRow w3.heap.size 23 1 wv k ((X.take k).map (·.2.1)) ∧ Below w3.heap.size w3 wr) (fun _ kv _ => X.length - (intOf kv).toNat)
              case atStart => exact ⟨0, Nat.zero_le _, rfl, ⟨rfl, Or.inl ⟨rfl, rfl⟩⟩, Below.refl _ _⟩
              case round =>
                obtain ⟨k, hk, rfl, hown, hbl⟩ := hrel
                obtain ⟨wy, rfl⟩ : ∃ wy : World, wy = wr := ⟨_, rfl⟩
                obtain ⟨q4, cap4, rfl⟩ := own_form hown
                have hXy := hX.keep hbl
                by_cases hkl : k < X.length
                · obtain ⟨g1, c1, hg1, -, hg1b, a1, a2⟩ := line_cells hXy.1 hkl
                  simp only [Value.slice.injEq] at hg1
                  obtain ⟨rfl, -, rfl⟩ := hg1
                  obtain ⟨p1, k1, hp1⟩ := own_form (hXy.2.1 X[k] (List.getElem_mem hkl)).2
                  have HP1 := Lib.hid hp1
                  rw [hp1] at a2
                  clear hp1 a1
                  obtain ⟨i0, hi0, hz0, hz1, hz2⟩ := info_parts info_strs
                  go_wp2_with (at_builtin; refine wpList_append_own _ rfl _ _ 22 rfl w3.heap.size 23 i0 (.slice none 0 0) 1 24 Try.underlying22 hi0 hz0 hz1 hz2 rfl (by decide) _ _ _ rfl (hown.alloc _) ⟨wy.heap.size, 0, none⟩ 1 1 [.slice p1 X[k].2.2.length k1] rfl rfl (news_one _ _ _) (by simp [Value.oneCell']) (by unfold maxLen; omega) (by omega) (by have := hbl.size; simp; omega) ?_; intro ov' w5 hown5 hgrow hnil; clear hnil)
                  have hB5 : Below w3.heap.size w3 w5 := (hbl.alloc hbl.size _).grown hgrow (by have := hbl.size; simp; omega) (fun j hj => own_block hown _ hj)
                  go_wp2
                  go_roundw
                  case rel => exact ⟨k + 1, by omega, by go_num, by
                    rw [List.take_succ_eq_append_getElem hkl, List.map_append, List.map_cons, List.map_nil, HP1.out]; exact hown5, hB5⟩
                  case measure => simp [intOf]; omega
                · have hSS : Sss wy (.slice q4 k cap4) (lX X) := by
                    have hke : k = X.length := by omega
                    subst hke
                    rw [List.take_length] at hown
                    exact sss_own hown hXy
                  have HW2 := Lib.hid (write2_calls (lX X) _ wy hSS hBd.out)
                  have hB6 : Below w.heap.size w wy := hB4.trans (hbl.mono hB4.size)
                  clear hSS hown
                  go_wp2_with fail
                  refine HW2.out.mono ?_
                  rintro e w7 ⟨tb2, t3, htt, rfl, hB7⟩
                  rw [HT1.out] at htt
                  simp only [Prod.mk.injEq] at htt
                  obtain ⟨htb, rfl⟩ := htt
                  have hB8 : Below w.heap.size w w7 := below2 hB6 hB7
                  have hX7 := hXy.keep hB7
                  have htz := write_le (HT1.out.trans (by rw [htb]))
                  have hts : tb2.size ≤ 16777216 := by simpa using htz
                  have HRD2 := Lib.hid (read_calls tb2 m w7 (by omega) (HM.out _ hB8))
                  have HT3 := Lib.hid (HT2.out)
                  rw [htb] at HT3
                  clear htz hts htb HT1 HT2 HW2 hB7 hXy
                  go_wp2_with fail
                  refine HRD2.out.mono ?_
                  rintro e w8 ⟨v8, Y, no8, err8, rfl, hB9, hr8, hY⟩
                  have hr9 := HT3.out.symm.trans hr8
                  simp only [Prod.mk.injEq] at hr9
                  obtain ⟨hYY, rfl, rfl⟩ := hr9
                  obtain ⟨hlen, hat⟩ := xlines_eq hYY.symm
                  have hlen2 : Y.length = X.length := by rw [hlen]; simp [lX]
                  have HLEN := Lib.hid hlen2
                  have HAT := Lib.hid hat
                  obtain ⟨q8, cap8, rfl⟩ := own_form hY.1
                  have hX8 := hX7.keep hB9
                  have hB10 : Below w.heap.size w w8 := below2 hB8 hB9
                  rw [hlen2]
                  clear hr8 hYY hlen hlen2 hat HT3 HRD2 hX7 hB9
                  go_wp2_with fail
                  go_loopw [23] (fun iv wr => ∃ (i n : Nat), i ≤ X.length ∧ iv = .int .i64 i ∧ wr = w8.drewN n) (fun iv _ => X.length - (intOf iv).toNat)
                  case atStart => exact ⟨0, 0, Nat.zero_le _, rfl, rfl⟩
                  case round =>
                    obtain ⟨j, n2, hj, rfl, rfl⟩ := hrel
                    by_cases hjl : j < X.length
                    · have hjy : j < Y.length := by rw [HLEN.out]; exact hjl
                      obtain ⟨g1, c1, hg1, -, hg1b, a1, a2⟩ := line_cells hX8.1 hjl
                      simp only [Value.slice.injEq] at hg1
                      obtain ⟨rfl, -, rfl⟩ := hg1
                      obtain ⟨g2, c2, hg2, -, hg2b, b1, b2⟩ := line_cells hY.1 hjy
                      simp only [Value.slice.injEq] at hg2
                      obtain ⟨rfl, -, rfl⟩ := hg2
                      have e2 : Y[j].2.2 = X[j].2.2 := by
                        have := (HAT.out j hjy (by simpa [lX] using hjl)).2
                        rw [this]; simp [lX]
                      have hxw := (hX8.2.1 X[j] (List.getElem_mem hjl)).2
                      have hyw := (hY.2.1 Y[j] (List.getElem_mem hjy)).2
                      obtain ⟨p1, k1, hp1⟩ := own_form hxw
                      obtain ⟨p2, k2, hp2⟩ := own_form hyw
                      rw [hp1] at a2
                      rw [hp2] at b2
                      have hSa1 := (own_sl hxw).toSa
                      have hSa2 := (own_sl hyw).toSa
                      have hxle := own_le hxw
                      rw [hp1] at hSa1
                      rw [e2, hp2] at hSa2
                      have HTX := Lib.hid (fun (n : Nat) => texts_same X[j].2.2 _ _ (w8.drewN n) hSa2 hSa1 hxle)
                      have hjl2 : j + 1 ≤ X.length := by omega
                      have E2 := Lib.hid e2
                      clear a1 b1 e2 hp1 hp2 hxw hyw hSa1 hSa2 hxle
                      go_wp2_with fail
                      go_quiet ((go_at_call 12; exact quiet_more (HTX.out _)))
                      go_wp2
                      go_roundw
                      case rel => exact ⟨j + 1, n2 + nq, hjl2, by go_num, rfl⟩
                      case measure => simp [intOf]; omega
                    · go_wp2
                      go_ret
                      exact ⟨rfl, below_drewN hB10 _⟩
            · have hX0 : X = [] := by
                have := read_none HR3.out he
                simpa [rX] using this
              subst hX0
              have he2 : ((err : Int) != 0) = true := by rw [bne_iff_ne]; omega
              clear he
              go_wp2_with fail
              go_ret
              exact ⟨rfl, hB4⟩

end Go.Proofs.Ytooimjokbkbleaa
