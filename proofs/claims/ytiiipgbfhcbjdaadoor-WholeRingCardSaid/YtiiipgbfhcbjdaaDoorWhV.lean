/- Package whole, walked: Shift. -/
import Derived.Test.YtiiipgbfhcbjdaaDoorWhU
import Derived.WalkMore
namespace Go.Proofs.YtiiipgbfhcbjdaaDoor
open Go.RowKit TV
set_option linter.unusedVariables false

theorem kp_alloc (w : World) (o : Obj) : Below w.heap.size w (w.alloc o) := (Below.refl _ _).alloc (Nat.le_refl _) _
theorem own_base {w : World} {base B : Nat} {e : TypeId} {size : Nat} {v : Value} {n : Nat} {xs : List Value} (h : w.ownsRow base e size v n xs) (hb : B ≤ base) : w.ownsRow B e size v n xs := by
  obtain ⟨h1, h2⟩ := h
  refine ⟨h1, ?_⟩
  rcases h2 with h2 | ⟨g, cap, cur, hv, hg, hh, r⟩
  · exact Or.inl h2
  · exact Or.inr ⟨g, cap, cur, hv, by omega, hh, r⟩
/-- What is owned, behind a store into another block. -/
theorem own_put {w : World} {base : Nat} {e : TypeId} {size : Nat} {v : Value} {n : Nat} {xs : List Value} (h : w.ownsRow base e size v n xs) {p : Addr} (hp : ∀ k, v.ownBlock = some k → k ≠ p.block) (u : Value) : (w.setCell p u).ownsRow base e size v n xs := by
  obtain ⟨h1, h2⟩ := h
  refine ⟨h1, ?_⟩
  rcases h2 with h2 | ⟨g, cap, cur, rfl, hg, hh, r⟩
  · exact Or.inl h2
  · exact Or.inr ⟨g, cap, cur, rfl, hg, by rw [Below.heap_setCell w p u g (hp g rfl)]; exact hh, r⟩

theorem Kp.put2 {w w1 : World} {b : Nat} (h : Kp w w1) (hb : w.heap.size ≤ b) (u0 u1 : Value) : Kp w ((w1.setCell ⟨b, 0, none⟩ u0).setCell ⟨b, 1, none⟩ u1) := (h.out.setCell hb _).setCell hb _

theorem _root_.TV.W.getD_set_self {l : List Int} {i : Nat} {v : Int} (h : i < l.length) : (l.set i v).getD i 0 = v := by
  rw [List.getD_eq_getElem?_getD, List.getElem?_set_self h]; rfl
theorem _root_.TV.W.getD_set_ne {l : List Int} {i j : Nat} {v : Int} (h : i ≠ j) : (l.set i v).getD j 0 = l.getD j 0 := by
  rw [List.getD_eq_getElem?_getD, List.getElem?_set_ne h, ← List.getD_eq_getElem?_getD]

/-- A box with a magnitude of its own words. -/
def MagBox (wc : World) (ds : List Int) (e : Int) (x : Value) (wx : World) : Prop := ∃ f b c, x = .pointer (some ⟨f, 0, none⟩) ∧ wc.heap.size ≤ f ∧ b ≠ f ∧ wx.heap[f]? = some (.cells #[.slice (some ⟨b, 0, none⟩) ds.length c, .int .i64 e] 27 (0, 0)) ∧
  wx.ownsRow wc.heap.size 67 1 (.slice (some ⟨b, 0, none⟩) ds.length c) ds.length (ds.map (Value.int .u32)) ∧ Kp wc wx
theorem magBox_end {wc W : World} {f b c : Nat} {e : Int} {ds : List Int} {c0 c1 : Value} (hf : W.heap[f]? = some (.cells #[c0, c1] 27 (0, 0)))
    (ho : W.ownsRow wc.heap.size 67 1 (.slice (some ⟨b, 0, none⟩) ds.length c) ds.length (ds.map (Value.int .u32))) (hb : b ≠ f) (hK : Kp wc W) (hcf : wc.heap.size ≤ f) :
    MagBox wc ds e (.pointer (some ⟨f, 0, none⟩)) ((W.setCell ⟨f, 0, none⟩ (.slice (some ⟨b, 0, none⟩) ds.length c)).setCell ⟨f, 1, none⟩ (.int .i64 e)) := by
  refine ⟨f, b, c, rfl, hcf, hb, ?_, own_put (own_put ho (fun k hk => by cases hk; exact hb) _) (fun k hk => by cases hk; exact hb) _, (hK.out.setCell hcf _).setCell hcf _⟩
  have := setCell_block (setCell_block hf 0 (.slice (some ⟨b, 0, none⟩) ds.length c)) 1 (.int .i64 e)
  simpa using this
theorem magBox_new {wc W : World} {b c : Nat} {e : Int} {ds : List Int}
    (ho : W.ownsRow wc.heap.size 67 1 (.slice (some ⟨b, 0, none⟩) ds.length c) ds.length (ds.map (Value.int .u32))) (hb : b ≠ W.heap.size) (hK : Kp wc W) :
    MagBox wc ds e (.pointer (some ⟨W.heap.size, 0, none⟩)) (W.alloc (.cells #[.slice (some ⟨b, 0, none⟩) ds.length c, .int .i64 e] 27)) :=
  ⟨W.heap.size, b, c, rfl, hK.out.size, hb, heap_alloc_new _ _, own_keep ho (kp_alloc _ _), hK.step (kp_alloc _ _)⟩
theorem sl_news {w : World} {b o c : Nat} {ds : List Int} (h : Sl w (.slice (some ⟨b, o, none⟩) ds.length c) (ds.map (Value.int .u32))) : ∀ j u, (ds.map (Value.int .u32))[j]? = some u → w.cell? ⟨b, o + j, none⟩ = some u := by
  intro j u hj
  rcases h with ⟨h1, h2⟩ | ⟨b', o', cap, h1, h2, h3, h4⟩
  · cases h1
  · simp only [Value.slice.injEq, Option.some.injEq, Addr.mk.injEq] at h1
    obtain ⟨⟨rfl, rfl, -⟩, -, rfl⟩ := h1
    obtain ⟨hl, rfl⟩ := List.getElem?_eq_some_iff.1 hj
    exact h4 j hl
theorem one_ints (ds : List Int) : ∀ u ∈ ds.map (Value.int .u32), u.oneCell' = true := by
  intro u hu
  obtain ⟨d, -, rfl⟩ := List.mem_map.1 hu
  rfl

set_option maxHeartbeats 8000000 in
set_option maxRecDepth 100000 in
theorem shift_walk {w : World} (a : List Int) (e k : Int) (b o c1 : Nat) (ng : Bool) (hs : Sl w (.slice (some ⟨b, o, none⟩) a.length c1) (a.map (Value.int .u32))) 
    (ha : W.Dok a) (hne : 0 < a.length) (ea : -2048 ≤ e ∧ e + a.length ≤ 2049) (hk : -196608 ≤ k) (hk2 : k ≤ 196608) (ht : TabOk w) :
    Calls Tryd.prog 16 #[.agg #[.slice (some ⟨b, o, none⟩) a.length c1, .int .i64 e, .bool ng, .bool false], .int .i64 k] w fun x w' => ∃ o, WvOf (W.nv (sg ng) a e * (2 : Rat) ^ k) o ∧ RetW (fun b => w.heap.size ≤ b) o w x w' := by
  obtain ⟨wn, hwn, hW, hsz, k0, k1⟩ := box_num w (.cells #[.slice (some ⟨b, o, none⟩) a.length c1, .int .i64 e, .bool ng, .bool false] 29) (.cells #[.slice none 0 0, .int .i64 0, .bool false, .bool false] 29)
  obtain ⟨a0, a1, a2, a3, -, -, -, -⟩ := res4_facts k0
  obtain ⟨i0, hi, hz0, hz1, hz2⟩ := info_parts info_u32
  have HC := Lib.hid (fun (W : World) (h : Kp wn W) => Tryd.slices_Clone i0 (.int .u32 0) 1 4 hi hz0 hz1 hz2 rfl (by decide) Tryd.sizeOf67 b o a.length c1 (a.map (Value.int .u32)) W (by simp) (by unfold maxLen; omega) (by omega) (sl_news ((hs.keep hW).keep h.out)) (one_ints a))
  have HT := Lib.hid (ht.keep hW)
  have HW := Lib.hid hW
  have HSZ := Lib.hid hsz
  have HK := Lib.hid k1
  have n0 : (0 : Int) < (a.length : Int) := by omega
  have n1 : ((a.length : Int) == 0) = false := beq_false_of_ne (by omega)
  have n2 : decide ((196608 : Int) < k) = false := decide_eq_false (by omega)
  have n3 : decide (k < (-196608 : Int)) = false := decide_eq_false (by omega)
  obtain ⟨ea1, ea2⟩ := ea
  have KC := Kp.refl wn
  have hdr : wn.drew.heap.size = wn.heap.size := rfl
  have hdr2 : (wn.alloc (.cells #[.slice none 0 0, .int .i64 0] 27)).drew.heap.size = wn.heap.size + 1 := World.size_alloc _ _
  have hb0 : w.heap.size < wn.heap.size := by omega
  clear hW hsz k0 k1 hs ht
  have HK1 := Lib.hid hk
  have HK2 := Lib.hid hk2
  clear hk hk2
  go_enter Tryd.func16, Tryd.ntmps16
  go_upto_region 1 with (fail)
  rw [← hwn]
  clear hwn
  go_upto_region 5 with (fail)
  go_cut [5] (MagBox wn a (e + k / 32))
  case first =>
    have b1 : IntKind.i64.wrap (e + k / 32) = e + k / 32 := IntWalk.i64_in _ (by have := HK1.out; have := HK2.out; omega)
    go_region_held3 (fun w' => w'.cell? ⟨w.heap.size, 0, none⟩ = some (.slice (some ⟨b, o, none⟩) a.length c1) ∧ w'.cell? ⟨w.heap.size, 1, none⟩ = some (.int .i64 e) ∧ Kp wn w')
      (first | with_reducible exact ⟨keep_cell ((((KC.step (kp_alloc _ _)).drew).step hbA).put2 (Nat.le_refl _) _ _).out a0, keep_cell ((((KC.step (kp_alloc _ _)).drew).step hbA).put2 (Nat.le_refl _) _ _).out a1, ((((KC.step (kp_alloc _ _)).drew).step hbA).put2 (Nat.le_refl _) _ _)⟩ | with_reducible exact ⟨keep_cell ((KC.drew.step hbA).step (kp_alloc _ _)).out a0, keep_cell ((KC.drew.step hbA).step (kp_alloc _ _)).out a1, (KC.drew.step hbA).step (kp_alloc _ _)⟩ | with_reducible exact ⟨keep_cell (((KC.step (kp_alloc _ _)).drew).step hbA).out a0, keep_cell (((KC.step (kp_alloc _ _)).drew).step hbA).out a1, ((KC.step (kp_alloc _ _)).drew).step hbA⟩ | with_reducible exact ⟨keep_cell ((KC.step (kp_alloc _ _)).drew).out a0, keep_cell ((KC.step (kp_alloc _ _)).drew).out a1, (KC.step (kp_alloc _ _)).drew⟩ | with_reducible exact ⟨keep_cell (KC.drew.step hbA).out a0, keep_cell (KC.drew.step hbA).out a1, KC.drew.step hbA⟩ | with_reducible exact ⟨keep_cell KC.drew.out a0, keep_cell KC.drew.out a1, KC.drew⟩)
      (first
        | (go_at_call 41; ((with_reducible refine (HC.out _ ?hq).mono ?_); (case hq => exact KC.drew); rintro x w2 ⟨v2, rfl, hown, hnn, hbA⟩; obtain ⟨g2, c2, rfl, hg2, hg3⟩ := own_some hown hne))
        | (go_at_call 41; ((with_reducible refine (HC.out _ ?hq).mono ?_); (case hq => exact ((KC.step (kp_alloc _ _)).drew)); rintro x w2 ⟨v2, rfl, hown, hnn, hbA⟩; obtain ⟨g2, c2, rfl, hg2, hg3⟩ := own_some hown hne; have hres := keep_block hbA (show (wn.alloc (.cells #[.slice none 0 0, .int .i64 0] 27)).drew.heap[wn.heap.size]? = some (.cells #[.slice none 0 0, .int .i64 0] 27 (0, 0)) from heap_alloc_new wn (.cells #[.slice none 0 0, .int .i64 0] 27)); obtain ⟨r0, r1, f0, f1⟩ := res2_facts hres)))
    all_goals
      go_wp2_with fail
      go_meet
      first
        | exact magBox_new hown (by omega) (KC.drew.step hbA)
        | exact magBox_end hres (own_base hown (by have := kp_alloc wn (.cells #[.slice none 0 0, .int .i64 0] 27); exact this.size)) (by rw [hdr2] at hg2; omega) ((KC.step (kp_alloc _ _)).drew.step hbA) (Nat.le_refl _)
  case rest =>
    clear HC hdr hdr2 KC
    obtain ⟨f, bs, c, rfl, hf, hbf, hcell, hown, hkc⟩ := hcut
    obtain ⟨wd, rfl⟩ : ∃ z : World, z = wc := ⟨_, rfl⟩
    obtain ⟨m0, m1, g0, g1⟩ := res2_facts hcell
    have HA2 := Lib.hid a2
    have a2 := keep_cell hkc.out a2
    have HKD := Lib.hid hkc
    have hb := i64_and31 k
    obtain ⟨r, hr⟩ : ∃ r : Nat, (r : Int) = k % 32 := ⟨(k % 32).toNat, by omega⟩
    rw [← hr] at hb
    have hr1 : r < 32 := by omega
    by_cases c0 : r = 0
    · subst c0
      have hr0 := Lib.hid (show k % 32 = 0 by omega)
      have HM := Lib.hid (made_calls (P := fun b => w.heap.size + 2 ≤ b) (e + k / 32) _ a ng wd (own_sl hown) (In.mk (a := ⟨bs, 0, none⟩) (by have h1 : wn.heap.size ≤ bs := own_block hown _ rfl; have h2 := HSZ.out; show w.heap.size + 2 ≤ bs; omega)) ha (by have := HK1.out; have := HK2.out; omega) (by have := HK1.out; have := HK2.out; omega) (HT.out.keep hkc.out))
      have HKK := Lib.hid (keep_block hkc.out HK.out)
      clear a0 a1 a3 hr hkc hown hcell
      go_wp2_with fail
      refine HM.out.mono ?_
      rintro x w3 ⟨o3, hwv, v3, rfl, hv3, hbB⟩
      obtain ⟨p3, n3, c3, e3, neg3, none3, rfl⟩ := hv3.form
      have hres := keep_block hbB HKK.out
      obtain ⟨q0, q1, q2, q3, f0, f1, f2, f3⟩ := res4_facts hres
      have HV3 := Lib.hid hv3
      have HWV := Lib.hid hwv
      have HB3 := Lib.hid hbB
      clear hv3 hwv hbB
      go_wp2_with fail
      obtain ⟨u0, u1, u2, u3⟩ := put4_facts hres (.slice p3 n3 c3) (.int .i64 e3) (.bool neg3) (.bool none3)
      refine bodyPost_ret (v := .agg #[.slice p3 n3 c3, .int .i64 e3, .bool neg3, .bool none3]) (by simp [results, Tryd.results16, go_sem, u0, u1, u2, u3]) rfl ?_
      have hss := HSZ.out
      refine ⟨o3, by rw [← W.shl_nv0 _ _ _ hr0.out]; exact HWV.out, _, rfl, (WNum.fresh (w := w) (b := w.heap.size + 1) HV3.out (by omega) _ _ _ _).mono (fun b h => by omega), bl_put4 (HW.out.trans ((HKD.out.out.trans (HB3.out.mono HKD.out.out.size)).mono HW.out.size)) (by omega) _ _ _ _⟩
    · have c1 : (0 : Int) < r := by omega
      have hcell0 := Lib.hid hcell
      clear hcell
      have hfl := block_lt hcell0.out
      have hob := own_block hown
      have hfb : some f ≠ (Value.slice (some ⟨bs, 0, none⟩) a.length c).ownBlock := fun h => hbf (by cases h; rfl)
      have HR := Lib.hid hr
      clear a0 a1 a3 hr hkc m0 m1 g0 g1
      have ha0 := kp_alloc wd (.cells #[.int .u32 0] 67)
      obtain ⟨m0, m1, g0, g1⟩ := res2_facts hcell0.out
      have hbw := HKD.out.out.size
      go_wp2_with (at_builtin; refine wpList_append_lies _ rfl (.tmp 44) (.tmp 45) 25 rfl wn.heap.size 67 i0 (.int .u32 0) 1 4 Tryd.underlying25 hi hz0 hz1 hz2 rfl (by decide) _ _ _ rfl (hown.alloc _) ⟨wd.heap.size, 0, none⟩ 1 1 [.int .u32 0] rfl rfl (news_one _ _ _) (by simp [Value.oneCell']) (by decide) (by unfold maxLen; omega) (by omega) (Nat.le_trans hbw ha0.size) _ rfl ?_; intro g2 cap4 w4 hown4 hgrow hat hlt; have hc4 := ((hgrow.block f (Nat.lt_of_lt_of_le hfl ha0.size) hfb).trans (ha0.block f hfl)).trans hcell0.out; obtain ⟨s0, s1, t0, t1⟩ := res2_facts hc4)
      have hgf : g2 ≠ f := by
        rcases hat with h | h
        · cases h; exact hbf
        · have := ha0.size; omega
      have hk4 : Kp wn w4 := ((HKD.out.step ha0).out.grown hgrow (Nat.le_trans hbw ha0.size) hob)
      obtain ⟨wm, hwm⟩ : ∃ z, z = w4.setCell ⟨f, 0, none⟩ (.slice (some ⟨g2, 0, none⟩) (a.length + 1) cap4) := ⟨_, rfl⟩
      have hkm : Kp wn wm := by rw [hwm]; exact hk4.out.setCell hf _
      have hownm : wm.ownsRow wn.heap.size 67 1 (.slice (some ⟨g2, 0, none⟩) (a.length + 1) cap4) (a.length + 1) ((a ++ [0]).map (Value.int .u32)) := by
        rw [hwm, List.map_append]; exact own_put hown4 (fun k hk => by cases hk; exact hgf) _
      have hcm : wm.heap[f]? = some (.cells #[.slice (some ⟨g2, 0, none⟩) (a.length + 1) cap4, .int .i64 (e + k / 32)] 27 (0, 0)) := by
        rw [hwm]; have := setCell_block hc4 0 (.slice (some ⟨g2, 0, none⟩) (a.length + 1) cap4); simpa using this
      rw [← hwm]
      clear hwm hk4 hat hlt hgrow hown4 hown hc4 s0 s1 t0 t1 m0 m1 g0 g1 ha0 hfb hob hfl hcell0 HKD hbw hbf
      obtain ⟨D, hD⟩ : ∃ D, D = a ++ [0] := ⟨_, rfl⟩
      obtain ⟨S, hS⟩ : ∃ S, S = W.shl r 0 D := ⟨_, rfl⟩
      have hDl : D.length = a.length + 1 := by rw [hD]; simp
      rw [← hD] at hownm
      have HDD := Lib.hid hD
      have HSS := Lib.hid hS
      have HDL := Lib.hid hDl
      clear hD hS hDl
      go_loopw [7] (fun i wr => ∃ (m : Nat) (cur : List Int), m ≤ a.length + 1 ∧ i = .int .i64 ((m : Int) - 1) ∧ cur.length = a.length + 1 ∧ (∀ j, cur.getD j 0 = if j < m then D.getD j 0 else S.getD j 0) ∧
          wr.heap[f]? = some (.cells #[.slice (some ⟨g2, 0, none⟩) (a.length + 1) cap4, .int .i64 (e + k / 32)] 27 (0, 0)) ∧
          wr.ownsRow wn.heap.size 67 1 (.slice (some ⟨g2, 0, none⟩) (a.length + 1) cap4) (a.length + 1) (cur.map (Value.int .u32)) ∧ Kp wn wr)
        (fun i _ => (intOf i + 1).toNat)
      case atStart =>
        refine ⟨a.length + 1, D, Nat.le_refl _, by simp, HDL.out, fun j => ?_, hcm, hownm, hkm⟩
        split
        · rfl
        · rw [List.getD_eq_getElem?_getD, List.getD_eq_getElem?_getD, List.getElem?_eq_none (by have := HDL.out; omega), List.getElem?_eq_none (by rw [HSS.out, W.shl_len]; have := HDL.out; omega)]
      case round =>
        clear hownm hkm hcm
        obtain ⟨wq, rfl⟩ : ∃ wq : World, wq = wr := ⟨_, rfl⟩
        obtain ⟨m, cur, hm, rfl, hcl, hcd, hcm, hown, hkq⟩ := hrel
        obtain ⟨m0, m1, g0, g1⟩ := res2_facts hcm
        have HCL := Lib.hid hcl
        have HCD := Lib.hid hcd
        have HCM := Lib.hid hcm
        have HKQ := Lib.hid hkq
        clear hcd hcm hkq
        have hm3 : m = 0 ∨ m = 1 ∨ ∃ q, m = q + 2 := by
          rcases m with - | - | q
          · exact Or.inl rfl
          · exact Or.inr (Or.inl rfl)
          · exact Or.inr (Or.inr ⟨q, rfl⟩)
        rcases hm3 with rfl | rfl | ⟨q, rfl⟩
        · have hcs : cur = S := W.eq_of_getD (by rw [HCL.out, HSS.out, W.shl_len, HDL.out]) (fun j => by rw [HCD.out j, if_neg (Nat.not_lt_zero j)])
          rw [hcs] at hown
          have HST := Lib.hid (show S.length = a.length + 1 by rw [← hcs]; exact HCL.out)
          have hsd : W.Dok S := by rw [HSS.out, HDD.out]; exact W.shl_dok hr1 (W.dok_snoc_zero ha)
          have hsl : Sl wq (.slice (some ⟨g2, 0, none⟩) (a.length + 1) cap4) (S.map (Value.int .u32)) := own_sl hown
          have HM := Lib.hid (made_calls (P := fun b => w.heap.size + 2 ≤ b) (e + k / 32) _ S ng wq hsl (In.mk (a := ⟨g2, 0, none⟩) (by have h1 : wn.heap.size ≤ g2 := own_block hown _ rfl; have h2 := HSZ.out; show w.heap.size + 2 ≤ g2; omega)) hsd (by have := HK1.out; have := HK2.out; omega) (by have := HK1.out; have := HK2.out; have := HST.out; omega) (HT.out.keep HKQ.out.out))
          have HKK := Lib.hid (keep_block HKQ.out.out HK.out)
          have a2 := keep_cell HKQ.out.out HA2.out
          clear hown hcs hsl hsd
          go_wp2_with fail
          refine HM.out.mono ?_
          rintro x w3 ⟨o3, hwv, v3, rfl, hv3, hbB⟩
          obtain ⟨p3, n3, c3, e3, neg3, none3, rfl⟩ := hv3.form
          have hres := keep_block hbB HKK.out
          obtain ⟨q0, q1, q2, q3, f0, f1, f2, f3⟩ := res4_facts hres
          have HV3 := Lib.hid hv3
          have HWV := Lib.hid hwv
          have HB3 := Lib.hid hbB
          clear hv3 hwv hbB
          go_wp2_with fail
          obtain ⟨u0, u1, u2, u3⟩ := put4_facts hres (.slice p3 n3 c3) (.int .i64 e3) (.bool neg3) (.bool none3)
          refine bodyPost_ret (v := .agg #[.slice p3 n3 c3, .int .i64 e3, .bool neg3, .bool none3]) (by simp [results, Tryd.results16, go_sem, u0, u1, u2, u3]) rfl ?_
          have hss := HSZ.out
          have hval : W.nv (sg ng) S (e + k / 32) = W.nv (sg ng) a e * (2 : Rat) ^ k := by rw [HSS.out, HDD.out]; exact W.shl_nv _ _ _ HR.out
          refine ⟨o3, by rw [← hval]; exact HWV.out, _, rfl, (WNum.fresh (w := w) (b := w.heap.size + 1) HV3.out (by omega) _ _ _ _).mono (fun b h => by omega), bl_put4 (HW.out.trans ((HKQ.out.out.trans (HB3.out.mono HKQ.out.out.size)).mono HW.out.size)) (by omega) _ _ _ _⟩
        · obtain ⟨y0, y1⟩ := own_cell hown (i := 0) (by rw [List.length_map]; omega)
          rw [List.getElem_map, ← getD_of_lt, HCD.out, if_pos (by omega)] at y0
          obtain ⟨d, hd⟩ : ∃ d, d = D.getD 0 0 := ⟨_, rfl⟩
          rw [← hd] at y0
          have e0 : ((1 : Nat) : Int) - 1 = 0 := by omega
          rw [e0]
          have n5 : (0 : Int) < ((a.length + 1 : Nat) : Int) := by omega
          have HDE := Lib.hid hd
          clear hd
          go_wp2_with fail
          go_roundw
          case rel =>
            refine ⟨0, cur.set 0 (d * 2 ^ r % 4294967296), Nat.zero_le _, rfl, by rw [List.length_set]; exact HCL.out, fun j => ?_, by rw [Below.heap_setCell _ _ _ _ (Ne.symm hgf)]; exact HCM.out, by rw [List.map_set]; exact own_set hown _ _, HKQ.out.out.setCell (show wn.heap.size ≤ g2 from own_block hown _ rfl) _⟩
            have hg := W.shl_get r 0 D 0 (by rw [HDL.out]; omega)
            rw [if_pos rfl, ← HDE.out, Int.add_zero, ← HSS.out] at hg
            rw [if_neg (Nat.not_lt_zero j)]
            by_cases hj : j = 0
            · subst hj; rw [hg, W.getD_set_self (by rw [HCL.out]; omega)]
            · rw [W.getD_set_ne (Ne.symm hj), HCD.out, if_neg (by omega)]
          case measure => simp [intOf]
        · obtain ⟨y0, y1⟩ := own_cell hown (i := q + 1) (by rw [List.length_map]; omega)
          obtain ⟨z0, z1⟩ := own_cell hown (i := q) (by rw [List.length_map]; omega)
          rw [List.getElem_map, ← getD_of_lt, HCD.out, if_pos (by omega)] at y0 z0
          obtain ⟨d, hd⟩ : ∃ d, d = D.getD (q + 1) 0 := ⟨_, rfl⟩
          obtain ⟨dd, hdd⟩ : ∃ d, d = D.getD q 0 := ⟨_, rfl⟩
          rw [← hd] at y0
          rw [← hdd] at z0
          have e0 : ((q + 2 : Nat) : Int) - 1 = (q + 1 : Nat) := by omega
          rw [e0]
          have n5 : (q : Int) < ((a.length + 1 : Nat) : Int) := by omega
          have n6 : (q : Int) + 1 < ((a.length + 1 : Nat) : Int) := by omega
          have n7 : (q : Int) < (a.length : Int) := by omega
          have HDE := Lib.hid hd
          have HDF := Lib.hid hdd
          clear hd hdd
          go_wp2_with fail
          go_roundw
          case rel =>
            have hg := W.shl_get r 0 D (q + 1) (by rw [HDL.out]; omega)
            have hgd := (W.dok_snoc_zero ha) q
            rw [← HDD.out, ← HDF.out] at hgd
            rw [if_neg (Nat.succ_ne_zero q), Nat.add_sub_cancel, ← HDE.out, ← HDF.out, ← HSS.out] at hg
            obtain ⟨X, x1, x2, x3⟩ := W.shl_word hr1 (d := d)
            have hcy := W.shl_carry (r := r) hgd.1 hgd.2
            have hor : bits .or .u32 (d * 2 ^ r % 4294967296) (dd / 2 ^ (32 - r)) = S.getD (q + 1) 0 := by
              rw [hg, W.shl_down hr1]
              exact u32_or_sum X x1 x2 (by omega) hcy.1 hcy.2 (by omega)
            rw [hor]
            refine ⟨q + 1, cur.set (q + 1) (S.getD (q + 1) 0), by omega, by congr 1; omega, by rw [List.length_set]; exact HCL.out, fun j => ?_, by rw [Below.heap_setCell _ _ _ _ (Ne.symm hgf)]; exact HCM.out, by rw [List.map_set]; exact own_set hown _ _, HKQ.out.out.setCell (show wn.heap.size ≤ g2 from own_block hown _ rfl) _⟩
            by_cases hj : j = q + 1
            · subst hj; rw [if_neg (by omega), W.getD_set_self (by rw [HCL.out]; omega)]
            · rw [W.getD_set_ne (Ne.symm hj), HCD.out]
              by_cases h2 : j < q + 1
              · rw [if_pos (by omega), if_pos h2]
              · rw [if_neg (by omega), if_neg h2]
          case measure => simp [intOf]; omega
end Go.Proofs.YtiiipgbfhcbjdaaDoor
