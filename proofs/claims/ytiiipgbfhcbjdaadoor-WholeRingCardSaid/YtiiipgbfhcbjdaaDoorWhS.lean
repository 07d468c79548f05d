/- Package whole, walked: Mul. -/
import Derived.Test.YtiiipgbfhcbjdaaDoorWhR
import Derived.WalkMore
import Derived.Deep.LoopGhost
namespace Go.Proofs.YtiiipgbfhcbjdaaDoor
open Go.RowKit TV
set_option linter.unusedVariables false

theorem own_made2 {w : World} {base : Nat} {e : TypeId} {n bs : Nat} (hb : base ≤ bs) (hn : n ≤ maxLen) (h : w.heap[bs]? = some (.cells (madeCells #[.int .u32 0] n) e (0, 0))) :
    w.ownsRow base e 1 (.slice (some ⟨bs, 0, none⟩) n n) n ((List.replicate n (0 : Int)).map (Value.int .u32)) := by
  refine ⟨by simp, Or.inr ⟨bs, n, _, rfl, hb, h, Nat.le_refl _, hn, by rw [size_madeCells, Nat.mul_one], ?_⟩⟩
  rw [Nat.mul_one, List.map_replicate]
  have : (madeCells #[.int .u32 0] n).toList = List.replicate n (Value.int .u32 0) := by
    apply List.ext_getElem
    · simp [size_madeCells]
    · intro i h1 h2
      simp [madeCells, Nat.mod_one]
  rw [this, List.take_of_length_le (by simp)]

theorem sl_at {w : World} {p : Option Addr} {c : Nat} {ds : List Int} (h : Sl w (.slice p ds.length c) (ds.map (Value.int .u32))) {i : Nat} (hi : i < ds.length) :
    ∃ b o, p = some ⟨b, o, none⟩ ∧ ds.length ≤ c ∧ w.cell? ⟨b, o + i, none⟩ = some (.int .u32 (ds.getD i 0)) := by
  rcases h with ⟨h1, h2⟩ | ⟨b, o, cap, h1, h2, h3, h4⟩
  · simp at h2; subst h2; simp at hi
  · simp only [Value.slice.injEq] at h1
    obtain ⟨rfl, -, rfl⟩ := h1
    have := h4 i (by simpa using hi)
    rw [List.getElem_map] at this
    refine ⟨b, o, rfl, by simpa using h2, ?_⟩
    rw [this, List.getD_eq_getElem?_getD, List.getElem?_eq_getElem hi]; rfl

set_option maxHeartbeats 8000000 in
set_option maxRecDepth 100000 in
theorem mul_walk {w : World} (a b : List Int) (e g : Int) (p1 p2 : Option Addr) (c1 c2 : Nat) (ng mg : Bool) (hs : Sl w (.slice p1 a.length c1) (a.map (Value.int .u32))) (hv : Sl w (.slice p2 b.length c2) (b.map (Value.int .u32)))
    (ha : W.Dok a) (hb : W.Dok b) (ea : -2048 ≤ e ∧ e + a.length ≤ 2049) (eb : -2048 ≤ g ∧ g + b.length ≤ 2049) (ht : TabOk w) :
    Calls Tryd.prog 14 #[.agg #[.slice p1 a.length c1, .int .i64 e, .bool ng, .bool false], .agg #[.slice p2 b.length c2, .int .i64 g, .bool mg, .bool false]] w fun x w' => ∃ o, WvOf (W.nv (sg ng) a e * W.nv (sg mg) b g) o ∧ RetW (fun b => w.heap.size ≤ b) o w x w' := by
  obtain ⟨wn, hwn, hW, hsz, k0, k1, k2⟩ := boxes_res w (.cells #[.slice p1 a.length c1, .int .i64 e, .bool ng, .bool false] 29) (.cells #[.slice p2 b.length c2, .int .i64 g, .bool mg, .bool false] 29) (.cells #[.slice none 0 0, .int .i64 0, .bool false, .bool false] 29)
  obtain ⟨a0, a1, a2, a3, -, -, -, -⟩ := res4_facts k0
  obtain ⟨b0, b1, b2, b3, -, -, -, -⟩ := res4_facts k1
  have HSA := Lib.hid (hs.keep hW)
  have HSB := Lib.hid (hv.keep hW)
  have HT := Lib.hid (ht.keep hW)
  have hbd0 : w.heap.size < wn.heap.size := by omega
  have hbd1 : w.heap.size + 1 < wn.heap.size := by omega
  have HW := Lib.hid hW
  have HSZ := Lib.hid hsz
  have HK := Lib.hid k2
  obtain ⟨ea1, ea2⟩ := ea
  obtain ⟨eb1, eb2⟩ := eb
  obtain ⟨i0, hi, hz0, hz1, hz2⟩ := info_parts info_u32
  have hmk : ∀ W, (Instr.makeSlice 25 (.int .i64 ((a.length : Int) + (b.length : Int))) (.int .i64 ((a.length : Int) + (b.length : Int)))).run Tryd.prog W = .ok (.slice (some ⟨W.heap.size, 0, none⟩) (a.length + b.length) (a.length + b.length)) (W.alloc (.cells (madeCells #[.int .u32 0] (a.length + b.length)) 67)) := fun W => by
    have := run_make (P := Tryd.prog) W 25 67 i0 (.int .u32 0) Tryd.underlying25 hi hz0 .i64 .i64 ((a.length : Int) + (b.length : Int)) ((a.length : Int) + (b.length : Int)) (by omega) (Int.le_refl _) (by rw [hz2]; omega) (by omega)
    rw [this, hz1, show ((a.length : Int) + (b.length : Int)).toNat = a.length + b.length by omega, Nat.mul_one]; rfl
  clear hW hsz k0 k1 k2 hs hv ht hi hz0 hz1 hz2
  go_enter Tryd.func14, Tryd.ntmps14
  go_upto_region 1 with (fail)
  rw [← hwn]
  clear hwn
  go_wp2_with fail
  obtain ⟨bs, hbs⟩ : ∃ z, z = wn.heap.size := ⟨_, rfl⟩
  obtain ⟨wm, hwm⟩ : ∃ z, z = wn.alloc (.cells (madeCells #[.int .u32 0] (a.length + b.length)) 67) := ⟨_, rfl⟩
  have hbm : Kp wn wm := by rw [hwm]; exact kp_alloc2 _ _
  have how : wm.ownsRow bs 67 1 (.slice (some ⟨bs, 0, none⟩) (a.length + b.length) (a.length + b.length)) (a.length + b.length) ((List.replicate (a.length + b.length) (0 : Int)).map (Value.int .u32)) := by
    refine own_made2 (Nat.le_refl _) (by unfold maxLen; omega) ?_
    rw [hwm, hbs]; exact heap_alloc_new _ _
  rw [← hwm, ← hbs]
  have HBS := Lib.hid hbs
  clear hwm hmk hbs
  go_loopw [33] (fun i wr => ∃ (i' : Nat) (cur : List Int), i' ≤ a.length ∧ i = .int .i64 i' ∧ cur.length = a.length + b.length ∧ W.Dok cur ∧ W.dval cur = W.dval (a.take i') * W.dval b ∧ (∀ j, i' + b.length ≤ j → cur.getD j 0 = 0) ∧
      wr.ownsRow bs 67 1 (.slice (some ⟨bs, 0, none⟩) (a.length + b.length) (a.length + b.length)) (a.length + b.length) (cur.map (Value.int .u32)) ∧ Kp wn wr)
    (fun i _ => a.length - (intOf i).toNat)
  case atStart => exact ⟨0, _, Nat.zero_le _, rfl, by simp, W.dok_zero _, by rw [W.dval_zero, List.take_zero, W.dval, Int.zero_mul], fun j _ => by rw [List.getD_eq_getElem?_getD, List.getElem?_replicate]; split <;> rfl, how, hbm⟩
  case round =>
    clear how hbm
    obtain ⟨wq, rfl⟩ : ∃ wq : World, wq = wr := ⟨_, rfl⟩
    obtain ⟨i', cur, hi', rfl, hl, hd, hval, hz, hown, hkq⟩ := hrel
    have HD := Lib.hid hd
    have HV := Lib.hid hval
    have HZ := Lib.hid hz
    have HL := Lib.hid hl
    have HKQ := Lib.hid hkq
    have g0 := keep_cell hkq.out b0
    clear hd hval hz hl
    by_cases hlt : i' < a.length
    · obtain ⟨ab, ao, rfl, hcap1, y1⟩ := sl_at (HSA.out.keep hkq.out) hlt
      obtain ⟨ax, hax⟩ : ∃ ax, ax = a.getD i' 0 := ⟨_, rfl⟩
      rw [← hax] at y1
      have HAX := Lib.hid hax
      have hax2 := ha i'
      rw [← hax] at hax2
      obtain ⟨ax1, ax2⟩ := hax2
      have n2 : (i' : Int) < (a.length : Int) := by omega
      clear hax hkq
      go_wp2_with fail
      go_step3
      go_wp2_with fail
      go_loopw [8, 42] (fun c k wr => ∃ (k' : Nat) (cr : Int) (cu : List Int), k' ≤ b.length ∧ k = .int .i64 k' ∧ c = .int .u64 cr ∧ 0 ≤ cr ∧ cr < 4294967296 ∧ cu.length = a.length + b.length ∧ W.Dok cu ∧
          W.dval cu + cr * 4294967296 ^ (i' + k') = W.dval (a.take i') * W.dval b + a.getD i' 0 * 4294967296 ^ i' * W.dval (b.take k') ∧ (∀ j, i' + b.length ≤ j → cu.getD j 0 = 0) ∧
          wr.ownsRow bs 67 1 (.slice (some ⟨bs, 0, none⟩) (a.length + b.length) (a.length + b.length)) (a.length + b.length) (cu.map (Value.int .u32)) ∧ Kp wn wr)
        (fun _ k _ => b.length - (intOf k).toNat)
      case atStart => exact ⟨0, 0, cur, Nat.zero_le _, rfl, rfl, by omega, by omega, HL.out, HD.out, by rw [List.take_zero, W.dval, Int.mul_zero, Int.zero_mul]; have := HV.out; omega, HZ.out, hown, HKQ.out⟩
      case round =>
        clear hown HD HV HZ HL HKQ g0 y1
        obtain ⟨wy, rfl⟩ : ∃ wy : World, wy = wr := ⟨_, rfl⟩
        obtain ⟨k', cr, cu, hk', rfl, rfl, hc0, hc1, hl, hd, hval, hz, hown, hky⟩ := hrel
        have HD := Lib.hid hd
        have HV := Lib.hid hval
        have HZ := Lib.hid hz
        have HL := Lib.hid hl
        have HKY := Lib.hid hky
        have g0 := keep_cell hky.out b0
        clear hd hval hz hl
        by_cases hkl : k' < b.length
        · obtain ⟨bb, bo, rfl, hcap2, y2⟩ := sl_at (HSB.out.keep hky.out) hkl
          obtain ⟨y3, y4⟩ := own_cell hown (i := i' + k') (by rw [List.length_map, HL.out]; omega)
          rw [List.getElem_map, ← getD_of_lt] at y3
          obtain ⟨d1, d2⟩ := HD.out (i' + k')
          have hbk := hb k'
          obtain ⟨cd, hcd⟩ : ∃ cd, cd = cu.getD (i' + k') 0 := ⟨_, rfl⟩
          obtain ⟨bx, hbx⟩ : ∃ bx, bx = b.getD k' 0 := ⟨_, rfl⟩
          rw [← hcd] at y3 d1 d2
          rw [← hbx] at y2 hbk
          obtain ⟨bx1, bx2⟩ := hbk
          obtain ⟨m3, m4⟩ := W.mul_bound ax1 ax2 bx1 bx2
          have HBX := Lib.hid hbx
          have HCD := Lib.hid hcd
          have n1 : (i' : Int) + (k' : Int) < ((a.length + b.length : Nat) : Int) := by omega
          have n3 : (k' : Int) < (b.length : Int) := by omega
          have n4 : (i' : Int) + (k' : Int) < (a.length : Int) + (b.length : Int) := by omega
          clear hcd hbx hky
          go_wp2_with fail
          go_roundw
          case rel =>
            have hstep := W.mul_step (cur := cu) (p := i' + k') (x := ax * bx) (cr := cr) (by rw [HL.out]; omega) rfl
            rw [← HCD.out] at hstep
            have e0 : cr + (ax * bx + cd) = cd + ax * bx + cr := by omega
            rw [e0]
            refine ⟨k' + 1, (cd + ax * bx + cr) / 4294967296, cu.set (i' + k') ((cd + ax * bx + cr) % 4294967296), by omega, by congr 1, rfl, by omega, by omega, by rw [List.length_set]; exact HL.out,
              W.dok_set HD.out _ _ (by rw [HL.out]; omega) (by omega) (by omega), W.mul_inner hkl HV.out (by rw [hstep, HAX.out, HBX.out]), ?_, ?_, ?_⟩
            · intro j hj
              rw [List.getD_eq_getElem?_getD, List.getElem?_set_ne (by omega), ← List.getD_eq_getElem?_getD]; exact HZ.out j hj
            · rw [List.map_set]; exact own_set hown _ _
            · exact HKY.out.out.setCell (by have := HBS.out; simp; omega) _
          case measure => simp [intOf]; omega
        · obtain rfl : k' = b.length := by omega
          obtain ⟨y3, y4⟩ := own_cell hown (i := i' + b.length) (by rw [List.length_map, HL.out]; omega)
          rw [List.getElem_map, ← getD_of_lt] at y3
          have hzz := HZ.out (i' + b.length) (Nat.le_refl _)
          rw [hzz] at y3
          have n1 : (i' : Int) + (b.length : Int) < ((a.length + b.length : Nat) : Int) := by omega
          have HZZ := Lib.hid hzz
          clear hzz hky
          have hdv : cr / 4294967296 = 0 := by omega
          have hmd : cr % 4294967296 = cr := by omega
          go_wp2_with fail
          go_step3
          go_wp2_with fail
          go_loopw [8, 11] (fun c k wr => c = .int .u64 cr ∧ k = .int .i64 ((i' : Int) + (b.length : Int)) ∧ wr = wy) (fun _ _ _ => 0)
          case atStart => exact ⟨rfl, rfl, rfl⟩
          case round =>
            obtain ⟨rfl, rfl, rfl⟩ := hrel
            go_wp2_with fail
            rw [Exit.noGoto_normal]
            go_wp2_with fail
            go_roundw
            case rel =>
              have ho := W.mul_outer (a := a) (b := b) (cur := cu) (i := i') (cr := cr) hlt (by rw [HL.out]; omega) HZZ.out (by have := HV.out; rw [List.take_length] at this; exact this)
              rw [HZZ.out, Int.zero_add] at ho
              refine ⟨i' + 1, cu.set (i' + b.length) cr, by omega, by congr 1, by rw [List.length_set]; exact HL.out, W.dok_set HD.out _ _ (by rw [HL.out]; omega) (by omega) (by omega), ho, ?_, ?_, ?_⟩
              · intro j hj
                rw [List.getD_eq_getElem?_getD, List.getElem?_set_ne (by omega), ← List.getD_eq_getElem?_getD]; exact HZ.out j (by omega)
              · rw [List.map_set]; exact own_set hown _ _
              · exact HKY.out.out.setCell (by have := HBS.out; simp; omega) _
            case measure => simp [intOf]; omega
    · obtain rfl : i' = a.length := by omega
      have h0 := keep_cell hkq.out a1
      have h1 := keep_cell hkq.out b1
      have h2 := keep_cell hkq.out a2
      have h3 := keep_cell hkq.out b2
      have hin : In (fun b => bs ≤ b) (.slice (some ⟨bs, 0, none⟩) (a.length + b.length) (a.length + b.length)) := In.mk (a := ⟨bs, 0, none⟩) (Nat.le_refl _)
      have hlen := HL.out
      have HM := Lib.hid (made_calls (e + g) _ cur (ng != mg) wq (own_sl hown) hin HD.out (by omega) (by omega) (HT.out.keep hkq.out))
      have HKK := Lib.hid (keep_block hkq.out HK.out)
      clear hown hin hlen g0 a0 b0 a1 b1 a2 b2 a3 b3 hkq
      go_wp2_with fail
      refine HM.out.mono ?_
      rintro x w3 ⟨o3, hwv, v3, rfl, hv3, hbB⟩
      obtain ⟨p3, n3, c3, e3, neg3, none3, rfl⟩ := hv3.form
      have hres := keep_block hbB HKK.out
      obtain ⟨q0, q1, q2, q3, f0, f1, f2, f3⟩ := res4_facts hres
      have HV3 := Lib.hid hv3
      have HWV := Lib.hid hwv
      have HB3 := Lib.hid hbB
      clear hv3 hwv hbB
      go_wp2_with fail
      obtain ⟨u0, u1, u2, u3⟩ := put4_facts hres (.slice p3 n3 c3) (.int .i64 e3) (.bool neg3) (.bool none3)
      refine bodyPost_ret (v := .agg #[.slice p3 n3 c3, .int .i64 e3, .bool neg3, .bool none3]) (by simp [results, Tryd.results14, go_sem, u0, u1, u2, u3]) rfl ?_
      have hbs := HBS.out
      have hss := HSZ.out
      have hval : W.nv (sg (ng != mg)) cur (e + g) = W.nv (sg ng) a e * W.nv (sg mg) b g := by
        have hd := HV.out
        rw [List.take_length] at hd
        have hs : sg (ng != mg) = sg ng * sg mg := by cases ng <;> cases mg <;> rfl
        unfold W.nv
        rw [hd, hs, Int.mul_add, two_zpow_add]
        push_cast
        grind
      refine ⟨o3, by rw [← hval]; exact HWV.out, _, rfl, (WNum.fresh (w := w) (b := w.heap.size + 1 + 1) HV3.out (by omega) _ _ _ _).mono (fun b h => by omega), bl_put4 (HW.out.trans ((HKQ.out.out.trans (HB3.out.mono HKQ.out.out.size)).mono HW.out.size)) (by omega) _ _ _ _⟩

end Go.Proofs.YtiiipgbfhcbjdaaDoor
