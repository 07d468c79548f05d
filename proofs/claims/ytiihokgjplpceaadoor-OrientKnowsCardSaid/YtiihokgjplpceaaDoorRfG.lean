/- Texts of one kind, joined. -/
import Derived.Test.YtiihokgjplpceaaDoorRfF
import Derived.Test.YtiihokgjplpceaaDoorPuA
import Derived.Laws.MakeOwn
import Derived.Deep.DeepCutAuto
import Derived.BigRegion
import Derived.Deep.QuietTactic
import Derived.BigQuiet

section
/- The reference's product, walked. -/
namespace Go.Proofs.YtiihokgjplpceaaDoor
open Go.RowKit TV
set_option linter.unusedVariables false

theorem own_made {w : World} {base : Nat} {e : TypeId} {n bs : Nat} (hb : base ≤ bs) (hn : n ≤ maxLen) (h : w.heap[bs]? = some (.cells (madeCells #[.int .i64 0] n) e (0, 0))) :
    w.ownsRow base e 1 (.slice (some ⟨bs, 0, none⟩) n n) n ((List.replicate n (0 : Int)).map (Value.int .i64)) := by
  refine ⟨by simp, Or.inr ⟨bs, n, _, rfl, hb, h, Nat.le_refl _, hn, by rw [size_madeCells, Nat.mul_one], ?_⟩⟩
  rw [Nat.mul_one, List.map_replicate]
  have : (madeCells #[.int .i64 0] n).toList = List.replicate n (Value.int .i64 0) := by
    apply List.ext_getElem
    · simp [size_madeCells]
    · intro i h1 h2
      simp [madeCells, Nat.mod_one]
  rw [this, List.take_of_length_le (by simp)]

theorem Sl.at {w : World} {p : Option Addr} {c : Nat} {ds : List Int} (h : Sl w (.slice p ds.length c) (ds.map (Value.int .i64))) {i : Nat} (hi : i < ds.length) :
    ∃ b o, p = some ⟨b, o, none⟩ ∧ ds.length ≤ c ∧ w.cell? ⟨b, o + i, none⟩ = some (.int .i64 (ds.getD i 0)) := by
  rcases h with ⟨h1, h2⟩ | ⟨b, o, cap, h1, h2, h3, h4⟩
  · simp at h2; subst h2; simp at hi
  · simp only [Value.slice.injEq] at h1
    obtain ⟨rfl, -, rfl⟩ := h1
    have := h4 i (by simpa using hi)
    rw [List.getElem_map] at this
    refine ⟨b, o, rfl, by simpa using h2, ?_⟩
    rw [this, List.getD_eq_getElem?_getD, List.getElem?_eq_getElem hi]; rfl

def CutM (w : World) (W3 : World) (st eg : Int) (n : Nat) (v : Value) (wx : World) : Prop :=
  ∃ bo bs, v = .pointer (some ⟨bo, 0, none⟩) ∧ w.heap.size + 3 ≤ bo ∧ w.heap.size + 3 ≤ bs ∧ bo ≠ bs ∧
    wx.heap[bo]? = some (.cells #[.int .i64 st, .slice (some ⟨bs, 0, none⟩) n n, .int .i64 eg] 42 (0, 0)) ∧
    wx.ownsRow (w.heap.size + 3) 2 1 (.slice (some ⟨bs, 0, none⟩) n n) n ((List.replicate n (0 : Int)).map (Value.int .i64)) ∧ Below (w.heap.size + 3) W3 wx

theorem below_drewN {B : Nat} {w w1 : World} (h : Below B w w1) (n : Nat) : Below B w (w1.drewN n) := ⟨h.os, h.tape, h.output, h.size, h.block⟩

theorem cutM_a {w W : World} {st eg : Int} {n : Nat} (hW : W.heap.size = w.heap.size + 3) (hn : n ≤ maxLen) :
    CutM w W st eg n (.pointer (some ⟨w.heap.size + 4, 0, none⟩)) ((W.alloc (.cells (madeCells #[.int .i64 0] n) 2)).alloc (.cells #[.int .i64 st, .slice (some ⟨w.heap.size + 3, 0, none⟩) n n, .int .i64 eg] 42)).drew := by
  have h1 : ((W.alloc (.cells (madeCells #[.int .i64 0] n) 2)).alloc (.cells #[.int .i64 st, .slice (some ⟨w.heap.size + 3, 0, none⟩) n n, .int .i64 eg] 42)).heap[w.heap.size + 4]? = some (.cells #[.int .i64 st, .slice (some ⟨w.heap.size + 3, 0, none⟩) n n, .int .i64 eg] 42 (0, 0)) := by
    have := heap_alloc_new (W.alloc (.cells (madeCells #[.int .i64 0] n) 2)) (.cells #[.int .i64 st, .slice (some ⟨w.heap.size + 3, 0, none⟩) n n, .int .i64 eg] 42)
    simpa [hW] using this
  have h2 : ((W.alloc (.cells (madeCells #[.int .i64 0] n) 2)).alloc (.cells #[.int .i64 st, .slice (some ⟨w.heap.size + 3, 0, none⟩) n n, .int .i64 eg] 42)).heap[w.heap.size + 3]? = some (.cells (madeCells #[.int .i64 0] n) 2 (0, 0)) := by
    rw [Below.heap_alloc _ _ _ (by simp [hW]), ← hW]
    exact heap_alloc_new _ _
  exact ⟨_, _, rfl, by omega, by omega, by omega, h1, own_made (Nat.le_refl _) hn h2, (((Below.refl _ _).alloc (by omega) _).alloc (by simp; omega) _).drew⟩

theorem cutM_b {w W : World} {st eg : Int} {n : Nat} (hW : W.heap.size = w.heap.size + 3) (hn : n ≤ maxLen) :
    CutM w W st eg n (.pointer (some ⟨w.heap.size + 3, 0, none⟩)) ((W.alloc (.cells #[.int .i64 st, .slice (some ⟨w.heap.size + 4, 0, none⟩) n n, .int .i64 eg] 42)).alloc (.cells (madeCells #[.int .i64 0] n) 2)).drew := by
  have h1 : ((W.alloc (.cells #[.int .i64 st, .slice (some ⟨w.heap.size + 4, 0, none⟩) n n, .int .i64 eg] 42)).alloc (.cells (madeCells #[.int .i64 0] n) 2)).heap[w.heap.size + 3]? = some (.cells #[.int .i64 st, .slice (some ⟨w.heap.size + 4, 0, none⟩) n n, .int .i64 eg] 42 (0, 0)) := by
    rw [Below.heap_alloc _ _ _ (by simp [hW]), ← hW]
    exact heap_alloc_new _ _
  have h2 : ((W.alloc (.cells #[.int .i64 st, .slice (some ⟨w.heap.size + 4, 0, none⟩) n n, .int .i64 eg] 42)).alloc (.cells (madeCells #[.int .i64 0] n) 2)).heap[w.heap.size + 4]? = some (.cells (madeCells #[.int .i64 0] n) 2 (0, 0)) := by
    have := heap_alloc_new (W.alloc (.cells #[.int .i64 st, .slice (some ⟨w.heap.size + 4, 0, none⟩) n n, .int .i64 eg] 42)) (.cells (madeCells #[.int .i64 0] n) 2)
    simpa [hW] using this
  exact ⟨_, _, rfl, by omega, by omega, by omega, h1, own_made (by omega) hn h2, (((Below.refl _ _).alloc (by omega) _).alloc (by simp; omega) _).drew⟩

def MulPost (st : Int) (a b : List Int) (eg : Int) (w : World) (x : Ending) (w' : World) : Prop :=
  ∃ s' sl' ds' e' os, x = .returned (.agg #[.int .i64 s', sl', .int .i64 e']) ∧ Sl w' sl' (ds'.map (Value.int .i64)) ∧ Below w.heap.size w w' ∧
    TrimOf st os eg s' ds' e' ∧ Dok os ∧ os.length = a.length + b.length ∧ dval os = dval a * dval b ∧ In (fun k => w.heap.size ≤ k) sl'

set_option maxRecDepth 100000 in
set_option maxHeartbeats 4000000 in
theorem mul_main (s t e g : Int) (sl sm : Value) (a b : List Int) (w : World) (hs : Sl w sl (a.map (Value.int .i64))) (ht : Sl w sm (b.map (Value.int .i64)))
    (ha : Dok a) (hb : Dok b) (he : -1000000000 ≤ e) (he2 : e + a.length ≤ 1000000000) (hg : -1000000000 ≤ g) (hg2 : g + b.length ≤ 1000000000) (hs1 : s = 1 ∨ s = -1) (ht1 : t = 1 ∨ t = -1) :
    Calls Tryd.prog 32 #[.agg #[.int .i64 s, sl, .int .i64 e], .agg #[.int .i64 t, sm, .int .i64 g]] w (MulPost (s * t) a b (e + g) w) := by
  obtain ⟨p1, c1, rfl⟩ := hs.formMap
  obtain ⟨p2, c2, rfl⟩ := ht.formMap
  have q1 : (s == 0) = false := by simp; omega
  have q2 : ¬ s = 0 := by omega
  have q3 : (t == 0) = false := by simp; omega
  have q4 : ¬ t = 0 := by omega
  have la : (a.length : Int) ≤ 2000000000 := by omega
  have lb : (b.length : Int) ≤ 2000000000 := by omega
  obtain ⟨i0, hi, hz0, hz1, hz2⟩ := info_parts info_i64
  have hmk : ∀ W, (Instr.makeSlice 40 (.int .i64 ((a.length : Int) + (b.length : Int))) (.int .i64 ((a.length : Int) + (b.length : Int)))).run Tryd.prog W = .ok (.slice (some ⟨W.heap.size, 0, none⟩) (a.length + b.length) (a.length + b.length)) (W.alloc (.cells (madeCells #[.int .i64 0] (a.length + b.length)) 2)) := fun W => by
    have := run_make (P := Tryd.prog) W 40 2 i0 (.int .i64 0) Tryd.underlying40 hi hz0 .i64 .i64 ((a.length : Int) + (b.length : Int)) ((a.length : Int) + (b.length : Int)) (by omega) (Int.le_refl _) (by rw [hz2]; omega) (by omega)
    rw [this, hz1, show ((a.length : Int) + (b.length : Int)).toNat = a.length + b.length by omega, Nat.mul_one]; rfl
  have st1 : s * t = 1 ∨ s * t = -1 := by rcases hs1 with rfl | rfl <;> rcases ht1 with rfl | rfl <;> simp
  have m1 : -1 ≤ s * t := by omega
  have m2 : s * t ≤ 1 := by omega
  have hW : Below w.heap.size w (((w.alloc (.cells #[.int .i64 s, .slice p1 a.length c1, .int .i64 e] 42)).alloc (.cells #[.int .i64 t, .slice p2 b.length c2, .int .i64 g] 42)).alloc (.cells #[.int .i64 0, .slice none 0 0, .int .i64 0] 42)) := (((Below.refl w.heap.size w).alloc (Nat.le_refl _) _).alloc (by simp) _).alloc (by simp; omega) _
  have hWs : w.heap.size + 3 ≤ (((w.alloc (.cells #[.int .i64 s, .slice p1 a.length c1, .int .i64 e] 42)).alloc (.cells #[.int .i64 t, .slice p2 b.length c2, .int .i64 g] 42)).alloc (.cells #[.int .i64 0, .slice none 0 0, .int .i64 0] 42)).heap.size := by simp
  have hWr : (((w.alloc (.cells #[.int .i64 s, .slice p1 a.length c1, .int .i64 e] 42)).alloc (.cells #[.int .i64 t, .slice p2 b.length c2, .int .i64 g] 42)).alloc (.cells #[.int .i64 0, .slice none 0 0, .int .i64 0] 42)).heap[w.heap.size + 2]? = some (.cells #[.int .i64 0, .slice none 0 0, .int .i64 0] 42 (0, 0)) := by
    have := heap_alloc_new ((w.alloc (.cells #[.int .i64 s, .slice p1 a.length c1, .int .i64 e] 42)).alloc (.cells #[.int .i64 t, .slice p2 b.length c2, .int .i64 g] 42)) (.cells #[.int .i64 0, .slice none 0 0, .int .i64 0] 42)
    simpa using this
  clear st1 hz0 hz1 hz2 hi hs1 ht1
  go_enter Tryd.func32, Tryd.ntmps32
  go_upto_region 3 with (fail)
  go_cut [5] (CutM w (((w.alloc (.cells #[.int .i64 s, .slice p1 a.length c1, .int .i64 e] 42)).alloc (.cells #[.int .i64 t, .slice p2 b.length c2, .int .i64 g] 42)).alloc (.cells #[.int .i64 0, .slice none 0 0, .int .i64 0] 42)) (s * t) (e + g) (a.length + b.length))
  case first =>
    have hsz : (((w.alloc (.cells #[.int .i64 s, .slice p1 a.length c1, .int .i64 e] 42)).alloc (.cells #[.int .i64 t, .slice p2 b.length c2, .int .i64 g] 42)).alloc (.cells #[.int .i64 0, .slice none 0 0, .int .i64 0] 42)).heap.size = w.heap.size + 3 := by simp
    have hmax : a.length + b.length ≤ maxLen := by unfold maxLen; omega
    have HA := Lib.hid (cutM_a (w := w) (st := s * t) (eg := e + g) hsz hmax)
    have HB := Lib.hid (cutM_b (w := w) (st := s * t) (eg := e + g) hsz hmax)
    clear hW hWs hWr hsz hmax
    go_region
    all_goals (go_wp2_with fail; go_meet; first | exact HA.out | exact HB.out)
  case rest =>
    obtain ⟨bo, bs, rfl, hbo, hbs, hne, hblk, hown, hbl⟩ := hcut
    obtain ⟨wz, rfl⟩ : ∃ wz : World, wz = wc := ⟨_, rfl⟩
    obtain ⟨W, hWd⟩ : ∃ W : World, W = ((w.alloc (.cells #[.int .i64 s, .slice p1 a.length c1, .int .i64 e] 42)).alloc (.cells #[.int .i64 t, .slice p2 b.length c2, .int .i64 g] 42)).alloc (.cells #[.int .i64 0, .slice none 0 0, .int .i64 0] 42) := ⟨_, rfl⟩
    have f1 : W.cell? ⟨w.heap.size, 1, none⟩ = some (.slice p1 a.length c1) := by rw [hWd]; simp [go_sem]
    have f2 : W.cell? ⟨w.heap.size + 1, 1, none⟩ = some (.slice p2 b.length c2) := by rw [hWd]; simp [go_sem]
    rw [← hWd] at hW hWs hWr hbl
    clear hWd hmk
    go_wp2_with fail
    go_loopw [6, 7, 8, 9] (fun i _ _ _ wr => ∃ (i' : Nat) (cur : List Int), i' ≤ a.length ∧ i = .int .i64 i' ∧ cur.length = a.length + b.length ∧ Dok cur ∧ dval cur = dval (a.take i') * dval b ∧ (∀ j, i' + b.length ≤ j → cur.getD j 0 = 0) ∧
        wr.heap[bo]? = some (.cells #[.int .i64 (s * t), .slice (some ⟨bs, 0, none⟩) (a.length + b.length) (a.length + b.length), .int .i64 (e + g)] 42 (0, 0)) ∧
        wr.ownsRow (w.heap.size + 3) 2 1 (.slice (some ⟨bs, 0, none⟩) (a.length + b.length) (a.length + b.length)) (a.length + b.length) (cur.map (Value.int .i64)) ∧ Below (w.heap.size + 3) W wr)
      (fun i _ _ _ _ => a.length - (intOf i).toNat)
    case atStart => exact ⟨0, _, Nat.zero_le _, rfl, by simp, dok_zero _, by rw [dval_zero, List.take_zero, dval, Int.zero_mul], fun j _ => getD_zero _ _, hblk, hown, hbl⟩
    case round =>
      clear hblk hown hbl
      obtain ⟨wq, rfl⟩ : ∃ wq : World, wq = wr := ⟨_, rfl⟩
      obtain ⟨i', cur, hi', rfl, hl, hd, hv, hz, hblk, hown, hbl⟩ := hrel
      have HD := Lib.hid hd
      have HV := Lib.hid hv
      have HZ := Lib.hid hz
      have HL := Lib.hid hl
      have HLC : cur.length = a.length + b.length := hl
      clear hd hv hz hl
      obtain ⟨hcl3, hfl3⟩ := bcellB hbl
      have g1 : wq.cell? ⟨w.heap.size, 1, none⟩ = some (.slice p1 a.length c1) := by rw [hcl3 _ _ (by omega)]; exact f1
      have g2 : wq.cell? ⟨w.heap.size + 1, 1, none⟩ = some (.slice p2 b.length c2) := by rw [hcl3 _ _ (by omega)]; exact f2
      clear hcl3 hfl3
      by_cases hlt : i' < a.length
      · go_wp2_with fail
        go_loopw [7, 8, 9] (fun c k _ wr => ∃ (k' : Nat) (cr : Int) (cu : List Int), k' ≤ b.length ∧ k = .int .i64 k' ∧ c = .int .i64 cr ∧ 0 ≤ cr ∧ cr < 16777216 ∧ cu.length = a.length + b.length ∧ Dok cu ∧
            dval cu + cr * 16777216 ^ (i' + k') = dval (a.take i') * dval b + a.getD i' 0 * 16777216 ^ i' * dval (b.take k') ∧ (∀ j, i' + b.length ≤ j → cu.getD j 0 = 0) ∧
            wr.heap[bo]? = some (.cells #[.int .i64 (s * t), .slice (some ⟨bs, 0, none⟩) (a.length + b.length) (a.length + b.length), .int .i64 (e + g)] 42 (0, 0)) ∧
            wr.ownsRow (w.heap.size + 3) 2 1 (.slice (some ⟨bs, 0, none⟩) (a.length + b.length) (a.length + b.length)) (a.length + b.length) (cu.map (Value.int .i64)) ∧ Below (w.heap.size + 3) W wr)
          (fun _ k _ _ => b.length - (intOf k).toNat)
        case atStart => exact ⟨0, 0, cur, Nat.zero_le _, rfl, rfl, by omega, by omega, HL.out, HD.out, by rw [List.take_zero, dval, Int.mul_zero, Int.zero_mul]; have := HV.out; omega, HZ.out, hblk, hown, hbl⟩
        case round =>
          clear hblk hown hbl HD HV HZ HL g1 g2
          obtain ⟨wy, rfl⟩ : ∃ wy : World, wy = wr := ⟨_, rfl⟩
          obtain ⟨k', cr, cu, hk', rfl, rfl, hc0, hc1, hl, hd, hv, hz, hblk, hown, hbl⟩ := hrel
          have HD := Lib.hid hd
          have HV := Lib.hid hv
          have HZ := Lib.hid hz
          have HL := Lib.hid hl
          clear hd hv hz hl
          obtain ⟨hcl3, hfl3⟩ := bcellB hbl
          have g1 : wy.cell? ⟨w.heap.size, 1, none⟩ = some (.slice p1 a.length c1) := by rw [hcl3 _ _ (by omega)]; exact f1
          have g2 : wy.cell? ⟨w.heap.size + 1, 1, none⟩ = some (.slice p2 b.length c2) := by rw [hcl3 _ _ (by omega)]; exact f2
          have x1 : wy.cell? ⟨bo, 1, none⟩ = some (.slice (some ⟨bs, 0, none⟩) (a.length + b.length) (a.length + b.length)) := cell_of_block hblk 1
          have hbw : Below w.heap.size w wy := hW.trans (hbl.mono (by omega))
          clear hcl3 hfl3
          by_cases hkl : k' < b.length
          · obtain ⟨b1, o1, rfl, hcap1, y1⟩ := (hs.keep hbw).at hlt
            obtain ⟨b2, o2, rfl, hcap2, y2⟩ := (ht.keep hbw).at hkl
            obtain ⟨y3, y4⟩ := own_cell hown (i := i' + k') (by rw [List.length_map, HL.out]; omega)
            rw [List.getElem_map, ← getD_of_lt] at y3
            obtain ⟨d1, d2⟩ := HD.out (i' + k')
            obtain ⟨m3, m4⟩ := mul_bound (ha i').1 (ha i').2 (hb k').1 (hb k').2
            obtain ⟨cd, hcd⟩ : ∃ cd, cd = cu.getD (i' + k') 0 := ⟨_, rfl⟩
            obtain ⟨ax, hax⟩ : ∃ ax, ax = a.getD i' 0 := ⟨_, rfl⟩
            obtain ⟨bx, hbx⟩ : ∃ bx, bx = b.getD k' 0 := ⟨_, rfl⟩
            rw [← hcd] at y3 d1 d2
            rw [← hax] at y1 m3 m4
            rw [← hbx] at y2 m3 m4
            have HAX := Lib.hid hax
            have HBX := Lib.hid hbx
            have n1 : (i' : Int) + (k' : Int) < ((a.length + b.length : Nat) : Int) := by omega
            have n2 : (i' : Int) < (a.length : Int) := by omega
            have n3 : (k' : Int) < (b.length : Int) := by omega
            have HCD := Lib.hid hcd
            clear hcd hax hbx
            go_wp2_with fail
            go_quiet (fail)
            go_wp2_with fail
            go_roundw
            case rel =>
              have hstep := mul_step (cur := cu) (p := i' + k') (x := ax * bx) (cr := cr) (by rw [HL.out]; omega) rfl
              rw [← HCD.out] at hstep
              refine ⟨k' + 1, (cd + ax * bx + cr) / 16777216, cu.set (i' + k') ((cd + ax * bx + cr) % 16777216), by omega, by go_num, rfl, by omega, by omega, by rw [List.length_set]; exact HL.out,
                dok_set HD.out _ _ (by rw [HL.out]; omega) (by omega) (by omega), mul_inner hkl HV.out (by rw [hstep, HAX.out, HBX.out]), ?_, ?_, ?_, ?_⟩
              · intro j hj
                rw [getD_set _ _ _ _ (by rw [HL.out]; omega), if_neg (by omega)]; exact HZ.out j hj
              · rw [Below.heap_setCell _ _ _ _ (by simp; omega)]; exact hblk
              · rw [List.map_set]; exact own_set hown _ _
              · exact (below_drewN hbl nq).setCell (by simp; omega) _
            case measure => simp [intOf]; omega
          · obtain rfl : k' = b.length := by omega
            obtain ⟨y3, y4⟩ := own_cell hown (i := i' + b.length) (by rw [List.length_map, HL.out]; omega)
            rw [List.getElem_map, ← getD_of_lt] at y3
            have hzz := HZ.out (i' + b.length) (Nat.le_refl _)
            rw [hzz] at y3
            have n1 : (i' : Int) + (b.length : Int) < ((a.length + b.length : Nat) : Int) := by omega
            have HZZ := Lib.hid hzz
            clear hzz
            go_wp2_with fail
            go_region
            go_wp2_with fail
            go_roundw
            case rel =>
              have ho := mul_outer (a := a) (b := b) (cur := cu) (i := i') (cr := cr) hlt (by rw [HL.out]; omega) HZZ.out (by have := HV.out; rw [List.take_length] at this; exact this)
              rw [HZZ.out, Int.zero_add] at ho
              refine ⟨i' + 1, cu.set (i' + b.length) cr, by omega, by go_num, by rw [List.length_set]; exact HL.out, dok_set HD.out _ _ (by rw [HL.out]; omega) (by omega) (by omega), ho, ?_, ?_, ?_, ?_⟩
              · intro j hj
                rw [getD_set _ _ _ _ (by rw [HL.out]; omega), if_neg (by omega)]; exact HZ.out j (by omega)
              · show ((wy.setCell _ _).drew).heap[bo]? = _
                exact (Below.heap_setCell _ _ _ _ (by simp; omega)).trans hblk
              · rw [List.map_set]; exact own_set hown _ _
              · exact (hbl.setCell (by simp; omega) _).drew
            case measure => simp [intOf]; omega
      · obtain rfl : i' = a.length := by omega
        have k0 : wq.cell? ⟨bo, 0, none⟩ = some (.int .i64 (s * t)) := cell_of_block hblk 0
        have k1 : wq.cell? ⟨bo, 1, none⟩ = some (.slice (some ⟨bs, 0, none⟩) (a.length + b.length) (a.length + b.length)) := cell_of_block hblk 1
        have k2 : wq.cell? ⟨bo, 2, none⟩ = some (.int .i64 (e + g)) := cell_of_block hblk 2
        have hres : wq.heap[w.heap.size + 2]? = some (.cells #[.int .i64 0, .slice none 0 0, .int .i64 0] 42 (0, 0)) := by rw [hbl.block _ (by omega)]; exact hWr
        have hsl := own_sl hown
        have hbw : Below w.heap.size w wq := hW.trans (hbl.mono (by omega))
        have hsz := block_lt hres
        have hlen : (cur.length : Int) ≤ 4000000000 := by omega
        go_wp2_with fail
        rw [← HL.out] at hsl ⊢
        refine (trim_calls (s * t) (e + g) _ cur wq hsl (by omega) (by omega)).mono ?_
        rintro x w1 ⟨s', sl', ds', e', rfl, hsl', hb1, htr, htk⟩
        obtain ⟨p', cap', rfl⟩ := hsl'.formMap
        have hin : In (fun b => w.heap.size + 3 ≤ b) (.slice p' ds'.length cap') := htk _ (fun ad _ _ he => by cases he; exact own_block hown _ rfl)
        have hres1 := keep_block hb1 hres
        obtain ⟨y0, y1, y2, z0, z1, z2⟩ := res_facts hres1
        have HTR := Lib.hid htr
        clear htr k0 k1 k2
        go_wp2_with fail
        obtain ⟨r0, r1, r2⟩ := put_facts hres1 (.int .i64 s') (.slice p' ds'.length cap') (.int .i64 e')
        refine bodyPost_ret (v := .agg #[.int .i64 s', .slice p' ds'.length cap', .int .i64 e']) (by simp [results, Tryd.results32, go_sem, r0, r1, r2]) rfl ?_
        refine ⟨s', _, ds', e', cur, rfl, ((hsl'.put hin (by simp) _).put hin (by simp) _).put hin (by simp) _, (((hbw.trans (hb1.mono hbw.size)).setCell (by simp; omega) _).setCell (by simp; omega) _).setCell (by simp; omega) _,
          HTR.out, HD.out, HL.out, by have := HV.out; rw [List.take_length] at this; exact this, hin.mono fun _ h => by omega⟩
end Go.Proofs.YtiihokgjplpceaaDoor
end

section
/- The reference's product by what it tells; the highest and the lowest bit. -/
namespace Go.Proofs.YtiihokgjplpceaaDoor
open Go.RowKit TV
set_option linter.unusedVariables false

theorem mul_zero (s e : Int) (p : Option Addr) (n cap : Nat) (t g : Int) (p2 : Option Addr) (n2 cap2 : Nat) (w : World) (h : s = 0 ∨ t = 0) :
    Calls Tryd.prog 32 #[.agg #[.int .i64 s, .slice p n cap, .int .i64 e], .agg #[.int .i64 t, .slice p2 n2 cap2, .int .i64 g]] w fun x w' => x = .returned (.agg #[.int .i64 0, .slice none 0 0, .int .i64 0]) ∧ Below w.heap.size w w' := by
  by_cases hs : s = 0
  · subst hs
    go_enter Tryd.func32, Tryd.ntmps32
    go_wp2_with fail
    refine bodyPost_ret (v := .agg #[.int .i64 0, .slice none 0 0, .int .i64 0]) (by simp [results, Tryd.results32, go_sem]) rfl ?_
    exact ⟨rfl, (((Below.refl _ _).alloc (Nat.le_refl _) _).alloc (by simp) _).alloc (by simp; omega) _⟩
  · obtain rfl : t = 0 := by omega
    have h1 : (s == 0) = false := by simpa using hs
    clear h
    go_enter Tryd.func32, Tryd.ntmps32
    go_wp2_with fail
    refine bodyPost_ret (v := .agg #[.int .i64 0, .slice none 0 0, .int .i64 0]) (by simp [results, Tryd.results32, go_sem]) rfl ?_
    exact ⟨rfl, (((Below.refl _ _).alloc (Nat.le_refl _) _).alloc (by simp) _).alloc (by simp; omega) _⟩

theorem mulN {P : Nat → Prop} {w : World} {x y : Value} {k j : Nat} {p q : Rat} (hx : NumV P w x k p) (hy : NumV P w y j q) (hk : k ≤ 900000000) (hj : j ≤ 900000000) :
    Calls Tryd.prog 32 #[x, y] w (RetN P (k + j) (p * q) w) := by
  obtain ⟨s, sl, a, e, rfl, hs, na, rfl, ia⟩ := hx
  obtain ⟨t, sm, b, g, rfl, ht, nb, rfl, ib⟩ := hy
  obtain ⟨a1, a2, a3, a4⟩ := id na
  obtain ⟨b1, b2, b3, b4⟩ := id nb
  by_cases h0 : s = 0 ∨ t = 0
  · obtain ⟨p1, c1, rfl⟩ := hs.formMap
    obtain ⟨p2, c2, rfl⟩ := ht.formMap
    refine (mul_zero _ _ _ _ _ _ _ _ _ _ w h0).mono fun x w' ⟨hx, hb⟩ => ?_
    refine ⟨_, hx, ?_, hb⟩
    have : nv s a e * nv t b g = 0 := by
      rcases h0 with rfl | rfl
      · rw [zero_nv, Rat.zero_mul]
      · rw [zero_nv (ds := b), Rat.mul_zero]
    rw [this]
    exact NumV.zero _ _ _
  · refine (mul_main s t e g sl sm a b w hs ht a1 b1 (by omega) (by omega) (by omega) (by omega) (by omega) (by omega)).mono fun x w' ⟨s', sl', ds', e', os, hx, hsl, hb, htr, hd, hl, hv, hin⟩ => ?_
    obtain ⟨n1, n2⟩ := mul_nv na nb (by omega) (by omega) hl hd hv htr
    exact ⟨_, hx, ⟨s', sl', ds', e', rfl, hsl, n1, n2.symm, hin.mono fun _ h => Or.inr h⟩, hb⟩

end Go.Proofs.YtiihokgjplpceaaDoor
end

section
/- The lowest bit of a reference number. -/
namespace Go.Proofs.YtiihokgjplpceaaDoor
open Go.RowKit TV
set_option linter.unusedVariables false

def LowPost (q : Rat) (w : World) (x : Ending) (w' : World) : Prop := ∃ h : Int, x = .returned (.int .i64 h) ∧ (-200000000000 ≤ h ∧ h ≤ 200000000000) ∧ (q = 0 → h = 0) ∧ (q ≠ 0 → LowOf q h) ∧ Below w.heap.size w w'

theorem lowN {P : Nat → Prop} {w : World} {y : Value} {k : Nat} {q : Rat} (hy : NumV P w y k q) (hk : k ≤ 900000000) :
    Calls Tryd.prog 45 #[y] w (LowPost q w) := by
  obtain ⟨t, sm, b, g, rfl, ht, nb, hq, ib⟩ := hy
  have hsg := rs_nv nb
  rw [← hq] at hsg
  obtain ⟨p1, c1, rfl⟩ := ht.formMap
  obtain ⟨b1, b2, b3, b4⟩ := id nb
  by_cases h0 : t = 0
  · subst h0
    have hz : q = 0 := by rw [hq, zero_nv]
    clear hsg hq
    go_enter Tryd.func45, Tryd.ntmps45
    go_wp2_with fail
    go_ret
    exact ⟨0, rfl, by omega, fun _ => rfl, fun h => absurd (by first | rfl | exact hz) h, (Below.refl _ _).alloc (Nat.le_refl _) _⟩
  · have hpos : 0 < dval b := by omega
    have hsn : t = 1 ∨ t = -1 := by omega
    have hqn : q ≠ 0 := by intro hc; rw [hc] at hsg; exact h0 hsg.symm
    have q1 : (t == 0) = false := by simpa using h0
    have hW : Below w.heap.size w (w.alloc (.cells #[.int .i64 t, .slice p1 b.length c1, .int .i64 g] 42)) := (Below.refl w.heap.size w).alloc (Nat.le_refl _) _
    have htW := ht.keep hW
    have HQ := Lib.hid hq
    have HS := Lib.hid hsn
    clear hsg hq b2 hsn
    go_enter Tryd.func45, Tryd.ntmps45
    go_wp2_with fail
    refine (trim_calls t g _ b _ htW (by omega) (by omega)).mono ?_
    rintro x w1 ⟨s', sl', ds', e', rfl, hsl, hb1, htr, htk⟩
    have hnm := trim_nm b1 htr HS.out b3 b4
    have hnv := trim_nv htr
    obtain ⟨rfl, hl, hla, hf, hdd⟩ := trim_ends b1 hpos htr
    obtain ⟨p', cap, rfl⟩ := hsl.formMap
    obtain ⟨b5, o5, rfl, hcap, y1⟩ := hsl.at (i := 0) hl
    have hnl := hnm.lo
    have hnh := hnm.hi
    obtain ⟨d, hd⟩ : ∃ d, d = ds'.getD 0 0 := ⟨_, rfl⟩
    have hd2 : d < 16777216 := by rw [hd]; exact (hdd _).2
    rw [← hd] at y1 hla
    have l5 : b5 < w1.heap.size := World.block_lt_of_cell? w1 _ y1
    have n2 : (0 : Int) < (ds'.length : Int) := by omega
    rw [Nat.add_zero] at y1
    have HD := Lib.hid hd
    have HNV := Lib.hid hnv
    have HDD := Lib.hid hdd
    have HTW := htW
    clear htr htk hd hnv hdd hnm hf
    go_wp2_with fail
    obtain ⟨n0, hn0⟩ : ∃ n0, n0 = 24 * e' := ⟨_, rfl⟩
    rw [← hn0]
    have n4 : -100000000000 ≤ n0 := by omega
    have n5 : n0 ≤ 100000000000 := by omega
    have HN0 := Lib.hid hn0
    clear hn0
    go_loop [4, 5] (fun n x => ∃ (j : Nat) (dd : Int), n = .int .i64 (n0 + j) ∧ x = .int .i64 dd ∧ d = dd * 2 ^ j ∧ 0 < dd ∧ dd ≤ 16777216 ∧ j + dd ≤ 16777217) (fun _ x => (intOf x).toNat)
    case atStart => exact ⟨0, d, by simp, rfl, by simp, hla, by omega, by omega⟩
    case round =>
      obtain ⟨j, dd, rfl, rfl, e1, e3, e4, e5⟩ := hrel
      have E1 := Lib.hid e1
      clear e1
      by_cases hev : dd % 2 = 0
      · go_wp2_with fail
        go_round
        case rel =>
          refine ⟨j + 1, dd / 2, by go_num, rfl, ?_, by omega, by omega, by omega⟩
          have h1 : dd = 2 * (dd / 2) := by omega
          rw [E1.out, Int.pow_succ]
          generalize dd / 2 = z at *
          subst h1; grind
        case measure => simp [intOf]; omega
      · have hodd : dd % 2 = 1 := by omega
        go_wp2_with fail
        go_ret
        refine ⟨_, rfl, by omega, fun h => absurd h hqn, fun _ => ?_, (hW.trans (hb1.mono hW.size)).alloc (by have := hW.size; have := hb1.size; omega) _⟩
        rw [HQ.out, ← HNV.out, HN0.out]
        exact low_nv HS.out HD.out E1.out hodd hla hd2
end Go.Proofs.YtiihokgjplpceaaDoor
end

section
/- Reference numbers, wherever their digits lie. -/
namespace Go.Proofs.YtiihokgjplpceaaDoor
open Go.RowKit TV
set_option linter.unusedVariables false

/-- The same, wherever the digits lie. -/
def NumT (w : World) (v : Value) (k : Nat) (q : Rat) : Prop := NumV (fun _ => True) w v k q
def RetT (k : Nat) (q : Rat) (w : World) (x : Ending) (w' : World) : Prop := ∃ v, x = .returned v ∧ NumT w' v k q ∧ Below w.heap.size w w'
theorem RetN.t {P : Nat → Prop} {k : Nat} {q : Rat} {w : World} {x : Ending} {w' : World} (h : RetN P k q w x w') : RetT k q w x w' := by
  obtain ⟨v, h1, h2, h3⟩ := h; exact ⟨v, h1, h2.mono fun _ _ => trivial, h3⟩
theorem NumT.keep {w w1 : World} {v : Value} {k : Nat} {q : Rat} (h : NumT w v k q) (hb : Below w.heap.size w w1) : NumT w1 v k q := NumV.keep h hb
theorem NumT.more {w : World} {v : Value} {k k' : Nat} {q : Rat} (h : NumT w v k q) (hk : k ≤ k') : NumT w v k' q := NumV.more h hk

theorem ofT (x : Nat) (hx : x < 18446744073709551616) (w : World) : Calls Tryd.prog 41 #[.float .f64 x] w (RetT 2000 (ov x) w) := (ofN x hx w).mono fun _ _ h => h.t
theorem addT {w : World} {x y : Value} {k : Nat} {p q : Rat} (hx : NumT w x k p) (hy : NumT w y k q) (hk : k ≤ 900000000) : Calls Tryd.prog 46 #[x, y] w (RetT (k + 1) (p + q) w) := (addN hx hy hk).mono fun _ _ h => h.t
theorem mulT {w : World} {x y : Value} {k j : Nat} {p q : Rat} (hx : NumT w x k p) (hy : NumT w y j q) (hk : k ≤ 900000000) (hj : j ≤ 900000000) : Calls Tryd.prog 32 #[x, y] w (RetT (k + j) (p * q) w) := (mulN hx hy hk hj).mono fun _ _ h => h.t
theorem cmpT {w : World} {x y : Value} {k : Nat} {p q : Rat} (hx : NumT w x k p) (hy : NumT w y k q) (hk : k ≤ 900000000) :
    Calls Tryd.prog 42 #[x, y] w fun r w' => r = .returned (.int .i64 (rs (p - q))) ∧ Below w.heap.size w w' := cmpN hx hy hk

end Go.Proofs.YtiihokgjplpceaaDoor
end
