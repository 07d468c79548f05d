/- Texts of one kind, joined. -/
import Derived.Test.YtiihokgjplpceaaDoorNwB
import Derived.Test.YtiihokgjplpceaaDoorWkN
import Derived.OwnWalk
import Derived.Laws.AppendOwn

section
/- Package whole, walked: cmp. -/
namespace Go.Proofs.YtiihokgjplpceaaDoor
open Go.RowKit TV
set_option linter.unusedVariables false

def WCmpPost (a b : List Int) (e g : Int) (w : World) (x : Ending) (w' : World) : Prop :=
  x = .returned (.int .i64 (TV.sg (W.V a e (min e g) (max (e + a.length) (g + b.length) - min e g).toNat - W.V b g (min e g) (max (e + a.length) (g + b.length) - min e g).toNat))) ∧ Below w.heap.size w w'

set_option maxRecDepth 20000 in
theorem wcmp_calls (e g : Int) (sl sm : Value) (a b : List Int) (w : World) (hs : Sl w sl (a.map (Value.int .u32))) (ht : Sl w sm (b.map (Value.int .u32)))
    (ha : W.Dok a) (hb : W.Dok b) (he : -1000000000 ≤ e) (he2 : e + a.length ≤ 1000000000) (hg : -1000000000 ≤ g) (hg2 : g + b.length ≤ 1000000000) :
    Calls Tryd.prog 96 #[.agg #[sl, .int .i64 e], .agg #[sm, .int .i64 g]] w (WCmpPost a b e g w) := by
  unfold WCmpPost
  obtain ⟨f, hf⟩ : ∃ f, f = min e g := ⟨_, rfl⟩
  obtain ⟨u, hu⟩ : ∃ u, u = max (e + (a.length : Int)) (g + (b.length : Int)) := ⟨_, rfl⟩
  rw [← hf, ← hu]
  obtain ⟨n, hn⟩ : ∃ n : Nat, u = f + n := ⟨(u - f).toNat, by omega⟩
  rw [show (u - f).toNat = n by omega]
  obtain ⟨p1, c1, rfl⟩ := hs.formMap
  obtain ⟨p2, c2, rfl⟩ := ht.formMap
  obtain ⟨wn, hwn, hW, hsz, k0, k1⟩ := box_num w (.cells #[.slice p1 a.length c1, .int .i64 e] 87) (.cells #[.slice p2 b.length c2, .int .i64 g] 87)
  have hmin : (if g < e then g else e) = f := by rw [hf]; split <;> omega
  have hmax : (if e + (a.length : Int) < g + (b.length : Int) then g + (b.length : Int) else e + (a.length : Int)) = u := by rw [hu]; split <;> omega
  have f1 : -1000000000 ≤ f := by omega
  have f2 : f ≤ 1000000000 := by omega
  have u1 : -1000000000 ≤ u := by omega
  have u2 : u ≤ 1000000000 := by omega
  have hn0 : n ≤ 2000000000 := by omega
  have HN := Lib.hid hn
  clear hf hu hn
  have HE0 := Lib.hid (ends_calls e g f u (.slice p1 a.length c1) (.slice p2 b.length c2) a.length b.length hmin hmax wn ⟨_, _, rfl⟩ ⟨_, _, rfl⟩ (by omega) (by omega) (by omega) (by omega))
  clear hmin hmax
  have HS := Lib.hid (hs.keep hW)
  have HT := Lib.hid (ht.keep hW)
  have HW := Lib.hid hW
  clear hs ht hW hsz
  go_enter Tryd.func96, Tryd.ntmps96
  go_wp2_with fail
  rw [← hwn]
  clear hwn
  refine HE0.out.mono ?_
  rintro x w0 ⟨rfl, hb0⟩
  obtain ⟨r0, r1, -, -⟩ := res2_facts (keep_block hb0 k0)
  obtain ⟨t0, t1, -, -⟩ := res2_facts (keep_block hb0 k1)
  have HS := Lib.hid (HS.out.keep hb0)
  have HT := Lib.hid (HT.out.keep hb0)
  have HW := Lib.hid (HW.out.trans (hb0.mono HW.out.size))
  have R0 := Lib.hid r0
  have R1 := Lib.hid r1
  have T0 := Lib.hid t0
  have T1 := Lib.hid t1
  clear k0 k1 hb0 HE0
  go_wp2_with fail
  go_loopw [7, 8, 9] (fun i _ _ wr => ∃ k : Nat, k ≤ n ∧ i = .int .i64 (f + (k : Int) - 1) ∧ W.V a e f n - W.V a e f k = W.V b g f n - W.V b g f k ∧ Kp w0 wr)
    (fun i _ _ _ => (intOf i + 1 - f).toNat)
  case atStart => exact ⟨n, Nat.le_refl _, by have := HN.out; rw [← this], by omega, Kp.refl _⟩
  case round =>
    obtain ⟨k, hk, rfl, heq, hbl⟩ := hrel
    have HE := Lib.hid heq
    have r0 := keep_cell hbl.out R0.out
    have r1 := keep_cell hbl.out R1.out
    have t0 := keep_cell hbl.out T0.out
    have t1 := keep_cell hbl.out T1.out
    have hs1 := HS.out.keep hbl.out
    have ht1 := HT.out.keep hbl.out
    have HB := Lib.hid hbl
    clear heq hbl
    by_cases h0 : 0 < k
    · have g1 : f ≤ f + (k : Int) - 1 := by omega
      have HA := Lib.hid (fun (W : World) (h : Kp w0 W) => word_calls e (f + (k : Int) - 1) _ a W (HS.out.keep h.out) (by omega) (by omega) (by omega) (by omega))
      have HC := Lib.hid (fun (W : World) (h : Kp w0 W) => word_calls g (f + (k : Int) - 1) _ b W (HT.out.keep h.out) (by omega) (by omega) (by omega) (by omega))
      have K0 := HB.out
      go_wp2_with fail
      go_region_held3 (fun w' => w'.cell? ⟨w.heap.size, 0, none⟩ = some (.slice p1 a.length c1) ∧ w'.cell? ⟨w.heap.size, 1, none⟩ = some (.int .i64 e) ∧ w'.cell? ⟨w.heap.size + 1, 0, none⟩ = some (.slice p2 b.length c2) ∧ w'.cell? ⟨w.heap.size + 1, 1, none⟩ = some (.int .i64 g) ∧ Kp w0 w')
        (first | exact ⟨keep_cell ((K0.drew.step hbA).step hbB).out R0.out, keep_cell ((K0.drew.step hbA).step hbB).out R1.out, keep_cell ((K0.drew.step hbA).step hbB).out T0.out, keep_cell ((K0.drew.step hbA).step hbB).out T1.out, (K0.drew.step hbA).step hbB⟩ | exact ⟨keep_cell (K0.drew.step hbA).out R0.out, keep_cell (K0.drew.step hbA).out R1.out, keep_cell (K0.drew.step hbA).out T0.out, keep_cell (K0.drew.step hbA).out T1.out, K0.drew.step hbA⟩ | exact ⟨keep_cell K0.drew.out R0.out, keep_cell K0.drew.out R1.out, keep_cell K0.drew.out T0.out, keep_cell K0.drew.out T1.out, K0.drew⟩)
        (first
          | (go_at_call 102; ((with_reducible refine (HC.out _ ?hq).mono ?_); (case hq => exact (K0.drew.step hbA)); rintro x2 w3 ⟨rfl, hbB⟩))
          | (go_at_call 102; ((with_reducible refine (HA.out _ ?hq).mono ?_); (case hq => exact K0.drew); rintro x1 w2 ⟨rfl, hbA⟩)))
      have hK2 := (K0.drew.step hbA).step hbB
      have HK2 := Lib.hid hK2
      have ej : f + (k : Int) - 1 = f + ((k - 1 : Nat) : Int) := by omega
      have hva : W.V a e f k = W.V a e f (k - 1) + W.dg a e (f + k - 1) * 4294967296 ^ (k - 1) := by
        obtain ⟨j, rfl⟩ : ∃ j, k = j + 1 := ⟨k - 1, by omega⟩
        rw [W.V, ej]; rfl
      have hvb : W.V b g f k = W.V b g f (k - 1) + W.dg b g (f + k - 1) * 4294967296 ^ (k - 1) := by
        obtain ⟨j, rfl⟩ : ∃ j, k = j + 1 := ⟨k - 1, by omega⟩
        rw [W.V, ej]; rfl
      have d1 : Hid (W.dg b g (f + k - 1) < W.dg a e (f + k - 1) → TV.sg (W.V a e f n - W.V b g f n) = 1) := by
        intro hlt
        have := W.V_decides (n := n) (k := k - 1) (f := f) ha hb (by rw [show k - 1 + 1 = k by omega]; exact HE.out) (by rw [← ej]; exact hlt)
        unfold TV.sg; rw [if_neg (by omega), if_neg (by omega)]
      have d2 : Hid (W.dg a e (f + k - 1) < W.dg b g (f + k - 1) → TV.sg (W.V a e f n - W.V b g f n) = -1) := by
        intro hlt
        have := W.V_decides (n := n) (k := k - 1) (f := f) hb ha (by rw [show k - 1 + 1 = k by omega]; exact HE.out.symm) (by rw [← ej]; exact hlt)
        unfold TV.sg; rw [if_pos (by omega)]
      have d3 : Hid (W.dg a e (f + k - 1) = W.dg b g (f + k - 1) → W.V a e f n - W.V a e f (k - 1) = W.V b g f n - W.V b g f (k - 1)) := by
        intro heq
        have := HE.out
        rw [heq] at hva; omega
      obtain ⟨x, hx⟩ : ∃ x, x = W.dg a e (f + k - 1) := ⟨_, rfl⟩
      obtain ⟨y, hy⟩ : ∃ y, y = W.dg b g (f + k - 1) := ⟨_, rfl⟩
      rw [← hx, ← hy] at d1 d2 d3
      rw [← hx, ← hy]
      clear hva hvb ej hx hy hK2 HA HC
      rcases Int.lt_trichotomy x y with hlt | hlt | hlt
      · have hng : ¬ y < x := by omega
        have hz := Lib.hid (d2.out hlt)
        go_wp2_with fail
        go_ret
        exact ⟨ret_i64 hz.out.symm, HW.out.trans (HK2.out.out.mono HW.out.size)⟩
      · subst hlt
        have hng : ¬ x < x := by omega
        have hz := Lib.hid (d3.out rfl)
        go_wp2_with fail
        go_roundw
        case rel => exact ⟨k - 1, by omega, ikey (by omega), hz.out, HK2.out⟩
        case measure => simp [intOf]; omega
      · have hz := Lib.hid (d1.out hlt)
        go_wp2_with fail
        go_ret
        exact ⟨ret_i64 hz.out.symm, HW.out.trans (HK2.out.out.mono HW.out.size)⟩
    · obtain rfl : k = 0 := by omega
      have hz : Hid (TV.sg (W.V a e f n - W.V b g f n) = 0) := by
        have := HE.out; simp only [W.V, Int.sub_zero] at this
        show _ = _
        rw [this, Int.sub_self]; rfl
      go_wp2_with fail
      go_ret
      exact ⟨ret_i64 hz.out.symm, HW.out.trans (HB.out.out.mono HW.out.size)⟩

end Go.Proofs.YtiihokgjplpceaaDoor
end

section
/- Package whole, walked: sum. -/
namespace Go.Proofs.YtiihokgjplpceaaDoor
open Go.RowKit TV
set_option linter.unusedVariables false

/-- Two boxes and a cell for the result. -/
theorem boxes_res (w : World) (o0 o1 o2 : Obj) : ∃ wn, wn = ((w.alloc o0).alloc o1).alloc o2 ∧ Below w.heap.size w wn ∧ wn.heap.size = w.heap.size + 3 ∧ wn.heap[w.heap.size]? = some o0 ∧ wn.heap[w.heap.size + 1]? = some o1 ∧ wn.heap[w.heap.size + 1 + 1]? = some o2 := by
  have a0 := heap_alloc_new w o0
  have a1 := heap_alloc_new (w.alloc o0) o1
  have a2 := heap_alloc_new ((w.alloc o0).alloc o1) o2
  simp only [World.size_alloc] at a1 a2
  exact ⟨_, rfl, (((Below.refl w.heap.size w).alloc (Nat.le_refl _) _).alloc (by simp) _).alloc (by simp <;> omega) _, by simp, ((Below.heap_alloc _ _ _ (by simp <;> omega)).trans (Below.heap_alloc _ _ _ (by simp))).trans a0, (Below.heap_alloc _ _ _ (by simp)).trans a1, a2⟩

/-- A magnitude that was made anew. -/
theorem kp_alloc2 (w : World) (o : Obj) : Kp w (w.alloc o) := (Below.refl _ _).alloc (Nat.le_refl _) _
def FreshMag (ds : List Int → Int → Prop) (w : World) (x : Ending) (w' : World) : Prop :=
  ∃ sl os f, x = .returned (.agg #[sl, .int .i64 f]) ∧ Sl w' sl (os.map (Value.int .u32)) ∧ In (fun b => w.heap.size ≤ b) sl ∧ W.Dok os ∧ ds os f ∧ Below w.heap.size w w'

set_option maxRecDepth 20000 in
theorem wsum_calls (e g : Int) (sl sm : Value) (a b : List Int) (w : World) (hs : Sl w sl (a.map (Value.int .u32))) (ht : Sl w sm (b.map (Value.int .u32)))
    (ha : W.Dok a) (hb : W.Dok b) (he : -100000000 ≤ e) (he2 : e + a.length ≤ 100000000) (hg : -100000000 ≤ g) (hg2 : g + b.length ≤ 100000000) :
    Calls Tryd.prog 95 #[.agg #[sl, .int .i64 e], .agg #[sm, .int .i64 g]] w (FreshMag (fun os f => f = min e g ∧ f + os.length = max (e + a.length) (g + b.length) + 1 ∧ ∀ s : Int, W.nv s os f = W.nv s a e + W.nv s b g) w) := by
  obtain ⟨f, hf⟩ : ∃ f, f = min e g := ⟨_, rfl⟩
  obtain ⟨u, hu⟩ : ∃ u, u = max (e + (a.length : Int)) (g + (b.length : Int)) := ⟨_, rfl⟩
  obtain ⟨n, hn⟩ : ∃ n : Nat, u = f + n := ⟨(u - f).toNat, by omega⟩
  obtain ⟨p1, c1, rfl⟩ := hs.formMap
  obtain ⟨p2, c2, rfl⟩ := ht.formMap
  obtain ⟨wn, hwn, hW, hsz, k0, k1, k2⟩ := boxes_res w (.cells #[.slice p1 a.length c1, .int .i64 e] 87) (.cells #[.slice p2 b.length c2, .int .i64 g] 87) (.cells #[.slice none 0 0, .int .i64 0] 87)
  have hmin : (if g < e then g else e) = f := by rw [hf]; split <;> omega
  have hmax : (if e + (a.length : Int) < g + (b.length : Int) then g + (b.length : Int) else e + (a.length : Int)) = u := by rw [hu]; split <;> omega
  have f1 : -100000000 ≤ f := by omega
  have f2 : f ≤ 100000000 := by omega
  have u1 : -100000000 ≤ u := by omega
  have u2 : u ≤ 100000000 := by omega
  have hn0 : n ≤ 200000000 := by omega
  have HF : Hid (f ≤ e ∧ f ≤ g ∧ e + a.length ≤ f + n ∧ g + b.length ≤ f + n ∧ f = min e g ∧ f + n = max (e + (a.length : Int)) (g + (b.length : Int))) := by refine ⟨?_, ?_, ?_, ?_, ?_, ?_⟩ <;> omega
  obtain ⟨i0, hi, hz0, hz1, hz2⟩ := info_parts info_u32
  have hmk : ∀ W, (Instr.makeSlice 85 (.int .i64 0) (.int .i64 (u - f + 1))).run Tryd.prog W = .ok (.slice (some ⟨W.heap.size, 0, none⟩) 0 (n + 1)) (W.alloc (.cells (madeCells #[.int .u32 0] (n + 1)) 101)) := fun W => by
    have := run_make (P := Tryd.prog) W 85 101 i0 (.int .u32 0) Tryd.underlying85 hi hz0 .i64 .i64 0 (u - f + 1) (by omega) (by omega) (by rw [hz2]; omega) (by omega)
    rw [this, hz1, show (u - f + 1).toNat = n + 1 by omega, Nat.mul_one]; rfl
  have HN := Lib.hid hn
  clear hf hu hn
  have HE0 := Lib.hid (ends_calls e g f u (.slice p1 a.length c1) (.slice p2 b.length c2) a.length b.length hmin hmax wn ⟨_, _, rfl⟩ ⟨_, _, rfl⟩ (by omega) (by omega) (by omega) (by omega))
  clear hmin hmax
  have HS := Lib.hid (hs.keep hW)
  have HT := Lib.hid (ht.keep hW)
  have HW := Lib.hid hW
  have HSZ := Lib.hid hsz
  clear hs ht hW hsz
  go_enter Tryd.func95, Tryd.ntmps95
  go_wp2_with fail
  rw [← hwn]
  clear hwn
  refine HE0.out.mono ?_
  rintro x w0 ⟨rfl, hb0⟩
  obtain ⟨r0, r1, -, -⟩ := res2_facts (keep_block hb0 k0)
  obtain ⟨t0, t1, -, -⟩ := res2_facts (keep_block hb0 k1)
  have HS := Lib.hid (HS.out.keep hb0)
  have HT := Lib.hid (HT.out.keep hb0)
  have HW := Lib.hid (HW.out.trans (hb0.mono HW.out.size))
  have HSZ := Lib.hid (show w.heap.size + 3 ≤ w0.heap.size by have := hb0.size; have := HSZ.out; omega)
  have HK2 := Lib.hid (keep_block hb0 k2)
  have R0 := Lib.hid r0
  have R1 := Lib.hid r1
  have T0 := Lib.hid t0
  have T1 := Lib.hid t1
  clear k0 k1 k2 hb0 HE0
  go_wp2_with fail
  go_loopw [7, 8, 9] (fun v c i wr => ∃ (k : Nat) (os : List Int) (cr : Int), k ≤ n ∧ i = .int .i64 (f + (k : Int)) ∧ c = .int .u64 cr ∧ 0 ≤ cr ∧ cr ≤ 1 ∧ wr.ownsRow w0.heap.size 101 1 v k (os.map (Value.int .u32)) ∧ os.length = k ∧ W.Dok os ∧
      W.dval os + cr * 4294967296 ^ k = W.V a e f k + W.V b g f k ∧ Kp w0 wr)
    (fun _ _ i _ => (f + n - intOf i).toNat)
  case atStart => exact ⟨0, [], 0, Nat.zero_le _, by simp, rfl, by omega, by omega, World.ownsRow_made _ _ _ (Nat.le_refl _) (by unfold maxLen; omega) (by simp [madeCells]), rfl, fun i => by simp, by simp [W.dval, W.V], kp_alloc2 _ _⟩
  case round =>
    obtain ⟨k, os, cr, hk, rfl, rfl, hc0, hc1, hown, hol, hod, hv, hbl⟩ := hrel
    have HV := Lib.hid hv
    have HD := Lib.hid hod
    have HOL := Lib.hid hol
    have r0 := keep_cell hbl.out R0.out
    have r1 := keep_cell hbl.out R1.out
    have t0 := keep_cell hbl.out T0.out
    have t1 := keep_cell hbl.out T1.out
    have HB := Lib.hid hbl
    clear hv hod hol hbl hmk
    by_cases hlt : k < n
    · have hlt2 : f + (k : Int) < u := by have := HN.out; omega
      have HA := Lib.hid (fun (W : World) (h : Kp w0 W) => word_calls e (f + (k : Int)) _ a W (HS.out.keep h.out) (by omega) (by omega) (by omega) (by omega))
      have HC := Lib.hid (fun (W : World) (h : Kp w0 W) => word_calls g (f + (k : Int)) _ b W (HT.out.keep h.out) (by omega) (by omega) (by omega) (by omega))
      have hx1 := W.dg_bound ha e (f + k)
      have hy1 := W.dg_bound hb g (f + k)
      have hva : W.V a e f (k + 1) = W.V a e f k + W.dg a e (f + k) * 4294967296 ^ k := rfl
      have hvb : W.V b g f (k + 1) = W.V b g f k + W.dg b g (f + k) * 4294967296 ^ k := rfl
      obtain ⟨x, hx⟩ : ∃ x, x = W.dg a e (f + k) := ⟨_, rfl⟩
      obtain ⟨y, hy⟩ : ∃ y, y = W.dg b g (f + k) := ⟨_, rfl⟩
      rw [← hx] at HA hx1 hva
      rw [← hy] at HC hy1 hvb
      have HVA := Lib.hid hva
      have HVB := Lib.hid hvb
      obtain ⟨x0, x1⟩ := hx1
      obtain ⟨y0, y1⟩ := hy1
      have b1 : IntKind.u64.wrap (x + y) = x + y := by unfold IntKind.wrap; simp [IntKind.signed, IntKind.bits]; omega
      have b2 : IntKind.u64.wrap (cr + (x + y)) = cr + (x + y) := by unfold IntKind.wrap; simp [IntKind.signed, IntKind.bits]; omega
      have K0 := HB.out
      clear hx hy hva hvb
      go_wp2_with fail
      go_region_held3 (fun w' => w'.cell? ⟨w.heap.size, 0, none⟩ = some (.slice p1 a.length c1) ∧ w'.cell? ⟨w.heap.size, 1, none⟩ = some (.int .i64 e) ∧ w'.cell? ⟨w.heap.size + 1, 0, none⟩ = some (.slice p2 b.length c2) ∧ w'.cell? ⟨w.heap.size + 1, 1, none⟩ = some (.int .i64 g) ∧ Kp w0 w')
        (first | exact ⟨keep_cell ((K0.drew.step hbA).step hbB).out R0.out, keep_cell ((K0.drew.step hbA).step hbB).out R1.out, keep_cell ((K0.drew.step hbA).step hbB).out T0.out, keep_cell ((K0.drew.step hbA).step hbB).out T1.out, (K0.drew.step hbA).step hbB⟩ | exact ⟨keep_cell (K0.drew.step hbA).out R0.out, keep_cell (K0.drew.step hbA).out R1.out, keep_cell (K0.drew.step hbA).out T0.out, keep_cell (K0.drew.step hbA).out T1.out, K0.drew.step hbA⟩ | exact ⟨keep_cell K0.drew.out R0.out, keep_cell K0.drew.out R1.out, keep_cell K0.drew.out T0.out, keep_cell K0.drew.out T1.out, K0.drew⟩)
        (first
          | (go_at_call 102; ((with_reducible refine (HC.out _ ?hq).mono ?_); (case hq => exact (K0.drew.step hbA)); rintro x2 w3 ⟨rfl, hbB⟩))
          | (go_at_call 102; ((with_reducible refine (HA.out _ ?hq).mono ?_); (case hq => exact K0.drew); rintro x1 w2 ⟨rfl, hbA⟩)))
      have HK3 := Lib.hid ((K0.drew.step hbA).step hbB)
      have hown := own_keep hown (((Kp.refl wr).drew.step hbA).step hbB).out
      clear hbA hbB HA HC K0 r0 r1 t0 t1
      obtain ⟨c, hc⟩ : ∃ c, c = cr + (x + y) := ⟨_, rfl⟩
      have e0 : IntKind.u64.wrap (cr + IntKind.u64.wrap (IntKind.u64.wrap x + IntKind.u64.wrap y)) = c := by
        have b3 : IntKind.u64.wrap x = x := by unfold IntKind.wrap; simp [IntKind.signed, IntKind.bits]; omega
        have b4 : IntKind.u64.wrap y = y := by unfold IntKind.wrap; simp [IntKind.signed, IntKind.bits]; omega
        rw [b3, b4, b1, b2, hc]
      rw [e0]
      have hc2 : 0 ≤ c ∧ c ≤ 8589934591 := by omega
      obtain ⟨hc3, hc4⟩ := hc2
      have HC := Lib.hid hc
      have hbs := HK3.out.out.size
      have hob := own_block hown
      clear b1 b2 e0 hc
      go_wp2_with (at_builtin; refine wpList_append_own _ rfl _ _ 85 rfl w0.heap.size 101 i0 (.int .u32 0) 1 4 Tryd.underlying85 hi hz0 hz1 hz2 rfl (by decide) _ _ _ rfl (hown.alloc _) ⟨w3.heap.size, 0, none⟩ 1 1 [.int .u32 (c % 4294967296)] rfl rfl (news_one _ _ _) (by simp [Value.oneCell']) (by unfold maxLen; omega) (by omega) (by simp; omega) ?_; intro ov' w4 hown4 hgrow hnil; clear hnil; obtain ⟨q4, cap4, rfl⟩ := own_form hown4)
      go_roundw
      case rel =>
        refine ⟨k + 1, os ++ [c % 4294967296], c / 4294967296, by omega, by congr 1; omega, rfl, by omega, by omega, by rw [List.map_append]; exact hown4, by rw [List.length_append, HOL.out]; rfl, W.dok_append HD.out _ (by omega) (by omega), ?_, ?_⟩
        · rw [W.dval_append, HOL.out, HVA.out, HVB.out]
          have hv := HV.out
          have hc := HC.out
          simp only [W.dval, Int.mul_zero, Int.add_zero]
          have hdm := Int.mul_ediv_add_emod c 4294967296
          rw [Int.pow_succ]
          generalize (4294967296 : Int) ^ k = B at *
          generalize c / 4294967296 = d at *
          generalize c % 4294967296 = r at *
          grind
        · exact (HK3.out.step (kp_alloc2 _ _)).out.grown hgrow (by simp; omega) hob
      case measure => simp [intOf]; omega
    · obtain rfl : k = n := by omega
      have hlt2 : ¬ f + (k : Int) < u := by have := HN.out; omega
      have hbs := HB.out.out.size
      have hob := own_block hown
      have hsz := HSZ.out
      clear r0 r1 t0 t1
      go_wp2_with (at_builtin; refine wpList_append_own _ rfl _ _ 85 rfl w0.heap.size 101 i0 (.int .u32 0) 1 4 Tryd.underlying85 hi hz0 hz1 hz2 rfl (by decide) _ _ _ rfl (hown.alloc _) ⟨wr.heap.size, 0, none⟩ 1 1 [.int .u32 _] rfl rfl (news_one _ _ _) (by simp [Value.oneCell']) (by unfold maxLen; omega) (by omega) (by simp; omega) ?_; intro ov' w4 hown4 hgrow hnil; clear hnil; obtain ⟨q4, cap4, rfl⟩ := own_form hown4; have hK4 : Kp w0 w4 := ((HB.out.step (kp_alloc2 _ _)).out.grown hgrow (by simp; omega) hob); obtain ⟨z0, z1, z2, z3⟩ := res2_facts (keep_block hK4.out HK2.out))
      obtain ⟨g0, g1⟩ := put2_facts (keep_block hK4.out HK2.out) (.slice q4 (k + 1) cap4) (.int .i64 f)
      refine bodyPost_ret (v := .agg #[.slice q4 (k + 1) cap4, .int .i64 f]) (by simp [results, Tryd.results95, go_sem, g0, g1]) rfl ?_
      have hsl : Sl w4 (.slice q4 (k + 1) cap4) ((os ++ [cr]).map (Value.int .u32)) := by
        have := own_sl hown4
        rwa [List.map_append]
      have hin : In (fun b => w0.heap.size ≤ b) (.slice q4 (k + 1) cap4) := fun a n c he => by
        cases he
        exact own_block hown4 _ rfl
      obtain ⟨F1, F2, F3, F4, F5, F6⟩ := HF.out
      have hBw : Below w.heap.size w w4 := HW.out.trans (hK4.out.mono HW.out.size)
      have hlen : (os ++ [cr]).length = k + 1 := by rw [List.length_append, HOL.out]; rfl
      refine ⟨_, os ++ [cr], f, rfl, (hsl.put hin (by simp; omega) _).put hin (by simp; omega) _, hin.mono (fun b h => by omega), W.dok_append HD.out _ (by omega) (by omega), ⟨F5, by rw [hlen]; push_cast; omega, ?_⟩, (hBw.setCell (by simp; omega) _).setCell (by simp; omega) _⟩
      intro s
      have hv : W.dval (os ++ [cr]) = W.V a e f k + W.V b g f k := by
        rw [W.dval_append, HOL.out, ← HV.out]; simp only [W.dval, Int.mul_zero, Int.add_zero]; rw [Int.mul_comm cr]
      rw [W.nv_V (s := s) F1 F3, W.nv_V (s := s) F2 F4]
      unfold W.nv
      rw [hv, Int.mul_add, Rat.intCast_add, Rat.add_mul]

end Go.Proofs.YtiihokgjplpceaaDoor
end

section
/- Package whole, walked: less. -/
namespace Go.Proofs.YtiihokgjplpceaaDoor
open Go.RowKit TV
set_option linter.unusedVariables false
set_option maxRecDepth 4000

theorem wless_calls (e g : Int) (sl sm : Value) (a b : List Int) (w : World) (hs : Sl w sl (a.map (Value.int .u32))) (ht : Sl w sm (b.map (Value.int .u32)))
    (ha : W.Dok a) (hb : W.Dok b) (he : -100000000 ≤ e) (he2 : e + a.length ≤ 100000000) (hg : -100000000 ≤ g) (hg2 : g + b.length ≤ 100000000) (hle : W.nv 1 b g ≤ W.nv 1 a e) :
    Calls Tryd.prog 97 #[.agg #[sl, .int .i64 e], .agg #[sm, .int .i64 g]] w (FreshMag (fun os f => f = min e g ∧ f + os.length = max (e + a.length) (g + b.length) ∧ ∀ s : Int, W.nv s os f = W.nv s a e - W.nv s b g) w) := by
  obtain ⟨f, hf⟩ : ∃ f, f = min e g := ⟨_, rfl⟩
  obtain ⟨u, hu⟩ : ∃ u, u = max (e + (a.length : Int)) (g + (b.length : Int)) := ⟨_, rfl⟩
  obtain ⟨n, hn⟩ : ∃ n : Nat, u = f + n := ⟨(u - f).toNat, by omega⟩
  obtain ⟨p1, c1, rfl⟩ := hs.formMap
  obtain ⟨p2, c2, rfl⟩ := ht.formMap
  obtain ⟨wn, hwn, hW, hsz, k0, k1, k2⟩ := boxes_res w (.cells #[.slice p1 a.length c1, .int .i64 e] 87) (.cells #[.slice p2 b.length c2, .int .i64 g] 87) (.cells #[.slice none 0 0, .int .i64 0] 87)
  have hmin : (if g < e then g else e) = f := by rw [hf]; split <;> omega
  have hmax : (if e + (a.length : Int) < g + (b.length : Int) then g + (b.length : Int) else e + (a.length : Int)) = u := by rw [hu]; split <;> omega
  have f1 : -100000000 ≤ f := by omega
  have f2 : f ≤ 100000000 := by omega
  have u1 : -100000000 ≤ u := by omega
  have u2 : u ≤ 100000000 := by omega
  have hn0 : n ≤ 200000000 := by omega
  have HF : Hid (f ≤ e ∧ f ≤ g ∧ e + a.length ≤ f + n ∧ g + b.length ≤ f + n ∧ f = min e g ∧ f + n = max (e + (a.length : Int)) (g + (b.length : Int))) := by refine ⟨?_, ?_, ?_, ?_, ?_, ?_⟩ <;> omega
  obtain ⟨i0, hi, hz0, hz1, hz2⟩ := info_parts info_u32
  have hmk : ∀ W, (Instr.makeSlice 85 (.int .i64 0) (.int .i64 (u - f))).run Tryd.prog W = .ok (.slice (some ⟨W.heap.size, 0, none⟩) 0 n) (W.alloc (.cells (madeCells #[.int .u32 0] n) 101)) := fun W => by
    have := run_make (P := Tryd.prog) W 85 101 i0 (.int .u32 0) Tryd.underlying85 hi hz0 .i64 .i64 0 (u - f) (by omega) (by omega) (by rw [hz2]; omega) (by omega)
    rw [this, hz1, show (u - f).toNat = n by omega, Nat.mul_one]; rfl
  have HN := Lib.hid hn
  clear hf hu hn
  have HE0 := Lib.hid (ends_calls e g f u (.slice p1 a.length c1) (.slice p2 b.length c2) a.length b.length hmin hmax wn ⟨_, _, rfl⟩ ⟨_, _, rfl⟩ (by omega) (by omega) (by omega) (by omega))
  clear hmin hmax
  have HS := Lib.hid (hs.keep hW)
  have HT := Lib.hid (ht.keep hW)
  have HW := Lib.hid hW
  have HSZ := Lib.hid hsz
  clear hs ht hW hsz
  go_enter Tryd.func97, Tryd.ntmps97
  go_wp2_with fail
  rw [← hwn]
  clear hwn
  refine HE0.out.mono ?_
  rintro x w0 ⟨rfl, hb0⟩
  obtain ⟨r0, r1, -, -⟩ := res2_facts (keep_block hb0 k0)
  obtain ⟨t0, t1, -, -⟩ := res2_facts (keep_block hb0 k1)
  have HS := Lib.hid (HS.out.keep hb0)
  have HT := Lib.hid (HT.out.keep hb0)
  have HW := Lib.hid (HW.out.trans (hb0.mono HW.out.size))
  have HSZ := Lib.hid (show w.heap.size + 3 ≤ w0.heap.size by have := hb0.size; have := HSZ.out; omega)
  have HK2 := Lib.hid (keep_block hb0 k2)
  have R0 := Lib.hid r0
  have R1 := Lib.hid r1
  have T0 := Lib.hid t0
  have T1 := Lib.hid t1
  clear k0 k1 k2 hb0 HE0
  go_wp2_with fail
  go_loopw [7, 8, 9, 10] (fun v c i _ wr => ∃ (k : Nat) (os : List Int) (cr : Int), k ≤ n ∧ i = .int .i64 (f + (k : Int)) ∧ c = .int .i64 cr ∧ 0 ≤ cr ∧ cr ≤ 1 ∧ wr.ownsRow w0.heap.size 101 1 v k (os.map (Value.int .u32)) ∧ os.length = k ∧ W.Dok os ∧
      W.dval os - cr * 4294967296 ^ k = W.V a e f k - W.V b g f k ∧ Kp w0 wr)
    (fun _ _ i _ _ => (f + n - intOf i).toNat)
  case atStart => exact ⟨0, [], 0, Nat.zero_le _, by simp, rfl, by omega, by omega, World.ownsRow_made _ _ _ (Nat.le_refl _) (by unfold maxLen; omega) (by simp [madeCells]), rfl, fun i => by simp, by simp [W.dval, W.V], kp_alloc2 _ _⟩
  case round =>
    obtain ⟨k, os, cr, hk, rfl, rfl, hc0, hc1, hown, hol, hod, hv, hbl⟩ := hrel
    have HV := Lib.hid hv
    have HD := Lib.hid hod
    have HOL := Lib.hid hol
    have r0 := keep_cell hbl.out R0.out
    have r1 := keep_cell hbl.out R1.out
    have t0 := keep_cell hbl.out T0.out
    have t1 := keep_cell hbl.out T1.out
    have HB := Lib.hid hbl
    clear hv hod hol hbl hmk
    by_cases hlt : k < n
    · have hlt2 : f + (k : Int) < u := by have := HN.out; omega
      have HA := Lib.hid (fun (W : World) (h : Kp w0 W) => word_calls e (f + (k : Int)) _ a W (HS.out.keep h.out) (by omega) (by omega) (by omega) (by omega))
      have HC := Lib.hid (fun (W : World) (h : Kp w0 W) => word_calls g (f + (k : Int)) _ b W (HT.out.keep h.out) (by omega) (by omega) (by omega) (by omega))
      have hx1 := W.dg_bound ha e (f + k)
      have hy1 := W.dg_bound hb g (f + k)
      have hva : W.V a e f (k + 1) = W.V a e f k + W.dg a e (f + k) * 4294967296 ^ k := rfl
      have hvb : W.V b g f (k + 1) = W.V b g f k + W.dg b g (f + k) * 4294967296 ^ k := rfl
      obtain ⟨x, hx⟩ : ∃ x, x = W.dg a e (f + k) := ⟨_, rfl⟩
      obtain ⟨y, hy⟩ : ∃ y, y = W.dg b g (f + k) := ⟨_, rfl⟩
      rw [← hx] at HA hx1 hva
      rw [← hy] at HC hy1 hvb
      have HVA := Lib.hid hva
      have HVB := Lib.hid hvb
      obtain ⟨x0, x1⟩ := hx1
      obtain ⟨y0, y1⟩ := hy1
      obtain ⟨d, hd⟩ : ∃ d, d = x - y - cr := ⟨_, rfl⟩
      have e0 : IntKind.i64.wrap (IntKind.i64.wrap (IntKind.i64.wrap x - IntKind.i64.wrap y) - cr) = d := by
        rw [IntWalk.i64_in x (by omega), IntWalk.i64_in y (by omega), IntWalk.i64_in (x - y) (by omega), IntWalk.i64_in _ (by omega), hd]
      have HDD := Lib.hid hd
      have d0 : -4294967296 ≤ d ∧ d < 4294967296 := by omega
      obtain ⟨d1, d2⟩ := d0
      clear hd
      have K0 := HB.out
      clear hx hy hva hvb
      go_wp2_with fail
      go_region_held3 (fun w' => w'.cell? ⟨w.heap.size, 0, none⟩ = some (.slice p1 a.length c1) ∧ w'.cell? ⟨w.heap.size, 1, none⟩ = some (.int .i64 e) ∧ w'.cell? ⟨w.heap.size + 1, 0, none⟩ = some (.slice p2 b.length c2) ∧ w'.cell? ⟨w.heap.size + 1, 1, none⟩ = some (.int .i64 g) ∧ Kp w0 w')
        (first | exact ⟨keep_cell ((K0.drew.step hbA).step hbB).out R0.out, keep_cell ((K0.drew.step hbA).step hbB).out R1.out, keep_cell ((K0.drew.step hbA).step hbB).out T0.out, keep_cell ((K0.drew.step hbA).step hbB).out T1.out, (K0.drew.step hbA).step hbB⟩ | exact ⟨keep_cell (K0.drew.step hbA).out R0.out, keep_cell (K0.drew.step hbA).out R1.out, keep_cell (K0.drew.step hbA).out T0.out, keep_cell (K0.drew.step hbA).out T1.out, K0.drew.step hbA⟩ | exact ⟨keep_cell K0.drew.out R0.out, keep_cell K0.drew.out R1.out, keep_cell K0.drew.out T0.out, keep_cell K0.drew.out T1.out, K0.drew⟩)
        (first
          | (go_at_call 102; ((with_reducible refine (HC.out _ ?hq).mono ?_); (case hq => exact (K0.drew.step hbA)); rintro x2 w3 ⟨rfl, hbB⟩))
          | (go_at_call 102; ((with_reducible refine (HA.out _ ?hq).mono ?_); (case hq => exact K0.drew); rintro x1 w2 ⟨rfl, hbA⟩)))
      have HK3 := Lib.hid ((K0.drew.step hbA).step hbB)
      have hown := own_keep hown (((Kp.refl wr).drew.step hbA).step hbB).out
      clear hbA hbB HA HC K0 r0 r1 t0 t1
      have hbs := HK3.out.out.size
      have hob := own_block hown
      clear e0 x0 x1 y0 y1 hc0 hc1
      by_cases hneg : d < 0
      · have h2 : 0 ≤ d + 4294967296 := by omega
        have h3 : d + 4294967296 < 4294967296 := by omega
        go_wp2_with (at_builtin; refine wpList_append_own _ rfl _ _ 85 rfl w0.heap.size 101 i0 (.int .u32 0) 1 4 Tryd.underlying85 hi hz0 hz1 hz2 rfl (by decide) _ _ _ rfl (hown.alloc _) ⟨w3.heap.size, 0, none⟩ 1 1 [.int .u32 _] rfl rfl (news_one _ _ _) (by simp [Value.oneCell']) (by unfold maxLen; omega) (by omega) (by simp; omega) ?_; intro ov' w4 hown4 hgrow hnil; clear hnil; obtain ⟨q4, cap4, rfl⟩ := own_form hown4)
        go_roundw
        case rel =>
          refine ⟨k + 1, os ++ [d + 4294967296], 1, by omega, by congr 1; omega, rfl, by omega, by omega, by rw [List.map_append]; exact hown4, by rw [List.length_append, HOL.out]; rfl, W.dok_append HD.out _ (by omega) (by omega), ?_, ?_⟩
          · rw [W.dval_append, HOL.out, HVA.out, HVB.out]
            have hv := HV.out
            have hd := HDD.out
            simp only [W.dval, Int.mul_zero, Int.add_zero]
            rw [Int.pow_succ]
            generalize (4294967296 : Int) ^ k = B at *
            subst hd
            grind
          · exact (HK3.out.step (kp_alloc2 _ _)).out.grown hgrow (by simp; omega) hob
        case measure => simp [intOf]; omega
      · have h2 : 0 ≤ d := by omega
        go_wp2_with (at_builtin; refine wpList_append_own _ rfl _ _ 85 rfl w0.heap.size 101 i0 (.int .u32 0) 1 4 Tryd.underlying85 hi hz0 hz1 hz2 rfl (by decide) _ _ _ rfl (hown.alloc _) ⟨w3.heap.size, 0, none⟩ 1 1 [.int .u32 _] rfl rfl (news_one _ _ _) (by simp [Value.oneCell']) (by unfold maxLen; omega) (by omega) (by simp; omega) ?_; intro ov' w4 hown4 hgrow hnil; clear hnil; obtain ⟨q4, cap4, rfl⟩ := own_form hown4)
        go_roundw
        case rel =>
          refine ⟨k + 1, os ++ [d], 0, by omega, by congr 1; omega, rfl, by omega, by omega, by rw [List.map_append]; exact hown4, by rw [List.length_append, HOL.out]; rfl, W.dok_append HD.out _ (by omega) (by omega), ?_, ?_⟩
          · rw [W.dval_append, HOL.out, HVA.out, HVB.out]
            have hv := HV.out
            have hd := HDD.out
            simp only [W.dval, Int.mul_zero, Int.add_zero]
            rw [Int.pow_succ]
            generalize (4294967296 : Int) ^ k = B at *
            subst hd
            grind
          · exact (HK3.out.step (kp_alloc2 _ _)).out.grown hgrow (by simp; omega) hob
        case measure => simp [intOf]; omega
    · obtain rfl : k = n := by omega
      have hlt2 : ¬ f + (k : Int) < u := by have := HN.out; omega
      have hbs := HB.out.out.size
      have hob := own_block hown
      have hsz := HSZ.out
      clear r0 r1 t0 t1
      obtain ⟨q4, cap4, rfl⟩ := own_form hown
      obtain ⟨z0, z1, z2, z3⟩ := res2_facts (keep_block HB.out.out HK2.out)
      go_wp2_with fail
      obtain ⟨g0, g1⟩ := put2_facts (keep_block HB.out.out HK2.out) (.slice q4 k cap4) (.int .i64 f)
      refine bodyPost_ret (v := .agg #[.slice q4 k cap4, .int .i64 f]) (by simp [results, Tryd.results97, go_sem, g0, g1]) rfl ?_
      have hsl := own_sl hown
      have hin : In (fun b => w0.heap.size ≤ b) (.slice q4 k cap4) := fun a n c he => by
        cases he
        exact own_block hown _ rfl
      obtain ⟨F1, F2, F3, F4, F5, F6⟩ := HF.out
      have hBw : Below w.heap.size w wr := HW.out.trans (HB.out.out.mono HW.out.size)
      have hv := HV.out
      have hle2 : W.V b g f k ≤ W.V a e f k := by
        rw [W.nv_V (s := 1) F1 F3, W.nv_V (s := 1) F2 F4, Int.one_mul, Int.one_mul] at hle
        apply Classical.byContradiction
        intro hc
        have h1 : ((W.V a e f k : Int) : Rat) < ((W.V b g f k : Int) : Rat) := Rat.intCast_lt_intCast.2 (by omega)
        exact absurd hle (Rat.not_le.2 (Rat.mul_lt_mul_of_pos_right h1 (two_zpow_pos _)))
      have hlt3 := W.dval_lt HD.out
      rw [HOL.out] at hlt3
      have hcr : cr = 0 := by
        apply Classical.byContradiction
        intro hc
        obtain rfl : cr = 1 := by omega
        omega
      subst hcr
      rw [Int.zero_mul, Int.sub_zero] at hv
      have hol := HOL.out
      refine ⟨_, os, f, rfl, (hsl.put hin (by simp; omega) _).put hin (by simp; omega) _, hin.mono (fun b h => by omega), HD.out, ⟨F5, by rw [hol]; omega, ?_⟩, (hBw.setCell (by simp; omega) _).setCell (by simp; omega) _⟩
      intro s
      rw [W.nv_V (s := s) F1 F3, W.nv_V (s := s) F2 F4]
      unfold W.nv
      rw [hv, Int.mul_sub, Rat.intCast_sub]
      generalize (2 : Rat) ^ (32 * f) = z
      grind

end Go.Proofs.YtiihokgjplpceaaDoor
end

section
/- Package whole, walked: Add. -/
namespace Go.Proofs.YtiihokgjplpceaaDoor
open Go.RowKit TV
set_option linter.unusedVariables false

/-- What an addition answers. -/
def addO (oa ob : Option Rat) (o : Option Rat) : Prop := match oa, ob with
  | some p, some q => WvOf (p + q) o
  | _, _ => o = none

theorem add_none_a {P : Nat → Prop} {w : World} (vb : Value) (ob : Option Rat) (hb : WNum P w vb ob) :
    Calls Tryd.prog 90 #[.agg #[.slice none 0 0, .int .i64 0, .bool false, .bool true], vb] w (RetW P none w) := by
  obtain ⟨p2, n2, c2, e2, neg2, none2, rfl⟩ := hb.form
  obtain ⟨wn, hwn, hW, hsz, k0, k1, k2⟩ := boxes_res w (.cells #[.slice none 0 0, .int .i64 0, .bool false, .bool true] 89) (.cells #[.slice p2 n2 c2, .int .i64 e2, .bool neg2, .bool none2] 89) (.cells #[.slice none 0 0, .int .i64 0, .bool false, .bool false] 89)
  obtain ⟨q0, q1, q2, q3, f0, f1, f2, f3⟩ := res4_facts k2
  obtain ⟨u0, u1, u2, u3⟩ := put4_facts k2 (.slice none 0 0) (.int .i64 0) (.bool false) (.bool true)
  obtain ⟨a0, a1, a2, a3, -, -, -, -⟩ := res4_facts k0
  have HW := Lib.hid hW
  clear hW hsz k0 k1 k2 hb
  go_enter Tryd.func90, Tryd.ntmps90
  go_upto_region 1 with (fail)
  rw [← hwn]
  clear hwn
  go_wp2_with fail
  refine bodyPost_ret (v := .agg #[.slice none 0 0, .int .i64 0, .bool false, .bool true]) (by simp [results, Tryd.results90, go_sem, u0, u1, u2, u3]) rfl ?_
  exact ⟨_, rfl, rfl, bl_put4 HW.out (by omega) _ _ _ _⟩

theorem add_none_b {P : Nat → Prop} {w : World} (va : Value) (q : Rat) (ha : WNum P w va (some q)) :
    Calls Tryd.prog 90 #[va, .agg #[.slice none 0 0, .int .i64 0, .bool false, .bool true]] w (RetW P none w) := by
  obtain ⟨sl, ds, e1, neg1, rfl, hs, -⟩ := ha
  obtain ⟨p1, c1, rfl⟩ := hs.formMap
  obtain ⟨wn, hwn, hW, hsz, k0, k1, k2⟩ := boxes_res w (.cells #[.slice p1 ds.length c1, .int .i64 e1, .bool neg1, .bool false] 89) (.cells #[.slice none 0 0, .int .i64 0, .bool false, .bool true] 89) (.cells #[.slice none 0 0, .int .i64 0, .bool false, .bool false] 89)
  obtain ⟨q0, q1, q2, q3, f0, f1, f2, f3⟩ := res4_facts k2
  obtain ⟨u0, u1, u2, u3⟩ := put4_facts k2 (.slice none 0 0) (.int .i64 0) (.bool false) (.bool true)
  obtain ⟨a0, a1, a2, a3, -, -, -, -⟩ := res4_facts k0
  obtain ⟨b0, b1, b2, b3, -, -, -, -⟩ := res4_facts k1
  have HW := Lib.hid hW
  clear hW hsz k0 k1 k2 hs
  go_enter Tryd.func90, Tryd.ntmps90
  go_upto_region 1 with (fail)
  rw [← hwn]
  clear hwn
  go_wp2_with fail
  refine bodyPost_ret (v := .agg #[.slice none 0 0, .int .i64 0, .bool false, .bool true]) (by simp [results, Tryd.results90, go_sem, u0, u1, u2, u3]) rfl ?_
  exact ⟨_, rfl, rfl, bl_put4 HW.out (by omega) _ _ _ _⟩

set_option maxHeartbeats 4000000 in
/-- Nought and a number: the number. -/
theorem add_zero_a {P : Nat → Prop} {w : World} (q : Rat) (vb : Value) (hb : WNum P w vb (some q)) :
    Calls Tryd.prog 90 #[.agg #[.slice none 0 0, .int .i64 0, .bool false, .bool false], vb] w (RetW P (some q) w) := by
  have HV := Lib.hid hb.lt
  obtain ⟨sl, ds, e2, neg2, rfl, hs, -⟩ := hb
  obtain ⟨p2, c2, rfl⟩ := hs.formMap
  obtain ⟨wn, hwn, hW, hsz, k0, k1, k2⟩ := boxes_res w (.cells #[.slice none 0 0, .int .i64 0, .bool false, .bool false] 89) (.cells #[.slice p2 ds.length c2, .int .i64 e2, .bool neg2, .bool false] 89) (.cells #[.slice none 0 0, .int .i64 0, .bool false, .bool false] 89)
  obtain ⟨q0, q1, q2, q3, f0, f1, f2, f3⟩ := res4_facts k2
  obtain ⟨u0, u1, u2, u3⟩ := put4_facts k2 (.slice p2 ds.length c2) (.int .i64 e2) (.bool neg2) (.bool false)
  obtain ⟨a0, a1, a2, a3, -, -, -, -⟩ := res4_facts k0
  obtain ⟨b0, b1, b2, b3, -, -, -, -⟩ := res4_facts k1
  have HW := Lib.hid hW
  clear hW hsz k0 k1 k2 hs
  go_enter Tryd.func90, Tryd.ntmps90
  go_upto_region 1 with (fail)
  rw [← hwn]
  clear hwn
  go_wp2_with fail
  refine bodyPost_ret (v := .agg #[.slice p2 ds.length c2, .int .i64 e2, .bool neg2, .bool false]) (by simp [results, Tryd.results90, go_sem, u0, u1, u2, u3]) rfl ?_
  exact ⟨_, rfl, ((HV.out.keep HW.out).put4 (b := w.heap.size + 1 + 1) (fun h => by have := h.2; omega) _ _ _ _).mono (fun b h => h.1), bl_put4 HW.out (by omega) _ _ _ _⟩
set_option maxHeartbeats 4000000 in
theorem add_zero_b {P : Nat → Prop} {w : World} (q : Rat) (sl : Value) (ds : List Int) (e1 : Int) (neg1 : Bool) (hs : Sl w sl (ds.map (Value.int .u32))) (ha : WNum P w (.agg #[sl, .int .i64 e1, .bool neg1, .bool false]) (some q)) (hl : 0 < ds.length) :
    Calls Tryd.prog 90 #[.agg #[sl, .int .i64 e1, .bool neg1, .bool false], .agg #[.slice none 0 0, .int .i64 0, .bool false, .bool false]] w (RetW P (some q) w) := by
  have HV := Lib.hid ha.lt
  obtain ⟨p1, c1, rfl⟩ := hs.formMap
  obtain ⟨wn, hwn, hW, hsz, k0, k1, k2⟩ := boxes_res w (.cells #[.slice p1 ds.length c1, .int .i64 e1, .bool neg1, .bool false] 89) (.cells #[.slice none 0 0, .int .i64 0, .bool false, .bool false] 89) (.cells #[.slice none 0 0, .int .i64 0, .bool false, .bool false] 89)
  obtain ⟨q0, q1, q2, q3, f0, f1, f2, f3⟩ := res4_facts k2
  obtain ⟨u0, u1, u2, u3⟩ := put4_facts k2 (.slice p1 ds.length c1) (.int .i64 e1) (.bool neg1) (.bool false)
  obtain ⟨a0, a1, a2, a3, -, -, -, -⟩ := res4_facts k0
  obtain ⟨b0, b1, b2, b3, -, -, -, -⟩ := res4_facts k1
  have HW := Lib.hid hW
  have hl2 : ¬ (ds.length : Int) = 0 := by omega
  clear hW hsz k0 k1 k2 hs hl ha
  go_enter Tryd.func90, Tryd.ntmps90
  go_upto_region 1 with (fail)
  rw [← hwn]
  clear hwn
  go_wp2_with fail
  refine bodyPost_ret (v := .agg #[.slice p1 ds.length c1, .int .i64 e1, .bool neg1, .bool false]) (by simp [results, Tryd.results90, go_sem, u0, u1, u2, u3]) rfl ?_
  exact ⟨_, rfl, ((HV.out.keep HW.out).put4 (b := w.heap.size + 1 + 1) (fun h => by have := h.2; omega) _ _ _ _).mono (fun b h => h.1), bl_put4 HW.out (by omega) _ _ _ _⟩

end Go.Proofs.YtiihokgjplpceaaDoor
end

section
/- Package whole, walked: Add of two numbers that are not nought. (Printed by gen_WhO.py.) -/
namespace Go.Proofs.YtiihokgjplpceaaDoor
open Go.RowKit TV
set_option linter.unusedVariables false

theorem put4_cell {w : World} {b : Nat} {p : Addr} {v : Value} (h : w.cell? p = some v) (hne : p.block ≠ b) (u0 u1 u2 u3 : Value) :
    ((((w.setCell ⟨b, 0, none⟩ u0).setCell ⟨b, 1, none⟩ u1).setCell ⟨b, 2, none⟩ u2).setCell ⟨b, 3, none⟩ u3).cell? p = some v := by
  rw [World.cell?_setCell_other _ _ _ _ (fun e => hne (by rw [← e])), World.cell?_setCell_other _ _ _ _ (fun e => hne (by rw [← e])), World.cell?_setCell_other _ _ _ _ (fun e => hne (by rw [← e])), World.cell?_setCell_other _ _ _ _ (fun e => hne (by rw [← e]))]; exact h
theorem Kp.put4 {b : Nat} {w w1 : World} (h : Kp w w1) (hb : w.heap.size ≤ b) (u0 u1 u2 u3 : Value) : Kp w ((((w1.setCell ⟨b, 0, none⟩ u0).setCell ⟨b, 1, none⟩ u1).setCell ⟨b, 2, none⟩ u2).setCell ⟨b, 3, none⟩ u3) :=
  bl_put4 h hb _ _ _ _
theorem WNum.fresh {w W : World} {v : Value} {o : Option Rat} {s b : Nat} (h : WNum (fun j => s ≤ j) W v o) (hb : b < s) (u0 u1 u2 u3 : Value) :
    WNum (fun j => s ≤ j) ((((W.setCell ⟨b, 0, none⟩ u0).setCell ⟨b, 1, none⟩ u1).setCell ⟨b, 2, none⟩ u2).setCell ⟨b, 3, none⟩ u3) v o := h.put4 (b := b) (fun h => by omega) _ _ _ _

set_option maxHeartbeats 8000000 in
theorem add_same {w : World} (a b : List Int) (e g : Int) (p1 p2 : Option Addr) (c1 c2 : Nat) (ng : Bool) (hs : Sl w (.slice p1 a.length c1) (a.map (Value.int .u32))) (hv : Sl w (.slice p2 b.length c2) (b.map (Value.int .u32)))
    (ha : Mg a e) (hb : Mg b g) (ea : -2048 ≤ e ∧ e + a.length ≤ 2049) (eb : -2048 ≤ g ∧ g + b.length ≤ 2049) (ht : TabOk w) :
    Calls Tryd.prog 90 #[.agg #[.slice p1 a.length c1, .int .i64 e, .bool ng, .bool false], .agg #[.slice p2 b.length c2, .int .i64 g, .bool ng, .bool false]] w fun x w' => ∃ o, WvOf (W.nv (sg ng) a e + W.nv (sg ng) b g) o ∧ RetW (fun b => w.heap.size ≤ b) o w x w' := by
  obtain ⟨wn, hwn, hW, hsz, k0, k1, k2⟩ := boxes_res w (.cells #[.slice p1 a.length c1, .int .i64 e, .bool ng, .bool false] 89) (.cells #[.slice p2 b.length c2, .int .i64 g, .bool ng, .bool false] 89) (.cells #[.slice none 0 0, .int .i64 0, .bool false, .bool false] 89)
  obtain ⟨a0, a1, a2, a3, -, -, -, -⟩ := res4_facts k0
  obtain ⟨b0, b1, b2, b3, -, -, -, -⟩ := res4_facts k1
  have HA := Lib.hid (hs.keep hW)
  have HB := Lib.hid (hv.keep hW)
  have HT := Lib.hid (ht.keep hW)
  have HW := Lib.hid hW
  have HSZ := Lib.hid hsz
  have HK := Lib.hid k2
  have la : ¬ (a.length : Int) = 0 := by have := ha.len; omega
  have lb : ¬ (b.length : Int) = 0 := by have := hb.len; omega
  have MA := Lib.hid ha
  have MB := Lib.hid hb
  have EA := Lib.hid ea
  have EB := Lib.hid eb
  have hleb : w.heap.size ≤ w.heap.size + 1 + 1 := by omega
  have hnea : w.heap.size ≠ w.heap.size + 1 + 1 := by omega
  have hneb : w.heap.size + 1 ≠ w.heap.size + 1 + 1 := by omega
  have HX := Lib.hid (fun (Y : World) (h : Kp wn Y) => wsum_calls e g _ _ a b Y (HA.out.keep h.out) (HB.out.keep h.out) MA.out.dok MB.out.dok (by have := EA.out; omega) (by have := EA.out; omega) (by have := EB.out; omega) (by have := EB.out; omega))
  have HM := Lib.hid (fun (Y : World) (h : Kp wn Y) (sl : Value) (os : List Int) (f : Int) {P : Nat → Prop} (hs : Sl Y sl (os.map (Value.int .u32))) (hin : In P sl) (hd : W.Dok os) (h1 : f = min e g) (h2 : f + os.length = max (e + a.length) (g + b.length) + 1) => made_calls f sl os ng Y hs hin hd (by have := EA.out; have := EB.out; omega) (by have := EA.out; have := EB.out; omega) (HT.out.keep h.out))
  clear hW hsz k0 k1 k2 hs hv ht ha hb ea eb
  go_enter Tryd.func90, Tryd.ntmps90
  go_upto_region 1 with (fail)
  rw [← hwn]
  clear hwn
  have KW : Kp w wn := HW.out
  go_wp2_with fail
  go_region_held3 (fun w' => w'.cell? ⟨w.heap.size, 0, none⟩ = some (.slice p1 a.length c1) ∧ w'.cell? ⟨w.heap.size, 1, none⟩ = some (.int .i64 e) ∧ w'.cell? ⟨w.heap.size, 2, none⟩ = some (.bool ng) ∧ w'.cell? ⟨w.heap.size + 1, 0, none⟩ = some (.slice p2 b.length c2) ∧ w'.cell? ⟨w.heap.size + 1, 1, none⟩ = some (.int .i64 g) ∧ Kp w w')
    (first | with_reducible exact ⟨put4_cell (keep_cell (((Kp.refl wn).drew.step hbA).step hbB).out a0) hnea _ _ _ _, put4_cell (keep_cell (((Kp.refl wn).drew.step hbA).step hbB).out a1) hnea _ _ _ _, put4_cell (keep_cell (((Kp.refl wn).drew.step hbA).step hbB).out a2) hnea _ _ _ _, put4_cell (keep_cell (((Kp.refl wn).drew.step hbA).step hbB).out b0) hneb _ _ _ _, put4_cell (keep_cell (((Kp.refl wn).drew.step hbA).step hbB).out b1) hneb _ _ _ _, ((KW.drew.step hbA).step hbB).put4 hleb _ _ _ _⟩ | with_reducible exact ⟨keep_cell (((Kp.refl wn).drew.step hbA).step hbB).out a0, keep_cell (((Kp.refl wn).drew.step hbA).step hbB).out a1, keep_cell (((Kp.refl wn).drew.step hbA).step hbB).out a2, keep_cell (((Kp.refl wn).drew.step hbA).step hbB).out b0, keep_cell (((Kp.refl wn).drew.step hbA).step hbB).out b1, ((KW.drew.step hbA).step hbB)⟩ | with_reducible exact ⟨keep_cell ((Kp.refl wn).drew.step hbA).out a0, keep_cell ((Kp.refl wn).drew.step hbA).out a1, keep_cell ((Kp.refl wn).drew.step hbA).out a2, keep_cell ((Kp.refl wn).drew.step hbA).out b0, keep_cell ((Kp.refl wn).drew.step hbA).out b1, (KW.drew.step hbA)⟩ | with_reducible exact ⟨keep_cell (Kp.refl wn).drew.out a0, keep_cell (Kp.refl wn).drew.out a1, keep_cell (Kp.refl wn).drew.out a2, keep_cell (Kp.refl wn).drew.out b0, keep_cell (Kp.refl wn).drew.out b1, KW.drew⟩)
    (first
      | (go_at_call 95; ((with_reducible refine (HX.out _ ?hq).mono ?_); (case hq => exact (Kp.refl wn).drew); rintro x w2 ⟨sl2, os, f, rfl, hs2, hin2, hd2, ⟨hf1, hf2, hn2⟩, hbA⟩; obtain ⟨pp2, cc2, rfl⟩ := hs2.formMap; have HF1 := Lib.hid hf1; have HF2 := Lib.hid hf2; have HN2 := Lib.hid hn2; clear hf1 hf2 hn2))
      | (go_at_call 93; ((with_reducible refine (HM.out _ ?hq _ _ _ hs2 hin2 hd2 ?h1 ?h2).mono ?_); (case hq => exact ((Kp.refl wn).drew.step hbA)); (case h1 => exact HF1.out); (case h2 => exact HF2.out); rintro x w3 ⟨o3, hwv, v3, rfl, hv3, hbB⟩; obtain ⟨p3, n3, c3, e3, neg3, none3, rfl⟩ := hv3.form; have hres := keep_block hbB (keep_block hbA HK.out); obtain ⟨q0, q1, q2, q3, f0, f1, f2, f3⟩ := res4_facts hres)))
  go_wp2_with fail
  obtain ⟨u0, u1, u2, u3⟩ := put4_facts hres (.slice p3 n3 c3) (.int .i64 e3) (.bool neg3) (.bool none3)
  refine bodyPost_ret (v := .agg #[.slice p3 n3 c3, .int .i64 e3, .bool neg3, .bool none3]) (by simp [results, Tryd.results90, go_sem, u0, u1, u2, u3]) rfl ?_
  have hss := HSZ.out
  have hs9 : wn.heap.size ≤ wn.drew.heap.size := Nat.le_refl _
  exact ⟨o3, by rw [← HN2.out]; exact hwv, _, rfl, (WNum.fresh (w := w) hv3 (by omega) _ _ _ _).mono (fun b h => by omega), (((KW.drew.step hbA).step hbB).put4 hleb _ _ _ _)⟩

end Go.Proofs.YtiihokgjplpceaaDoor
end

section
/- Package whole, walked: Add of two of unlike signs. (Printed by gen_WhP.py.) -/
namespace Go.Proofs.YtiihokgjplpceaaDoor
open Go.RowKit TV
set_option linter.unusedVariables false

theorem nv_sgn (s t : Int) (h : t = -s) (ds : List Int) (e : Int) : W.nv t ds e = -W.nv s ds e := by
  unfold W.nv; rw [h, Int.neg_mul, Rat.intCast_neg, Rat.neg_mul]

theorem cmp_nv (a b : List Int) (e g : Int) : (TV.sg (W.V a e (min e g) (max (e + a.length) (g + b.length) - min e g).toNat - W.V b g (min e g) (max (e + a.length) (g + b.length) - min e g).toNat) < 0) ↔ W.nv 1 a e < W.nv 1 b g := by
  have h1 : min e g ≤ e := by omega
  have h2 : min e g ≤ g := by omega
  obtain ⟨n, hn⟩ : ∃ n : Nat, n = (max (e + (a.length : Int)) (g + (b.length : Int)) - min e g).toNat := ⟨_, rfl⟩
  rw [← hn, W.nv_V (s := 1) (n := n) h1 (by omega), W.nv_V (s := 1) (n := n) h2 (by omega), Int.one_mul, Int.one_mul]
  generalize W.V a e (min e g) n = x
  generalize W.V b g (min e g) n = y
  have hp := two_zpow_pos (32 * min e g)
  have hs : (TV.sg (x - y) < 0) ↔ x < y := by unfold TV.sg; split <;> (try split) <;> omega
  rw [hs]
  constructor
  · intro h; exact Rat.mul_lt_mul_of_pos_right (Rat.intCast_lt_intCast.2 h) hp
  · intro h
    apply Classical.byContradiction
    intro hc
    exact absurd h (Rat.not_lt.2 (Rat.mul_le_mul_of_nonneg_right (Rat.intCast_le_intCast.2 (by omega)) (Rat.le_of_lt hp)))
theorem cmp_lt_nv {a b : List Int} {e g cc : Int} (h : cc = TV.sg (W.V a e (min e g) (max (e + a.length) (g + b.length) - min e g).toNat - W.V b g (min e g) (max (e + a.length) (g + b.length) - min e g).toNat)) (hc : cc < 0) : W.nv 1 a e ≤ W.nv 1 b g := by
  rw [h] at hc; exact Rat.le_of_lt ((cmp_nv a b e g).1 hc)
theorem cmp_ge_nv {a b : List Int} {e g cc : Int} (h : cc = TV.sg (W.V a e (min e g) (max (e + a.length) (g + b.length) - min e g).toNat - W.V b g (min e g) (max (e + a.length) (g + b.length) - min e g).toNat)) (hc : ¬ cc < 0) : W.nv 1 b g ≤ W.nv 1 a e := by
  rw [h] at hc; exact Rat.not_lt.1 fun h2 => hc ((cmp_nv a b e g).2 h2)

set_option maxHeartbeats 8000000 in
theorem add_diff {w : World} (a b : List Int) (e g : Int) (p1 p2 : Option Addr) (c1 c2 : Nat) (ng mg : Bool) (hdf : mg = !ng) (hs : Sl w (.slice p1 a.length c1) (a.map (Value.int .u32))) (hv : Sl w (.slice p2 b.length c2) (b.map (Value.int .u32)))
    (ha : Mg a e) (hb : Mg b g) (ea : -2048 ≤ e ∧ e + a.length ≤ 2049) (eb : -2048 ≤ g ∧ g + b.length ≤ 2049) (ht : TabOk w) :
    Calls Tryd.prog 90 #[.agg #[.slice p1 a.length c1, .int .i64 e, .bool ng, .bool false], .agg #[.slice p2 b.length c2, .int .i64 g, .bool mg, .bool false]] w fun x w' => ∃ o, WvOf (W.nv (sg ng) a e + W.nv (sg mg) b g) o ∧ RetW (fun b => w.heap.size ≤ b) o w x w' := by
  obtain ⟨wn, hwn, hW, hsz, k0, k1, k2⟩ := boxes_res w (.cells #[.slice p1 a.length c1, .int .i64 e, .bool ng, .bool false] 89) (.cells #[.slice p2 b.length c2, .int .i64 g, .bool mg, .bool false] 89) (.cells #[.slice none 0 0, .int .i64 0, .bool false, .bool false] 89)
  obtain ⟨a0, a1, a2, a3, -, -, -, -⟩ := res4_facts k0
  obtain ⟨b0, b1, b2, b3, -, -, -, -⟩ := res4_facts k1
  have HA := Lib.hid (hs.keep hW)
  have HB := Lib.hid (hv.keep hW)
  have HT := Lib.hid (ht.keep hW)
  have HW := Lib.hid hW
  have HSZ := Lib.hid hsz
  have HK := Lib.hid k2
  have la : ¬ (a.length : Int) = 0 := by have := ha.len; omega
  have lb : ¬ (b.length : Int) = 0 := by have := hb.len; omega
  have MA := Lib.hid ha
  have MB := Lib.hid hb
  have EA := Lib.hid ea
  have EB := Lib.hid eb
  have hleb : w.heap.size ≤ w.heap.size + 1 + 1 := by omega
  have hnea : w.heap.size ≠ w.heap.size + 1 + 1 := by omega
  have hneb : w.heap.size + 1 ≠ w.heap.size + 1 + 1 := by omega
  have hsg : sg mg = -sg ng := by rw [hdf]; cases ng <;> rfl
  have HSG := Lib.hid hsg
  have hbeq : (ng == mg) = false := by rw [hdf]; cases ng <;> rfl
  have HY := Lib.hid (fun (Y : World) (h : Kp wn Y) => wcmp_calls e g _ _ a b Y (HA.out.keep h.out) (HB.out.keep h.out) MA.out.dok MB.out.dok (by have := EA.out; omega) (by have := EA.out; omega) (by have := EB.out; omega) (by have := EB.out; omega))
  clear hdf hsg
  clear hW hsz k0 k1 k2 hs hv ht ha hb ea eb
  go_enter Tryd.func90, Tryd.ntmps90
  go_upto_region 1 with (fail)
  rw [← hwn]
  clear hwn
  have KW : Kp w wn := HW.out
  go_wp2_with fail
  refine (HY.out wn (Kp.refl _)).mono ?_
  rintro x wy ⟨rfl, hby⟩
  obtain ⟨cc, hcc⟩ : ∃ z, z = TV.sg (W.V a e (min e g) (max (e + a.length) (g + b.length) - min e g).toNat - W.V b g (min e g) (max (e + a.length) (g + b.length) - min e g).toNat) := ⟨_, rfl⟩
  rw [← hcc]
  have hc1 := Lib.hid (cmp_lt_nv hcc)
  have hc2 := Lib.hid (cmp_ge_nv hcc)
  have a0 := keep_cell hby a0
  have a1 := keep_cell hby a1
  have a2 := keep_cell hby a2
  have b0 := keep_cell hby b0
  have b1 := keep_cell hby b1
  have b2 := keep_cell hby b2
  have KY : Kp w wy := KW.step hby
  have HA := Lib.hid (HA.out.keep hby)
  have HB := Lib.hid (HB.out.keep hby)
  have HT := Lib.hid (HT.out.keep hby)
  have HK := Lib.hid (keep_block hby HK.out)
  have HBS := Lib.hid hby.size
  clear hcc HY KW hby a3 b3
  by_cases hneg : cc < 0
  · have hle := Lib.hid (hc1.out hneg)
    have HX := Lib.hid (fun (Y : World) (h : Kp wy Y) => wless_calls g e _ _ b a Y (HB.out.keep h.out) (HA.out.keep h.out) MB.out.dok MA.out.dok (by have := EB.out; omega) (by have := EB.out; omega) (by have := EA.out; omega) (by have := EA.out; omega) hle.out)
    have HM := Lib.hid (fun (Y : World) (h : Kp wy Y) (sl : Value) (os : List Int) (f : Int) {P : Nat → Prop} (hs : Sl Y sl (os.map (Value.int .u32))) (hin : In P sl) (hd : W.Dok os) (h1 : f = min g e) (h2 : f + os.length = max (g + b.length) (e + a.length)) => made_calls f sl os mg Y hs hin hd (by have := EA.out; have := EB.out; omega) (by have := EA.out; have := EB.out; omega) (HT.out.keep h.out))
    clear hc1 hc2
    go_wp2_with fail
    go_region_held3 (fun w' => w'.cell? ⟨w.heap.size + 1, 0, none⟩ = some (.slice p2 b.length c2) ∧ w'.cell? ⟨w.heap.size + 1, 1, none⟩ = some (.int .i64 g) ∧ w'.cell? ⟨w.heap.size + 1, 2, none⟩ = some (.bool mg) ∧ w'.cell? ⟨w.heap.size, 0, none⟩ = some (.slice p1 a.length c1) ∧ w'.cell? ⟨w.heap.size, 1, none⟩ = some (.int .i64 e) ∧ Kp w w')
      (first | with_reducible exact ⟨put4_cell (keep_cell (((Kp.refl wy).drew.step hbA).step hbB).out b0) hneb _ _ _ _, put4_cell (keep_cell (((Kp.refl wy).drew.step hbA).step hbB).out b1) hneb _ _ _ _, put4_cell (keep_cell (((Kp.refl wy).drew.step hbA).step hbB).out b2) hneb _ _ _ _, put4_cell (keep_cell (((Kp.refl wy).drew.step hbA).step hbB).out a0) hnea _ _ _ _, put4_cell (keep_cell (((Kp.refl wy).drew.step hbA).step hbB).out a1) hnea _ _ _ _, ((KY.drew.step hbA).step hbB).put4 hleb _ _ _ _⟩ | with_reducible exact ⟨keep_cell (((Kp.refl wy).drew.step hbA).step hbB).out b0, keep_cell (((Kp.refl wy).drew.step hbA).step hbB).out b1, keep_cell (((Kp.refl wy).drew.step hbA).step hbB).out b2, keep_cell (((Kp.refl wy).drew.step hbA).step hbB).out a0, keep_cell (((Kp.refl wy).drew.step hbA).step hbB).out a1, ((KY.drew.step hbA).step hbB)⟩ | with_reducible exact ⟨keep_cell ((Kp.refl wy).drew.step hbA).out b0, keep_cell ((Kp.refl wy).drew.step hbA).out b1, keep_cell ((Kp.refl wy).drew.step hbA).out b2, keep_cell ((Kp.refl wy).drew.step hbA).out a0, keep_cell ((Kp.refl wy).drew.step hbA).out a1, (KY.drew.step hbA)⟩ | with_reducible exact ⟨keep_cell (Kp.refl wy).drew.out b0, keep_cell (Kp.refl wy).drew.out b1, keep_cell (Kp.refl wy).drew.out b2, keep_cell (Kp.refl wy).drew.out a0, keep_cell (Kp.refl wy).drew.out a1, KY.drew⟩)
      (first
        | (go_at_call 97; ((with_reducible refine (HX.out _ ?hq).mono ?_); (case hq => exact (Kp.refl wy).drew); rintro x w2 ⟨sl2, os, f, rfl, hs2, hin2, hd2, ⟨hf1, hf2, hn2⟩, hbA⟩; obtain ⟨pp2, cc2, rfl⟩ := hs2.formMap; have HF1 := Lib.hid hf1; have HF2 := Lib.hid hf2; have HN2 := Lib.hid hn2; clear hf1 hf2 hn2))
        | (go_at_call 93; ((with_reducible refine (HM.out _ ?hq _ _ _ hs2 hin2 hd2 ?h1 ?h2).mono ?_); (case hq => exact ((Kp.refl wy).drew.step hbA)); (case h1 => exact HF1.out); (case h2 => exact HF2.out); rintro x w3 ⟨o3, hwv, v3, rfl, hv3, hbB⟩; obtain ⟨p3, n3, c3, e3, neg3, none3, rfl⟩ := hv3.form; have hres := keep_block hbB (keep_block hbA HK.out); obtain ⟨q0, q1, q2, q3, f0, f1, f2, f3⟩ := res4_facts hres)))
    go_wp2_with fail
    obtain ⟨u0, u1, u2, u3⟩ := put4_facts hres (.slice p3 n3 c3) (.int .i64 e3) (.bool neg3) (.bool none3)
    refine bodyPost_ret (v := .agg #[.slice p3 n3 c3, .int .i64 e3, .bool neg3, .bool none3]) (by simp [results, Tryd.results90, go_sem, u0, u1, u2, u3]) rfl ?_
    have hss := HSZ.out
    have hs9 : wn.heap.size ≤ wy.drew.heap.size := HBS.out
    exact ⟨o3, by have h := HN2.out (sg mg); rw [h, nv_sgn (sg ng) (sg mg) HSG.out a e, Rat.sub_eq_add_neg, Rat.neg_neg, Rat.add_comm] at hwv; exact hwv, _, rfl, (WNum.fresh (w := w) hv3 (by omega) _ _ _ _).mono (fun b h => by omega), (((KY.drew.step hbA).step hbB).put4 hleb _ _ _ _)⟩
  · have hle := Lib.hid (hc2.out hneg)
    have HX := Lib.hid (fun (Y : World) (h : Kp wy Y) => wless_calls e g _ _ a b Y (HA.out.keep h.out) (HB.out.keep h.out) MA.out.dok MB.out.dok (by have := EA.out; omega) (by have := EA.out; omega) (by have := EB.out; omega) (by have := EB.out; omega) hle.out)
    have HM := Lib.hid (fun (Y : World) (h : Kp wy Y) (sl : Value) (os : List Int) (f : Int) {P : Nat → Prop} (hs : Sl Y sl (os.map (Value.int .u32))) (hin : In P sl) (hd : W.Dok os) (h1 : f = min e g) (h2 : f + os.length = max (e + a.length) (g + b.length)) => made_calls f sl os ng Y hs hin hd (by have := EA.out; have := EB.out; omega) (by have := EA.out; have := EB.out; omega) (HT.out.keep h.out))
    clear hc1 hc2
    go_wp2_with fail
    go_region_held3 (fun w' => w'.cell? ⟨w.heap.size, 0, none⟩ = some (.slice p1 a.length c1) ∧ w'.cell? ⟨w.heap.size, 1, none⟩ = some (.int .i64 e) ∧ w'.cell? ⟨w.heap.size, 2, none⟩ = some (.bool ng) ∧ w'.cell? ⟨w.heap.size + 1, 0, none⟩ = some (.slice p2 b.length c2) ∧ w'.cell? ⟨w.heap.size + 1, 1, none⟩ = some (.int .i64 g) ∧ Kp w w')
      (first | with_reducible exact ⟨put4_cell (keep_cell (((Kp.refl wy).drew.step hbA).step hbB).out a0) hnea _ _ _ _, put4_cell (keep_cell (((Kp.refl wy).drew.step hbA).step hbB).out a1) hnea _ _ _ _, put4_cell (keep_cell (((Kp.refl wy).drew.step hbA).step hbB).out a2) hnea _ _ _ _, put4_cell (keep_cell (((Kp.refl wy).drew.step hbA).step hbB).out b0) hneb _ _ _ _, put4_cell (keep_cell (((Kp.refl wy).drew.step hbA).step hbB).out b1) hneb _ _ _ _, ((KY.drew.step hbA).step hbB).put4 hleb _ _ _ _⟩ | with_reducible exact ⟨keep_cell (((Kp.refl wy).drew.step hbA).step hbB).out a0, keep_cell (((Kp.refl wy).drew.step hbA).step hbB).out a1, keep_cell (((Kp.refl wy).drew.step hbA).step hbB).out a2, keep_cell (((Kp.refl wy).drew.step hbA).step hbB).out b0, keep_cell (((Kp.refl wy).drew.step hbA).step hbB).out b1, ((KY.drew.step hbA).step hbB)⟩ | with_reducible exact ⟨keep_cell ((Kp.refl wy).drew.step hbA).out a0, keep_cell ((Kp.refl wy).drew.step hbA).out a1, keep_cell ((Kp.refl wy).drew.step hbA).out a2, keep_cell ((Kp.refl wy).drew.step hbA).out b0, keep_cell ((Kp.refl wy).drew.step hbA).out b1, (KY.drew.step hbA)⟩ | with_reducible exact ⟨keep_cell (Kp.refl wy).drew.out a0, keep_cell (Kp.refl wy).drew.out a1, keep_cell (Kp.refl wy).drew.out a2, keep_cell (Kp.refl wy).drew.out b0, keep_cell (Kp.refl wy).drew.out b1, KY.drew⟩)
      (first
        | (go_at_call 97; ((with_reducible refine (HX.out _ ?hq).mono ?_); (case hq => exact (Kp.refl wy).drew); rintro x w2 ⟨sl2, os, f, rfl, hs2, hin2, hd2, ⟨hf1, hf2, hn2⟩, hbA⟩; obtain ⟨pp2, cc2, rfl⟩ := hs2.formMap; have HF1 := Lib.hid hf1; have HF2 := Lib.hid hf2; have HN2 := Lib.hid hn2; clear hf1 hf2 hn2))
        | (go_at_call 93; ((with_reducible refine (HM.out _ ?hq _ _ _ hs2 hin2 hd2 ?h1 ?h2).mono ?_); (case hq => exact ((Kp.refl wy).drew.step hbA)); (case h1 => exact HF1.out); (case h2 => exact HF2.out); rintro x w3 ⟨o3, hwv, v3, rfl, hv3, hbB⟩; obtain ⟨p3, n3, c3, e3, neg3, none3, rfl⟩ := hv3.form; have hres := keep_block hbB (keep_block hbA HK.out); obtain ⟨q0, q1, q2, q3, f0, f1, f2, f3⟩ := res4_facts hres)))
    go_wp2_with fail
    obtain ⟨u0, u1, u2, u3⟩ := put4_facts hres (.slice p3 n3 c3) (.int .i64 e3) (.bool neg3) (.bool none3)
    refine bodyPost_ret (v := .agg #[.slice p3 n3 c3, .int .i64 e3, .bool neg3, .bool none3]) (by simp [results, Tryd.results90, go_sem, u0, u1, u2, u3]) rfl ?_
    have hss := HSZ.out
    have hs9 : wn.heap.size ≤ wy.drew.heap.size := HBS.out
    exact ⟨o3, by rw [nv_sgn (sg ng) (sg mg) HSG.out b g, ← Rat.sub_eq_add_neg, ← HN2.out]; exact hwv, _, rfl, (WNum.fresh (w := w) hv3 (by omega) _ _ _ _).mono (fun b h => by omega), (((KY.drew.step hbA).step hbB).put4 hleb _ _ _ _)⟩

end Go.Proofs.YtiihokgjplpceaaDoor
end

section
/- Package whole, walked: Add of any two; Sub, Cmp. -/
namespace Go.Proofs.YtiihokgjplpceaaDoor
open Go.RowKit TV
set_option linter.unusedVariables false

theorem wAdd_calls {P : Nat → Prop} {w : World} {va vb : Value} {oa ob : Option Rat} (ha : WNum P w va oa) (hb : WNum P w vb ob) (ht : TabOk w) :
    Calls Tryd.prog 90 #[va, vb] w fun x w' => ∃ o, addO oa ob o ∧ RetW (fun b => P b ∨ w.heap.size ≤ b) o w x w' := by
  have up : ∀ {Q : Nat → Prop} {o : Option Rat} {x : Ending} {w' : World}, (∀ b, Q b → P b ∨ w.heap.size ≤ b) → RetW Q o w x w' → RetW (fun b => P b ∨ w.heap.size ≤ b) o w x w' := fun h ⟨v, h1, h2, h3⟩ => ⟨v, h1, h2.mono h, h3⟩
  cases oa with
  | none =>
    cases ha
    exact (add_none_a vb ob hb).mono fun x w' h => ⟨none, by unfold addO; split <;> simp_all, up (fun b h => Or.inl h) h⟩
  | some p =>
    cases ob with
    | none =>
      cases hb
      exact (add_none_b va p ha).mono fun x w' h => ⟨none, by unfold addO; rfl, up (fun b h => Or.inl h) h⟩
    | some q =>
      have ha0 := ha
      have hb0 := hb
      obtain ⟨sl, a, e, ng, rfl, hs, hPa, hp, hokp, ca⟩ := ha
      obtain ⟨sm, b, g, mg, rfl, hv, hPb, hq, hokq, cb⟩ := hb
      rcases ca with ⟨rfl, rfl, rfl, rfl⟩ | ⟨ma, ea⟩
      · have hp0 : p = 0 := by rw [hp]; simp [W.nv, W.dval]
        exact (add_zero_a q _ hb0).mono fun x w' h => ⟨some q, by show WvOf (p + q) (some q); rw [hp0, Rat.zero_add]; exact ⟨fun _ => rfl, fun h => absurd hokq h⟩, up (fun b h => Or.inl h) h⟩
      · rcases cb with ⟨rfl, rfl, rfl, rfl⟩ | ⟨mb, eb⟩
        · have hq0 : q = 0 := by rw [hq]; simp [W.nv, W.dval]
          exact (add_zero_b p sl a e ng hs ha0 ma.len).mono fun x w' h => ⟨some p, by show WvOf (p + q) (some p); rw [hq0, Rat.add_zero]; exact ⟨fun _ => rfl, fun h => absurd hokp h⟩, up (fun b h => Or.inl h) h⟩
        · obtain ⟨p1, c1, rfl⟩ := hs.formMap
          obtain ⟨p2, c2, rfl⟩ := hv.formMap
          by_cases hn : ng = mg
          · subst hn
            exact (add_same a b e g p1 p2 c1 c2 ng hs hv ma mb ea eb ht).mono fun x w' ⟨o, h1, h2⟩ => ⟨o, by show WvOf (p + q) o; rw [hp, hq]; exact h1, up (fun b h => Or.inr h) h2⟩
          · exact (add_diff a b e g p1 p2 c1 c2 ng mg (by cases ng <;> cases mg <;> simp_all) hs hv ma mb ea eb ht).mono fun x w' ⟨o, h1, h2⟩ => ⟨o, by show WvOf (p + q) o; rw [hp, hq]; exact h1, up (fun b h => Or.inr h) h2⟩

theorem high_neg {q : Rat} {h : Int} (hh : HighOf q h) : HighOf (-q) h := by
  rcases hh with h1 | h1
  · right; rw [Rat.neg_neg]; exact h1
  · left; exact h1
theorem low_neg {q : Rat} {l : Int} (h : LowOf q l) : LowOf (-q) l := by
  obtain ⟨m, h1, h2⟩ := h
  exact ⟨-m, by omega, by rw [h2, Rat.intCast_neg, Rat.neg_mul]⟩
theorem okR_neg {q : Rat} (h : OkR q) : OkR (-q) := by
  rcases h with h | ⟨a, b, h1, h2, h3, h4⟩
  · left; rw [h]; rfl
  · exact Or.inr ⟨a, b, high_neg h1, low_neg h2, h3, h4⟩

theorem wNeg_num {P : Nat → Prop} {w : World} {vb : Value} {ob : Option Rat} (hb : WNum P w vb ob) :
    Calls Tryd.prog 92 #[vb] w (RetW P (ob.map fun q => -q) w) := by
  cases ob with
  | none =>
    cases hb
    exact (wNeg_calls none 0 0 0 false true w).mono fun x w' ⟨h1, h2⟩ => ⟨_, h1, rfl, h2⟩
  | some q =>
    obtain ⟨sl, ds, e, ng, rfl, hs, hP, hq, hok, cc⟩ := hb
    obtain ⟨p, c, rfl⟩ := hs.formMap
    refine (wNeg_calls p ds.length c e ng false w).mono fun x w' ⟨h1, h2⟩ => ⟨_, h1, ⟨_, ds, e, _, rfl, hs.keep h2, hP, ?_, okR_neg hok, ?_⟩, h2⟩
    · rcases cc with ⟨rfl, rfl, rfl, h⟩ | ⟨hm, -⟩
      · rw [hq]; simp [W.nv, W.dval]
      · rw [hq, decide_eq_true hm.len, Bool.and_true]
        exact (nv_sgn (sg ng) (sg (!ng)) (by cases ng <;> rfl) ds e).symm
    · rcases cc with ⟨rfl, rfl, rfl, h⟩ | h
      · left; exact ⟨rfl, rfl, by simp, h⟩
      · exact Or.inr h

set_option maxHeartbeats 8000000 in
theorem wSub_calls {P : Nat → Prop} {w : World} {va vb : Value} {oa ob : Option Rat} (ha : WNum P w va oa) (hb : WNum P w vb ob) (ht : TabOk w) :
    Calls Tryd.prog 88 #[va, vb] w fun x w' => ∃ o, addO oa (ob.map fun q => -q) o ∧ RetW (fun b => P b ∨ w.heap.size ≤ b) o w x w' := by
  obtain ⟨p1, n1, c1, e1, neg1, none1, rfl⟩ := ha.form
  obtain ⟨p2, n2, c2, e2, neg2, none2, rfl⟩ := hb.form
  obtain ⟨wn, hwn, hW, hsz, k0, k1, k2⟩ := boxes_res w (.cells #[.slice p1 n1 c1, .int .i64 e1, .bool neg1, .bool none1] 89) (.cells #[.slice p2 n2 c2, .int .i64 e2, .bool neg2, .bool none2] 89) (.cells #[.slice none 0 0, .int .i64 0, .bool false, .bool false] 89)
  obtain ⟨a0, a1, a2, a3, -, -, -, -⟩ := res4_facts k0
  obtain ⟨b0, b1, b2, b3, -, -, -, -⟩ := res4_facts k1
  have HN := Lib.hid (fun (Y : World) (h : Kp wn Y) => wNeg_num ((hb.lt.keep hW).keep h.out))
  have HD := Lib.hid (fun (Y : World) (h : Kp wn Y) (v : Value) (hv : WNum (fun b => P b ∧ b < w.heap.size) Y v (ob.map fun q => -q)) => wAdd_calls ((ha.lt.keep hW).keep h.out) hv ((ht.keep hW).keep h.out))
  have HK := Lib.hid k2
  have HSZ := Lib.hid hsz
  have KW : Kp w wn := hW
  have hleb : w.heap.size ≤ w.heap.size + 1 + 1 := by omega
  have hnea : w.heap.size ≠ w.heap.size + 1 + 1 := by omega
  have hneb : w.heap.size + 1 ≠ w.heap.size + 1 + 1 := by omega
  clear ha hb ht hW hsz k0 k1 k2
  go_enter Tryd.func88, Tryd.ntmps88
  go_wp2_with fail
  rw [← hwn]
  clear hwn
  go_region_held3 (fun w' => w'.cell? ⟨w.heap.size, 0, none⟩ = some (.slice p1 n1 c1) ∧ w'.cell? ⟨w.heap.size, 1, none⟩ = some (.int .i64 e1) ∧ w'.cell? ⟨w.heap.size, 2, none⟩ = some (.bool neg1) ∧ w'.cell? ⟨w.heap.size, 3, none⟩ = some (.bool none1) ∧ w'.cell? ⟨w.heap.size + 1, 0, none⟩ = some (.slice p2 n2 c2) ∧ w'.cell? ⟨w.heap.size + 1, 1, none⟩ = some (.int .i64 e2) ∧ w'.cell? ⟨w.heap.size + 1, 2, none⟩ = some (.bool neg2) ∧ w'.cell? ⟨w.heap.size + 1, 3, none⟩ = some (.bool none2) ∧ Kp w w')
    (first | with_reducible exact ⟨put4_cell (keep_cell (((Kp.refl wn).drew.step hbA).step hbB).out a0) hnea _ _ _ _, put4_cell (keep_cell (((Kp.refl wn).drew.step hbA).step hbB).out a1) hnea _ _ _ _, put4_cell (keep_cell (((Kp.refl wn).drew.step hbA).step hbB).out a2) hnea _ _ _ _, put4_cell (keep_cell (((Kp.refl wn).drew.step hbA).step hbB).out a3) hnea _ _ _ _, put4_cell (keep_cell (((Kp.refl wn).drew.step hbA).step hbB).out b0) hneb _ _ _ _, put4_cell (keep_cell (((Kp.refl wn).drew.step hbA).step hbB).out b1) hneb _ _ _ _, put4_cell (keep_cell (((Kp.refl wn).drew.step hbA).step hbB).out b2) hneb _ _ _ _, put4_cell (keep_cell (((Kp.refl wn).drew.step hbA).step hbB).out b3) hneb _ _ _ _, ((KW.drew.step hbA).step hbB).put4 hleb _ _ _ _⟩ | with_reducible exact ⟨keep_cell (((Kp.refl wn).drew.step hbA).step hbB).out a0, keep_cell (((Kp.refl wn).drew.step hbA).step hbB).out a1, keep_cell (((Kp.refl wn).drew.step hbA).step hbB).out a2, keep_cell (((Kp.refl wn).drew.step hbA).step hbB).out a3, keep_cell (((Kp.refl wn).drew.step hbA).step hbB).out b0, keep_cell (((Kp.refl wn).drew.step hbA).step hbB).out b1, keep_cell (((Kp.refl wn).drew.step hbA).step hbB).out b2, keep_cell (((Kp.refl wn).drew.step hbA).step hbB).out b3, ((KW.drew.step hbA).step hbB)⟩ | with_reducible exact ⟨keep_cell ((Kp.refl wn).drew.step hbA).out a0, keep_cell ((Kp.refl wn).drew.step hbA).out a1, keep_cell ((Kp.refl wn).drew.step hbA).out a2, keep_cell ((Kp.refl wn).drew.step hbA).out a3, keep_cell ((Kp.refl wn).drew.step hbA).out b0, keep_cell ((Kp.refl wn).drew.step hbA).out b1, keep_cell ((Kp.refl wn).drew.step hbA).out b2, keep_cell ((Kp.refl wn).drew.step hbA).out b3, (KW.drew.step hbA)⟩ | with_reducible exact ⟨keep_cell (Kp.refl wn).drew.out a0, keep_cell (Kp.refl wn).drew.out a1, keep_cell (Kp.refl wn).drew.out a2, keep_cell (Kp.refl wn).drew.out a3, keep_cell (Kp.refl wn).drew.out b0, keep_cell (Kp.refl wn).drew.out b1, keep_cell (Kp.refl wn).drew.out b2, keep_cell (Kp.refl wn).drew.out b3, KW.drew⟩)
    (first
      | (go_at_call 92; ((with_reducible refine (HN.out _ ?hq).mono ?_); (case hq => exact (Kp.refl wn).drew); rintro x w2 ⟨v2, rfl, hv2, hbA⟩; obtain ⟨p4, n4, c4, e4, neg4, none4, rfl⟩ := hv2.form))
      | (go_at_call 90; ((with_reducible refine (HD.out _ ?hq _ hv2).mono ?_); (case hq => exact ((Kp.refl wn).drew.step hbA)); rintro x w3 ⟨o3, hwv, v3, rfl, hv3, hbB⟩; obtain ⟨p3, n3, c3, e3, neg3, none3, rfl⟩ := hv3.form; have hres := keep_block hbB (keep_block hbA HK.out); obtain ⟨q0, q1, q2, q3, f0, f1, f2, f3⟩ := res4_facts hres)))
  go_wp2_with fail
  obtain ⟨u0, u1, u2, u3⟩ := put4_facts hres (.slice p3 n3 c3) (.int .i64 e3) (.bool neg3) (.bool none3)
  refine bodyPost_ret (v := .agg #[.slice p3 n3 c3, .int .i64 e3, .bool neg3, .bool none3]) (by simp [results, Tryd.results88, go_sem, u0, u1, u2, u3]) rfl ?_
  have hss := HSZ.out
  have hs9 : wn.heap.size ≤ w2.heap.size := hbA.size
  exact ⟨o3, hwv, _, rfl, (hv3.put4 (b := w.heap.size + 1 + 1) (fun h => by rcases h with h | h <;> omega) _ _ _ _).mono (fun b h => by rcases h with h | h; exact Or.inl h.1; exact Or.inr (by omega)), ((KW.drew.step hbA).step hbB).put4 hleb _ _ _ _⟩

/-- How two stand to each other, as package whole has it. -/
def cmpO (o : Option Rat) : Int := match o with | some q => rs q | none => 0
theorem wSign_num {P : Nat → Prop} {w : World} {vb : Value} {ob : Option Rat} (hb : WNum P w vb ob) :
    Calls Tryd.prog 86 #[vb] w fun x w' => x = .returned (.int .i64 (cmpO ob)) ∧ Below w.heap.size w w' := by
  cases ob with
  | none => cases hb; exact wSign_calls none 0 0 0 false true w
  | some q =>
    obtain ⟨sl, ds, e, ng, rfl, hs, hP, hq, hok, cc⟩ := hb
    obtain ⟨p, c, rfl⟩ := hs.formMap
    have : cmpO (some q) = if ds.length = 0 then 0 else if ng then -1 else 1 := by
      show rs q = _
      rcases cc with ⟨rfl, rfl, rfl, h⟩ | ⟨hm, -⟩
      · rw [hq]; simp [W.nv, W.dval, rs]
      · rw [if_neg (by have := hm.len; omega), hq]
        have hd : 0 < W.dval ds := W.dval_pos hm.dok (i := 0) (by have := hm.first; have := hm.dok 0; omega)
        have hpos : (0 : Rat) < ((W.dval ds : Int) : Rat) * (2 : Rat) ^ (32 * e) := Rat.mul_pos (by exact_mod_cast hd) (two_zpow_pos _)
        unfold W.nv
        cases ng
        · simp only [sg, Bool.false_eq_true, if_false, Int.one_mul]
          unfold rs
          rw [if_neg (Rat.not_lt.2 (Rat.le_of_lt hpos)), if_neg (fun h => by rw [h] at hpos; exact absurd hpos (by decide))]
        · simp only [sg, if_true, Int.neg_mul, Int.one_mul, Rat.intCast_neg, Rat.neg_mul]
          unfold rs
          rw [if_pos (by generalize ((W.dval ds : Int) : Rat) * (2 : Rat) ^ (32 * e) = z at *; grind)]
    rw [this]
    exact wSign_calls p ds.length c e ng false w

end Go.Proofs.YtiihokgjplpceaaDoor
end

section
/- Package whole, walked: Cmp. -/
namespace Go.Proofs.YtiihokgjplpceaaDoor
open Go.RowKit TV
set_option linter.unusedVariables false

end Go.Proofs.YtiihokgjplpceaaDoor
end
