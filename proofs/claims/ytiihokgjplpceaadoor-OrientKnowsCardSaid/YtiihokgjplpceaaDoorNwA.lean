/- Texts of one kind, joined. -/
import Derived.Test.YtiihokgjplpceaaDoorWhCD
import Derived.Test.YtiihokgjplpceaaDoorWkM

section
/- Package whole, walked: trimmed. -/
namespace Go.Proofs.YtiihokgjplpceaaDoor
open Go.RowKit TV
set_option linter.unusedVariables false

theorem res2_facts {w : World} {b : Nat} {T : TypeId} {c0 c1 : Value} (h : w.heap[b]? = some (.cells #[c0, c1] T (0, 0))) :
    w.cell? ⟨b, 0, none⟩ = some c0 ∧ w.cell? ⟨b, 1, none⟩ = some c1 ∧ w.frozen? ⟨b, 0, none⟩ = false ∧ w.frozen? ⟨b, 1, none⟩ = false :=
  ⟨cell_of_block h 0, cell_of_block h 1, frozen_of_block h 0, frozen_of_block h 1⟩
theorem put2_facts {w : World} {b : Nat} {T : TypeId} {c0 c1 : Value} (h : w.heap[b]? = some (.cells #[c0, c1] T (0, 0))) (u0 u1 : Value) :
    ((w.setCell ⟨b, 0, none⟩ u0).setCell ⟨b, 1, none⟩ u1).cell? ⟨b, 0, none⟩ = some u0 ∧ ((w.setCell ⟨b, 0, none⟩ u0).setCell ⟨b, 1, none⟩ u1).cell? ⟨b, 1, none⟩ = some u1 := by
  have hF := setCell_block (setCell_block h 0 u0) 1 u1
  exact ⟨(cell_of_block hF 0).trans (by simp), (cell_of_block hF 1).trans (by simp)⟩

def TrimW (sl : Value) (ds : List Int) (e : Int) (w : World) (x : Ending) (w' : World) : Prop :=
  ∃ sl' ds' e', x = .returned (.agg #[sl', .int .i64 e']) ∧ Sl w' sl' (ds'.map (Value.int .u32)) ∧ Below w.heap.size w w' ∧ W.TrimOf 1 ds e (if ds' = [] then 0 else 1) ds' e' ∧ ∀ P, In P sl → In P sl'

theorem trimmed_calls (e : Int) (sl : Value) (ds : List Int) (w : World) (hs : Sl w sl (ds.map (Value.int .u32))) (he : -1000000000 ≤ e) (he2 : e + ds.length ≤ 1000000000) :
    Calls Tryd.prog 99 #[.agg #[sl, .int .i64 e]] w (TrimW sl ds e w) := by
  have hS := Lib.hid hs
  have hW : ∀ v : Value, Below w.heap.size w ((w.alloc (.cells #[v, .int .i64 e] 87)).alloc (.cells #[.slice none 0 0, .int .i64 0] 87)) := fun v => ((Below.refl w.heap.size w).alloc (Nat.le_refl _) _).alloc (by simp) _
  have hA : ∀ v : Value, ((w.alloc (.cells #[v, .int .i64 e] 87)).alloc (.cells #[.slice none 0 0, .int .i64 0] 87)).heap[w.heap.size]? = some (.cells #[v, .int .i64 e] 87 (0, 0)) := fun v => (Below.heap_alloc _ _ _ (by simp)).trans (heap_alloc_new w _)
  have hB : ∀ v : Value, ((w.alloc (.cells #[v, .int .i64 e] 87)).alloc (.cells #[.slice none 0 0, .int .i64 0] 87)).heap[w.heap.size + 1]? = some (.cells #[.slice none 0 0, .int .i64 0] 87 (0, 0)) := fun v => by
    have := heap_alloc_new (w.alloc (.cells #[v, .int .i64 e] 87)) (.cells #[.slice none 0 0, .int .i64 0] 87)
    simpa using this
  have HWW := Lib.hid hW
  have HWA := Lib.hid hA
  have HWB := Lib.hid hB
  clear hW hA hB
  rcases hs with ⟨rfl, hx⟩ | ⟨b, o, cap, rfl, h2, h3, h4⟩
  · have : ds = [] := by simpa using hx
    subst this
    clear hS
    go_enter Tryd.func99, Tryd.ntmps99
    go_wp2_with fail
    obtain ⟨wz, hwz⟩ : ∃ z, z = (w.alloc (.cells #[.slice none 0 0, .int .i64 e] 87)).alloc (.cells #[.slice none 0 0, .int .i64 0] 87) := ⟨_, rfl⟩
    have HB := Lib.hid (HWW.out (.slice none 0 0))
    have hA := HWA.out (.slice none 0 0)
    have hR := HWB.out (.slice none 0 0)
    rw [← hwz] at HB hA hR
    have x0 : wz.cell? ⟨w.heap.size, 0, none⟩ = some (.slice none 0 0) := cell_of_block hA 0
    rw [← hwz]
    clear hwz hA
    go_quiet (fail)
    obtain ⟨wy, hwy⟩ : ∃ z, z = wz.drewN nq := ⟨_, rfl⟩
    have hby : Below wz.heap.size wz wy := by rw [hwy]; exact bl_drewN (Below.refl _ _) _
    have HB := Lib.hid (HB.out.trans (hby.mono HB.out.size))
    have hR := keep_block hby hR
    rw [← hwy]
    clear hwy hby
    obtain ⟨r0, r1, f0, f1⟩ := res2_facts hR
    obtain ⟨g0, g1⟩ := put2_facts hR (.slice none 0 0) (.int .i64 0)
    go_wp2_with fail
    go_loop [4] (fun l => l = .int .i64 0) (fun _ => 0)
    case atStart => rfl
    case round =>
      subst hrel
      go_wp2_with fail
      go_loop [3] (fun l => l = .int .i64 0) (fun _ => 0)
      case atStart => rfl
      case round =>
        subst hrel
        go_wp2_with fail
        refine bodyPost_ret (v := .agg #[.slice none 0 0, .int .i64 0]) (by simp [results, Tryd.results99, go_sem, g0, g1]) rfl ?_
        exact ⟨_, [], 0, rfl, Or.inl ⟨rfl, rfl⟩, (HB.out.setCell (by simp) _).setCell (by simp) _, Or.inl ⟨rfl, rfl, rfl, fun i => rfl⟩, fun _ _ => In.nil⟩
  · simp only [List.length_map] at *
    have h4' : ∀ i (h : i < ds.length), w.cell? ⟨b, o + i, none⟩ = some (.int .u32 ds[i]) := fun i h => by
      have := h4 i (by simpa using h); rwa [List.getElem_map] at this
    have h4 := Lib.hid h4'
    clear h4'
    obtain ⟨wz, hwz⟩ : ∃ z, z = (w.alloc (.cells #[.slice (some ⟨b, o, none⟩) ds.length cap, .int .i64 e] 87)).alloc (.cells #[.slice none 0 0, .int .i64 0] 87) := ⟨_, rfl⟩
    have hbz := HWW.out (.slice (some ⟨b, o, none⟩) ds.length cap)
    have hA := HWA.out (.slice (some ⟨b, o, none⟩) ds.length cap)
    have hR := HWB.out (.slice (some ⟨b, o, none⟩) ds.length cap)
    rw [← hwz] at hbz hA hR
    have x0 : wz.cell? ⟨w.heap.size, 0, none⟩ = some (.slice (some ⟨b, o, none⟩) ds.length cap) := cell_of_block hA 0
    have x1 : wz.cell? ⟨w.heap.size, 1, none⟩ = some (.int .i64 e) := cell_of_block hA 1
    have HZ : Hid (∀ i (h : i < ds.length), wz.cell? ⟨b, o + i, none⟩ = some (.int .u32 ds[i])) := fun i h => keep_cell hbz (h4.out i h)
    have HB := Lib.hid hbz
    have HR := Lib.hid hR
    clear hbz hA hR h4
    go_enter Tryd.func99, Tryd.ntmps99
    go_wp2_with fail
    rw [← hwz]
    clear hwz
    go_quiet (fail)
    obtain ⟨wy, hwy⟩ : ∃ z, z = wz.drewN nq := ⟨_, rfl⟩
    have hby : Below wz.heap.size wz wy := by rw [hwy]; exact bl_drewN (Below.refl _ _) _
    have x0 := keep_cell hby x0
    have x1 := keep_cell hby x1
    have HZ := Lib.hid (fun i (h : i < ds.length) => keep_cell hby (HZ.out i h))
    have HR := Lib.hid (keep_block hby HR.out)
    have HB := Lib.hid (HB.out.trans (hby.mono HB.out.size))
    rw [← hwy]
    clear hwy hby
    go_wp2_with fail
    go_loop [4] (fun l => ∃ m : Nat, m ≤ ds.length ∧ l = .int .i64 m ∧ ∀ i, m ≤ i → ds.getD i 0 = 0) (fun l => (intOf l).toNat)
    case atStart => exact ⟨ds.length, Nat.le_refl _, rfl, fun i hi => getD_of_ge hi⟩
    case round =>
      obtain ⟨m, hm, rfl, hz⟩ := hrel
      have hz' := Lib.hid hz
      clear hz
      by_cases h5 : 0 < m
      · have hc := HZ.out (m - 1) (by omega)
        have b2 : (0 : Int) ≤ (m : Int) - 1 := by omega
        have b3 : (m : Int) - 1 < (ds.length : Int) := by omega
        have b4 : ((m : Int) - 1).toNat = m - 1 := by omega
        have b5 : (0 : Int) < m := by omega
        by_cases h6 : ds[m - 1] = 0
        · rw [h6] at hc
          go_wp2_with fail
          go_round
          case rel => exact ⟨m - 1, by omega, by congr 1; omega, fun i hi => by
            by_cases e : i = m - 1
            · rw [e, getD_of_lt (by omega)]; exact h6
            · exact hz'.out i (by omega)⟩
          case measure => simp [intOf]; omega
        · have h66 : (ds[m - 1] == 0) = false := by simpa using h6
          go_wp2_with fail
          go_loop [3] (fun l => ∃ j : Nat, j < m ∧ l = .int .i64 j ∧ ∀ i, i < j → ds.getD i 0 = 0) (fun l => m - (intOf l).toNat)
          case atStart => exact ⟨0, h5, rfl, fun i hi => by omega⟩
          case round =>
            obtain ⟨j, hj, rfl, hy⟩ := hrel
            have hy' := Lib.hid hy
            clear hy hc b2 b3 b4
            have hc := HZ.out j (by omega)
            have b2 : (0 : Int) ≤ (j : Int) := by omega
            have b3 : (j : Int) < (ds.length : Int) := by omega
            have b6 : (j : Int) < m := by omega
            by_cases h7 : ds[j] = 0
            · rw [h7] at hc
              have hne : j ≠ m - 1 := by intro he; subst he; exact h6 h7
              go_wp2_with fail
              go_round
              case rel => exact ⟨j + 1, by omega, by congr 1, fun i hi => by
                by_cases e : i = j
                · subst e; rw [getD_of_lt (by omega)]; exact h7
                · exact hy'.out i (by omega)⟩
              case measure => simp [intOf]; omega
            · have h77 : (ds[j] == 0) = false := by simpa using h7
              have b7 : ((j : Int) == (m : Int)) = false := by simp; omega
              obtain ⟨r0, r1, f0, f1⟩ := res2_facts HR.out
              obtain ⟨g0, g1⟩ := put2_facts HR.out (.slice (some ⟨b, o + j, none⟩) (m - j) (cap - j)) (.int .i64 (e + j))
              have c1 : (j : Int) ≤ (m : Int) := by omega
              have c2 : (m : Int) ≤ (cap : Int) := by omega
              have c3 : (m : Int) ≤ (ds.length : Int) := by omega
              have c4 : IntKind.i64.wrap (e + (j : Int)) = e + (j : Int) := IntWalk.i64_in _ (by omega)
              have c5 : ((m : Int) - (j : Int)).toNat = m - j := by omega
              go_wp2_with fail
              go_region
              have hB := HB.out
              have hBf : Below w.heap.size w (((wy.setCell ⟨w.heap.size + 1, 0, none⟩ (.slice (some ⟨b, o + j, none⟩) (m - j) (cap - j))).setCell ⟨w.heap.size + 1, 1, none⟩ (.int .i64 (e + (j : Int)))).drew) := ((hB.setCell (by simp) _).setCell (by simp) _).drew
              have HBF := Lib.hid hBf
              clear hB hBf
              go_wp2_with fail
              refine bodyPost_ret (v := .agg #[.slice (some ⟨b, o + j, none⟩) (m - j) (cap - j), .int .i64 (e + (j : Int))]) (by simp [results, Tryd.results99, go_sem, g0, g1]) rfl ?_
              have hne : (ds.drop j).take (m - j) ≠ [] := by
                intro he
                have := congrArg List.length he
                rw [List.length_take, List.length_drop] at this
                simp at this
                omega
              refine ⟨_, (ds.drop j).take (m - j), e + j, rfl, (hS.out.keep HBF.out).sub hj hm, HBF.out, ?_, fun P hP => In.mk (a := ⟨b, o + j, none⟩) (show P b from In.of hP)⟩
              rw [if_neg hne]
              exact Or.inr ⟨rfl, j, m, hj, hm, rfl, rfl, hy'.out, hz'.out, by rw [getD_of_lt (by omega)]; exact h7, by rw [getD_of_lt (by omega)]; exact h6⟩
      · obtain rfl : m = 0 := by omega
        go_wp2_with fail
        go_loop [3] (fun l => l = .int .i64 0) (fun _ => 0)
        case atStart => rfl
        case round =>
          subst hrel
          obtain ⟨r0, r1, f0, f1⟩ := res2_facts HR.out
          obtain ⟨g0, g1⟩ := put2_facts HR.out (.slice none 0 0) (.int .i64 0)
          go_wp2_with fail
          refine bodyPost_ret (v := .agg #[.slice none 0 0, .int .i64 0]) (by simp [results, Tryd.results99, go_sem, g0, g1]) rfl ?_
          exact ⟨_, [], 0, rfl, Or.inl ⟨rfl, rfl⟩, (HB.out.setCell (by simp) _).setCell (by simp) _, Or.inl ⟨rfl, rfl, rfl, fun i => hz'.out i (Nat.zero_le _)⟩, fun _ _ => In.nil⟩
end Go.Proofs.YtiihokgjplpceaaDoor
end

section
/- Package whole: which numbers it keeps. Plain numbers. -/
namespace TV

theorem zpow_le {a b : Int} (h : a ≤ b) : (2 : Rat) ^ a ≤ (2 : Rat) ^ b := by
  obtain ⟨n, rfl⟩ : ∃ n : Nat, b = a + n := ⟨(b - a).toNat, by omega⟩
  rw [two_zpow_add, two_zpow_nat]
  have h1 : (1 : Rat) ≤ ((2 ^ n : Nat) : Rat) := by exact_mod_cast Nat.one_le_two_pow
  have h2 := Rat.mul_le_mul_of_nonneg_left h1 (Rat.le_of_lt (two_zpow_pos a))
  rwa [Rat.mul_one] at h2

theorem HighOf.uniq {q : Rat} {a b : Int} (ha : HighOf q a) (hb : HighOf q b) : a = b := by
  have key : ∀ {q : Rat} {a b : Int}, (2 : Rat) ^ a ≤ q → q < (2 : Rat) ^ (a + 1) → (2 : Rat) ^ b ≤ q → q < (2 : Rat) ^ (b + 1) → a = b := by
    intro q a b h1 h2 h3 h4
    apply Classical.byContradiction
    intro hne
    rcases Int.lt_or_gt_of_ne hne with h | h
    · have := zpow_le (show a + 1 ≤ b by omega)
      exact absurd (Rat.le_trans this h3) (Rat.not_le.2 h2)
    · have := zpow_le (show b + 1 ≤ a by omega)
      exact absurd (Rat.le_trans this h1) (Rat.not_le.2 h4)
  have pos : ∀ {q : Rat} {a : Int}, (2 : Rat) ^ a ≤ q → 0 < q := fun {q a} h => by have hp := two_zpow_pos a; generalize (2 : Rat) ^ a = u at *; grind
  rcases ha with ⟨h1, h2⟩ | ⟨h1, h2⟩ <;> rcases hb with ⟨h3, h4⟩ | ⟨h3, h4⟩
  · exact key h1 h2 h3 h4
  · have := pos h1; have := pos h3; grind
  · have := pos h1; have := pos h3; grind
  · exact key h1 h2 h3 h4

theorem LowOf.uniq {q : Rat} {a b : Int} (ha : LowOf q a) (hb : LowOf q b) : a = b := by
  have key : ∀ {a b m n : Int}, m % 2 = 1 → (m : Rat) * (2 : Rat) ^ a = (n : Rat) * (2 : Rat) ^ b → ¬ a < b := by
    intro a b m n hm e hlt
    obtain ⟨t, rfl⟩ : ∃ t : Nat, b = (t + 1 : Nat) + a := ⟨(b - a - 1).toNat, by omega⟩
    rw [two_zpow_add, two_zpow_nat, ← Rat.mul_assoc] at e
    have hp := two_zpow_pos a
    have hne : (2 : Rat) ^ a ≠ 0 := fun h => by rw [h] at hp; exact absurd hp (by decide)
    have e2 : (m : Rat) = (n : Rat) * ((2 ^ (t + 1) : Nat) : Rat) := by
      generalize (2 : Rat) ^ a = u at *
      grind
    have e3 : (m : Rat) = ((n * 2 ^ (t + 1) : Int) : Rat) := by rw [e2]; push_cast; rfl
    have e4 : m = n * 2 ^ (t + 1) := by exact_mod_cast e3
    rw [Int.pow_succ, ← Int.mul_assoc] at e4
    omega
  obtain ⟨m, hm, e1⟩ := ha
  obtain ⟨n, hn, e2⟩ := hb
  have h1 := key hm (e1.symm.trans e2)
  have h2 := key hn (e2.symm.trans e1)
  omega

/-- May package whole keep it? -/
def OkR (q : Rat) : Prop := q = 0 ∨ ∃ h l : Int, HighOf q h ∧ LowOf q l ∧ h ≤ 65536 ∧ -65536 ≤ l
/-- What package whole keeps of a number: the number, or none. -/
def WvOf (q : Rat) (o : Option Rat) : Prop := (OkR q → o = some q) ∧ (¬ OkR q → o = none)

theorem HighOf.ne {q : Rat} {h : Int} (hh : HighOf q h) : q ≠ 0 := by
  intro h0
  have hp := two_zpow_pos h
  rcases hh with ⟨h1, -⟩ | ⟨h1, -⟩ <;> rw [h0] at h1 <;> grind
theorem wv_zero : WvOf 0 (some 0) := ⟨fun _ => rfl, fun h => absurd (Or.inl rfl) h⟩
theorem wv_some {q : Rat} {h l : Int} (hh : HighOf q h) (hl : LowOf q l) (h1 : h ≤ 65536) (h2 : -65536 ≤ l) : WvOf q (some q) := ⟨fun _ => rfl, fun hn => absurd (Or.inr ⟨h, l, hh, hl, h1, h2⟩) hn⟩
theorem wv_high {q : Rat} {h : Int} (hh : HighOf q h) (h1 : 65536 < h) : WvOf q none := ⟨fun hq => by
  rcases hq with h0 | ⟨h', l, a, -, c, -⟩
  · exact absurd h0 hh.ne
  · have := hh.uniq a; omega, fun _ => rfl⟩
theorem wv_low {q : Rat} {h l : Int} (hh : HighOf q h) (hl : LowOf q l) (h1 : l < -65536) : WvOf q none := ⟨fun hq => by
  rcases hq with h0 | ⟨h', l', -, a, -, c⟩
  · exact absurd h0 hh.ne
  · have := hl.uniq a; omega, fun _ => rfl⟩
theorem WvOf.ok {q p : Rat} (h : WvOf q (some p)) : p = q ∧ OkR q := by
  by_cases c : OkR q
  · have := h.1 c; cases this; exact ⟨rfl, c⟩
  · have := h.2 c; cases this
theorem WvOf.no {q : Rat} (h : WvOf q none) : ¬ OkR q := fun c => by have := h.1 c; cases this

end TV
end

section
/- Package whole, walked: made. -/
namespace Go.Proofs.YtiihokgjplpceaaDoor
open Go.RowKit TV
set_option linter.unusedVariables false

def sg (neg : Bool) : Int := if neg then -1 else 1
theorem sg_cases (neg : Bool) : sg neg = 1 ∨ sg neg = -1 := by cases neg <;> simp [sg]

/-- A number of package whole, as memory has it. -/
def WNum (P : Nat → Prop) (w : World) (v : Value) : Option Rat → Prop
  | none => v = .agg #[.slice none 0 0, .int .i64 0, .bool false, .bool true]
  | some q => ∃ sl ds e neg, v = .agg #[sl, .int .i64 e, .bool neg, .bool false] ∧ Sl w sl (ds.map (Value.int .u32)) ∧ In P sl ∧ q = W.nv (sg neg) ds e ∧ OkR q ∧
      ((ds = [] ∧ e = 0 ∧ neg = false ∧ sl = .slice none 0 0) ∨ (Mg ds e ∧ -2048 ≤ e ∧ e + ds.length ≤ 2049))
def RetW (P : Nat → Prop) (o : Option Rat) (w : World) (x : Ending) (w' : World) : Prop := ∃ v, x = .returned v ∧ WNum P w' v o ∧ Below w.heap.size w w'

theorem res4_facts {w : World} {b : Nat} {T : TypeId} {c0 c1 c2 c3 : Value} (h : w.heap[b]? = some (.cells #[c0, c1, c2, c3] T (0, 0))) :
    w.cell? ⟨b, 0, none⟩ = some c0 ∧ w.cell? ⟨b, 1, none⟩ = some c1 ∧ w.cell? ⟨b, 2, none⟩ = some c2 ∧ w.cell? ⟨b, 3, none⟩ = some c3 ∧
    w.frozen? ⟨b, 0, none⟩ = false ∧ w.frozen? ⟨b, 1, none⟩ = false ∧ w.frozen? ⟨b, 2, none⟩ = false ∧ w.frozen? ⟨b, 3, none⟩ = false :=
  ⟨cell_of_block h 0, cell_of_block h 1, cell_of_block h 2, cell_of_block h 3, frozen_of_block h 0, frozen_of_block h 1, frozen_of_block h 2, frozen_of_block h 3⟩
theorem put4_facts {w : World} {b : Nat} {T : TypeId} {c0 c1 c2 c3 : Value} (h : w.heap[b]? = some (.cells #[c0, c1, c2, c3] T (0, 0))) (u0 u1 u2 u3 : Value) :
    ((((w.setCell ⟨b, 0, none⟩ u0).setCell ⟨b, 1, none⟩ u1).setCell ⟨b, 2, none⟩ u2).setCell ⟨b, 3, none⟩ u3).cell? ⟨b, 0, none⟩ = some u0 ∧
    ((((w.setCell ⟨b, 0, none⟩ u0).setCell ⟨b, 1, none⟩ u1).setCell ⟨b, 2, none⟩ u2).setCell ⟨b, 3, none⟩ u3).cell? ⟨b, 1, none⟩ = some u1 ∧
    ((((w.setCell ⟨b, 0, none⟩ u0).setCell ⟨b, 1, none⟩ u1).setCell ⟨b, 2, none⟩ u2).setCell ⟨b, 3, none⟩ u3).cell? ⟨b, 2, none⟩ = some u2 ∧
    ((((w.setCell ⟨b, 0, none⟩ u0).setCell ⟨b, 1, none⟩ u1).setCell ⟨b, 2, none⟩ u2).setCell ⟨b, 3, none⟩ u3).cell? ⟨b, 3, none⟩ = some u3 := by
  have hF := setCell_block (setCell_block (setCell_block (setCell_block h 0 u0) 1 u1) 2 u2) 3 u3
  exact ⟨(cell_of_block hF 0).trans (by simp), (cell_of_block hF 1).trans (by simp), (cell_of_block hF 2).trans (by simp), (cell_of_block hF 3).trans (by simp)⟩
theorem bl_put4 {B b : Nat} {w w1 : World} (h : Below B w w1) (hb : B ≤ b) (u0 u1 u2 u3 : Value) : Below B w ((((w1.setCell ⟨b, 0, none⟩ u0).setCell ⟨b, 1, none⟩ u1).setCell ⟨b, 2, none⟩ u2).setCell ⟨b, 3, none⟩ u3) :=
  (((h.setCell hb _).setCell hb _).setCell hb _).setCell hb _

/-- A box for a magnitude and a cell for a number. -/
theorem box_num (w : World) (o0 o1 : Obj) : ∃ wn, wn = (w.alloc o0).alloc o1 ∧ Below w.heap.size w wn ∧ wn.heap.size = w.heap.size + 2 ∧ wn.heap[w.heap.size]? = some o0 ∧ wn.heap[w.heap.size + 1]? = some o1 := by
  have a0 := heap_alloc_new w o0
  have a1 := heap_alloc_new (w.alloc o0) o1
  simp only [World.size_alloc] at a1
  exact ⟨_, rfl, ((Below.refl w.heap.size w).alloc (Nat.le_refl _) _).alloc (by simp) _, by simp, (Below.heap_alloc _ _ _ (by simp)).trans a0, a1⟩

theorem trim_mg {ds ds1 : List Int} {e e1 : Int} (hd : W.Dok ds) (h : W.TrimOf 1 ds e 1 ds1 e1) (he : -1000000000 ≤ e) (he2 : e + ds.length ≤ 1000000000) : Mg ds1 e1 := by
  have h0 := h
  rcases h with ⟨h, -⟩ | ⟨-, j, m, h2, h3, h4, h7, h8, h9, h5, h6⟩
  · omega
  · have hp : 0 < W.dval ds := W.dval_pos hd (i := j) (by have := hd j; omega)
    obtain ⟨-, g1, g2, g3, g4⟩ := W.trim_ends hd hp h0
    have hl : ds1.length = m - j := by rw [h4, List.length_take, List.length_drop]; omega
    exact ⟨g4, by omega, by omega, g1, by omega, by omega⟩
theorem trim_sg {ds ds1 : List Int} {e e1 : Int} {s : Int} (h : W.TrimOf 1 ds e (if ds1 = [] then 0 else 1) ds1 e1) :
    (ds1 = [] ∧ e1 = 0 ∧ W.nv s ds e = 0) ∨ (ds1 ≠ [] ∧ W.TrimOf 1 ds e 1 ds1 e1 ∧ W.nv s ds1 e1 = W.nv s ds e) := by
  by_cases c : ds1 = []
  · rw [if_pos c] at h
    left
    rcases h with ⟨-, h2, h3, h4⟩ | ⟨h, -⟩
    · refine ⟨c, h3, ?_⟩
      have := W.trim_nv (s := s) (ds := ds) (e := e) (s' := 0) (ds' := []) (e' := 0) (Or.inl ⟨rfl, rfl, rfl, h4⟩)
      rw [← this]; simp [W.nv]
    · omega
  · rw [if_neg c] at h
    right
    refine ⟨c, h, ?_⟩
    rcases h with ⟨h, -⟩ | ⟨-, h⟩
    · omega
    · exact W.trim_nv (Or.inr ⟨rfl, h⟩)

theorem made_calls {P : Nat → Prop} (e : Int) (sl : Value) (ds : List Int) (neg : Bool) (w : World) (hs : Sl w sl (ds.map (Value.int .u32))) (hP : In P sl) (hd : W.Dok ds) (he : -1000000000 ≤ e) (he2 : e + ds.length ≤ 1000000000) (ht : TabOk w) :
    Calls Tryd.prog 93 #[.agg #[sl, .int .i64 e], .bool neg] w fun x w' => ∃ o, WvOf (W.nv (sg neg) ds e) o ∧ RetW P o w x w' := by
  obtain ⟨p, c, rfl⟩ := hs.formMap
  obtain ⟨wn, hwn, hW, hsz, k0, k1⟩ := box_num w (.cells #[.slice p ds.length c, .int .i64 e] 87) (.cells #[.slice none 0 0, .int .i64 0, .bool false, .bool false] 89)
  have HTR := Lib.hid (trimmed_calls e _ ds wn (hs.keep hW) he he2)
  have HT := Lib.hid (ht.keep hW)
  have ht0 := Lib.hid ht
  have HW := Lib.hid hW
  have HLT := Lib.hid hs.lt
  have HP := Lib.hid (fun (s1 : Value) (h : ∀ P, In P (.slice p ds.length c) → In P s1) => h P hP)
  clear hs ht hW hsz hP
  go_enter Tryd.func93, Tryd.ntmps93
  go_wp2_with fail
  rw [← hwn]
  clear hwn
  refine HTR.out.mono ?_
  rintro x w1 ⟨sl1, ds1, e1, rfl, hs1, hb1, htr, hin⟩
  have HW := Lib.hid (HW.out.trans (hb1.mono HW.out.size))
  have k0 := keep_block hb1 k0
  have k1 := keep_block hb1 k1
  have HT := Lib.hid (HT.out.keep hb1)
  have HP := Lib.hid (HP.out _ hin)
  have HLT := Lib.hid (hin _ HLT.out)
  obtain ⟨p1, c1, rfl⟩ := hs1.formMap
  obtain ⟨r0, r1, f0, f1⟩ := res2_facts k0
  have HK0 := Lib.hid k0
  have HK1 := Lib.hid k1
  have HS1 := Lib.hid hs1
  have HTR2 := Lib.hid htr
  clear k0 k1 hs1 htr hin hb1
  go_upto_region 2 with (fail)
  obtain ⟨g0, g1⟩ := put2_facts HK0.out (.slice p1 ds1.length c1) (.int .i64 e1)
  obtain ⟨wm, hwm⟩ : ∃ z, z = (w1.setCell ⟨w.heap.size, 0, none⟩ (.slice p1 ds1.length c1)).setCell ⟨w.heap.size, 1, none⟩ (.int .i64 e1) := ⟨_, rfl⟩
  have hbm : Below w.heap.size w wm := by rw [hwm]; exact (HW.out.setCell (by simp) _).setCell (by simp) _
  have k2 : wm.heap[w.heap.size + 1]? = some (.cells #[.slice none 0 0, .int .i64 0, .bool false, .bool false] 89 (0, 0)) := by
    rw [hwm, Below.heap_setCell _ _ _ _ (by simp), Below.heap_setCell _ _ _ _ (by simp)]; exact HK1.out
  rw [← hwm] at g0 g1 ⊢
  clear r0 r1 f0 f1
  have HM := Lib.hid hbm
  have HS := Lib.hid (show Sl wm (.slice p1 ds1.length c1) (ds1.map (Value.int .u32)) by rw [hwm]; exact (HS1.out.put HLT.out (by simp) _).put HLT.out (by simp) _)
  have HTM := Lib.hid (show TabOk wm from fun j hj => by
    have hlt := World.block_lt_of_cell? _ _ (ht0.out j hj)
    rw [hwm, World.cell?_setCell_other _ _ _ _ (by intro he; have := congrArg Addr.block he; simp at this; simp at hlt; omega), World.cell?_setCell_other _ _ _ _ (by intro he; have := congrArg Addr.block he; simp at this; simp at hlt; omega)]
    exact HT.out j hj)
  clear hwm hbm HT HS1 HK0 HK1 ht0
  rcases trim_sg (s := sg neg) HTR2.out with ⟨rfl, rfl, hz⟩ | ⟨hne, htr2, hnv⟩
  · have HZ := Lib.hid hz
    clear hz
    obtain ⟨q0, q1, q2, q3, h0, h1, h2, h3⟩ := res4_facts k2
    obtain ⟨u0, u1, u2, u3⟩ := put4_facts k2 (.slice none 0 0) (.int .i64 0) (.bool false) (.bool false)
    go_wp2_with fail
    refine bodyPost_ret (v := .agg #[.slice none 0 0, .int .i64 0, .bool false, .bool false]) (by simp [results, Tryd.results93, go_sem, u0, u1, u2, u3]) rfl ?_
    refine ⟨some 0, by rw [HZ.out]; exact wv_zero, _, rfl, ⟨_, [], 0, false, rfl, Or.inl ⟨rfl, rfl⟩, In.nil, by simp [W.nv, W.dval], Or.inl rfl, Or.inl ⟨rfl, rfl, rfl, rfl⟩⟩, bl_put4 HM.out (by simp) _ _ _ _⟩
  · have hmg := trim_mg hd htr2 he he2
    have HH := Lib.hid (fun (W : World) (h : Below wm.heap.size wm W) => high_calls e1 _ ds1 W (HS.out.keep h) hmg)
    have HL := Lib.hid (fun (W : World) (h : Below wm.heap.size wm W) => low_calls e1 _ ds1 W (HS.out.keep h) hmg (HTM.out.keep h))
    have HMG := Lib.hid hmg
    have HNV := Lib.hid hnv
    have hlen : ¬ (ds1.length : Int) = 0 := by have := hmg.len; omega
    have hk2 := Lib.hid k2
    clear hmg hnv hne htr2 k2 HTR2 HTM he he2 hd
    go_wp2_with fail
    refine (HH.out wm (Below.refl _ _)).mono ?_
    rintro x w3 ⟨⟨hi, rfl, hhi, hi1, hi2⟩, hb3⟩
    have g0 := keep_cell hb3 g0
    have g1 := keep_cell hb3 g1
    have k3 := keep_block hb3 hk2.out
    have HM3 := Lib.hid (HM.out.trans (hb3.mono HM.out.size))
    have HHI := Lib.hid (hhi _ (sg_cases neg))
    rw [HNV.out] at HHI
    have HB3 := Lib.hid hb3
    clear hhi hb3
    obtain ⟨q0, q1, q2, q3, h0, h1, h2, h3⟩ := res4_facts k3
    by_cases c : 65536 < hi
    · have c2 : decide (65536 < hi) = true := decide_eq_true c
      have C := Lib.hid c
      obtain ⟨u0, u1, u2, u3⟩ := put4_facts k3 (.slice none 0 0) (.int .i64 0) (.bool false) (.bool true)
      clear c
      go_wp2_with fail
      refine bodyPost_ret (v := .agg #[.slice none 0 0, .int .i64 0, .bool false, .bool true]) (by simp [results, Tryd.results93, go_sem, u0, u1, u2, u3]) rfl ?_
      exact ⟨none, wv_high HHI.out C.out, _, rfl, rfl, bl_put4 HM3.out (by simp) _ _ _ _⟩
    · have c2 : decide (65536 < hi) = false := decide_eq_false c
      have C := Lib.hid (show hi ≤ 65536 by omega)
      have HK3 := Lib.hid k3
      clear c q0 q1 q2 q3 h0 h1 h2 h3 k3
      go_wp2_with fail
      refine (HL.out w3 HB3.out).mono ?_
      rintro x w4 ⟨⟨lo, rfl, hlo, lo1, lo2⟩, hb4⟩
      have g0 := keep_cell hb4 g0
      have g1 := keep_cell hb4 g1
      have k4 := keep_block hb4 HK3.out
      have HM4 := Lib.hid (HM3.out.trans (hb4.mono HM3.out.size))
      have HLO := Lib.hid (hlo _ (sg_cases neg))
      rw [HNV.out] at HLO
      have HS4 := Lib.hid ((HS.out.keep HB3.out).keep hb4)
      clear hlo hb4
      obtain ⟨q0, q1, q2, q3, h0, h1, h2, h3⟩ := res4_facts k4
      by_cases d : lo < -65536
      · have d2 : decide (lo < -65536) = true := decide_eq_true d
        have D := Lib.hid d
        obtain ⟨u0, u1, u2, u3⟩ := put4_facts k4 (.slice none 0 0) (.int .i64 0) (.bool false) (.bool true)
        clear d
        go_wp2_with fail
        refine bodyPost_ret (v := .agg #[.slice none 0 0, .int .i64 0, .bool false, .bool true]) (by simp [results, Tryd.results93, go_sem, u0, u1, u2, u3]) rfl ?_
        exact ⟨none, wv_low HHI.out HLO.out D.out, _, rfl, rfl, bl_put4 HM4.out (by simp) _ _ _ _⟩
      · have d2 : decide (lo < -65536) = false := decide_eq_false d
        have D := Lib.hid (show -65536 ≤ lo by omega)
        obtain ⟨u0, u1, u2, u3⟩ := put4_facts k4 (.slice p1 ds1.length c1) (.int .i64 e1) (.bool neg) (.bool false)
        have HK4 := Lib.hid k4
        clear d k4
        go_wp2_with fail
        refine bodyPost_ret (v := .agg #[.slice p1 ds1.length c1, .int .i64 e1, .bool neg, .bool false]) (by simp [results, Tryd.results93, go_sem, u0, u1, u2, u3]) rfl ?_
        have hl := HMG.out.len
        have c3 := C.out
        have d3 := D.out
        refine ⟨some (W.nv (sg neg) ds e), wv_some HHI.out HLO.out c3 d3, _, rfl, ⟨_, ds1, e1, neg, rfl, ?_, HP.out, HNV.out.symm, Or.inr ⟨hi, lo, HHI.out, HLO.out, c3, d3⟩, Or.inr ⟨HMG.out, by omega, by omega⟩⟩, bl_put4 HM4.out (by simp) _ _ _ _⟩
        exact (((HS4.out.put HLT.out (by simp) _).put HLT.out (by simp) _).put HLT.out (by simp) _).put HLT.out (by simp) _

end Go.Proofs.YtiihokgjplpceaaDoor
end
