/- Package whole, walked: trimmed. -/
import Derived.Test.YtiiipgbfhcbjdaaDoorWhD
import Derived.Test.YtiiipgbfhcbjdaaDoorWkM
namespace Go.Proofs.YtiiipgbfhcbjdaaDoor
open Go.RowKit TV
set_option linter.unusedVariables false

theorem res2_facts {w : World} {b : Nat} {T : TypeId} {c0 c1 : Value} (h : w.heap[b]? = some (.cells #[c0, c1] T (0, 0))) :
    w.cell? ⟨b, 0, none⟩ = some c0 ∧ w.cell? ⟨b, 1, none⟩ = some c1 ∧ w.frozen? ⟨b, 0, none⟩ = false ∧ w.frozen? ⟨b, 1, none⟩ = false :=
  ⟨cell_of_block h 0, cell_of_block h 1, frozen_of_block h 0, frozen_of_block h 1⟩
theorem put2_facts {w : World} {b : Nat} {T : TypeId} {c0 c1 : Value} (h : w.heap[b]? = some (.cells #[c0, c1] T (0, 0))) (u0 u1 : Value) :
    ((w.setCell ⟨b, 0, none⟩ u0).setCell ⟨b, 1, none⟩ u1).cell? ⟨b, 0, none⟩ = some u0 ∧ ((w.setCell ⟨b, 0, none⟩ u0).setCell ⟨b, 1, none⟩ u1).cell? ⟨b, 1, none⟩ = some u1 := by
  have hF := setCell_block (setCell_block h 0 u0) 1 u1
  exact ⟨(cell_of_block hF 0).trans (by simp), (cell_of_block hF 1).trans (by simp)⟩

def TrimW (sl : Value) (ds : List Int) (e : Int) (w : World) (x : Ending) (w' : World) : Prop :=
  ∃ sl' ds' e', x = .returned (.agg #[sl', .int .i64 e']) ∧ Sl w' sl' (ds'.map (Value.int .u32)) ∧ Below w.heap.size w w' ∧ W.TrimOf 1 ds e (if ds' = [] then 0 else 1) ds' e' ∧ ∀ P, In P sl → In P sl'

theorem trimmed_calls (e : Int) (sl : Value) (ds : List Int) (w : World) (hs : Sl w sl (ds.map (Value.int .u32))) (he : -1000000000 ≤ e) (he2 : e + ds.length ≤ 1000000000) :
    Calls Tryd.prog 57 #[.agg #[sl, .int .i64 e]] w (TrimW sl ds e w) := by
  have hS := Lib.hid hs
  have hW : ∀ v : Value, Below w.heap.size w ((w.alloc (.cells #[v, .int .i64 e] 27)).alloc (.cells #[.slice none 0 0, .int .i64 0] 27)) := fun v => ((Below.refl w.heap.size w).alloc (Nat.le_refl _) _).alloc (by simp) _
  have hA : ∀ v : Value, ((w.alloc (.cells #[v, .int .i64 e] 27)).alloc (.cells #[.slice none 0 0, .int .i64 0] 27)).heap[w.heap.size]? = some (.cells #[v, .int .i64 e] 27 (0, 0)) := fun v => (Below.heap_alloc _ _ _ (by simp)).trans (heap_alloc_new w _)
  have hB : ∀ v : Value, ((w.alloc (.cells #[v, .int .i64 e] 27)).alloc (.cells #[.slice none 0 0, .int .i64 0] 27)).heap[w.heap.size + 1]? = some (.cells #[.slice none 0 0, .int .i64 0] 27 (0, 0)) := fun v => by
    have := heap_alloc_new (w.alloc (.cells #[v, .int .i64 e] 27)) (.cells #[.slice none 0 0, .int .i64 0] 27)
    simpa using this
  have HWW := Lib.hid hW
  have HWA := Lib.hid hA
  have HWB := Lib.hid hB
  clear hW hA hB
  rcases hs with ⟨rfl, hx⟩ | ⟨b, o, cap, rfl, h2, h3, h4⟩
  · have : ds = [] := by simpa using hx
    subst this
    clear hS
    go_enter Tryd.func57, Tryd.ntmps57
    go_wp2_with fail
    obtain ⟨wz, hwz⟩ : ∃ z, z = (w.alloc (.cells #[.slice none 0 0, .int .i64 e] 27)).alloc (.cells #[.slice none 0 0, .int .i64 0] 27) := ⟨_, rfl⟩
    have HB := Lib.hid (HWW.out (.slice none 0 0))
    have hA := HWA.out (.slice none 0 0)
    have hR := HWB.out (.slice none 0 0)
    rw [← hwz] at HB hA hR
    have x0 : wz.cell? ⟨w.heap.size, 0, none⟩ = some (.slice none 0 0) := cell_of_block hA 0
    rw [← hwz]
    clear hwz hA
    go_quiet (fail)
    obtain ⟨wy, hwy⟩ : ∃ z, z = wz.drewN nq := ⟨_, rfl⟩
    have hby : Below wz.heap.size wz wy := by rw [hwy]; exact bl_drewN (Below.refl _ _) _
    have HB := Lib.hid (HB.out.trans (hby.mono HB.out.size))
    have hR := keep_block hby hR
    rw [← hwy]
    clear hwy hby
    obtain ⟨r0, r1, f0, f1⟩ := res2_facts hR
    obtain ⟨g0, g1⟩ := put2_facts hR (.slice none 0 0) (.int .i64 0)
    go_wp2_with fail
    go_loop [4] (fun l => l = .int .i64 0) (fun _ => 0)
    case atStart => rfl
    case round =>
      subst hrel
      go_wp2_with fail
      go_loop [3] (fun l => l = .int .i64 0) (fun _ => 0)
      case atStart => rfl
      case round =>
        subst hrel
        go_wp2_with fail
        refine bodyPost_ret (v := .agg #[.slice none 0 0, .int .i64 0]) (by simp [results, Tryd.results57, go_sem, g0, g1]) rfl ?_
        exact ⟨_, [], 0, rfl, Or.inl ⟨rfl, rfl⟩, (HB.out.setCell (by simp) _).setCell (by simp) _, Or.inl ⟨rfl, rfl, rfl, fun i => rfl⟩, fun _ _ => In.nil⟩
  · simp only [List.length_map] at *
    have h4' : ∀ i (h : i < ds.length), w.cell? ⟨b, o + i, none⟩ = some (.int .u32 ds[i]) := fun i h => by
      have := h4 i (by simpa using h); rwa [List.getElem_map] at this
    have h4 := Lib.hid h4'
    clear h4'
    obtain ⟨wz, hwz⟩ : ∃ z, z = (w.alloc (.cells #[.slice (some ⟨b, o, none⟩) ds.length cap, .int .i64 e] 27)).alloc (.cells #[.slice none 0 0, .int .i64 0] 27) := ⟨_, rfl⟩
    have hbz := HWW.out (.slice (some ⟨b, o, none⟩) ds.length cap)
    have hA := HWA.out (.slice (some ⟨b, o, none⟩) ds.length cap)
    have hR := HWB.out (.slice (some ⟨b, o, none⟩) ds.length cap)
    rw [← hwz] at hbz hA hR
    have x0 : wz.cell? ⟨w.heap.size, 0, none⟩ = some (.slice (some ⟨b, o, none⟩) ds.length cap) := cell_of_block hA 0
    have x1 : wz.cell? ⟨w.heap.size, 1, none⟩ = some (.int .i64 e) := cell_of_block hA 1
    have HZ : Hid (∀ i (h : i < ds.length), wz.cell? ⟨b, o + i, none⟩ = some (.int .u32 ds[i])) := fun i h => keep_cell hbz (h4.out i h)
    have HB := Lib.hid hbz
    have HR := Lib.hid hR
    clear hbz hA hR h4
    go_enter Tryd.func57, Tryd.ntmps57
    go_wp2_with fail
    rw [← hwz]
    clear hwz
    go_quiet (fail)
    obtain ⟨wy, hwy⟩ : ∃ z, z = wz.drewN nq := ⟨_, rfl⟩
    have hby : Below wz.heap.size wz wy := by rw [hwy]; exact bl_drewN (Below.refl _ _) _
    have x0 := keep_cell hby x0
    have x1 := keep_cell hby x1
    have HZ := Lib.hid (fun i (h : i < ds.length) => keep_cell hby (HZ.out i h))
    have HR := Lib.hid (keep_block hby HR.out)
    have HB := Lib.hid (HB.out.trans (hby.mono HB.out.size))
    rw [← hwy]
    clear hwy hby
    go_wp2_with fail
    go_loop [4] (fun l => ∃ m : Nat, m ≤ ds.length ∧ l = .int .i64 m ∧ ∀ i, m ≤ i → ds.getD i 0 = 0) (fun l => (intOf l).toNat)
    case atStart => exact ⟨ds.length, Nat.le_refl _, rfl, fun i hi => getD_of_ge hi⟩
    case round =>
      obtain ⟨m, hm, rfl, hz⟩ := hrel
      have hz' := Lib.hid hz
      clear hz
      by_cases h5 : 0 < m
      · have hc := HZ.out (m - 1) (by omega)
        have b2 : (0 : Int) ≤ (m : Int) - 1 := by omega
        have b3 : (m : Int) - 1 < (ds.length : Int) := by omega
        have b4 : ((m : Int) - 1).toNat = m - 1 := by omega
        have b5 : (0 : Int) < m := by omega
        by_cases h6 : ds[m - 1] = 0
        · rw [h6] at hc
          go_wp2_with fail
          go_round
          case rel => exact ⟨m - 1, by omega, by congr 1; omega, fun i hi => by
            by_cases e : i = m - 1
            · rw [e, getD_of_lt (by omega)]; exact h6
            · exact hz'.out i (by omega)⟩
          case measure => simp [intOf]; omega
        · have h66 : (ds[m - 1] == 0) = false := by simpa using h6
          go_wp2_with fail
          go_loop [3] (fun l => ∃ j : Nat, j < m ∧ l = .int .i64 j ∧ ∀ i, i < j → ds.getD i 0 = 0) (fun l => m - (intOf l).toNat)
          case atStart => exact ⟨0, h5, rfl, fun i hi => by omega⟩
          case round =>
            obtain ⟨j, hj, rfl, hy⟩ := hrel
            have hy' := Lib.hid hy
            clear hy hc b2 b3 b4
            have hc := HZ.out j (by omega)
            have b2 : (0 : Int) ≤ (j : Int) := by omega
            have b3 : (j : Int) < (ds.length : Int) := by omega
            have b6 : (j : Int) < m := by omega
            by_cases h7 : ds[j] = 0
            · rw [h7] at hc
              have hne : j ≠ m - 1 := by intro he; subst he; exact h6 h7
              go_wp2_with fail
              go_round
              case rel => exact ⟨j + 1, by omega, by congr 1, fun i hi => by
                by_cases e : i = j
                · subst e; rw [getD_of_lt (by omega)]; exact h7
                · exact hy'.out i (by omega)⟩
              case measure => simp [intOf]; omega
            · have h77 : (ds[j] == 0) = false := by simpa using h7
              have b7 : ((j : Int) == (m : Int)) = false := by simp; omega
              obtain ⟨r0, r1, f0, f1⟩ := res2_facts HR.out
              obtain ⟨g0, g1⟩ := put2_facts HR.out (.slice (some ⟨b, o + j, none⟩) (m - j) (cap - j)) (.int .i64 (e + j))
              have c1 : (j : Int) ≤ (m : Int) := by omega
              have c2 : (m : Int) ≤ (cap : Int) := by omega
              have c3 : (m : Int) ≤ (ds.length : Int) := by omega
              have c4 : IntKind.i64.wrap (e + (j : Int)) = e + (j : Int) := IntWalk.i64_in _ (by omega)
              have c5 : ((m : Int) - (j : Int)).toNat = m - j := by omega
              go_wp2_with fail
              go_region
              have hB := HB.out
              have hBf : Below w.heap.size w (((wy.setCell ⟨w.heap.size + 1, 0, none⟩ (.slice (some ⟨b, o + j, none⟩) (m - j) (cap - j))).setCell ⟨w.heap.size + 1, 1, none⟩ (.int .i64 (e + (j : Int)))).drew) := ((hB.setCell (by simp) _).setCell (by simp) _).drew
              have HBF := Lib.hid hBf
              clear hB hBf
              go_wp2_with fail
              refine bodyPost_ret (v := .agg #[.slice (some ⟨b, o + j, none⟩) (m - j) (cap - j), .int .i64 (e + (j : Int))]) (by simp [results, Tryd.results57, go_sem, g0, g1]) rfl ?_
              have hne : (ds.drop j).take (m - j) ≠ [] := by
                intro he
                have := congrArg List.length he
                rw [List.length_take, List.length_drop] at this
                simp at this
                omega
              refine ⟨_, (ds.drop j).take (m - j), e + j, rfl, (hS.out.keep HBF.out).sub hj hm, HBF.out, ?_, fun P hP => In.mk (a := ⟨b, o + j, none⟩) (show P b from In.of hP)⟩
              rw [if_neg hne]
              exact Or.inr ⟨rfl, j, m, hj, hm, rfl, rfl, hy'.out, hz'.out, by rw [getD_of_lt (by omega)]; exact h7, by rw [getD_of_lt (by omega)]; exact h6⟩
      · obtain rfl : m = 0 := by omega
        go_wp2_with fail
        go_loop [3] (fun l => l = .int .i64 0) (fun _ => 0)
        case atStart => rfl
        case round =>
          subst hrel
          obtain ⟨r0, r1, f0, f1⟩ := res2_facts HR.out
          obtain ⟨g0, g1⟩ := put2_facts HR.out (.slice none 0 0) (.int .i64 0)
          go_wp2_with fail
          refine bodyPost_ret (v := .agg #[.slice none 0 0, .int .i64 0]) (by simp [results, Tryd.results57, go_sem, g0, g1]) rfl ?_
          exact ⟨_, [], 0, rfl, Or.inl ⟨rfl, rfl⟩, (HB.out.setCell (by simp) _).setCell (by simp) _, Or.inl ⟨rfl, rfl, rfl, fun i => hz'.out i (Nat.zero_le _)⟩, fun _ _ => In.nil⟩
end Go.Proofs.YtiiipgbfhcbjdaaDoor
