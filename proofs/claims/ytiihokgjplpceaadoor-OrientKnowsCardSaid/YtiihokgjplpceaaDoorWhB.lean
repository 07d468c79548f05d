/- Package whole, walked: word, ends. -/
import Derived.Test.YtiihokgjplpceaaDoorMemA
import Derived.Test.YtiihokgjplpceaaDoorPuA
import Derived.Deep.RegionHeld3
import Derived.Deep.DeepCutAuto
import Derived.BigRegion
import Derived.Deep.QuietTactic
import Derived.BigQuiet
import Derived.Deep.AppendLies
import Derived.Laws.MakeOwn
import Derived.IntWalk
namespace Go.Proofs.YtiihokgjplpceaaDoor
open Go.RowKit TV
set_option linter.unusedVariables false

theorem bl_drewN {B : Nat} {w w1 : World} (h : Below B w w1) (n : Nat) : Below B w (w1.drewN n) := ⟨h.os, h.tape, h.output, h.size, h.block⟩
theorem ret_u32 {a b : Int} (h : a = b) : Ending.returned (.int .u32 a) = .returned (.int .u32 b) := by rw [h]
theorem info_u32 : (Tryd.prog.info? 101).map (fun i => (i.zero, i.size, i.bytes)) = some (some (.int .u32 0), 1, 4) := by kernel_rfl

theorem word_calls (e i : Int) (sl : Value) (ds : List Int) (w : World) (hs : Sl w sl (ds.map (Value.int .u32))) (he : -1000000000000 ≤ e) (he2 : e + ds.length ≤ 1000000000000) (hi : -1000000000000 ≤ i) (hi2 : i ≤ 1000000000000) :
    Calls Tryd.prog 102 #[.agg #[sl, .int .i64 e], .int .i64 i] w fun e' w' => e' = .returned (.int .u32 (W.dg ds e i)) ∧ Below w.heap.size w w' := by
  unfold W.dg
  by_cases h1 : i < e
  · rw [if_pos (Or.inl h1)]
    go_enter Tryd.func102, Tryd.ntmps102
    go_wp2
    go_ret
    exact ⟨rfl, (Below.refl _ _).alloc (Nat.le_refl _) _⟩
  · rcases hs with ⟨rfl, hx⟩ | ⟨b, o, cap, rfl, h2, h3, h4⟩
    · have : ds = [] := by simpa using hx
      subst this
      rw [if_pos (by simp; omega)]
      go_enter Tryd.func102, Tryd.ntmps102
      go_wp2
      go_ret
      exact ⟨rfl, (Below.refl _ _).alloc (Nat.le_refl _) _⟩
    · rw [List.length_map] at *
      by_cases h5 : e + ds.length ≤ i
      · rw [if_pos (Or.inr h5)]
        go_enter Tryd.func102, Tryd.ntmps102
        go_wp2
        go_ret
        exact ⟨rfl, (Below.refl _ _).alloc (Nat.le_refl _) _⟩
      · rw [if_neg (by omega)]
        have hk : (i - e).toNat < ds.length := by omega
        have hc := h4 (i - e).toNat (by simpa using hk)
        rw [List.getElem_map] at hc
        have hd : Hid (ds.getD (i - e).toNat 0 = ds[(i - e).toNat]) := by show _ = _; rw [List.getD_eq_getElem?_getD, List.getElem?_eq_getElem hk]; rfl
        clear h4
        have h6 : 0 ≤ i - e := by omega
        have h7 : i - e < (ds.length : Int) := by omega
        go_enter Tryd.func102, Tryd.ntmps102
        go_wp2
        go_ret
        exact ⟨by first | rfl | exact ret_u32 hd.out.symm, (Below.refl _ _).alloc (Nat.le_refl _) _⟩

theorem ends_calls (e g f t : Int) (sl sm : Value) (n m : Nat) (hf : (if g < e then g else e) = f) (ht : (if e + n < g + m then g + m else e + n) = t) (w : World) (hs : ∃ p c, sl = .slice p n c) (hm : ∃ p c, sm = .slice p m c)
    (he : -1000000000000 ≤ e) (he2 : e + n ≤ 1000000000000) (hg : -1000000000000 ≤ g) (hg2 : g + m ≤ 1000000000000) :
    Calls Tryd.prog 101 #[.agg #[sl, .int .i64 e], .agg #[sm, .int .i64 g]] w fun e' w' => e' = .returned (.tuple #[.int .i64 f, .int .i64 t]) ∧ Below w.heap.size w w' := by
  obtain ⟨p, c, rfl⟩ := hs
  obtain ⟨p2, c2, rfl⟩ := hm
  have b1 : IntKind.i64.wrap (e + n) = e + n := IntWalk.i64_in _ (by omega)
  have b2 : IntKind.i64.wrap (g + m) = g + m := IntWalk.i64_in _ (by omega)
  go_enter Tryd.func101, Tryd.ntmps101
  go_wp2_with fail
  go_quiet (fail)
  go_wp2_with fail
  go_ret2
  exact ⟨rfl, bl_drewN (((Below.refl _ _).alloc (Nat.le_refl _) _).alloc (by simp) _) _⟩
end Go.Proofs.YtiihokgjplpceaaDoor
