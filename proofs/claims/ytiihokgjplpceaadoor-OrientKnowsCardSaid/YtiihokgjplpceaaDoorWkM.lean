/- Words on memory: a slice that holds a list of values, whatever is made beside it. -/
import Derived.Test.YtiihokgjplpceaaDoorMemA
import Derived.Test.YtiihokgjplpceaaDoorPuA
import Derived.WalkKit
import Derived.ProofKit
import Derived.WalkLawsBesides
import Derived.Below
import Derived.OwnWalk
import Derived.Laws.AppendOwn
import Derived.LoopTactic
import Derived.Lib.Hide
namespace Go.Proofs.YtiihokgjplpceaaDoor
open Go.RowKit TV

theorem info_i64 : (Tryd.prog.info? 2).map (fun i => (i.zero, i.size, i.bytes)) = some (some (.int .i64 0), 1, 8) := by kernel_rfl

theorem ret_i64 {a b : Int} (h : a = b) : Ending.returned (.int .i64 a) = .returned (.int .i64 b) := by rw [h]

theorem digit_calls (s e i : Int) (sl : Value) (ds : List Int) (w : World) (hs : Sl w sl (ds.map (Value.int .i64))) (he : -1000000000000 ≤ e) (he2 : e + ds.length ≤ 1000000000000) (hi : -1000000000000 ≤ i) (hi2 : i ≤ 1000000000000) :
    Calls Tryd.prog 60 #[.agg #[.int .i64 s, sl, .int .i64 e], .int .i64 i] w fun e' w' => e' = .returned (.int .i64 (dg ds e i)) ∧ Below w.heap.size w w' := by
  unfold dg
  by_cases h1 : i < e
  · rw [if_pos (Or.inl h1)]
    go_enter Tryd.func60, Tryd.ntmps60
    go_wp2
    go_ret
    exact ⟨rfl, (Below.refl _ _).alloc (Nat.le_refl _) _⟩
  · rcases hs with ⟨rfl, hx⟩ | ⟨b, o, cap, rfl, h2, h3, h4⟩
    · have : ds = [] := by simpa using hx
      subst this
      rw [if_pos (by simp; omega)]
      go_enter Tryd.func60, Tryd.ntmps60
      go_wp2
      go_ret
      exact ⟨rfl, (Below.refl _ _).alloc (Nat.le_refl _) _⟩
    · rw [List.length_map] at *
      by_cases h5 : e + ds.length ≤ i
      · rw [if_pos (Or.inr h5)]
        go_enter Tryd.func60, Tryd.ntmps60
        go_wp2
        go_ret
        exact ⟨rfl, (Below.refl _ _).alloc (Nat.le_refl _) _⟩
      · rw [if_neg (by omega)]
        have hk : (i - e).toNat < ds.length := by omega
        have hc := h4 (i - e).toNat (by simpa using hk)
        rw [List.getElem_map] at hc
        have hd : Hid (ds.getD (i - e).toNat 0 = ds[(i - e).toNat]) := by show _ = _; rw [List.getD_eq_getElem?_getD, List.getElem?_eq_getElem hk]; rfl
        clear h4
        have h6 : 0 ≤ i - e := by omega
        have h7 : i - e < (ds.length : Int) := by omega
        go_enter Tryd.func60, Tryd.ntmps60
        go_wp2
        go_ret
        exact ⟨by first | rfl | exact ret_i64 hd.out.symm, (Below.refl _ _).alloc (Nat.le_refl _) _⟩

/-- A part of a slice. -/
theorem Sl.sub {α : Type} {g : α → Value} {W : World} {b o cap : Nat} {ds : List α} {j m : Nat} (h : Sl W (.slice (some ⟨b, o, none⟩) ds.length cap) (ds.map g)) (hj : j < m) (hm : m ≤ ds.length) :
    Sl W (.slice (some ⟨b, o + j, none⟩) (m - j) (cap - j)) (((ds.drop j).take (m - j)).map g) := by
  rcases h with ⟨h, -⟩ | ⟨b', o', cap', h1, h2, h3, h4⟩
  · cases h
  · simp only [Value.slice.injEq, Option.some.injEq, Addr.mk.injEq] at h1
    obtain ⟨⟨rfl, rfl, -⟩, h1, rfl⟩ := h1
    simp only [List.length_map] at h2 h4
    refine Or.inr ⟨b, o + j, cap - j, by simp; omega, by simp; omega, h3, ?_⟩
    intro i hi
    simp at hi
    have := h4 (j + i) (by omega)
    rw [Nat.add_assoc, this]
    simp

def TrimPost (s : Int) (sl : Value) (ds : List Int) (e : Int) (w : World) (x : Ending) (w' : World) : Prop :=
  ∃ s' sl' ds' e', x = .returned (.agg #[.int .i64 s', sl', .int .i64 e']) ∧ Sl w' sl' (ds'.map (Value.int .i64)) ∧ Below w.heap.size w w' ∧ TrimOf s ds e s' ds' e' ∧ ∀ P, In P sl → In P sl'

theorem getD_of_lt {ds : List Int} {i : Nat} (h : i < ds.length) : ds.getD i 0 = ds[i] := by rw [List.getD_eq_getElem?_getD, List.getElem?_eq_getElem h]; rfl
theorem getD_of_ge {ds : List Int} {i : Nat} (h : ds.length ≤ i) : ds.getD i 0 = 0 := by rw [List.getD_eq_getElem?_getD, List.getElem?_eq_none h]; rfl

theorem trim_calls (s e : Int) (sl : Value) (ds : List Int) (w : World) (hs : Sl w sl (ds.map (Value.int .i64))) (he : -1000000000000 ≤ e) (he2 : e + ds.length ≤ 1000000000000) :
    Calls Tryd.prog 48 #[.agg #[.int .i64 s, sl, .int .i64 e]] w (TrimPost s sl ds e w) := by
  have hS := Lib.hid hs
  rcases hs with ⟨rfl, hx⟩ | ⟨b, o, cap, rfl, h2, h3, h4⟩
  · have : ds = [] := by simpa using hx
    subst this
    clear hS
    go_enter Tryd.func48, Tryd.ntmps48
    go_wp2
    go_loop [3] (fun d => d = .slice none 0 0) (fun _ => 0)
    case atStart => rfl
    case round =>
      subst hrel
      go_wp2
      go_loop [3, 4] (fun d x => d = .slice none 0 0 ∧ x = .int .i64 e) (fun _ _ => 0)
      case atStart => exact ⟨rfl, rfl⟩
      case round =>
        obtain ⟨rfl, rfl⟩ := hrel
        go_wp2
        refine bodyPost_ret (v := .agg #[.int .i64 0, .slice none 0 0, .int .i64 0]) (by simp [results, Tryd.results48, go_sem]) rfl ?_
        exact ⟨0, _, [], 0, rfl, Or.inl ⟨rfl, rfl⟩, ((Below.refl _ _).alloc (Nat.le_refl _) _).alloc (by simp) _, Or.inl ⟨rfl, rfl, rfl, fun i => rfl⟩, fun _ _ => In.nil⟩
  · simp only [List.length_map] at *
    have h4' : ∀ i (h : i < ds.length), w.cell? ⟨b, o + i, none⟩ = some (.int .i64 ds[i]) := fun i h => by
      have := h4 i (by simpa using h); rwa [List.getElem_map] at this
    have h4 := Lib.hid h4'
    clear h4'
    go_enter Tryd.func48, Tryd.ntmps48
    go_wp2
    go_loop [3] (fun d => ∃ m : Nat, m ≤ ds.length ∧ d = .slice (some ⟨b, o, none⟩) m cap ∧ ∀ i, m ≤ i → ds.getD i 0 = 0) (fun d => match d with | .slice _ m _ => m | _ => 0)
    case atStart => exact ⟨ds.length, Nat.le_refl _, rfl, fun i hi => getD_of_ge hi⟩
    case round =>
      obtain ⟨m, hm, rfl, hz⟩ := hrel
      have hz' := Lib.hid hz
      clear hz
      by_cases h5 : 0 < m
      · have hc := h4.out (m - 1) (by omega)
        by_cases h6 : ds[m - 1] = 0
        · rw [h6] at hc
          go_wp2
          go_round
          case rel => exact ⟨m - 1, by omega, rfl, fun i hi => by
            by_cases e : i = m - 1
            · rw [e, getD_of_lt (by omega)]; exact h6
            · exact hz'.out i (by omega)⟩
          case measure => show m - 1 < m; omega
        · go_wp2
          go_loop [3, 4] (fun d x => ∃ j : Nat, j < m ∧ d = .slice (some ⟨b, o + j, none⟩) (m - j) (cap - j) ∧ x = .int .i64 (e + (j : Int)) ∧ ∀ i, i < j → ds.getD i 0 = 0) (fun d _ => match d with | .slice _ m _ => m | _ => 0)
          case atStart => exact ⟨0, h5, by simp, by simp, fun i hi => by omega⟩
          case round =>
            obtain ⟨j, hj, rfl, rfl, hy⟩ := hrel
            have hy' := Lib.hid hy
            clear hy hc
            have hc := h4.out j (by omega)
            have g1 : 0 < m - j := by omega
            by_cases h7 : ds[j] = 0
            · rw [h7] at hc
              have hne : j ≠ m - 1 := by intro he; subst he; exact h6 h7
              have g2 : 1 ≤ m - j := by omega
              have g3 : 1 ≤ cap - j := by omega
              have g4 : ¬ cap - j = 1 := by omega
              go_wp2
              go_round
              case rel => exact ⟨j + 1, by omega, by rw [Nat.add_assoc, Nat.sub_sub, Nat.sub_sub], by go_num, fun i hi => by
                by_cases e : i = j
                · subst e; rw [getD_of_lt (by omega)]; exact h7
                · exact hy'.out i (by omega)⟩
              case measure => show m - j - 1 < m - j; omega
            · go_wp2
              refine bodyPost_ret (v := .agg #[.int .i64 s, .slice (some ⟨b, o + j, none⟩) (m - j) (cap - j), .int .i64 (e + (j : Int))]) (by simp [results, Tryd.results48, go_sem]) rfl ?_
              have hB : Below w.heap.size w ((w.alloc (.cells #[.int .i64 s, .slice (some ⟨b, o, none⟩) ds.length cap, .int .i64 e] 42)).alloc (.cells #[.int .i64 s, .slice (some ⟨b, o + j, none⟩) (m - j) (cap - j), .int .i64 (e + j)] 42)) := ((Below.refl _ _).alloc (Nat.le_refl _) _).alloc (by simp) _
              exact ⟨s, _, (ds.drop j).take (m - j), e + j, rfl, (hS.out.keep hB).sub hj hm, hB,
                Or.inr ⟨rfl, j, m, hj, hm, rfl, rfl, hy'.out, hz'.out, by rw [getD_of_lt (by omega)]; exact h7, by rw [getD_of_lt (by omega)]; exact h6⟩, fun P hP => In.mk (a := ⟨b, o + j, none⟩) (show P b from In.of hP)⟩
      · obtain rfl : m = 0 := by omega
        go_wp2
        go_loop [3, 4] (fun d x => d = .slice (some ⟨b, o, none⟩) 0 cap ∧ x = .int .i64 e) (fun _ _ => 0)
        case atStart => exact ⟨rfl, rfl⟩
        case round =>
          obtain ⟨rfl, rfl⟩ := hrel
          go_wp2
          refine bodyPost_ret (v := .agg #[.int .i64 0, .slice none 0 0, .int .i64 0]) (by simp [results, Tryd.results48, go_sem]) rfl ?_
          exact ⟨0, _, [], 0, rfl, Or.inl ⟨rfl, rfl⟩, ((Below.refl _ _).alloc (Nat.le_refl _) _).alloc (by simp) _, Or.inl ⟨rfl, rfl, rfl, fun i => hz'.out i (Nat.zero_le _)⟩, fun _ _ => In.nil⟩
end Go.Proofs.YtiihokgjplpceaaDoor
