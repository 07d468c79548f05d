/- The iterator over a line's words, walked: what each round is handed. -/
import Derived.Test.YtooimjokbkbleaaLnC
import Derived.RangeFuncBox
import Derived.RangeFuncLeaves
import Derived.RangeFuncFrom
import Derived.RangeFuncCalls
import Derived.Shelf.Abstract
import Derived.WalkKit
import Derived.OwnWalkIn
import Derived.TacticsInMore
import Derived.LoopNIn
import Derived.LoopIn
namespace Go.Proofs.Ytooimjokbkbleaa
open Go.RowKit Go.Shelf TV
set_option linter.unusedVariables false
attribute [local go_sem] Oper.semAt_some

theorem blank_calls (c : UInt8) (w : World) :
    Calls Try.prog 28 #[.int .u8 (c.toNat : Int)] w fun e w' => e = .returned (.bool (blankB c)) ∧ w = w' := by
  have hb : c.toNat < 256 := c.toNat_lt
  have hcase : (((c.toNat : Int) == 32) = true ∧ Hid (blankB c = true)) ∨ (((c.toNat : Int) == 32) = false ∧ ((c.toNat : Int) == 9) = true ∧ Hid (blankB c = true)) ∨
      (((c.toNat : Int) == 32) = false ∧ ((c.toNat : Int) == 9) = false ∧ ((c.toNat : Int) == 13) = true ∧ Hid (blankB c = true)) ∨
      (((c.toNat : Int) == 32) = false ∧ ((c.toNat : Int) == 9) = false ∧ ((c.toNat : Int) == 13) = false ∧ Hid (blankB c = false)) := by
    by_cases h1 : c = 32
    · left; subst h1; exact ⟨rfl, rfl⟩
    · by_cases h2 : c = 9
      · right; left; subst h2; exact ⟨rfl, rfl, rfl⟩
      · by_cases h3 : c = 13
        · right; right; left; subst h3; exact ⟨rfl, rfl, rfl, rfl⟩
        · right; right; right
          refine ⟨byte_ne (m := 32) (by decide) h1, byte_ne (m := 9) (by decide) h2, byte_ne (m := 13) (by decide) h3, ?_⟩
          show _ = _
          unfold blankB; rw [beq_eq_false_iff_ne.2 h1, beq_eq_false_iff_ne.2 h2, beq_eq_false_iff_ne.2 h3]; rfl
  rcases hcase with ⟨a1, h⟩ | ⟨a1, a2, h⟩ | ⟨a1, a2, a3, h⟩ | ⟨a1, a2, a3, h⟩
  all_goals
    go_enter Try.func28, Try.ntmps28
    go_wp2
    go_ret
    exact ⟨ret_bool h.out.symm, rfl⟩

/-- What is left to part from a place on. -/
theorem split_stop {L : Bs} {i k : Nat} (hik : i ≤ k) (hk : k ≤ L.length) (hs : k = L.length ∨ ∃ h : k < L.length, blankB L[k] = true) :
    splitGo (L.drop k) ((L.take k).drop i) = one ((L.take k).drop i) ++ splitGo (L.drop (k + 1)) [] := by
  rcases hs with h | ⟨h, hb⟩
  · have e1 : L.drop k = [] := List.drop_eq_nil_iff.2 (by omega)
    have e2 : L.drop (k + 1) = [] := List.drop_eq_nil_iff.2 (by omega)
    rw [e1, e2]; simp [splitGo, one]
  · rw [List.drop_eq_getElem_cons h, splitGo, if_pos hb]
theorem split_go {L : Bs} {i k : Nat} (hik : i ≤ k) (hk : k < L.length) (hb : blankB L[k] = false) :
    splitGo (L.drop k) ((L.take k).drop i) = splitGo (L.drop (k + 1)) ((L.take (k + 1)).drop i) := by
  rw [List.drop_eq_getElem_cons hk, splitGo, if_neg (by simp [hb]), List.take_succ_eq_append_getElem hk, List.drop_append_of_le_length (by rw [List.length_take]; omega)]

/-- A string of any size that there is. -/
abbrev WStr := { x : ByteArray // x.size ≤ 140737488351232 }
def toW (x : WStr) : List UInt8 := toL x.1
theorem extract_le (s : ByteArray) (i k : Nat) : (s.extract i k).size ≤ s.size := by
  have h1 : (toL (s.extract i k)).length = (s.extract i k).size := by simp
  have h2 : (toL s).length = s.size := by simp
  rw [← h1, ← h2]
  show (s.extract i k).data.toList.length ≤ s.data.toList.length
  rw [extract_list, List.length_drop, List.length_take]; omega

set_option maxRecDepth 100000 in
set_option maxHeartbeats 2000000 in
theorem words1_in (n : Nat) (hn : 1 ≤ n) (l bS : Nat) (s : ByteArray) (hs : s.size ≤ 140737488351232) (J Jx : List WStr → World → Prop)
    (hY : ∀ pre x W, J pre W → pre.length < s.size + 1 → YieldAt Fence.wide (n - 1) Try.prog l #[.string x.1] W fun e W' =>
      (e = .returned (.bool true) ∧ J (pre ++ [x]) W' ∧ W'.cell? ⟨bS, 0, none⟩ = W.cell? ⟨bS, 0, none⟩) ∨ (e = .returned (.bool false) ∧ Jx (pre ++ [x]) W'))
    (W : World) (hbS : W.cell? ⟨bS, 0, none⟩ = some (.string s)) (h0 : J [] W) :
    CallsIn Fence.wide n Try.prog 27 #[.func (.yield l) #[] #[], .pointer (some ⟨bS, 0, none⟩)] W fun e W' => (∃ v, e = .returned v) ∧
      ((∃ ys : List WStr, ys.map toW = splitGo (toL s) [] ∧ J ys W') ∨ (∃ pre : List WStr, (∃ rest, pre.map toW ++ rest = splitGo (toL s) []) ∧ Jx pre W')) := by
  refine callsIn_of_wp Try.func27 rfl trivial ?_ rfl
  have hsz : Hid ((toL s).length = s.size) := by show _ = _; simp
  simp only [Try.ntmps27, List.size_toArray, List.length_cons, List.length_nil, Nat.reduceAdd, Nat.reduceSub, Array.replicate_succ, Array.replicate_zero, List.push_toArray, List.append_toArray, List.nil_append, List.cons_append]
  gi_wp2
  gi_loopw [3] (fun iv wr => ∃ (i : Nat) (pre : List WStr), iv = .int .i64 i ∧ i ≤ s.size + 1 ∧ pre.length ≤ i ∧ Hid (pre.map toW ++ splitGo ((toL s).drop i) [] = splitGo (toL s) []) ∧ J pre wr ∧ wr.cell? ⟨bS, 0, none⟩ = some (.string s))
    (fun iv wr => s.size + 2 - (intOf iv).toNat)
  case atStart => exact ⟨0, [], rfl, Nat.zero_le _, Nat.le_refl _, by show _ = _; simp, h0, hbS⟩
  case round =>
    obtain ⟨i, pre, rfl, hi, hpl, hsp, hJ, hc⟩ := hrel
    by_cases hlt : i < s.size
    · gi_wp2
      gi_loop [4] (fun kv => ∃ k : Nat, kv = .int .i64 k ∧ i ≤ k ∧ k ≤ s.size ∧ Hid (splitGo ((toL s).drop i) [] = splitGo ((toL s).drop k) (((toL s).take k).drop i))) (fun kv => s.size - (intOf kv).toNat)
      case atStart => exact ⟨i, rfl, Nat.le_refl _, by omega, by
        have e : ((toL s).take i).drop i = [] := List.drop_eq_nil_iff.2 (by rw [List.length_take]; omega)
        show _ = _
        rw [e]⟩
      case round =>
        obtain ⟨k, rfl, hik, hk, hcur⟩ := hrel
        by_cases hkl : k < s.size
        · by_cases hb : blankB s[k] = true
          · have hbc : ∀ W, Calls Try.prog 28 #[.int .u8 (s[k].toNat : Int)] W fun e w' => e = .returned (.bool true) ∧ W = w' := fun W => by
              have := blank_calls s[k] W; rw [hb] at this; exact this
            have HB := Lib.hid hb
            clear hb
            have hst : Hid (pre.map toW ++ (one (((toL s).take k).drop i) ++ splitGo ((toL s).drop (k + 1)) []) = splitGo (toL s) []) := by
              show _ = _
              rw [← hsp.out, hcur.out, split_stop hik (by rw [hsz.out]; exact hk) (Or.inr ⟨by rw [hsz.out]; exact hkl, HB.out⟩)]
            clear hcur hsp
            by_cases hki : i < k
            · have hwl : Hid (((toL s).take k).drop i ≠ []) := by
                show _ ≠ _
                intro h
                have := congrArg List.length h
                rw [List.length_drop, List.length_take, hsz.out] at this
                simp at this; omega
              have hex : Hid (toL (s.extract i k) = ((toL s).take k).drop i) := extract_list _ _ _
              have hst2 : Hid ((pre ++ [(⟨s.extract i k, Nat.le_trans (extract_le s i k) hs⟩ : WStr)]).map toW ++ splitGo ((toL s).drop (k + 1)) [] = splitGo (toL s) []) := by
                show _ = _
                rw [← hst.out, List.map_append, List.map_cons, List.map_nil, toW, hex.out, one, if_neg hwl.out, List.append_assoc]
              clear hst
              obtain ⟨fn, tmps, assign, body, hy, hR⟩ := hY pre ⟨s.extract i k, Nat.le_trans (extract_le s i k) hs⟩ wr hJ (by omega)
              have c1 : (0 : Int) ≤ (i : Int) := by omega
              have c2 : (i : Int) ≤ (k : Int) := by omega
              have c3 : (k : Int) ≤ (s.size : Int) := by omega
              gi_wp2_with (refine ⟨trivial, ?_⟩; gi_at_call 28; refine (callsIn_wide.2 (hbc _)).mono ?_; rintro e w' ⟨rfl, rfl⟩)
              refine hR.mono ?_
              rintro e W3 (⟨rfl, hJ3, hk3⟩ | ⟨rfl, hJx3⟩)
              · have hc3 := hk3.trans hc
                gi_wp2
                go_roundw
                case rel => exact ⟨k + 1, pre ++ [⟨s.extract i k, Nat.le_trans (extract_le s i k) hs⟩], by go_num, by omega, by simp; omega, hst2, hJ3, hc3⟩
                case measure => simp [intOf]; omega
              · gi_wp2
                refine bodyPost_ret (results_none rfl _ _ _) rfl ?_
                exact ⟨⟨_, rfl⟩, .inr ⟨pre ++ [⟨s.extract i k, Nat.le_trans (extract_le s i k) hs⟩], ⟨_, hst2.out⟩, hJx3⟩⟩
            · obtain rfl : i = k := by omega
              have hst2 : Hid (pre.map toW ++ splitGo ((toL s).drop (i + 1)) [] = splitGo (toL s) []) := by
                have e : ((toL s).take i).drop i = [] := List.drop_eq_nil_iff.2 (by rw [List.length_take]; omega)
                have := hst.out
                rw [e, one, if_pos rfl, List.nil_append] at this
                exact this
              clear hst
              gi_wp2_with (refine ⟨trivial, ?_⟩; gi_at_call 28; refine (callsIn_wide.2 (hbc _)).mono ?_; rintro e w' ⟨rfl, rfl⟩)
              refine ⟨fun _ h => (by cases h), ?_⟩
              gi_wp2
              go_roundw
              case rel => exact ⟨i + 1, pre, by go_num, by omega, by omega, hst2, hJ, hc⟩
              case measure => simp [intOf]; omega
          · have hb0 : blankB s[k] = false := by simpa using hb
            have hcur2 : Hid (splitGo ((toL s).drop i) [] = splitGo ((toL s).drop (k + 1)) (((toL s).take (k + 1)).drop i)) := by
              show _ = _; rw [hcur.out, split_go hik (by rw [hsz.out]; exact hkl) (by exact hb0)]
            have hbc : ∀ W, Calls Try.prog 28 #[.int .u8 (s[k].toNat : Int)] W fun e w' => e = .returned (.bool false) ∧ W = w' := fun W => by
              have := blank_calls s[k] W; rw [hb0] at this; exact this
            clear hb hb0 hcur
            gi_wp2_with (refine ⟨trivial, ?_⟩; gi_at_call 28; refine (callsIn_wide.2 (hbc _)).mono ?_; rintro e w' ⟨rfl, rfl⟩)
            go_round
            case rel => exact ⟨k + 1, by go_num, by omega, by omega, hcur2⟩
            case measure => simp [intOf]; omega
        · have hke : Hid (k = s.size) := by show _ = _; omega
          have hst : Hid (pre.map toW ++ (one (((toL s).take k).drop i) ++ splitGo ((toL s).drop (k + 1)) []) = splitGo (toL s) []) := by
            show _ = _
            rw [← hsp.out, hcur.out, split_stop hik (by rw [hsz.out]; exact hk) (Or.inl (by rw [hsz.out]; exact hke.out))]
          clear hcur hsp
          by_cases hki : i < k
          · have hwl : Hid (((toL s).take k).drop i ≠ []) := by
              show _ ≠ _
              intro h
              have := congrArg List.length h
              rw [List.length_drop, List.length_take, hsz.out] at this
              simp at this; omega
            have hex : Hid (toL (s.extract i k) = ((toL s).take k).drop i) := extract_list _ _ _
            have hst2 : Hid ((pre ++ [(⟨s.extract i k, Nat.le_trans (extract_le s i k) hs⟩ : WStr)]).map toW ++ splitGo ((toL s).drop (k + 1)) [] = splitGo (toL s) []) := by
              show _ = _
              rw [← hst.out, List.map_append, List.map_cons, List.map_nil, toW, hex.out, one, if_neg hwl.out, List.append_assoc]
            clear hst
            obtain ⟨fn, tmps, assign, body, hy, hR⟩ := hY pre ⟨s.extract i k, Nat.le_trans (extract_le s i k) hs⟩ wr hJ (by omega)
            have c1 : (0 : Int) ≤ (i : Int) := by omega
            have c2 : (i : Int) ≤ (k : Int) := by omega
            have c3 : (k : Int) ≤ (s.size : Int) := by omega
            gi_wp2
            refine ⟨trivial, ?_⟩
            gi_wp2
            refine hR.mono ?_
            rintro e W3 (⟨rfl, hJ3, hk3⟩ | ⟨rfl, hJx3⟩)
            · have hc3 := hk3.trans hc
              gi_wp2
              go_roundw
              case rel => exact ⟨k + 1, pre ++ [⟨s.extract i k, Nat.le_trans (extract_le s i k) hs⟩], by go_num, by omega, by simp; omega, hst2, hJ3, hc3⟩
              case measure => simp [intOf]; omega
            · gi_wp2
              refine bodyPost_ret (results_none rfl _ _ _) rfl ?_
              exact ⟨⟨_, rfl⟩, .inr ⟨pre ++ [⟨s.extract i k, Nat.le_trans (extract_le s i k) hs⟩], ⟨_, hst2.out⟩, hJx3⟩⟩
          · exact absurd hke.out (by omega)
    · gi_wp2
      go_end0
      refine ⟨⟨_, rfl⟩, .inl ⟨pre, ?_, hJ⟩⟩
      have := hsp.out
      rw [List.drop_eq_nil_iff.2 (by rw [hsz.out]; omega)] at this
      simpa [splitGo, one] using this

end Go.Proofs.Ytooimjokbkbleaa
