/- The walk of lines.Write. -/
import Derived.Test.YtooimjokbkbleaaLnE
import Derived.Test.YtooimjokbkbleaaBld
namespace Go.Proofs.Ytooimjokbkbleaa
open Go.RowKit TV
set_option linter.unusedVariables false

theorem bldLen_calls (B b : Nat) (bs : List Value) (w : World) (h : Lib.IsBuilder 49 5 B b bs w) :
    Calls Try.prog 17 #[.pointer (some ⟨b, 0, none⟩)] w fun e w' => e = .returned (.int .i64 bs.length) ∧ w = w' :=
  (Try.Builder_Len B b bs w h).mono fun _ _ ⟨a, b⟩ => ⟨a, b.symm⟩

/-- What lines are handed to Write: as many words on a line as there may be, words of any size that there is. -/
def Bnd (L : List (List ByteArray)) : Prop := L.length ≤ 140737488351232 ∧ ∀ l ∈ L, l.length ≤ 137438953472 ∧ ∀ s ∈ l, s.size ≤ 140737488351232
theorem bnd_of_tot {L : List (List ByteArray)} (h : tot L ≤ 68719476736) : Bnd L := by
  refine ⟨by have := tot_len L; omega, fun l hl => ?_⟩
  obtain ⟨i, hi, rfl⟩ := List.mem_iff_getElem.1 hl
  have h1 := tot_le hi
  have h2 := wsum_len L[i]
  refine ⟨by omega, fun s hs => ?_⟩
  obtain ⟨j, hj, rfl⟩ := List.mem_iff_getElem.1 hs
  have := wsum_le hj
  omega
theorem good_wsum {l : List ByteArray} (h : lineOk (l.map toL) = true) : wsum l ≤ 401 * l.length := by
  have hg : (l.map toL).all goodB = true := by
    unfold lineOk at h; simp only [Bool.and_eq_true] at h; exact h.2
  clear h
  induction l with
  | nil => simp [wsum]
  | cons a l ih =>
    simp only [List.map_cons, List.all_cons, Bool.and_eq_true] at hg
    have h1 := ih hg.2
    have h2 : a.size ≤ 400 := by
      have := hg.1
      unfold goodB at this
      simp only [Bool.and_eq_true, decide_eq_true_eq] at this
      simpa using this.2
    simp [wsum] at h1 ⊢
    omega

theorem write_all {L : List (List ByteArray)} (h : (LL L).all lineOk = true) : writeT (LL L) = writeGo (LL L) [] := by
  unfold writeT; rw [if_pos h]

set_option maxRecDepth 100000 in
set_option maxHeartbeats 4000000 in
theorem write_calls (L : List (List ByteArray)) (v : Value) (w : World) (hL : Sss w v L) (hs : Bnd L) :
    Calls Try.prog 9 #[v] w (WritePost (writeT (LL L)) w) := by
  obtain ⟨p, cap, rfl⟩ := hL.form
  have hlen := hs.1
  have HB := Lib.hid hs.2
  clear hs
  have hLL : Hid ((LL L).length = L.length) := by show _ = _; simp
  go_enter Try.func9, Try.ntmps9
  go_wp2
  go_loop [16] (fun iv => ∃ i : Nat, i ≤ L.length ∧ iv = .int .i64 i ∧ Hid (((LL L).take i).all lineOk = true)) (fun iv => L.length - (intOf iv).toNat)
  case atStart => exact ⟨0, Nat.zero_le _, rfl, by show _ = _; rfl⟩
  case round =>
    obtain ⟨i, hi, rfl, hall⟩ := hrel
    by_cases hlt : i < L.length
    · obtain ⟨b, o, q, c, rfl, hb, hc, hrow⟩ := hL.row hlt
      have hw2 := (HB.out L[i] (List.getElem_mem hlt)).1
      by_cases h0 : L[i].length = 0
      · have hbad : Hid (writeT (LL L) = ([], 1)) := write_bad (i := i) (by rw [hLL.out]; exact hlt) (by
          rw [List.getElem_map, List.length_eq_zero_iff.1 h0]; rfl)
        rw [h0] at hc
        go_wp2
        go_ret2
        refine ⟨?_, Below.refl _ _⟩
        rw [hbad.out]; rfl
      · have h0' : 0 < L[i].length := by omega
        have h0'' : ((L[i].length : Int) == 0) = false := by rw [beq_eq_false_iff_ne]; omega
        have HL0 := Lib.hid h0
        clear h0
        go_wp2
        go_loop [25] (fun iv => ∃ j : Nat, j ≤ L[i].length ∧ iv = .int .i64 j ∧ Hid (((L[i].map toL).take j).all goodB = true)) (fun iv => L[i].length - (intOf iv).toNat)
        case atStart => exact ⟨0, Nat.zero_le _, rfl, by show _ = _; rfl⟩
        case round =>
          obtain ⟨j, hj, rfl, hgood⟩ := hrel
          by_cases hjl : j < L[i].length
          · obtain ⟨b2, o2, rfl, hb2, hc2⟩ := hrow.at hjl
            have hws := (HB.out L[i] (List.getElem_mem hlt)).2 L[i][j] (List.getElem_mem hjl)
            by_cases hg : goodB (toL L[i][j]) = true
            · have HG := Lib.hid hg
              have hga : ∀ W, Calls Try.prog 16 #[.string L[i][j]] W fun e w' => e = .returned (.bool true) ∧ W = w' := fun W => by
                have := good_calls L[i][j] W (by unfold maxLen; omega); rw [hg] at this; exact this
              clear hg
              go_wp2_with (go_at_call 16; refine (hga _).mono ?_; rintro e w' ⟨rfl, rfl⟩)
              go_round
              case rel => exact ⟨j + 1, by omega, by go_num, all_take_succ (by simpa using hjl) hgood.out (by rw [List.getElem_map]; exact HG.out)⟩
              case measure => simp [intOf]; omega
            · have hg : goodB (toL L[i][j]) = false := by simpa using hg
              have hbad := Lib.hid (word_bad hlt hjl hg)
              have hga : ∀ W, Calls Try.prog 16 #[.string L[i][j]] W fun e w' => e = .returned (.bool false) ∧ W = w' := fun W => by
                have := good_calls L[i][j] W (by unfold maxLen; omega); rw [hg] at this; exact this
              clear hg
              go_wp2_with (go_at_call 16; refine (hga _).mono ?_; rintro e w' ⟨rfl, rfl⟩)
              go_ret2
              refine ⟨?_, Below.refl _ _⟩
              rw [hbad.out]; rfl
          · have hje : Hid (j = L[i].length) := by show _ = _; omega
            have hok : Hid (lineOk ((LL L)[i]'(by rw [hLL.out]; exact hlt)) = true) := by
              show _ = _
              have := hgood.out
              rw [List.take_of_length_le (by simp; omega)] at this
              rw [List.getElem_map]; unfold lineOk; rw [this]
              cases hh : L[i] with
              | nil => exact absurd (by rw [hh]; rfl) HL0.out
              | cons => rfl
            go_wp2
            go_round
            case rel => exact ⟨i + 1, by omega, by go_num, all_take_succ (by rw [hLL.out]; exact hlt) hall.out hok.out⟩
            case measure => simp [intOf]; omega
    · have hall' : Hid (writeT (LL L) = writeGo (LL L) []) := by
        refine write_all ?_
        have := hall.out
        rwa [List.take_of_length_le (by rw [hLL.out]; omega)] at this
      have HOK : Hid ((LL L).all lineOk = true) := by
        have := hall.out
        rwa [List.take_of_length_le (by rw [hLL.out]; omega)] at this
      clear hall
      go_wp2
      have hfb := Lib.fresh_isBuilder 49 5 w
      have hBl : Below w.heap.size w (w.alloc (.cells #[.pointer none, .slice none 0 0] 49)) := (Below.refl _ _).alloc (Nat.le_refl _) _
      go_loopw [36] (fun iv wr => ∃ (i : Nat) (out : Bs), i ≤ L.length ∧ iv = .int .i64 i ∧ out.length ≤ 16777216 ∧ Hid (writeT (LL L) = writeGo ((LL L).drop i) out) ∧
        Lib.IsBuilder 49 5 w.heap.size w.heap.size (Lib.byteCells out) wr ∧ Below w.heap.size w wr) (fun iv _ => L.length - (intOf iv).toNat)
      case atStart => exact ⟨0, [], Nat.zero_le _, rfl, Nat.zero_le _, hall'.out, hfb, hBl⟩
      case round =>
        clear hall' hfb hBl hi hlt
        obtain ⟨i, out, hi, rfl, hol, hgo, hib, hbl⟩ := hrel
        obtain ⟨wz, rfl⟩ : ∃ wz : World, wz = wr := ⟨_, rfl⟩
        have hblen : Hid ((Lib.byteCells out).length = out.length) := Lib.byteCells_length _
        by_cases hlt : i < L.length
        · have hw2 := (HB.out L[i] (List.getElem_mem hlt)).1
          have hw1 : wsum L[i] ≤ 55113020342272 := by
            have := good_wsum (l := L[i]) (List.all_eq_true.1 HOK.out _ (List.mem_map.2 ⟨L[i], List.getElem_mem hlt, rfl⟩))
            omega
          obtain ⟨b', o', q3, c3, rfl, hb, hcw, hrow⟩ := hL.row hlt
          have hc := (hbl.cell (p := ⟨b', o' + i, none⟩) hb).trans hcw
          go_wp2_with (go_at_call 17; refine (bldLen_calls _ _ _ _ hib).mono ?_; rintro e w' ⟨rfl, rfl⟩; rw [hblen.out])
          go_loopw [43] (fun jv wr => ∃ j : Nat, j ≤ L[i].length ∧ jv = .int .i64 j ∧
            Lib.IsBuilder 49 5 w.heap.size w.heap.size (Lib.byteCells (out ++ joinW ((L[i].map toL).take j))) wr ∧ Below w.heap.size w wr) (fun jv _ => L[i].length - (intOf jv).toNat)
          case atStart => exact ⟨0, Nat.zero_le _, rfl, by simpa [joinW, joinGo] using hib, hbl⟩
          case round =>
            clear hib hbl hc
            obtain ⟨j, hj, rfl, hib, hbl⟩ := hrel
            obtain ⟨wy, rfl⟩ : ∃ wy : World, wy = wr := ⟨_, rfl⟩
            have hjl0 := join_len ((L[i].map toL).take j) true
            have hjl1 : (joinW ((L[i].map toL).take j)).length ≤ wsum L[i] := Nat.le_trans hjl0 (join_le L[i] j)
            obtain ⟨pre, hpre⟩ : ∃ pre, pre = out ++ joinW ((L[i].map toL).take j) := ⟨_, rfl⟩
            rw [← hpre] at hib
            have HP := Lib.hid hpre
            have hplen : pre.length ≤ 16777216 + wsum L[i] := by rw [hpre, List.length_append]; omega
            clear hpre hjl0 hjl1
            have hplen2 : Hid ((Lib.byteCells pre).length = pre.length) := Lib.byteCells_length _
            by_cases hjl : j < L[i].length
            · obtain ⟨b2, o2, rfl, hb2, hc2w⟩ := hrow.at hjl
              have hc2 := (hbl.cell (p := ⟨b2, o2 + j, none⟩) hb2).trans hc2w
              have hws := wsum_le hjl
              have hsnoc : Hid (out ++ joinW ((L[i].map toL).take (j + 1)) = pre ++ ((if j = 0 then [] else [32]) ++ toL L[i][j])) := join_step hjl HP.out
              by_cases hj0 : 0 < j
              · have hsn : Hid (out ++ joinW ((L[i].map toL).take (j + 1)) = (pre ++ [32]) ++ toL L[i][j]) := by
                  show _ = _; rw [hsnoc.out, if_neg (by omega)]; simp
                clear hsnoc
                go_wp2_with fail
                refine (writeByte_calls _ _ _ _ _ hib (by rw [hplen2.out]; omega) hbl.size).mono ?_
                rintro e w2 ⟨rfl, hib2, hb2⟩
                have hbl2 := hbl.trans hb2
                go_wp2_with fail
                refine (writeString_calls _ _ _ _ _ (Or.inr hib2) (by rw [List.length_append, hplen2.out]; simp; omega) hbl2.size).mono ?_
                rintro e w3 ⟨rfl, hib3, hb3⟩
                go_wp2
                go_roundw
                case rel => exact ⟨j + 1, by omega, by go_num, by rw [hsn.out, Lib.byteCells_append, Lib.byteCells_append]; exact Or.inr hib3, hbl2.trans hb3⟩
                case measure => simp [intOf]; omega
              · obtain rfl : j = 0 := by omega
                have hsn : Hid (out ++ joinW ((L[i].map toL).take (0 + 1)) = pre ++ toL L[i][0]) := by
                  show _ = _; rw [hsnoc.out, if_pos rfl]; simp
                clear hsnoc
                rw [Nat.add_zero] at hc2
                go_wp2_with fail
                refine (writeString_calls _ _ _ _ _ hib (by rw [hplen2.out]; omega) hbl.size).mono ?_
                rintro e w3 ⟨rfl, hib3, hb3⟩
                go_wp2
                go_roundw
                case rel => exact ⟨1, by omega, by go_num, by rw [hsn.out, Lib.byteCells_append]; exact Or.inr hib3, hbl.trans hb3⟩
                case measure => simp [intOf]; omega
            · have hje : Hid (j = L[i].length) := by show _ = _; omega
              have hpre2 : Hid (pre = out ++ joinW (L[i].map toL)) := by
                show _ = _; rw [HP.out, List.take_of_length_le (by simp; omega)]
              have hstep : Hid (writeT (LL L) = if 65536 < (joinW (L[i].map toL)).length ∨ 16777216 < out.length + (joinW (L[i].map toL)).length + 1 then ([], 3) else writeGo ((LL L).drop (i + 1)) (out ++ joinW (L[i].map toL) ++ [10])) := by
                show _ = _
                rw [hgo.out, List.drop_eq_getElem_cons (by rw [hLL.out]; exact hlt), List.getElem_map, writeGo]
              have hpl : pre.length = out.length + (joinW (L[i].map toL)).length := by rw [hpre2.out, List.length_append]
              have hpl2 := Lib.hid hpl
              have hop : out.length ≤ pre.length := by omega
              clear hgo hpl
              by_cases hA : 65536 < (pre.length : Int) - (out.length : Int)
              · have hbad : Hid (writeT (LL L) = ([], 3)) := by show _ = _; rw [hstep.out, if_pos (by left; have := hpl2.out; omega)]
                go_wp2_with (go_at_call 17; refine (bldLen_calls _ _ _ _ hib).mono ?_; rintro e w' ⟨rfl, rfl⟩; rw [hplen2.out])
                go_ret2
                refine ⟨?_, hbl⟩
                rw [hbad.out]; rfl
              · by_cases hB : 16777216 < (pre.length : Int) + 1
                · have hbad : Hid (writeT (LL L) = ([], 3)) := by show _ = _; rw [hstep.out, if_pos (by right; have := hpl2.out; omega)]
                  go_wp2_with (go_at_call 17; refine (bldLen_calls _ _ _ _ hib).mono ?_; rintro e w' ⟨rfl, rfl⟩; rw [hplen2.out])
                  go_ret2
                  refine ⟨?_, hbl⟩
                  rw [hbad.out]; rfl
                · have hok : Hid (writeT (LL L) = writeGo ((LL L).drop (i + 1)) (pre ++ [10])) := by
                    show _ = _; rw [hstep.out, if_neg (by have := hpl2.out; omega), ← hpre2.out]
                  have hB0 : pre.length + 1 ≤ 16777216 := by omega
                  have hB1 : decide ((16777216 : Int) ≤ (pre.length : Int)) = false := decide_eq_false (by omega)
                  have hB2 := Lib.hid hB0
                  have hA2 := Lib.hid hplen
                  have hA3 := Lib.hid hol
                  have hA1 : (pre.length : Int) - (out.length : Int) ≤ 65536 := by omega
                  have hP1 : pre.length ≤ 20000000 := by omega
                  have hi1 : i + 1 ≤ L.length := by omega
                  clear hA hB hB0 hplen hol
                  go_wp2_with (go_at_call 17; refine (bldLen_calls _ _ _ _ hib).mono ?_; rintro e w' ⟨rfl, rfl⟩; rw [hplen2.out])
                  refine (writeByte_calls _ _ _ _ _ hib (by rw [hplen2.out]; have := hB2.out; omega) hbl.size).mono ?_
                  rintro e w2 ⟨rfl, hib2, hb2⟩
                  go_wp2_with fail
                  go_roundw
                  case rel => exact ⟨i + 1, pre ++ [10], hi1, by go_num, by have := hB2.out; simp; omega, hok.out, by rw [Lib.byteCells_append]; exact Or.inr hib2, hbl.trans hb2⟩
                  case measure => simp [intOf]; omega
        · have hfin : Hid (writeT (LL L) = (out, 0)) := by
            show _ = _; rw [hgo.out, List.drop_eq_nil_iff.2 (by rw [hLL.out]; omega), writeGo]
          go_wp2_with (go_at_call 20; refine (Try.Builder_String_any _ _ _ _ hib hbl.size).mono ?_; rintro e w2 ⟨rfl, hb2⟩)
          go_ret2
          refine ⟨?_, hbl.trans hb2⟩
          rw [hfin.out]; rfl

end Go.Proofs.Ytooimjokbkbleaa
