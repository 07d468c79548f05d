/- The walk of the reference's Write. -/
import Derived.Test.YtooimjokbkbleaaLnD
import Derived.Deep.QuietTactic
import Derived.BigQuiet
import Derived.Lib.AppendStr
import Derived.Lib.BufferRead
import Derived.Laws.IdiomStrings
namespace Go.Proofs.Ytooimjokbkbleaa
open Go.RowKit TV
set_option linter.unusedVariables false

def WritePost (t : Bs × Nat) (w : World) (e : Ending) (w' : World) : Prop :=
  e = .returned (.tuple #[.string ⟨t.1.toArray⟩, .int .i64 (t.2 : Int)]) ∧ Below w.heap.size w w'

theorem write_bad {L : List (List Bs)} {i : Nat} (hi : i < L.length) (h : lineOk L[i] = false) : writeT L = ([], 1) := by
  unfold writeT
  rw [if_neg]
  intro ha
  rw [List.all_eq_true] at ha
  have := ha L[i] (List.getElem_mem hi)
  rw [h] at this; cases this

theorem all_take_succ {α : Type} {P : α → Bool} {l : List α} {i : Nat} (hi : i < l.length) (h : (l.take i).all P = true) (h2 : P l[i] = true) : (l.take (i + 1)).all P = true := by
  rw [List.take_succ_eq_append_getElem hi, List.all_append, h]; simp [h2]
theorem not_all {α : Type} {P : α → Bool} {l : List α} {i : Nat} (hi : i < l.length) (h2 : P l[i] = false) : l.all P = false := by
  rw [Bool.eq_false_iff]; intro h; rw [List.all_eq_true] at h; have := h _ (List.getElem_mem hi); rw [h2] at this; cases this

theorem toL_inj {a b : ByteArray} (h : toL a = toL b) : a = b := by
  cases a; cases b; congr 1; exact Array.ext' h

abbrev LL (L : List (List ByteArray)) : List (List Bs) := L.map (fun l => l.map toL)

theorem word_bad {L : List (List ByteArray)} {i j : Nat} (hi : i < L.length) (hj : j < L[i].length) (h : goodB (toL L[i][j]) = false) : writeT (LL L) = ([], 1) := by
  refine write_bad (i := i) (by simpa using hi) ?_
  rw [List.getElem_map]; unfold lineOk
  rw [not_all (i := j) (by simpa using hj) (by rw [List.getElem_map]; exact h), Bool.and_false]

theorem join_len (l : List Bs) (b : Bool) : (joinGo l b).length ≤ (l.map (fun s => s.length + 1)).sum := by
  induction l generalizing b with
  | nil => simp [joinGo]
  | cons a l ih => have := ih false; cases b <;> simp [joinGo] <;> omega
theorem sum_take (l : List Nat) (j : Nat) : (l.take j).sum ≤ l.sum := by
  induction l generalizing j with
  | nil => simp
  | cons a l ih => cases j with
    | zero => simp
    | succ j => have := ih j; simp; omega
theorem join_le (l : List ByteArray) (j : Nat) : (((l.map toL).take j).map (fun s => s.length + 1)).sum ≤ wsum l := by
  unfold wsum
  rw [← List.map_take, List.map_map, List.map_take]
  have e : ((fun s : Bs => s.length + 1) ∘ toL) = (fun s : ByteArray => s.size + 1) := by funext s; simp
  rw [e]; exact sum_take _ _
theorem join_snoc (l : List Bs) (w : Bs) (b : Bool) : joinGo (l ++ [w]) b = joinGo l b ++ ((if l = [] ∧ b = true then [] else [32]) ++ w) := by
  induction l generalizing b with
  | nil => cases b <;> simp [joinGo]
  | cons a l ih => simp [joinGo, ih]
theorem join_step {l : List ByteArray} {j : Nat} {out pre : Bs} (hjl : j < l.length) (hp : pre = out ++ joinW ((l.map toL).take j)) :
    out ++ joinW ((l.map toL).take (j + 1)) = pre ++ ((if j = 0 then [] else [32]) ++ toL l[j]) := by
  rw [List.take_succ_eq_append_getElem (by simpa using hjl), joinW, join_snoc, List.getElem_map, hp, joinW, List.append_assoc]
  congr 3
  have : ((l.map toL).take j = [] ∧ true = true) ↔ j = 0 := by
    simp only [and_true, List.take_eq_nil_iff, List.map_eq_nil_iff]
    constructor
    · rintro (h | h)
      · exact h
      · rw [h] at hjl; simp at hjl
    · exact Or.inl
  by_cases h0 : j = 0
  · rw [if_pos (this.2 h0), if_pos h0]
  · rw [if_neg (fun h' => h0 (this.1 h')), if_neg h0]
theorem info_u8 : (Try.prog.info? 5).map (fun i => (i.zero, i.size, i.bytes)) = some (some (.int .u8 0), 1, 1) := by kernel_rfl

/-- The bytes that are owned, as a string. -/
theorem conv_own {w : World} {base : Nat} {p : Option Addr} {cap : Nat} {l : Bs} (h : w.ownsRow base 5 1 (.slice p l.length cap) l.length (Lib.byteCells l)) :
    (convert 46 9 (.slice p l.length cap)).run Try.prog w = .ok (.string ⟨l.toArray⟩) w := by
  rcases own_sl h with ⟨h1, h2⟩ | ⟨b, o, c, h1, h2, h3, h4⟩
  · have hl : l = [] := by simpa [Lib.byteCells] using h2
    subst hl
    simp only [Value.slice.injEq] at h1
    obtain ⟨rfl, -, -⟩ := h1
    exact Lib.run_convert_nil_bytes w _ _ 5 cap Try.underlying46 Try.underlying5 Try.underlying9
  · simp only [Value.slice.injEq] at h1
    obtain ⟨rfl, -, rfl⟩ := h1
    refine run_convert_bytes_back w _ _ 5 ⟨b, o, none⟩ cap l Try.underlying46 Try.underlying5 Try.underlying9 ?_
    intro j hj
    have := h4 j (by simpa [Lib.byteCells] using hj)
    by_cases h0 : j = 0
    · subst h0; simpa [Lib.byteCells, Addr.add] using this
    · simpa [Lib.byteCells, Addr.add, h0] using this

set_option maxRecDepth 100000 in
set_option maxHeartbeats 4000000 in
theorem refwrite_calls (L : List (List ByteArray)) (v : Value) (w : World) (hL : Sss w v L) (hs : tot L ≤ 1099511627776) :
    Calls Try.prog 8 #[v] w (WritePost (writeT (LL L)) w) := by
  obtain ⟨p, cap, rfl⟩ := hL.form
  have hlen := tot_len L
  have hLL : Hid ((LL L).length = L.length) := by show _ = _; simp
  go_enter Try.func8, Try.ntmps8
  go_wp2
  go_loopw [4] (fun iv wr => ∃ i : Nat, i ≤ L.length ∧ iv = .int .i64 i ∧ Hid (((LL L).take i).all lineOk = true) ∧ Below w.heap.size w wr) (fun iv _ => L.length - (intOf iv).toNat)
  case atStart => exact ⟨0, Nat.zero_le _, rfl, by show _ = _; rfl, Below.refl _ _⟩
  case round =>
    obtain ⟨i, hi, rfl, hall, hbl⟩ := hrel
    obtain ⟨wz, rfl⟩ : ∃ wz : World, wz = wr := ⟨_, rfl⟩
    by_cases hlt : i < L.length
    · have hLz := hL.keep hbl
      obtain ⟨b, o, q, c, rfl, hb, hc, hrow⟩ := hLz.row hlt
      have hw1 := tot_le hlt
      have hw2 := wsum_len L[i]
      by_cases h0 : L[i].length = 0
      · have hbad : Hid (writeT (LL L) = ([], 1)) := write_bad (i := i) (by rw [hLL.out]; exact hlt) (by
          rw [List.getElem_map, List.length_eq_zero_iff.1 h0]; rfl)
        rw [h0] at hc
        go_wp2
        go_ret2
        refine ⟨?_, hbl⟩
        rw [hbad.out]; rfl
      · have h0' : 0 < L[i].length := by omega
        have h0'' : ((L[i].length : Int) == 0) = false := by rw [beq_eq_false_iff_ne]; omega
        have HL0 := Lib.hid h0
        clear h0
        go_wp2
        go_loopw [5] (fun iv wr => ∃ j : Nat, j ≤ L[i].length ∧ iv = .int .i64 j ∧ Hid (((L[i].map toL).take j).all goodB = true) ∧ Below w.heap.size w wr) (fun iv _ => L[i].length - (intOf iv).toNat)
        case atStart => exact ⟨0, Nat.zero_le _, rfl, by show _ = _; rfl, hbl⟩
        case round =>
          clear hc hrow hLz hb
          obtain ⟨j, hj, rfl, hgood, hbl⟩ := hrel
          have hLz := hL.keep hbl
          obtain ⟨b', o', q, c, hp, hb, hc, hrow⟩ := hLz.row hlt
          simp only [Option.some.injEq, Addr.mk.injEq] at hp
          obtain ⟨rfl, rfl, -⟩ := hp
          obtain ⟨wy, rfl⟩ : ∃ wy : World, wy = wr := ⟨_, rfl⟩
          by_cases hjl : j < L[i].length
          · obtain ⟨b2, o2, rfl, hb2, hc2⟩ := hrow.at hjl
            have hws := wsum_le hjl
            go_wp2_with fail
            refine (refwords_calls _ _ (by omega)).mono ?_
            rintro e w2 ⟨hk2, ⟨ws, sv, hlw, rfl, hown⟩ | ⟨hlw, rfl⟩⟩
            · have HW := Lib.hid hlw
              clear hlw
              obtain ⟨q2, cap2, rfl⟩ := own_form hown
              have hc' := keep_cell hk2 hc
              have hc2' := keep_cell hk2 hc2
              by_cases h1 : ws.length = 1
              · obtain ⟨x, rfl⟩ := List.length_eq_one_iff.1 h1
                obtain ⟨g, cap3, hg, hg1, hg2⟩ := own_some hown (by simp)
                simp only [Value.slice.injEq] at hg
                obtain ⟨rfl, -, rfl⟩ := hg
                have hcell := (own_cell hown (i := 0) (by simp)).1
                simp only [List.map_cons, List.map_nil, List.getElem_cons_zero] at hcell
                clear h1
                by_cases hx : x = L[i][j]
                · have HG : Hid (goodB (toL L[i][j]) = true) := (word_good _).1 (by rw [HW.out, hx]; rfl)
                  have hx2 : (x.toList == L[i][j].toList) = true := by rw [hx]; exact beq_self_eq_true _
                  clear hx
                  go_wp2_with fail
                  go_quiet (fail)
                  go_wp2
                  go_roundw
                  case rel => exact ⟨j + 1, by omega, by go_num, all_take_succ (by simpa using hjl) hgood.out (by rw [List.getElem_map]; exact HG.out), hbl.trans ((below_drewN hk2 _).mono hbl.size)⟩
                  case measure => simp [intOf]; omega
                · have HNG : Hid (goodB (toL L[i][j]) = false) := by
                    refine Bool.eq_false_iff.2 fun h => hx ?_
                    have := (word_good _).2 h
                    rw [HW.out] at this
                    simp only [List.map_cons, List.map_nil, Option.some.injEq, List.cons.injEq, and_true] at this
                    exact toL_inj this
                  have hx2 : (x.toList == L[i][j].toList) = false := by
                    rw [beq_eq_false_iff_ne, Lib.toList_data, Lib.toList_data]; exact fun h => hx (toL_inj h)
                  clear hx
                  go_wp2_with fail
                  go_quiet (fail)
                  go_wp2
                  have hbad := Lib.hid (word_bad hlt hjl HNG.out)
                  go_ret2
                  refine ⟨?_, hbl.trans ((below_drewN hk2 _).mono hbl.size)⟩
                  rw [hbad.out]; rfl
              · have h1' : ((ws.length : Int) != 1) = true := by rw [bne_iff_ne]; omega
                clear h1
                have HNG : Hid (goodB (toL L[i][j]) = false) := by
                  refine Bool.eq_false_iff.2 fun h => ?_
                  have := (word_good _).2 h
                  rw [HW.out] at this
                  simp only [Option.some.injEq] at this
                  have := congrArg List.length this
                  simp at this
                  rw [this] at h1'; cases h1'
                go_wp2_with fail
                go_quiet (fail)
                go_wp2
                have hbad := Lib.hid (word_bad hlt hjl HNG.out)
                go_ret2
                refine ⟨?_, hbl.trans ((below_drewN hk2 _).mono hbl.size)⟩
                rw [hbad.out]; rfl
            · have HW := Lib.hid hlw
              clear hlw
              have HNG : Hid (goodB (toL L[i][j]) = false) := by
                refine Bool.eq_false_iff.2 fun h => ?_
                have := (word_good _).2 h
                rw [HW.out] at this; cases this
              go_wp2_with fail
              go_quiet (fail)
              go_wp2
              have hbad := Lib.hid (word_bad hlt hjl HNG.out)
              go_ret2
              refine ⟨?_, hbl.trans ((below_drewN hk2 _).mono hbl.size)⟩
              rw [hbad.out]; rfl
          · have hje : Hid (j = L[i].length) := by show _ = _; omega
            have hok : Hid (lineOk ((LL L)[i]'(by rw [hLL.out]; exact hlt)) = true) := by
              show _ = _
              have := hgood.out
              rw [List.take_of_length_le (by simp; omega)] at this
              rw [List.getElem_map]; unfold lineOk; rw [this]
              cases hh : L[i] with
              | nil => exact absurd (by rw [hh]; rfl) HL0.out
              | cons => rfl
            go_wp2
            go_roundw
            case rel => exact ⟨i + 1, by omega, by go_num, all_take_succ (by rw [hLL.out]; exact hlt) hall.out hok.out, hbl⟩
            case measure => simp [intOf]; omega
    · have hall' : Hid (writeT (LL L) = writeGo (LL L) []) := by
        show _ = _
        have := hall.out
        rw [List.take_of_length_le (by rw [hLL.out]; omega)] at this
        unfold writeT; rw [if_pos this]
      clear hall
      go_wp2
      go_loopw [8, 9] (fun ov iv wr => ∃ (i : Nat) (out : Bs), i ≤ L.length ∧ iv = .int .i64 i ∧ out.length ≤ 16777216 ∧ Hid (writeT (LL L) = writeGo ((LL L).drop i) out) ∧
        wr.ownsRow w.heap.size 5 1 ov out.length (Lib.byteCells out) ∧ Below w.heap.size w wr) (fun _ iv _ => L.length - (intOf iv).toNat)
      case atStart => exact ⟨0, [], Nat.zero_le _, rfl, Nat.zero_le _, hall'.out, ⟨rfl, Or.inl ⟨rfl, rfl⟩⟩, hbl⟩
      case round =>
        clear hall' hbl hi hlt
        obtain ⟨i, out, hi, rfl, hol, hgo, hown, hbl⟩ := hrel
        obtain ⟨wz, rfl⟩ : ∃ wz : World, wz = wr := ⟨_, rfl⟩
        obtain ⟨q, cap, rfl⟩ := own_form hown
        by_cases hlt : i < L.length
        · have hw1 := tot_le hlt
          have hw2 := wsum_len L[i]
          go_wp2
          go_loopw [8, 11] (fun ov jv wr => ∃ j : Nat, j ≤ L[i].length ∧ jv = .int .i64 j ∧
            wr.ownsRow w.heap.size 5 1 ov (out ++ joinW ((L[i].map toL).take j)).length (Lib.byteCells (out ++ joinW ((L[i].map toL).take j))) ∧ Below w.heap.size w wr) (fun _ jv _ => L[i].length - (intOf jv).toNat)
          case atStart => exact ⟨0, Nat.zero_le _, rfl, by simpa [joinW, joinGo] using hown, hbl⟩
          case round =>
            clear hown hbl
            obtain ⟨j, hj, rfl, hown, hbl⟩ := hrel
            obtain ⟨b', o', q3, c3, rfl, hb, hcw, hrow⟩ := hL.row hlt
            obtain ⟨wy, rfl⟩ : ∃ wy : World, wy = wr := ⟨_, rfl⟩
            have hc := (hbl.cell (p := ⟨b', o' + i, none⟩) hb).trans hcw
            have HCW := Lib.hid hcw
            clear hcw
            have hjl0 := join_len ((L[i].map toL).take j) true
            have hjl1 : (joinW ((L[i].map toL).take j)).length ≤ wsum L[i] := Nat.le_trans hjl0 (join_le L[i] j)
            obtain ⟨pre, hpre⟩ : ∃ pre, pre = out ++ joinW ((L[i].map toL).take j) := ⟨_, rfl⟩
            rw [← hpre] at hown
            have HP := Lib.hid hpre
            have hplen : pre.length ≤ 16777216 + wsum L[i] := by rw [hpre, List.length_append]; omega
            clear hpre hjl0 hjl1
            obtain ⟨q4, cap4, rfl⟩ := own_form hown
            by_cases hjl : j < L[i].length
            · obtain ⟨b2, o2, rfl, hb2, hc2w⟩ := hrow.at hjl
              have hc2 := (hbl.cell (p := ⟨b2, o2 + j, none⟩) hb2).trans hc2w
              have HC2W := Lib.hid hc2w
              clear hc2w
              have hws := wsum_le hjl
              obtain ⟨i0, hi0, hz0, hz1, hz2⟩ := info_parts info_u8
              have hsnoc : Hid (out ++ joinW ((L[i].map toL).take (j + 1)) = pre ++ ((if j = 0 then [] else [32]) ++ toL L[i][j])) := join_step hjl HP.out
              by_cases hj0 : 0 < j
              · have hsn : Hid (out ++ joinW ((L[i].map toL).take (j + 1)) = (pre ++ [32]) ++ toL L[i][j]) := by
                  show _ = _; rw [hsnoc.out, if_neg (by omega)]; simp
                clear hsnoc
                go_wp2_with (first | (at_builtin; (refine Lib.wpList_append_own_string _ rfl _ _ 46 9 rfl w.heap.size 5 i0 Try.underlying46 Try.underlying9 hi0 hz0 hz1 hz2 _ _ _ rfl hown2 _ rfl (by unfold maxLen; omega) (by omega) hB2.size ?_; intro ov' w3 hown3 hgrow3 hnil3; clear hnil3)) | (at_builtin; (refine wpList_append_own _ rfl _ _ 46 rfl w.heap.size 5 i0 (.int .u8 0) 1 1 Try.underlying46 hi0 hz0 hz1 hz2 rfl (by decide) _ _ _ rfl (hown.alloc _) ⟨wy.heap.size, 0, none⟩ 1 1 [.int .u8 32] rfl rfl (news_one _ _ _) (by simp [Value.oneCell']) (by unfold maxLen; omega) (by omega) (by have := hbl.size; simp; omega) ?_; intro ov' w2 hown2 hgrow hnil; clear hnil; obtain ⟨q5, cap5, rfl⟩ := own_form hown2; have hB2 := (hbl.alloc hbl.size (.cells #[.int .u8 32] 5)).grown hgrow (by have := hbl.size; simp; omega) (fun k hk => by have := own_block hown _ hk; omega); have hcA := (hB2.cell (p := ⟨b', o' + i, none⟩) hb).trans HCW.out; have hcB := (hB2.cell (p := ⟨b2, o2 + j, none⟩) hb2).trans HC2W.out)))
                go_wp2
                go_roundw
                case rel => exact ⟨j + 1, by omega, by go_num, by
                  rw [hsn.out, Lib.byteCells_append, Lib.byteCells_append, List.length_append, List.length_append]; exact hown3, hB2.grown hgrow3 hB2.size (fun k hk => by have := own_block hown2 _ hk; omega)⟩
                case measure => simp [intOf]; omega
              · obtain rfl : j = 0 := by omega
                have hsn : Hid (out ++ joinW ((L[i].map toL).take (0 + 1)) = pre ++ toL L[i][0]) := by
                  show _ = _; rw [hsnoc.out, if_pos rfl]; simp
                clear hsnoc
                rw [Nat.add_zero] at hc2
                go_wp2_with (at_builtin; (refine Lib.wpList_append_own_string _ rfl _ _ 46 9 rfl w.heap.size 5 i0 Try.underlying46 Try.underlying9 hi0 hz0 hz1 hz2 _ _ _ rfl hown _ rfl (by unfold maxLen; omega) (by omega) hbl.size ?_; intro ov' w3 hown3 hgrow3 hnil3; clear hnil3))
                obtain ⟨q5, cap5, rfl⟩ := own_form hown3
                have hB3 := hbl.grown hgrow3 hbl.size (fun k hk => by have := own_block hown _ hk; omega)
                go_wp2
                go_roundw
                case rel => exact ⟨1, by omega, by go_num, by rw [hsn.out, Lib.byteCells_append, List.length_append]; exact hown3, hB3⟩
                case measure => simp [intOf]; omega
            · have hje : Hid (j = L[i].length) := by show _ = _; omega
              have hpre2 : Hid (pre = out ++ joinW (L[i].map toL)) := by
                show _ = _; rw [HP.out, List.take_of_length_le (by simp; omega)]
              have hstep : Hid (writeT (LL L) = if 65536 < (joinW (L[i].map toL)).length ∨ 16777216 < out.length + (joinW (L[i].map toL)).length + 1 then ([], 3) else writeGo ((LL L).drop (i + 1)) (out ++ joinW (L[i].map toL) ++ [10])) := by
                show _ = _
                rw [hgo.out, List.drop_eq_getElem_cons (by rw [hLL.out]; exact hlt), List.getElem_map, writeGo]
              have hpl : pre.length = out.length + (joinW (L[i].map toL)).length := by rw [hpre2.out, List.length_append]
              have hpl2 := Lib.hid hpl
              have hop : out.length ≤ pre.length := by omega
              clear hgo hpl
              by_cases hA : 65536 < (pre.length : Int) - (out.length : Int)
              · have hbad : Hid (writeT (LL L) = ([], 3)) := by show _ = _; rw [hstep.out, if_pos (by left; have := hpl2.out; omega)]
                go_wp2
                go_ret2
                refine ⟨?_, hbl⟩
                rw [hbad.out]; rfl
              · by_cases hB : 16777216 < (pre.length : Int) + 1
                · have hbad : Hid (writeT (LL L) = ([], 3)) := by show _ = _; rw [hstep.out, if_pos (by right; have := hpl2.out; omega)]
                  go_wp2
                  go_ret2
                  refine ⟨?_, hbl⟩
                  rw [hbad.out]; rfl
                · have hok : Hid (writeT (LL L) = writeGo ((LL L).drop (i + 1)) (pre ++ [10])) := by
                    show _ = _; rw [hstep.out, if_neg (by have := hpl2.out; omega), ← hpre2.out]
                  obtain ⟨i0, hi0, hz0, hz1, hz2⟩ := info_parts info_u8
                  go_wp2_with (at_builtin; refine wpList_append_own _ rfl _ _ 46 rfl w.heap.size 5 i0 (.int .u8 0) 1 1 Try.underlying46 hi0 hz0 hz1 hz2 rfl (by decide) _ _ _ rfl (hown.alloc _) ⟨wy.heap.size, 0, none⟩ 1 1 [.int .u8 10] rfl rfl (news_one _ _ _) (by simp [Value.oneCell']) (by unfold maxLen; omega) (by omega) (by have := hbl.size; simp; omega) ?_; intro ov' w2 hown2 hgrow hnil; clear hnil)
                  obtain ⟨q5, cap5, rfl⟩ := own_form hown2
                  have hB2 := (hbl.alloc hbl.size (.cells #[.int .u8 10] 5)).grown hgrow (by have := hbl.size; simp; omega) (fun k hk => by have := own_block hown _ hk; omega)
                  go_wp2
                  go_roundw
                  case rel => exact ⟨i + 1, pre ++ [10], by omega, by go_num, by simp; omega, hok.out, by rw [Lib.byteCells_append, List.length_append]; exact hown2, hB2⟩
                  case measure => simp [intOf]; omega
        · have hfin : Hid (writeT (LL L) = (out, 0)) := by
            show _ = _; rw [hgo.out, List.drop_eq_nil_iff.2 (by rw [hLL.out]; omega), writeGo]
          have hcv := conv_own hown
          go_wp2
          go_ret2
          refine ⟨?_, hbl⟩
          rw [hfin.out]; rfl

end Go.Proofs.Ytooimjokbkbleaa
