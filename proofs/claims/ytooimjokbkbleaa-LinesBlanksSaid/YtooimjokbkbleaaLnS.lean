/- The law LinesBlanks, walked. -/
import Derived.Test.YtooimjokbkbleaaLnQ
import Derived.Test.YtooimjokbkbleaaLnR
import Derived.Laws.Concat
namespace Go.Proofs.Ytooimjokbkbleaa
open Go.RowKit Go.Shelf TV
set_option linter.unusedVariables false

def cleanOf (r : Bs) : Bs := r.filter (fun c => !(c == 10))

theorem blanks_le (ah : Int) : wrap64 ((IntKind.u64.wrap ah).tmod 9) ≤ 8 := by
  have h0 : 0 ≤ IntKind.u64.wrap ah := by
    simp only [IntKind.wrap, IntKind.signed, IntKind.bits, Bool.false_and, Bool.false_eq_true, if_false]
    exact Int.emod_nonneg _ (by decide)
  rw [Int.tmod_eq_emod_of_nonneg h0]
  unfold wrap64
  omega
theorem len_data (a : ByteArray) : a.data.toList.length = a.size := by rw [Array.length_toList]; rfl
theorem more_app (mb bb lb cb : ByteArray) : (mb ++ bb ++ lb ++ ⟨#[32, 35]⟩ ++ cb ++ ⟨#[10]⟩ ++ bb ++ ⟨#[10]⟩).data.toList = mb.data.toList ++ (bb.data.toList ++ lb.data.toList ++ [32, 35] ++ cb.data.toList ++ [10] ++ bb.data.toList ++ [10]) := by
  simp only [ByteArray.data_append, Array.toList_append, List.append_assoc]
theorem more_tot {bl cl L : Bs} (hbl : bl.length ≤ 8) (hcl : cl.length ≤ 1000) (hL : L.length ≤ 1000) : (moreOf bl cl (linesGo L [])).length ≤ 10030020 := by
  have hp := linesGo_parts L [] (fun _ h => by cases h)
  have h1 := more_len (bl := bl) (clean := cl) hbl hcl (linesGo L []) (fun l hl => by have := (hp l hl).2; simp at this; omega)
  have h2 := linesGo_count L []
  have h3 : (linesGo L []).length * 10020 ≤ 1001 * 10020 := Nat.mul_le_mul (by omega) (Nat.le_refl _)
  omega
theorem clean_nl (r : Bs) : noNl (cleanOf r) := by
  intro c hc
  unfold cleanOf at hc
  rw [List.mem_filter] at hc
  simpa using hc.2
theorem dbl_at {X Y : List LnX} (h : (rX X).map dbl = rX Y) {i : Nat} (hi : i < X.length) (hj : i < Y.length) : Y[i].1 = 2 * X[i].1 - 1 ∧ Y[i].2.2 = X[i].2.2 := by
  have h2 : (rX Y)[i]? = ((rX X).map dbl)[i]? := by rw [h]
  rw [List.getElem?_map, rX, rX, List.getElem?_map, List.getElem?_map, List.getElem?_eq_getElem hi, List.getElem?_eq_getElem hj] at h2
  simp only [Option.map_some, Option.some.injEq, dbl, Prod.mk.injEq] at h2
  exact ⟨h2.1, (List.map_inj_right (fun _ _ h => toL_inj h)).1 h2.2⟩
theorem toL_append (a b : ByteArray) : toL (a ++ b) = toL a ++ toL b := by simp [toL]
theorem size_append (a b : ByteArray) : (a ++ b).size = a.size + b.size := by simp
theorem toL_char {s : ByteArray} {i : Nat} (h : i < s.size) : toL (s.extract i (i + 1)) = [s[i]] := by
  show (s.extract i (i + 1)).data.toList = _
  rw [extract_list, take_snoc s i h, List.drop_append_of_le_length (by simp; omega), List.drop_eq_nil_iff.2 (by simp; omega)]; rfl
theorem size_one {b : ByteArray} {c : UInt8} (h : toL b = [c]) : b.size = 1 := by
  have := congrArg List.length h
  simpa using this
theorem size_char {s : ByteArray} {i : Nat} (h : i < s.size) : (s.extract i (i + 1)).size = 1 := by
  have := congrArg List.length (toL_char h)
  simp at this ⊢; omega

set_option maxRecDepth 2000000 in
set_option maxHeartbeats 8000000 in
theorem LinesBlanks_walk (s r : ByteArray) (ah : Int) (w : World) (hs : s.size ≤ 140737488351232) (hr : r.size ≤ 140737488351232) (hah : (Lit.int .i64 ah).wf = true) (hmx : ∃ m, w.cell? ⟨0, 0, none⟩ = some (.int .i64 m)) :
    Calls Try.prog 7 #[.string s, .string r, .int .i64 ah] w fun e w' => e = .returned (.bool true) ∧ Below w.heap.size w w' := by
  obtain ⟨m, hm⟩ := hmx
  have hmb : 0 < w.heap.size := World.block_lt_of_cell? w _ hm
  have HM := Lib.hid (fun (W : World) (h : Below w.heap.size w W) => (h.cell (p := ⟨0, 0, none⟩) hmb).trans hm)
  have HW := Lib.hid (works_calls m)
  clear hm
  by_cases hbig : s.size ≤ 1000 ∧ r.size ≤ 1000
  · obtain ⟨hs1, hr1⟩ := hbig
    go_enter Try.func7, Try.ntmps7
    go_wp2_with fail
    refine (HW.out _ (HM.out _ (Below.refl _ _))).mono ?_
    rintro e w1 ⟨rfl, hB1⟩
    clear HW
    go_wp2_with fail
    go_loop [7, 8] (fun cv iv => ∃ (i : Nat) (cb : ByteArray), i ≤ r.size ∧ iv = .int .i64 i ∧ cv = .string cb ∧ Hid (toL cb = cleanOf ((toL r).take i)) ∧ cb.size ≤ i) (fun _ iv => r.size - (intOf iv).toNat)
    case atStart => exact ⟨0, ByteArray.empty, Nat.zero_le _, rfl, rfl, by show _ = _; rfl, Nat.le_refl _⟩
    case round =>
      obtain ⟨i, cb, hi, rfl, rfl, hcb, hcs⟩ := hrel
      by_cases hlt : i < r.size
      · by_cases h10 : r[i] = 10
        · have b1 : ((r[i].toNat : Int) == 10) = true := byte_eq (m := 10) (by decide) h10
          have b2 : ((r[i].toNat : Int) != 10) = false := by rw [bne, b1]; rfl
          have hstep : Hid (toL cb = cleanOf ((toL r).take (i + 1))) := by
            show _ = _
            rw [hcb.out, take_snoc r i hlt, cleanOf, cleanOf, List.filter_append, h10]; simp
          clear hcb h10
          go_wp2
          go_round
          case rel => exact ⟨i + 1, cb, by omega, by go_num, rfl, hstep, by omega⟩
          case measure => simp [intOf]; omega
        · have b1 : ((r[i].toNat : Int) == 10) = false := byte_ne (m := 10) (by decide) h10
          have b2 : ((r[i].toNat : Int) != 10) = true := by rw [bne, b1]; rfl
          have hstep : Hid (toL cb ++ [r[i]] = cleanOf ((toL r).take (i + 1))) := by
            show _ = _
            rw [hcb.out, take_snoc r i hlt, cleanOf, cleanOf, List.filter_append]; simp [h10]
          have c1 : (0 : Int) ≤ (i : Int) := by omega
          have c2 : (i : Int) ≤ (i : Int) + 1 := by omega
          have c3 : (i : Int) + 1 ≤ (r.size : Int) := by omega
          clear hcb h10
          go_wp2
          go_round
          case rel => exact ⟨i + 1, cb ++ r.extract i (i + 1), by omega, by go_num, rfl, by
            show _ = _
            rw [toL_append, toL_char hlt, hstep.out], by rw [size_append, size_char hlt]; omega⟩
          case measure => simp [intOf]; omega
      · have hcl : Hid (toL cb = cleanOf (toL r)) := by
          show _ = _; rw [hcb.out, List.take_of_length_le (by simp; omega)]
        have hcs2 : cb.size ≤ 1000 := by omega
        have hcs3 := Lib.hid hcs2
        clear hcb hcs
        go_wp2
        go_loop [9, 10] (fun bv iv => ∃ (i : Nat) (bb : ByteArray), i ≤ 8 ∧ iv = .int .i64 i ∧ bv = .string bb ∧ Hid (allBlank (toL bb)) ∧ bb.size ≤ i) (fun _ iv => 9 - (intOf iv).toNat)
        case atStart => exact ⟨0, ByteArray.empty, by omega, rfl, rfl, by show allBlank _; rfl, Nat.le_refl _⟩
        case round =>
          obtain ⟨i, bb, hi, rfl, rfl, hab, hbs⟩ := hrel
          have hK := blanks_le ah
          by_cases hlt : (i : Int) < wrap64 ((IntKind.u64.wrap ah).tmod 9)
          · have hi7 : i ≤ 7 := by omega
            have hcase : ∃ c : UInt8, blankB c = true ∧ toL ((ByteArray.mk #[32, 9, 13]).extract (i % 3) (i % 3 + 1)) = [c] := by
              have h3 : i % 3 = 0 ∨ i % 3 = 1 ∨ i % 3 = 2 := by omega
              rcases h3 with h3 | h3 | h3
              · exact ⟨32, rfl, by rw [h3]; decide⟩
              · exact ⟨9, rfl, by rw [h3]; decide⟩
              · exact ⟨13, rfl, by rw [h3]; decide⟩
            obtain ⟨c, hcb, hce⟩ := hcase
            have HSZ := Lib.hid (size_one hce)
            have HCE := Lib.hid hce
            have HCB := Lib.hid hcb
            clear hcb hce hK
            have c1 : (0 : Int) ≤ (i : Int) % 3 := by omega
            have c2 : (i : Int) % 3 ≤ (i : Int) % 3 + 1 := by omega
            have c3 : (i : Int) % 3 + 1 ≤ 3 := by omega
            go_wp2_with fail
            go_round
            case rel => exact ⟨i + 1, bb ++ (ByteArray.mk #[32, 9, 13]).extract (i % 3) (i % 3 + 1), by omega, by go_num, rfl, by
              show allBlank _
              rw [toL_append, HCE.out]
              have := hab.out
              unfold allBlank at this ⊢
              rw [List.all_append, this]; simp [HCB.out], by rw [size_append, HSZ.out]; omega⟩
            case measure => simp [intOf]; omega
          · have hge : wrap64 ((IntKind.u64.wrap ah).tmod 9) ≤ (i : Int) := by omega
            have hbs8 : bb.size ≤ 8 := by omega
            clear hlt hK
            have htot := more_tot (bl := toL bb) (cl := toL cb) (by simpa using hbs8) (by simpa using hcs2) (L := toL s) (by simpa using hs1)
            have HTOT := Lib.hid htot
            clear htot
            go_wp2_with fail
            go_loop [11, 12, 13] (fun mv lv iv => ∃ (i frm : Nat) (mb lb : ByteArray), i ≤ s.size + 1 ∧ frm ≤ i ∧ iv = .int .i64 i ∧ mv = .string mb ∧ lv = .string lb ∧
              Hid (toL lb = expand (toL bb) (((toL s).take i).drop frm)) ∧ Hid (toL mb ++ moreOf (toL bb) (toL cb) (left (toL s) frm i) = moreOf (toL bb) (toL cb) (linesGo (toL s) [])) ∧ mb.size ≤ 10030020 ∧ lb.size ≤ 9000) (fun _ _ iv => s.size + 2 - (intOf iv).toNat)
            case atStart => exact ⟨0, 0, ByteArray.empty, ByteArray.empty, by omega, Nat.le_refl _, rfl, rfl, rfl, by show _ = _; rfl, by show _ = _; simp [left, toL], by simp, by simp⟩
            case round =>
              clear hbs
              obtain ⟨k, frm, mb, lb, hk, hf, rfl, rfl, rfl, hlb, hmb2, hms, hls⟩ := hrel
              by_cases hend : s.size < k
              · have hfin : Hid (toL mb = moreOf (toL bb) (toL cb) (linesGo (toL s) [])) := by
                  show _ = _
                  have := hmb2.out
                  unfold left at this
                  rw [if_neg (by simp; omega)] at this
                  simpa [moreOf] using this
                have HRA := Lib.hid (read_calls s m w1 (by omega) (HM.out _ hB1))
                have hbl := Lib.hid (fun (R : List (Nat × List Bs)) (n e : Nat) (h : readT (toL s) = (R, n, e)) => blanks_read (bl := toL bb) (clean := toL cb) (by simpa using hs1) hab.out (by simpa using hbs8) (by rw [hcl.out]; exact clean_nl _) (by simpa using hcs2) h)
                clear hmb2 hlb hls
                go_wp2_with fail
                refine HRA.out.mono ?_
                rintro e w3 ⟨v3, X, no, err, rfl, hB3, hr3, hX⟩
                obtain ⟨n', hr4⟩ := hbl.out _ _ _ hr3
                have hB4 : Below w.heap.size w w3 := below2 hB1 hB3
                obtain ⟨q3, cap3, rfl⟩ := own_form hX.1
                have HRB := Lib.hid (read_calls mb m w3 (by omega) (HM.out _ hB4))
                have HR3 := Lib.hid hr3
                have HR4 := Lib.hid hr4
                clear hr3 hr4 hbl HRA
                go_wp2_with fail
                refine HRB.out.mono ?_
                rintro e w4 ⟨v4, Y, no4, err4, rfl, hB5, hr5, hY⟩
                have hr6 := (by rw [hfin.out] at hr5; exact HR4.out.symm.trans hr5 : (List.map dbl (rX X), n', err) = (rX Y, no4, err4))
                simp only [Prod.mk.injEq] at hr6
                obtain ⟨hYY, rfl, rfl⟩ := hr6
                have hlen : Y.length = X.length := by rw [← rX_len Y, ← hYY, List.length_map, rX_len]
                have hB6 : Below w.heap.size w w4 := below2 hB4 hB5
                obtain ⟨q4, cap4, rfl⟩ := own_form hY.1
                have hX2 := hX.keep hB5
                have HLEN := Lib.hid hlen
                have HYY := Lib.hid hYY
                have HNUM := Lib.hid (read_nums HR3.out)
                have hs1' := Lib.hid hs1
                rw [hlen]
                clear hr5 HR3 HR4 HRB hlen hYY hX hB5
                go_wp2_with fail
                go_loopw [21] (fun iv wr => ∃ (i n : Nat), i ≤ X.length ∧ iv = .int .i64 i ∧ wr = w4.drewN n) (fun iv _ => X.length - (intOf iv).toNat)
                case atStart => exact ⟨0, 0, Nat.zero_le _, rfl, rfl⟩
                case round =>
                  obtain ⟨j, n2, hj, rfl, rfl⟩ := hrel
                  by_cases hjl : j < X.length
                  · have hX1l : X.length ≤ 9223372036854775807 := by have := own_le hX2.1; unfold maxLen at this; omega
                    have hjy : j < Y.length := by rw [HLEN.out]; exact hjl
                    obtain ⟨g1, c1, hg1, -, hg1b, a1, a2⟩ := line_cells hX2.1 hjl
                    simp only [Value.slice.injEq] at hg1
                    obtain ⟨rfl, -, rfl⟩ := hg1
                    obtain ⟨g2, c2, hg2, -, hg2b, b1, b2⟩ := line_cells hY.1 hjy
                    simp only [Value.slice.injEq] at hg2
                    obtain ⟨rfl, -, rfl⟩ := hg2
                    obtain ⟨e1, e2⟩ := dbl_at HYY.out hjl hjy
                    have hnum := HNUM.out (X[j].1, X[j].2.2.map toL) (List.mem_map.2 ⟨X[j], List.getElem_mem hjl, rfl⟩)
                    have hxw := (hX2.2.1 X[j] (List.getElem_mem hjl)).2
                    have hyw := (hY.2.1 Y[j] (List.getElem_mem hjy)).2
                    obtain ⟨p1, k1, hp1⟩ := own_form hxw
                    obtain ⟨p2, k2, hp2⟩ := own_form hyw
                    rw [hp1] at a2
                    rw [hp2] at b2
                    have hSa1 := (own_sl hxw).toSa
                    have hSa2 := (own_sl hyw).toSa
                    have hxle := own_le hxw
                    rw [hp1] at hSa1
                    rw [e2, hp2] at hSa2
                    have HTX := Lib.hid (fun (n : Nat) => texts_same X[j].2.2 _ _ (w4.drewN n) hSa1 hSa2 hxle)
                    obtain ⟨a, ha⟩ : ∃ a : Nat, a = X[j].1 := ⟨_, rfl⟩
                    rw [← ha] at a1 hnum e1
                    have b1' : w4.cell? ⟨g2, j * 2, none⟩ = some (.int .i64 (2 * (a : Int) - 1)) := by rw [b1, e1]; congr 2; omega
                    have hab2 : a ≤ 1001 := by have h2 : (toL s).length = s.size := by simp
                                               rw [h2] at hnum; omega
                    have hjl2 : j + 1 ≤ X.length := by omega
                    have hwr1 : IntKind.i64.wrap (2 * (a : Int)) = 2 * (a : Int) := IntWalk.i64_in _ (by omega)
                    have hwr2 : IntKind.i64.wrap (2 * (a : Int) - 1) = 2 * (a : Int) - 1 := IntWalk.i64_in _ (by omega)
                    have E2 := Lib.hid e2
                    clear b1 e1 e2 ha hp1 hp2 hxw hyw hSa1 hSa2 hxle hnum
                    go_wp2_with fail
                    go_quiet ((go_at_call 12; exact quiet_more (HTX.out _)))
                    clear hwr1 hwr2
                    go_wp2
                    go_roundw
                    case rel => exact ⟨j + 1, n2 + nq, hjl2, by go_num, rfl⟩
                    case measure => simp [intOf]; omega
                  · go_wp2
                    go_ret
                    exact ⟨rfl, below_drewN hB6 _⟩
              · by_cases hcont : ∃ h : k < s.size, s[k] ≠ 10
                · obtain ⟨hlt, hc⟩ := hcont
                  have hb1 : ((s[k].toNat : Int) == 10) = false := byte_ne (m := 10) (by decide) hc
                  have hb2 : ((s[k].toNat : Int) != 10) = true := by rw [bne, hb1]; rfl
                  have c1 : (0 : Int) ≤ (k : Int) := by omega
                  have c2 : (k : Int) ≤ (k : Int) + 1 := by omega
                  have c3 : (k : Int) + 1 ≤ (s.size : Int) := by omega
                  have hlf : Hid (toL mb ++ moreOf (toL bb) (toL cb) (left (toL s) frm (k + 1)) = moreOf (toL bb) (toL cb) (linesGo (toL s) [])) := by
                    show _ = _; rw [← hmb2.out, left_step hf (by simpa using hlt) (fun h => hc h)]
                  have hexl : Hid (expand (toL bb) (((toL s).take (k + 1)).drop frm) = toL lb ++ (if s[k] = 32 then 32 :: toL bb else [s[k]])) := by
                    show _ = _
                    rw [take_snoc s k hlt, List.drop_append_of_le_length (by simp; omega), hlb.out]
                    simp [expand]
                  have hll := expand_len (toL bb) (((toL s).take (k + 1)).drop frm)
                  have hll2 : (expand (toL bb) (((toL s).take (k + 1)).drop frm)).length ≤ 9000 := by
                    have h1 : (((toL s).take (k + 1)).drop frm).length ≤ 1000 := by simp; omega
                    have h2 : (((toL s).take (k + 1)).drop frm).length * ((toL bb).length + 1) ≤ 1000 * 9 := Nat.mul_le_mul h1 (by simp; omega)
                    omega
                  have HLL := Lib.hid hll2
                  clear hmb2 hlb hll hll2
                  by_cases h32 : s[k] = 32
                  · have hch : ((s.extract k (k + 1)).toList == [32]) = true := by rw [Lib.toList_data]; show (toL (s.extract k (k + 1)) == _) = true; rw [toL_char hlt, h32]; rfl
                    have hnl : Hid (toL (lb ++ s.extract k (k + 1) ++ bb) = expand (toL bb) (((toL s).take (k + 1)).drop frm)) := by
                      show _ = _
                      rw [hexl.out, if_pos h32, toL_append, toL_append, toL_char hlt, h32]; simp
                    clear hexl h32 hc
                    go_wp2_with fail
                    go_round
                    case rel =>
                      refine ⟨k + 1, frm, mb, lb ++ s.extract k (k + 1) ++ bb, by omega, by omega, by go_num, rfl, rfl, hnl.out, hlf.out, hms, ?_⟩
                      have := HLL.out
                      rw [← hnl.out, show (toL _).length = _ from len_data _] at this
                      exact this
                    case measure => simp [intOf]; omega
                  · have hch : ((s.extract k (k + 1)).toList == [32]) = false := by
                      rw [Lib.toList_data]; show (toL (s.extract k (k + 1)) == _) = false; rw [toL_char hlt]; simpa using h32
                    have hnl : Hid (toL (lb ++ s.extract k (k + 1)) = expand (toL bb) (((toL s).take (k + 1)).drop frm)) := by
                      show _ = _
                      rw [hexl.out, if_neg h32, toL_append, toL_char hlt]
                    clear hexl h32 hc
                    go_wp2_with fail
                    go_round
                    case rel =>
                      refine ⟨k + 1, frm, mb, lb ++ s.extract k (k + 1), by omega, by omega, by go_num, rfl, rfl, hnl.out, hlf.out, hms, ?_⟩
                      have := HLL.out
                      rw [← hnl.out, show (toL _).length = _ from len_data _] at this
                      exact this
                    case measure => simp [intOf]; omega
                · have hcase : (∃ h : k < s.size, ((s[k].toNat : Int) != 10) = false ∧ s[k] = 10) ∨ (s.size ≤ k ∧ k = s.size) := by
                    by_cases h : k < s.size
                    · left
                      have : s[k] = 10 := Classical.byContradiction fun hn => hcont ⟨h, hn⟩
                      have e : ((s[k].toNat : Int) == 10) = true := byte_eq (m := 10) (by decide) this
                      exact ⟨h, by rw [bne, e]; rfl, this⟩
                    · right; omega
                  have hlft : Hid (left (toL s) frm k = ((toL s).take k).drop frm :: left (toL s) (k + 1) (k + 1)) := by
                    show _ = _
                    rcases hcase with ⟨h, -, h2⟩ | ⟨-, h2⟩
                    · rw [left_nl hf (by simpa using h) h2]
                    · rw [left_end (by simpa using h2)]
                  have hcase2 : (∃ h : k < s.size, ((s[k].toNat : Int) != 10) = false) ∨ s.size ≤ k := by
                    rcases hcase with ⟨h, h1, -⟩ | ⟨h, -⟩
                    · exact Or.inl ⟨h, h1⟩
                    · exact Or.inr h
                  have hnm : Hid ((mb ++ bb ++ lb ++ ⟨#[32, 35]⟩ ++ cb ++ ⟨#[10]⟩ ++ bb ++ ⟨#[10]⟩).data.toList ++ moreOf (toL bb) (toL cb) (left (toL s) (k + 1) (k + 1)) = moreOf (toL bb) (toL cb) (linesGo (toL s) [])) := by
                    show _ = _
                    rw [← hmb2.out, hlft.out]
                    have e : ∀ (l : Bs) (ls : List Bs), moreOf (toL bb) (toL cb) (l :: ls) = (toL bb ++ expand (toL bb) l ++ [32, 35] ++ toL cb ++ [10] ++ toL bb ++ [10]) ++ moreOf (toL bb) (toL cb) ls := fun l ls => by simp [moreOf]
                    rw [e, ← hlb.out, more_app, List.append_assoc]
                  have hnms : (mb ++ bb ++ lb ++ ⟨#[32, 35]⟩ ++ cb ++ ⟨#[10]⟩ ++ bb ++ ⟨#[10]⟩).size ≤ 10030020 := by
                    have h1 := HTOT.out
                    rw [← hnm.out, List.length_append] at h1
                    have h2 := len_data (mb ++ bb ++ lb ++ ⟨#[32, 35]⟩ ++ cb ++ ⟨#[10]⟩ ++ bb ++ ⟨#[10]⟩)
                    omega
                  have HNS := Lib.hid hnms
                  have HK : Hid (k + 1 ≤ s.size + 1) := by show _ ≤ _; omega
                  have hnil : Hid (toL (⟨#[]⟩ : ByteArray) = expand (toL bb) (((toL s).take (k + 1)).drop (k + 1))) := by
                    show _ = _
                    have e : ((toL s).take (k + 1)).drop (k + 1) = [] := List.drop_eq_nil_iff.2 (by simp; omega)
                    rw [e]; rfl
                  clear hmb2 hlb hcont hcase hlft hnms
                  rcases hcase2 with ⟨hlt, hb⟩ | hge
                  all_goals
                    go_wp2_with fail
                    go_round
                    case rel =>
                      refine ⟨k + 1, k + 1, _, _, HK.out, Nat.le_refl _, by go_num, rfl, rfl, hnil.out, hnm.out, HNS.out, Nat.zero_le _⟩
                    case measure => simp [intOf]; omega
  · by_cases hs1 : s.size ≤ 1000
    all_goals
      have hr1 : 1000 < s.size ∨ 1000 < r.size := by omega
      clear hbig
      first | (have hr2 : 1000 < r.size := by omega) | skip
      clear hr1
      go_enter Try.func7, Try.ntmps7
      go_wp2_with fail
      refine (HW.out _ (HM.out _ (Below.refl _ _))).mono ?_
      rintro e w1 ⟨rfl, hB1⟩
      go_wp2_with fail
      refine (HW.out _ (HM.out _ hB1)).mono ?_
      rintro e w2 ⟨rfl, hB2⟩
      go_wp2_with fail
      go_ret
      exact ⟨rfl, below2 hB1 hB2⟩

end Go.Proofs.Ytooimjokbkbleaa
