/- The walk of the reference's words of a line. -/
import Derived.Test.YtooimjokbkbleaaLnB
namespace Go.Proofs.Ytooimjokbkbleaa
open Go.RowKit TV
set_option linter.unusedVariables false

/-- The bytes of a string. -/
abbrev toL (s : ByteArray) : List UInt8 := s.data.toList

theorem info_string : (Try.prog.info? 9).map (fun i => (i.zero, i.size, i.bytes)) = some (some (.string .empty), 1, 16) := by kernel_rfl

def WordsPost (s : ByteArray) (w : World) (e : Ending) (w' : World) : Prop :=
  Below w.heap.size w w' ∧ ((∃ (ws : List ByteArray) (v : Value), lineWords (toL s) = some (ws.map toL) ∧ e = .returned (.tuple #[v, .bool true]) ∧ w'.ownsRow w.heap.size 9 1 v ws.length (ws.map Value.string)) ∨
    (lineWords (toL s) = none ∧ e = .returned (.tuple #[.slice none 0 0, .bool false])))

theorem extract_list (s : ByteArray) (a b : Nat) : (s.extract a b).data.toList = (s.data.toList.take b).drop a := by
  rw [ByteArray.data_extract, Array.toList_extract]; simp [List.drop_take]

/-- A byte that is not one: the test's own form. -/
theorem byte_ne {c : UInt8} {m : Nat} (hm : m < 256) (h : c ≠ UInt8.ofNat m) : ((c.toNat : Int) == (m : Int)) = false := by
  rw [beq_eq_false_iff_ne]; intro e; apply h
  apply UInt8.toNat_inj.1
  rw [UInt8.toNat_ofNat_of_lt' hm]; omega
theorem byte_eq {c : UInt8} {m : Nat} (hm : m < 256) (h : c = UInt8.ofNat m) : ((c.toNat : Int) == (m : Int)) = true := by
  rw [beq_iff_eq, h, UInt8.toNat_ofNat_of_lt' hm]

theorem ref_stop {L cur : Bs} {k : Nat} {out : List Bs} (h : refGo (L.drop k) cur out = refGo L [] []) (hs : L.drop k = [] ∨ ∃ c r, L.drop k = c :: r ∧ c = 35) :
    lineWords L = if 400 < cur.length then none else some (out ++ one cur) := by
  rw [← ref_line, ← h]
  rcases hs with hs | ⟨c, r, hs, rfl⟩
  · rw [hs]; rfl
  · rw [hs]; rfl
theorem ref_blank {L cur : Bs} {k : Nat} {out : List Bs} {c : UInt8} {r : Bs} (h : refGo (L.drop k) cur out = refGo L [] []) (hs : L.drop k = c :: r) (hb : blankB c = true) :
    (400 < cur.length → lineWords L = none) ∧ (cur.length ≤ 400 → refGo r [] (out ++ one cur) = refGo L [] []) := by
  have hc : c ≠ 35 := by rintro rfl; cases hb
  rw [hs, refGo, if_neg hc, if_pos hb] at h
  constructor
  · intro hl; rw [if_pos hl] at h; rw [← ref_line, ← h]
  · intro hl; rw [if_neg (by omega)] at h; exact h
theorem ref_word {L cur : Bs} {k : Nat} {out : List Bs} {c : UInt8} {r : Bs} (h : refGo (L.drop k) cur out = refGo L [] []) (hs : L.drop k = c :: r) (hc : c ≠ 35) (hb : blankB c = false) :
    (c.toNat < 33 ∨ 126 < c.toNat → lineWords L = none) ∧ (33 ≤ c.toNat → c.toNat ≤ 126 → refGo r (cur ++ [c]) out = refGo L [] []) := by
  rw [hs, refGo, if_neg hc, if_neg (by simp [hb])] at h
  constructor
  · intro hl; rw [if_pos hl] at h; rw [← ref_line, ← h]
  · intro h1 h2; rw [if_neg (by omega)] at h; exact h

set_option maxHeartbeats 8000000 in
theorem refwords_calls (s : ByteArray) (w : World) (hs : s.size ≤ 1099511627776) :
    Calls Try.prog 15 #[.string s] w (WordsPost s w) := by
  have hsz : Hid (s.data.toList.length = s.size) := by show _ = _; simp
  go_enter Try.func15, Try.ntmps15
  go_wp2
  go_loopw [4, 5, 6] (fun ov wv iv wr => ∃ (k : Nat) (ws : List ByteArray) (wb : ByteArray), k ≤ s.size ∧ iv = .int .i64 k ∧ wv = .string wb ∧ wb.size ≤ k ∧ Hid (wb.data.toList = ((toL s).take k).drop (k - wb.size)) ∧
      Hid (refGo ((toL s).drop k) (toL wb) (ws.map toL) = refGo (toL s) [] []) ∧ ws.length ≤ k ∧
      wr.ownsRow w.heap.size 9 1 ov ws.length (ws.map Value.string) ∧ Below w.heap.size w wr) (fun _ _ iv _ => s.size + 1 - (intOf iv).toNat)
  case atStart => exact ⟨0, [], ByteArray.empty, Nat.zero_le _, rfl, rfl, Nat.le_refl _, by show _ = _; simp, by show _ = _; rfl, Nat.le_refl _, ⟨rfl, Or.inl ⟨rfl, rfl⟩⟩, Below.refl _ _⟩
  case round =>
    obtain ⟨k, ws, wb, hk, rfl, rfl, hwk, hwb, hgo, hlen, hown, hbl⟩ := hrel
    have hsplit : (k < s.size ∨ k = s.size) := by omega
    obtain ⟨i0, hi, hz0, hz1, hz2⟩ := info_parts info_string
    obtain ⟨q, cap, rfl⟩ := own_form hown
    have hwsz : Hid ((toL wb).length = wb.size) := by show _ = _; simp
    rcases hsplit with hlt | hkeq
    · have hdc := Lib.hid (drop_cons s k hlt)
      have hext : Hid ((s.extract (k - wb.size) (k + 1)).data.toList = toL wb ++ [s[k]]) := by
        show _ = _
        rw [extract_list]
        show List.drop (k - wb.size) (List.take (k + 1) s.data.toList) = wb.data.toList ++ [s[k]]
        rw [hwb.out, take_snoc s k hlt, List.drop_append_of_le_length (by rw [List.length_take, hsz.out]; omega)]
      have hn0 : s[k].toNat < 256 := s[k].toNat_lt
      have hkb : ((k : Int) == (s.size : Int)) = false := by rw [beq_eq_false_iff_ne]; omega
      have hcase : s[k] = 35 ∨ (s[k] = 32 ∨ s[k] = 9 ∨ s[k] = 13) ∨ (s[k] ≠ 35 ∧ blankB s[k] = false) := by
        by_cases e1 : s[k] = 35
        · exact Or.inl e1
        · by_cases e2 : blankB s[k] = true
          · right; left; unfold blankB at e2; simpa [or_assoc] using e2
          · right; right; exact ⟨e1, by simpa using e2⟩
      rcases hcase with hc | hc | hc
      · have a1 : 34 < s[k].toNat := by rw [hc]; decide
        have a2 : s[k].toNat < 36 := by rw [hc]; decide
        have hstep := Lib.hid (ref_stop (k := k) hgo.out (Or.inr ⟨_, _, hdc.out, hc⟩))
        clear hc
        by_cases hl : 400 < wb.size
        · have hno : Hid (lineWords (toL s) = none) := by show _ = _; rw [hstep.out, if_pos (by rw [hwsz.out]; exact hl)]
          clear hstep
          go_wp2
          go_ret2
          exact ⟨hbl, Or.inr ⟨hno.out, rfl⟩⟩
        · have hyes : Hid (lineWords (toL s) = some (ws.map toL ++ one (toL wb))) := by show _ = _; rw [hstep.out, if_neg (by rw [hwsz.out]; exact hl)]
          clear hstep
          by_cases he : toL wb = []
          · have e1 : wb.toList = [] := by rw [Lib.toList_data]; exact he
            have e2 : wb.toList.isEmpty = true := by rw [e1]; rfl
            go_wp2
            go_ret2
            exact ⟨hbl, Or.inl ⟨ws, _, by rw [hyes.out]; simp [one, he], rfl, hown⟩⟩
          · have e1 : ¬ wb.toList = [] := by rw [Lib.toList_data]; exact he
            have e2 : wb.toList.isEmpty = false := by simpa using e1
            go_wp2_with (at_builtin; refine wpList_append_own _ rfl _ _ 23 rfl w.heap.size 9 i0 (.string .empty) 1 16 Try.underlying23 hi hz0 hz1 hz2 rfl (by decide) _ _ _ rfl (hown.alloc _) ⟨wr.heap.size, 0, none⟩ 1 1 [.string wb] rfl rfl (news_one _ _ _) (by simp [Value.oneCell']) (by unfold maxLen; omega) (by omega) (by have := hbl.size; simp; omega) ?_; intro ov' w2 hown2 hgrow hnil; clear hnil; obtain ⟨q2, cap2, rfl⟩ := own_form hown2)
            go_wp2
            go_ret2
            exact ⟨((hbl.alloc hbl.size _).grown hgrow (by have := hbl.size; simp; omega) (fun j hj => by have := own_block hown _ hj; omega)), Or.inl ⟨ws ++ [wb], _, by rw [hyes.out]; simp [one, he], rfl, by rw [List.map_append, List.length_append]; exact hown2⟩⟩
      · have hb : Hid (blankB s[k] = true) := by show _ = _; rcases hc with h | h | h <;> rw [h] <;> rfl
        have hstep := Lib.hid (ref_blank (k := k) hgo.out hdc.out hb.out)
        have hcs : (31 < s[k].toNat ∧ s[k].toNat < 33 ∧ ((s[k].toNat : Int) == 35) = false ∧ ((s[k].toNat : Int) == 32) = true) ∨ (8 < s[k].toNat ∧ s[k].toNat < 10 ∧ ((s[k].toNat : Int) == 35) = false ∧ ((s[k].toNat : Int) == 32) = false ∧ ((s[k].toNat : Int) == 9) = true) ∨ (12 < s[k].toNat ∧ s[k].toNat < 14 ∧ ((s[k].toNat : Int) == 35) = false ∧ ((s[k].toNat : Int) == 32) = false ∧ ((s[k].toNat : Int) == 9) = false ∧ ((s[k].toNat : Int) == 13) = true) := by
          rcases hc with h | h | h <;> rw [h] <;> decide
        clear hc
        rcases hcs with ⟨a1, a2, a3, a4⟩ | ⟨a1, a2, a3, a4, a5⟩ | ⟨a1, a2, a3, a4, a5, a6⟩
        all_goals
          by_cases hl : 400 < wb.size
          · have hno := Lib.hid (hstep.out.1 (by rw [hwsz.out]; exact hl))
            clear hstep
            go_wp2
            go_ret2
            exact ⟨hbl, Or.inr ⟨hno.out, rfl⟩⟩
          · have hyes := Lib.hid (hstep.out.2 (by rw [hwsz.out]; omega))
            clear hstep
            by_cases he : toL wb = []
            · have e1 : wb.toList = [] := by rw [Lib.toList_data]; exact he
              have e2 : wb.toList.isEmpty = true := by rw [e1]; rfl
              go_wp2
              go_roundw
              case rel => exact ⟨k + 1, ws, ByteArray.empty, by omega, by go_num, rfl, Nat.zero_le _, by show _ = _; simp, by show _ = _; rw [← hyes.out]; simp [one, he]; rfl, by omega, hown, hbl⟩
              case measure => simp [intOf]; omega
            · have e1 : ¬ wb.toList = [] := by rw [Lib.toList_data]; exact he
              have e2 : wb.toList.isEmpty = false := by simpa using e1
              go_wp2_with (at_builtin; refine wpList_append_own _ rfl _ _ 23 rfl w.heap.size 9 i0 (.string .empty) 1 16 Try.underlying23 hi hz0 hz1 hz2 rfl (by decide) _ _ _ rfl (hown.alloc _) ⟨wr.heap.size, 0, none⟩ 1 1 [.string wb] rfl rfl (news_one _ _ _) (by simp [Value.oneCell']) (by unfold maxLen; omega) (by omega) (by have := hbl.size; simp; omega) ?_; intro ov' w2 hown2 hgrow hnil; clear hnil; obtain ⟨q2, cap2, rfl⟩ := own_form hown2)
              go_wp2
              go_roundw
              case rel => exact ⟨k + 1, ws ++ [wb], ByteArray.empty, by omega, by go_num, rfl, Nat.zero_le _, by show _ = _; simp, by show _ = _; rw [← hyes.out]; simp [one, he]; rfl, by simp; omega, by rw [List.map_append, List.length_append]; exact hown2, ((hbl.alloc hbl.size _).grown hgrow (by have := hbl.size; simp; omega) (fun j hj => by have := own_block hown _ hj; omega))⟩
              case measure => simp [intOf]; omega
      · obtain ⟨hc, hb⟩ := hc
        have n1 : ((s[k].toNat : Int) == 35) = false := byte_ne (m := 35) (by decide) hc
        have n2 : ((s[k].toNat : Int) == 32) = false := byte_ne (c := s[k]) (m := 32) (by decide) (fun h => by rw [h] at hb; cases hb)
        have n3 : ((s[k].toNat : Int) == 9) = false := byte_ne (c := s[k]) (m := 9) (by decide) (fun h => by rw [h] at hb; cases hb)
        have n4 : ((s[k].toNat : Int) == 13) = false := byte_ne (c := s[k]) (m := 13) (by decide) (fun h => by rw [h] at hb; cases hb)
        have hstep := Lib.hid (ref_word (k := k) hgo.out hdc.out hc hb)
        clear hc hb
        by_cases hbad : s[k].toNat < 33 ∨ 126 < s[k].toNat
        · have hno := Lib.hid (hstep.out.1 hbad)
          clear hstep
          rcases hbad with hbad | hbad
          all_goals
            go_wp2
            go_ret2
            exact ⟨hbl, Or.inr ⟨hno.out, rfl⟩⟩
        · have hyes := Lib.hid (hstep.out.2 (by omega) (by omega))
          clear hstep
          have b1 : 33 ≤ s[k].toNat := by omega
          have b2 : s[k].toNat ≤ 126 := by omega
          have c1 : (0 : Int) ≤ (k : Int) - (wb.size : Int) := by omega
          have c2 : (k : Int) - (wb.size : Int) ≤ (k : Int) + 1 := by omega
          have c3 : (k : Int) + 1 ≤ (s.size : Int) := by omega
          have c4 : (0 : Int) ≤ (k : Int) + 1 := by omega
          have he : Hid (((k : Int) - (wb.size : Int)).toNat = k - wb.size) := by show _ = _; omega
          go_wp2
          go_roundw
          case rel =>
            refine ⟨k + 1, ws, s.extract (k - wb.size) (k + 1), by omega, by go_num, ?_, ?_, ?_, ?_, by omega, hown, hbl⟩
            · first | rfl | (rw [he.out]; rfl)
            · have : (s.extract (k - wb.size) (k + 1)).size = wb.size + 1 := by
                have := congrArg List.length hext.out; simp at this ⊢; omega
              omega
            · show _ = _
              rw [extract_list]
              have : (s.extract (k - wb.size) (k + 1)).size = wb.size + 1 := by
                have := congrArg List.length hext.out; simp at this ⊢; omega
              rw [this]; congr 1; omega
            · show _ = _
              rw [← hyes.out, ← hext.out]
          case measure => simp [intOf]; omega
    · subst hkeq
      have hstep := Lib.hid (ref_stop (k := s.size) hgo.out (Or.inl (by rw [List.drop_eq_nil_iff]; simp)))
      by_cases hl : 400 < wb.size
      · have hno : Hid (lineWords (toL s) = none) := by show _ = _; rw [hstep.out, if_pos (by rw [hwsz.out]; exact hl)]
        clear hstep
        go_wp2
        go_ret2
        exact ⟨hbl, Or.inr ⟨hno.out, rfl⟩⟩
      · have hyes : Hid (lineWords (toL s) = some (ws.map toL ++ one (toL wb))) := by show _ = _; rw [hstep.out, if_neg (by rw [hwsz.out]; exact hl)]
        clear hstep
        by_cases he : toL wb = []
        · have e1 : wb.toList = [] := by rw [Lib.toList_data]; exact he
          have e2 : wb.toList.isEmpty = true := by rw [e1]; rfl
          go_wp2
          go_ret2
          exact ⟨hbl, Or.inl ⟨ws, _, by rw [hyes.out]; simp [one, he], rfl, hown⟩⟩
        · have e1 : ¬ wb.toList = [] := by rw [Lib.toList_data]; exact he
          have e2 : wb.toList.isEmpty = false := by simpa using e1
          go_wp2_with (at_builtin; refine wpList_append_own _ rfl _ _ 23 rfl w.heap.size 9 i0 (.string .empty) 1 16 Try.underlying23 hi hz0 hz1 hz2 rfl (by decide) _ _ _ rfl (hown.alloc _) ⟨wr.heap.size, 0, none⟩ 1 1 [.string wb] rfl rfl (news_one _ _ _) (by simp [Value.oneCell']) (by unfold maxLen; omega) (by omega) (by have := hbl.size; simp; omega) ?_; intro ov' w2 hown2 hgrow hnil; clear hnil; obtain ⟨q2, cap2, rfl⟩ := own_form hown2)
          go_wp2
          go_ret2
          exact ⟨((hbl.alloc hbl.size _).grown hgrow (by have := hbl.size; simp; omega) (fun j hj => by have := own_block hown _ hj; omega)), Or.inl ⟨ws ++ [wb], _, by rw [hyes.out]; simp [one, he], rfl, by rw [List.map_append, List.length_append]; exact hown2⟩⟩

end Go.Proofs.Ytooimjokbkbleaa
